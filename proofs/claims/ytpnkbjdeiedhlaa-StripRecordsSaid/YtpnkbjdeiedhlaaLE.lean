/- The state of a record. -/
import Derived.Test.YtpnkbjdeiedhlaaLD
namespace Go.Proofs.Ytpnkbjdeiedhlaa
open Go.RowKit Go.Lib Go.Shelf
open St

theorem Blk.put3 {w : World} {B : Nat} {a b c : Value} (h : Blk w B [a, b, c]) (x y z : Value) : Blk (((w.setCell ⟨B, 0, none⟩ x).setCell ⟨B, 1, none⟩ y).setCell ⟨B, 2, none⟩ z) B [x, y, z] :=
  ((h.set 0 (by simp) x).set 1 (by simp) y).set 2 (by simp) z
theorem below3 {b0 B : Nat} {w w1 : World} (h : Below b0 w w1) (hB : b0 ≤ B) (a b c : Value) : Below b0 w (((w1.setCell ⟨B, 0, none⟩ a).setCell ⟨B, 1, none⟩ b).setCell ⟨B, 2, none⟩ c) :=
  ((h.setCell (p := ⟨B, 0, none⟩) hB _).setCell (p := ⟨B, 1, none⟩) hB _).setCell (p := ⟨B, 2, none⟩) hB _
/-- Three numbers, by their index. -/
def St.at (s : St) : Nat → Nat
  | 0 => s.a
  | 1 => s.b
  | _ => s.c
def St.put (s : St) : Nat → St
  | 0 => ⟨s.a + 1, s.b, s.c⟩
  | 1 => ⟨s.a, s.b + 1, s.c⟩
  | _ => ⟨s.a, s.b, s.c + 1⟩
abbrev St.cs (s : St) : List Value := [.int .i64 (s.a : Int), .int .i64 (s.b : Int), .int .i64 (s.c : Int)]
theorem cs_at (s : St) {i : Nat} (h : i < 3) : s.cs[i]? = some (.int .i64 (s.at i : Int)) := by
  have : i = 0 ∨ i = 1 ∨ i = 2 := by omega
  rcases this with rfl | rfl | rfl <;> rfl
theorem cs_put (s : St) {i : Nat} (h : i < 3) : s.cs.set i (.int .i64 ((s.at i : Int) + 1)) = (s.put i).cs := by
  have : i = 0 ∨ i = 1 ∨ i = 2 := by omega
  rcases this with rfl | rfl | rfl <;> rfl
theorem put_tubes (s : St) (i : Nat) : (s.put i).tubes = s.tubes + 1 := by
  unfold St.put tubes
  split <;> dsimp only <;> omega
theorem at_tubes (s : St) (i : Nat) : s.at i ≤ s.tubes := by
  unfold St.at tubes
  split <;> omega
/-- The state that the first tubes make. -/
def stK (L : Nat) (l : List Tst) : Nat → St
  | 0 => ⟨0, 0, 0⟩
  | k + 1 => if mis l k ≤ L then (stK L l k).put (2 - (L - mis l k)) else stK L l k
theorem stK_tubes (L : Nat) (l : List Tst) (k : Nat) : (stK L l k).tubes ≤ k := by
  induction k with
  | zero => exact Nat.le_refl _
  | succ k ih =>
    unfold stK
    split
    · rw [put_tubes]; omega
    · omega

set_option maxRecDepth 100000 in
set_option maxHeartbeats 4000000 in
theorem state_calls {N L : Nat} (hN : N ≤ 16) (hL : L ≤ 2) (A : Option Addr) (n c : Nat) (l : List Tst) (w : World) (hl : ReadsT w A n l) (hn : n ≤ 1000) :
    Gives 50 #[rec N L A n c] (stK L l N).v w := by
  unfold Gives
  have hlen := hl.1
  have I : Held (((w.alloc (.cells [Value.int .i64 (N : Int), .int .i64 (L : Int), .slice A n c].toArray 24)).alloc (.cells [Value.int .i64 0, .int .i64 0, .int .i64 0].toArray 80)).alloc (.cells [Value.int .i64 0, .int .i64 0, .int .i64 0].toArray 80)) (fun W => ((Below w.heap.size w W ∧ ReadsT W A n l) ∧ Blk W w.heap.size [Value.int .i64 (N : Int), .int .i64 (L : Int), .slice A n c]) ∧ (Blk W (w.heap.size + 1) [Value.int .i64 0, .int .i64 0, .int .i64 0] ∧ Blk W (w.heap.size + 1 + 1) [Value.int .i64 0, .int .i64 0, .int .i64 0])) := by
    have I1 := ((Held.from (w0 := w) (Below.refl w.heap.size w) (Nat.le_refl _)).with (.readsT hl)).allocB [Value.int .i64 (N : Int), .int .i64 (L : Int), .slice A n c] 24
    have I2 := I1.allocB [Value.int .i64 0, .int .i64 0, .int .i64 0] 80
    have I3 := I2.allocB [Value.int .i64 0, .int .i64 0, .int .i64 0] 80
    intro W hW
    have h := I3 W hW
    simp only [World.size_alloc] at h
    exact ⟨h.1.1, h.1.2, h.2⟩
  have HL := Lib.hid hl
  clear hl
  go_enter Try.func50, Try.ntmps50
  go_wp2_with fail
  change Held (((w.alloc (.cells #[.int .i64 (N : Int), .int .i64 (L : Int), .slice A n c] 24)).alloc (.cells #[.int .i64 0, .int .i64 0, .int .i64 0] 80)).alloc (.cells #[.int .i64 0, .int .i64 0, .int .i64 0] 80)) _ at I
  generalize World.alloc _ _ = w1 at I ⊢
  have q2 := I.now.1.2.three
  go_wp2_with fail
  go_loopw [8] (fun s8 wr => ∃ k : Nat, k ≤ N ∧ s8 = .int .i64 k ∧ Aside (Blk wr (w.heap.size + 1 + 1) (stK L l k).cs) ∧ Aside (Below w.heap.size w wr) ∧ Aside (Blk wr w.heap.size [Value.int .i64 (N : Int), .int .i64 (L : Int), .slice A n c]) ∧ Aside (Blk wr (w.heap.size + 1) [Value.int .i64 0, .int .i64 0, .int .i64 0])) (fun s8 _ => N - (intOf s8).toNat)
  case atStart => exact ⟨0, Nat.zero_le _, rfl, I.now.2.2, I.now.1.1.1, I.now.1.2, I.now.2.1⟩
  case round =>
    obtain ⟨k, hk, rfl, HS, HB, HR, HT⟩ := hrel
    clear I q2
    by_cases hlt : k < N
    · have hlt' : (k : Int) < (N : Int) := by omega
      have hw1 : IntKind.i64.wrap ((k : Int) + 1) = (k : Int) + 1 := i64_in (by omega) (by omega)
      have hst : stK L l (k + 1) = if mis l k ≤ L then (stK L l k).put (2 - (L - mis l k)) else stK L l k := rfl
      have htb := stK_tubes L l k
      generalize stK L l k = s at HS hst htb
      have hml := mis_le l k
      have h48 : ∀ W, ReadsT W A n l → Gives 48 #[rec N L A n c, .int .i64 (k : Int)] (.int .i64 (mis l k : Int)) W := fun W h => mistakes_calls N L A n c l k W h hn
      generalize mis l k = m at hst h48 hml
      have hw2 : IntKind.i64.wrap ((L : Int) - (m : Int)) = (L : Int) - (m : Int) := i64_in (by omega) (by omega)
      have H48 := Lib.hid h48
      have HST := Lib.hid hst
      obtain ⟨w6, hw6⟩ : ∃ x, x = wr := ⟨_, rfl⟩
      subst hw6
      have hS : ∀ X, Below w6.heap.size w6 X → Below w6.heap.size w6 X ∧ (X.cell? ⟨w.heap.size, 0, none⟩ = some (.int .i64 (N : Int)) ∧ X.cell? ⟨w.heap.size, 1, none⟩ = some (.int .i64 (L : Int)) ∧ X.cell? ⟨w.heap.size, 2, none⟩ = some (.slice A n c)) := fun X hX => ⟨hX, (HR.out.later hX).three⟩
      have HSS := Lib.hid hS
      clear hS h48 hst
      go_upto_region 5 with fail
      go_cut [5] (fun s5 wx => s5 = .int .i64 ((L : Int) - (m : Int)) ∧ Aside (Below w6.heap.size w6 wx))
      case first =>
        go_region_held3 (fun X => Below w6.heap.size w6 X ∧ (X.cell? ⟨w.heap.size, 0, none⟩ = some (.int .i64 (N : Int)) ∧ X.cell? ⟨w.heap.size, 1, none⟩ = some (.int .i64 (L : Int)) ∧ X.cell? ⟨w.heap.size, 2, none⟩ = some (.slice A n c)))
          (first
            | with_reducible exact HSS.out _ (Below.refl _ _).drew
            | with_reducible exact HSS.out _ HBY.out
            | fail)
          (first
            | (go_at_call 48; (with_reducible refine (Gives.c (H48.out _ (HL.out.later (HB.out.trans ((Below.refl w6.heap.size w6).drew.mono HB.out.size))))).mono ?_); rintro e' wy ⟨rfl, hb⟩; have HBY := Lib.hid ((Below.refl w6.heap.size w6).drew.trans hb))
            | fail)
        all_goals
          go_wp2_with fail
          go_meet
          exact ⟨rfl, HBY.out⟩
      case rest =>
        obtain ⟨rfl, HB2⟩ := hcut
        clear HSS H48
        have HS2 := Lib.hid (HS.out.later HB2.out)
        have HR2 := Lib.hid (HR.out.later HB2.out)
        have HT2 := Lib.hid (HT.out.later HB2.out)
        have HB3 := Lib.hid (HB.out.trans (HB2.out.mono HB.out.size))
        have hst := HST.out
        clear HS HR HT HB2 HB HST
        by_cases hm : m ≤ L
        · rw [if_pos hm] at hst
          obtain ⟨i, hi⟩ : ∃ i, i = 2 - (L - m) := ⟨_, rfl⟩
          rw [← hi] at hst
          have hi3 : i < 3 := by omega
          have g0 : (0 : Int) ≤ (L : Int) - (m : Int) := by omega
          have hw3 : IntKind.i64.wrap (2 - ((L : Int) - (m : Int))) = (i : Int) := by rw [i64_in (by omega) (by omega)]; omega
          have g3 : (i : Int) < 3 := by omega
          have hat := at_tubes s i
          have qi := HS2.out.cell i _ (cs_at s hi3)
          have fi := HS2.out.free i
          have zi := HS2.out.lt
          have hw4 : IntKind.i64.wrap ((s.at i : Int) + 1) = (s.at i : Int) + 1 := i64_in (by omega) (by omega)
          have HST := Lib.hid hst
          clear hst hi hm hat htb
          go_wp2_with fail
          go_roundw
          case measure => simp [intOf]; omega
          case rel => exact ⟨k + 1, by omega, by go_num, by rw [HST.out, ← cs_put s hi3]; exact HS2.out.set i (by simpa using hi3) _, HB3.out.setCell (p := ⟨w.heap.size + 1 + 1, i, none⟩) (by show w.heap.size ≤ w.heap.size + 1 + 1; omega) _, HR2.out.other (by omega) _ _, HT2.out.other (by omega) _ _⟩
        · rw [if_neg hm] at hst
          have g0 : ¬ (0 : Int) ≤ (L : Int) - (m : Int) := by omega
          have HST := Lib.hid hst
          clear hst
          go_wp2_with fail
          go_roundw
          case measure => simp [intOf]; omega
          case rel => exact ⟨k + 1, by omega, by go_num, by rw [HST.out]; exact HS2.out, HB3.out, HR2.out, HT2.out⟩
    · obtain rfl : k = N := by omega
      generalize hs : stK L l k = s at HS
      have HSE := Lib.hid hs
      clear hs
      have q3 := HS.out.three
      have q1 := HT.out.three
      have f1 := HT.out.free3
      have z1 := HT.out.lt
      go_wp2_with fail
      have k3 := (HT.out.put3 (.int .i64 (s.a : Int)) (.int .i64 (s.b : Int)) (.int .i64 (s.c : Int))).three
      have kb := below3 HB.out (Nat.le_succ w.heap.size) (.int .i64 (s.a : Int)) (.int .i64 (s.b : Int)) (.int .i64 (s.c : Int))
      generalize World.setCell _ _ _ = wf at k3 kb ⊢
      refine bodyPost_ret (v := s.v) (by simp [results, Try.results50, go_sem, k3]) rfl ⟨by rw [HSE.out], kb⟩
end Go.Proofs.Ytpnkbjdeiedhlaa
