/- The first tubes that a strip with some of each kind has. -/
import Derived.Test.YtpnkbjdeiedhlaaLQ
namespace Go.Proofs.Ytpnkbjdeiedhlaa
open Go.RowKit Go.Lib Go.Shelf
open St

def St.dec (s : St) : Nat → St
  | 0 => ⟨s.a - 1, s.b, s.c⟩
  | 1 => ⟨s.a, s.b - 1, s.c⟩
  | _ => ⟨s.a, s.b, s.c - 1⟩
theorem cs_dec (s : St) {i : Nat} (h : i < 3) (h0 : 0 < s.at i) : s.cs.set i (.int .i64 ((s.at i : Int) - 1)) = (s.dec i).cs := by
  have : i = 0 ∨ i = 1 ∨ i = 2 := by omega
  rcases this with rfl | rfl | rfl
  · have h1 : 0 < s.a := h0
    show [_, _, _] = [_, _, _]
    rw [show ((s.dec 0).a : Int) = (s.at 0 : Int) - 1 from by show ((s.a - 1 : Nat) : Int) = (s.a : Int) - 1; omega]
    rfl
  · have h1 : 0 < s.b := h0
    show [_, _, _] = [_, _, _]
    rw [show ((s.dec 1).b : Int) = (s.at 1 : Int) - 1 from by show ((s.b - 1 : Nat) : Int) = (s.b : Int) - 1; omega]
    rfl
  · have h1 : 0 < s.c := h0
    show [_, _, _] = [_, _, _]
    rw [show ((s.dec 2).c : Int) = (s.at 2 : Int) - 1 from by show ((s.c - 1 : Nat) : Int) = (s.c : Int) - 1; omega]
    rfl
theorem dec_tubes (s : St) (i : Nat) : (s.dec i).tubes ≤ s.tubes := by
  unfold St.dec tubes
  split <;> dsimp only <;> omega
/-- What is left of a strip, and the tubes that were chosen, behind the first ones. -/
def chK (L : Nat) (l : List Tst) (x : St) : Nat → St × List Int
  | 0 => (x, [])
  | k + 1 => if mis l k ≤ L ∧ 0 < (chK L l x k).1.at (2 - (L - mis l k)) then ((chK L l x k).1.dec (2 - (L - mis l k)), (chK L l x k).2 ++ [(k : Int)]) else chK L l x k
theorem chK_tubes (L : Nat) (l : List Tst) (x : St) (k : Nat) : (chK L l x k).1.tubes ≤ x.tubes := by
  induction k with
  | zero => exact Nat.le_refl _
  | succ k ih =>
    unfold chK
    split
    · exact Nat.le_trans (dec_tubes _ _) ih
    · exact ih
theorem chK_len (L : Nat) (l : List Tst) (x : St) (k : Nat) : (chK L l x k).2.length ≤ k := by
  induction k with
  | zero => exact Nat.le_refl _
  | succ k ih =>
    unfold chK
    split
    · simp; omega
    · omega
theorem grown_cell (W : World) (b i : Nat) (v : Value) : W.grownBy (W.setCell ⟨b, i, none⟩ v) (some b) :=
  ⟨rfl, rfl, rfl, (KeepsWalks.setCell W _ v).size, fun k _ hk => Below.heap_setCell _ _ _ k (fun e => hk (by rw [e]))⟩
theorem own_set {w : World} {base n : Nat} {e : TypeId} {size : Nat} {v : Value} {xs : List Value} (h : w.ownsRow base e size v n xs) {b : Nat} (hb : b < base) (i : Nat) (u : Value) : (w.setCell ⟨b, i, none⟩ u).ownsRow base e size v n xs :=
  h.kept (grown_cell w b i u) (.inr (fun e' => by have := own_base' h b e'; omega))

theorem own_cap {w : World} {base n size : Nat} {e : TypeId} {v : Value} {xs : List Value} (h : w.ownsRow base e size v n xs) : ∀ A c, v = .slice A n c → n ≤ c := by
  intro A c hv
  rcases h.2 with ⟨h1, h2⟩ | ⟨g, cap, cur, h1, _, _, h2, h3, _⟩
  · rw [hv] at h1
    cases h1
    omega
  · rw [hv] at h1
    cases h1
    omega
/-- A slice that was made behind block b. -/
def Fresh (b : Nat) (A : Option Addr) (m c : Nat) : Prop := (∀ p, A = some p → b ≤ p.block) ∧ m ≤ c
set_option maxRecDepth 100000 in
set_option maxHeartbeats 4000000 in
theorem chosen_calls {N L : Nat} (hN : N ≤ 16) (hL : L ≤ 2) (A : Option Addr) (n c : Nat) (l : List Tst) (x : St) (hx : x.tubes ≤ 100) (w : World) (hl : ReadsT w A n l) (hn : n ≤ 1000) :
    Calls Try.prog 71 #[rec N L A n c, x.v] w fun e w' => ∃ A' m c', e = .returned (.slice A' m c') ∧ (Reads w' A' m (chK L l x N).2 ∧ Fresh w.heap.size A' m c') ∧ Below w.heap.size w w' := by
  obtain ⟨i0, hi0, hz0, hz1, hz2⟩ := info_parts info3
  have hlen := hl.1
  have I : Held ((w.alloc (.cells [Value.int .i64 (N : Int), .int .i64 (L : Int), .slice A n c].toArray 24)).alloc (.cells x.cs.toArray 80)) (fun W => ((Below w.heap.size w W ∧ ReadsT W A n l) ∧ Blk W w.heap.size [Value.int .i64 (N : Int), .int .i64 (L : Int), .slice A n c]) ∧ Blk W (w.heap.size + 1) x.cs) := by
    have I1 := ((Held.from (w0 := w) (Below.refl w.heap.size w) (Nat.le_refl _)).with (.readsT hl)).allocB [Value.int .i64 (N : Int), .int .i64 (L : Int), .slice A n c] 24
    have I2 := I1.allocB x.cs 80
    intro W hW
    have h := I2 W hW
    simp only [World.size_alloc] at h
    exact h
  have hs1 : w.heap.size + 2 ≤ ((w.alloc (.cells [Value.int .i64 (N : Int), .int .i64 (L : Int), .slice A n c].toArray 24)).alloc (.cells x.cs.toArray 80)).heap.size := by simp
  have HL := Lib.hid hl
  clear hl
  go_enter Try.func71, Try.ntmps71
  go_wp2_with fail
  change Held ((w.alloc (.cells #[.int .i64 (N : Int), .int .i64 (L : Int), .slice A n c] 24)).alloc (.cells #[.int .i64 (x.a : Int), .int .i64 (x.b : Int), .int .i64 (x.c : Int)] 80)) _ at I
  change w.heap.size + 2 ≤ ((w.alloc (.cells #[.int .i64 (N : Int), .int .i64 (L : Int), .slice A n c] 24)).alloc (.cells #[.int .i64 (x.a : Int), .int .i64 (x.b : Int), .int .i64 (x.c : Int)] 80)).heap.size at hs1
  generalize World.alloc _ _ = w1 at I hs1 ⊢
  have q2 := I.now.1.2.three
  go_wp2_with fail
  go_loopw [5, 10] (fun s5 s10 wr => ∃ (k m : Nat), k ≤ N ∧ s10 = .int .i64 k ∧ m = (chK L l x k).2.length ∧ Aside (wr.ownsRow w1.heap.size 3 1 s5 m (nums (chK L l x k).2)) ∧ Aside (Blk wr (w.heap.size + 1) (chK L l x k).1.cs) ∧ Aside (Below w.heap.size w wr) ∧ Aside (Blk wr w.heap.size [Value.int .i64 (N : Int), .int .i64 (L : Int), .slice A n c]) ∧ Aside (w1.heap.size ≤ wr.heap.size)) (fun _ s10 _ => N - (intOf s10).toNat)
  case atStart => exact ⟨0, 0, Nat.zero_le _, rfl, rfl, World.ownsRow_nil w1 _ 3 1, I.now.2, I.now.1.1.1, I.now.1.2, Nat.le_refl _⟩
  case round =>
    obtain ⟨k, m, hk, rfl, hm, HO, HS, HB, HR, HZ⟩ := hrel
    clear I q2
    by_cases hlt : k < N
    · have hlt' : (k : Int) < (N : Int) := by omega
      have hw1 : IntKind.i64.wrap ((k : Int) + 1) = (k : Int) + 1 := i64_in (by omega) (by omega)
      have hst : chK L l x (k + 1) = if mis l k ≤ L ∧ 0 < (chK L l x k).1.at (2 - (L - mis l k)) then ((chK L l x k).1.dec (2 - (L - mis l k)), (chK L l x k).2 ++ [(k : Int)]) else chK L l x k := rfl
      have htb := chK_tubes L l x k
      have hpl := chK_len L l x k
      rw [← hm] at hpl
      generalize chK L l x k = p at HO HS hst htb hm
      obtain ⟨s, xs⟩ := p
      dsimp only at HO HS hst htb hm
      have hml := mis_le l k
      have h48 : ∀ W, ReadsT W A n l → Gives 48 #[rec N L A n c, .int .i64 (k : Int)] (.int .i64 (mis l k : Int)) W := fun W h => mistakes_calls N L A n c l k W h hn
      generalize mis l k = y at hst h48 hml
      obtain ⟨D, hD⟩ : ∃ D : Int, 2 - (L : Int) + (y : Int) = D := ⟨_, rfl⟩
      have hw2 : IntKind.i64.wrap (2 - (L : Int)) = 2 - (L : Int) := i64_in (by omega) (by omega)
      have hw3 : IntKind.i64.wrap (2 - (L : Int) + (y : Int)) = D := by rw [← hD]; exact i64_in (by omega) (by omega)
      have H48 := Lib.hid h48
      have HST := Lib.hid hst
      have HM := Lib.hid hm
      have HD := Lib.hid hD
      obtain ⟨w6, hw6⟩ : ∃ x, x = wr := ⟨_, rfl⟩
      subst hw6
      have hS : ∀ X, Below w6.heap.size w6 X → Below w6.heap.size w6 X ∧ (X.cell? ⟨w.heap.size, 0, none⟩ = some (.int .i64 (N : Int)) ∧ X.cell? ⟨w.heap.size, 1, none⟩ = some (.int .i64 (L : Int)) ∧ X.cell? ⟨w.heap.size, 2, none⟩ = some (.slice A n c)) := fun X hX => ⟨hX, (HR.out.later hX).three⟩
      have HSS := Lib.hid hS
      clear hS h48 hst hm hD
      go_upto_region 5 with fail
      go_cut [7] (fun s7 wx => s7 = .int .i64 D ∧ Aside (Below w6.heap.size w6 wx))
      case first =>
        go_region_held3 (fun X => Below w6.heap.size w6 X ∧ (X.cell? ⟨w.heap.size, 0, none⟩ = some (.int .i64 (N : Int)) ∧ X.cell? ⟨w.heap.size, 1, none⟩ = some (.int .i64 (L : Int)) ∧ X.cell? ⟨w.heap.size, 2, none⟩ = some (.slice A n c)))
          (first
            | with_reducible exact HSS.out _ (Below.refl _ _).drew
            | with_reducible exact HSS.out _ HBY.out
            | fail)
          (first
            | (go_at_call 48; (with_reducible refine (Gives.c (H48.out _ (HL.out.later (HB.out.trans ((Below.refl w6.heap.size w6).drew.mono HB.out.size))))).mono ?_); rintro e' wy ⟨rfl, hb⟩; have HBY := Lib.hid ((Below.refl w6.heap.size w6).drew.trans hb))
            | fail)
        all_goals
          go_wp2_with fail
          go_meet
          exact ⟨rfl, HBY.out⟩
      case rest =>
        obtain ⟨rfl, HB2⟩ := hcut
        clear HSS H48 hw2 hw3
        have HS2 := Lib.hid (HS.out.later HB2.out)
        have HR2 := Lib.hid (HR.out.later HB2.out)
        have HO2 := Lib.hid (own_later HO.out HB2.out)
        have HB3 := Lib.hid (HB.out.trans (HB2.out.mono HB.out.size))
        have HZ2 := Lib.hid (Nat.le_trans HZ.out HB2.out.size)
        have hst := HST.out
        have hD := HD.out
        clear HS HR HO HB2 HB HST HZ HD
        by_cases hy : y ≤ L
        · obtain ⟨i, hi⟩ : ∃ i, i = 2 - (L - y) := ⟨_, rfl⟩
          rw [← hi] at hst
          have hi3 : i < 3 := by omega
          obtain rfl : D = (i : Int) := by omega
          have g2 : (i : Int) ≤ 2 := by omega
          have g3 : (i : Int) < 3 := by omega
          have hat := at_tubes s i
          have qi := HS2.out.cell i _ (cs_at s hi3)
          have fi := HS2.out.free i
          have zi := HS2.out.lt
          by_cases hp : 0 < s.at i
          · rw [if_pos ⟨hy, hp⟩] at hst
            have gp : (0 : Int) < (s.at i : Int) := by omega
            have hw4 : IntKind.i64.wrap ((s.at i : Int) - 1) = (s.at i : Int) - 1 := i64_in (by omega) (by omega)
            have HS := Lib.hid (show nums (chK L l x (k + 1)).2 = nums xs ++ [.int .i64 (k : Int)] by rw [hst]; exact nums_snoc ..)
            have HL3 := Lib.hid (show m + 1 = (chK L l x (k + 1)).2.length by rw [hst, HM.out]; simp)
            have HC := Lib.hid (show (chK L l x (k + 1)).1.cs = s.cs.set i (.int .i64 ((s.at i : Int) - 1)) by rw [hst]; exact (cs_dec s hi3 hp).symm)
            have HB5 := Lib.hid (HB3.out.setCell (p := ⟨w.heap.size + 1, i, none⟩) (by show w.heap.size ≤ w.heap.size + 1; omega) (.int .i64 ((s.at i : Int) - 1)))
            have HS5 := Lib.hid (HS2.out.set i (by simpa using hi3) (.int .i64 ((s.at i : Int) - 1)))
            have HR5 := Lib.hid (HR2.out.other (B' := w.heap.size + 1) (by omega) i (.int .i64 ((s.at i : Int) - 1)))
            have HO5 := Lib.hid (own_set HO2.out (b := w.heap.size + 1) (by omega) i (.int .i64 ((s.at i : Int) - 1)))
            clear hst hi hy hp hat htb HS2 HR2 HO2 HB3
            go_upto_region 8 with fail
            have hz5 : wc.heap.size = (wc.setCell ⟨w.heap.size + 1, i, none⟩ (.int .i64 ((s.at i : Int) - 1))).heap.size := by simp
            generalize World.setCell _ _ _ = w5 at HB5 HS5 HR5 HO5 hz5 ⊢
            have HZ5 := Lib.hid (show w1.heap.size ≤ w5.heap.size by rw [← hz5]; exact HZ2.out)
            have hz6 : w.heap.size ≤ w5.heap.size := HB5.out.size
            clear qi fi zi HZ2 hz5
            go_wp2_with (at_builtin; refine wpList_append_own _ rfl _ _ 31 rfl w1.heap.size 3 i0 (.int .i64 0) 1 8 Try.underlying31 hi0 hz0 hz1 hz2 rfl (by decide) _ _ _ rfl (HO5.out.alloc _) ⟨w5.heap.size, 0, none⟩ 1 1 [.int .i64 (k : Int)] rfl rfl (cells_new _ [.int .i64 (k : Int)] _ _ rfl) (by intro u hu; simp at hu; subst hu; rfl) ?c3 ?c4 ?c5 ?_)
            case c3 => unfold maxLen; omega
            case c4 => omega
            case c5 => simp; have := HZ5.out; omega
            intro v' w4 hown' hgrow _
            have HO' := Lib.hid hown'
            have hbo := own_base' HO5.out
            have HB6 := Lib.hid ((HB5.out.alloc HB5.out.size (.cells #[.int .i64 (k : Int)] 3)).grown hgrow (by simp; omega) (by intro j hj; have := hbo j hj; omega))
            have HS6 := Lib.hid ((HS5.out.alloc (.cells #[.int .i64 (k : Int)] 3)).kept hgrow (fun e' => by have := hbo _ e'.symm; omega))
            have HR6 := Lib.hid ((HR5.out.alloc (.cells #[.int .i64 (k : Int)] 3)).kept hgrow (fun e' => by have := hbo _ e'.symm; omega))
            have HZ6 := Lib.hid (Nat.le_trans (Nat.le_trans HZ5.out (by simp)) hgrow.size)
            clear hown' hgrow hbo
            go_wp2
            go_roundw
            case measure => simp [intOf]; omega
            case rel => exact ⟨k + 1, m + 1, by omega, by go_num, HL3.out, (show Aside _ from by rw [HS.out]; exact HO'.out), (show Aside _ from by rw [HC.out]; exact HS6.out), HB6.out, HR6.out, HZ6.out⟩
          · rw [if_neg (fun h => hp h.2)] at hst
            have gp : ¬ (0 : Int) < (s.at i : Int) := by omega
            have HST := Lib.hid hst
            clear hst hi hy hp hat htb
            go_wp2_with fail
            go_roundw
            case measure => simp [intOf]; omega
            case rel => exact ⟨k + 1, m, by omega, by go_num, by rw [HST.out]; exact HM.out, (show Aside _ from by rw [HST.out]; exact HO2.out), (show Aside _ from by rw [HST.out]; exact HS2.out), HB3.out, HR2.out, HZ2.out⟩
        · rw [if_neg (fun h => hy h.1)] at hst
          have g2 : ¬ D ≤ 2 := by omega
          have HST := Lib.hid hst
          clear hst hy hD
          go_wp2_with fail
          go_roundw
          case measure => simp [intOf]; omega
          case rel => exact ⟨k + 1, m, by omega, by go_num, by rw [HST.out]; exact HM.out, (show Aside _ from by rw [HST.out]; exact HO2.out), (show Aside _ from by rw [HST.out]; exact HS2.out), HB3.out, HR2.out, HZ2.out⟩
    · obtain rfl : k = N := by omega
      have hpl := chK_len L l x k
      have hcp := own_cap HO.out
      obtain ⟨A', c', e, hr⟩ := own_reads HO.out (by omega)
      subst e
      have hfr : ∀ p, A' = some p → w.heap.size ≤ p.block := fun p hp => by
        have := own_base' HO.out p.block (by rw [hp]; rfl)
        omega
      have HR' := Lib.hid (And.intro hr (show Fresh w.heap.size A' m c' from ⟨hfr, hcp _ _ rfl⟩))
      clear hr hfr hcp
      go_wp2_with fail
      go_returns
      exact ⟨A', m, c', rfl, HR'.out, HB.out⟩
end Go.Proofs.Ytpnkbjdeiedhlaa
