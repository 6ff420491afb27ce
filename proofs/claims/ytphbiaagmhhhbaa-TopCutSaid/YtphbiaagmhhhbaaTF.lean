/- The contract of the step's Steps. -/
import Derived.Test.YtphbiaagmhhhbaaTE
namespace Go.Proofs.Ytphbiaagmhhhbaa
open Go.RowKit Go.Lib Go.Shelf

/-- Do the first k copies allow a step? -/
def stepOk (off : Int) (ls : List (List Int)) (s : Int) : Nat → Bool
  | 0 => true
  | k + 1 => stepOk off ls s k && allowsF off s (rowAt ls k)
/-- The possible ones of k steps from lo on. -/
def stepsF (off : Int) (ls : List (List Int)) (lo : Int) : Nat → List Int
  | 0 => []
  | k + 1 => if stepOk off ls (lo + (k : Int)) ls.length then stepsF off ls lo k ++ [lo + (k : Int)] else stepsF off ls lo k
theorem stepOk_down {off s : Int} {ls : List (List Int)} {k : Nat} (h : stepOk off ls s k = false) : ∀ m : Nat, stepOk off ls s (k + m) = false
  | 0 => h
  | m + 1 => by rw [show k + (m + 1) = (k + m) + 1 by omega, stepOk, stepOk_down h m, Bool.false_and]
theorem stepsF_length (off : Int) (ls : List (List Int)) (lo : Int) : ∀ k : Nat, (stepsF off ls lo k).length ≤ k
  | 0 => Nat.le_refl _
  | k + 1 => by
    have := stepsF_length off ls lo k
    unfold stepsF
    split
    · simp; omega
    · omega

set_option maxRecDepth 100000 in
set_option maxHeartbeats 4000000 in
theorem steps_calls {off lo hi : Int} {C : Option Addr} {n cc : Nat} {ls : List (List Int)} (ho : 0 ≤ off ∧ off ≤ 50) (hn : 1 ≤ n ∧ n ≤ 6) (hc : Copies ls) (h1 : 1 ≤ lo) (h2 : lo ≤ hi) (h3 : hi ≤ 1000) (w : World) (hl : ReadsR w C n ls) :
    Calls Try.prog 20 #[.agg #[.int .i64 off, .slice C n cc], .agg #[.int .i64 lo, .int .i64 hi]] w (ListOut (stepsF off ls lo (hi + 1 - lo).toNat, 0) w) := by
  obtain ⟨i0, hi0, hz0, hz1, hz2⟩ := info_parts info3
  have hln := hl.1
  have HL := Lib.hid hl
  have HC := Lib.hid hc
  have d1 : decide (lo < 1) = false := decide_eq_false (by omega)
  have d2 : decide (hi < lo) = false := decide_eq_false (by omega)
  have d3 : decide (1000 < hi) = false := decide_eq_false (by omega)
  have I : Held ((w.alloc (.cells [Value.int .i64 off, .slice C n cc].toArray 31)).alloc (.cells [Value.int .i64 lo, .int .i64 hi].toArray 26)) (fun W => (Below w.heap.size w W ∧ Blk W w.heap.size [.int .i64 off, .slice C n cc]) ∧ Blk W (w.heap.size + 1) [.int .i64 lo, .int .i64 hi]) :=
    fun W hW => ⟨⟨(((Below.refl _ _).alloc (Nat.le_refl _) _).alloc (by simp) _).trans (hW.mono (by simp; omega)), ((Blk.new w [.int .i64 off, .slice C n cc] 31).alloc _).later hW⟩, Blk.later (by simpa using Blk.new (w.alloc (.cells [Value.int .i64 off, .slice C n cc].toArray 31)) [.int .i64 lo, .int .i64 hi] 26) hW⟩
  clear hl hc
  go_enter Try.func20, Try.ntmps20
  go_wp2_with fail
  go_step3
  go_upto_region 1 with fail
  generalize World.alloc _ _ = w1 at I ⊢
  have q0 := I.now.2.two
  have q1 := I.now.1.2.two
  go_wp2_with (go_at_call 56; (with_reducible refine (Gives.c (scheck_calls ho hn HC.out _ (HL.out.later I.now.1.1))).mono ?_); rintro e w2 ⟨rfl, hb⟩; replace I := I.next hb; clear hb q0 q1; have q0 := I.now.2.two; have q1 := I.now.1.2.two)
  go_step3
  go_wp2
  replace I := (Held.from (Below.refl w2.heap.size w2) (Nat.le_refl _)).with I
  obtain ⟨cnt, hcnt⟩ : ∃ m : Nat, (hi + 1 - lo).toNat = m := ⟨_, rfl⟩
  have hcn : lo + (cnt : Int) = hi + 1 := by omega
  have HCN := Lib.hid hcnt
  clear hcnt
  go_loopg [8, 9] cnt (fun g v i wr => ∃ k : Nat, k + g = cnt ∧ i = .int .i64 (lo + k) ∧ Aside (wr.ownsRow w2.heap.size 3 1 v (stepsF off ls lo k).length (nums (stepsF off ls lo k))) ∧ Aside (Below w2.heap.size w2 wr))
  case atStart => exact ⟨0, by omega, by simp, World.ownsRow_nil _ _ _ _, Below.refl _ _⟩
  case round =>
    clear q0 q1
    obtain ⟨k, hk, rfl, HO, HB⟩ := hrel
    have J := I.next HB.out
    have q0 := J.now.2.2.two
    have q1 := J.now.2.1.2.two
    by_cases hlt : lo + (k : Int) ≤ hi
    · have hw1 : IntKind.i64.wrap (lo + (k : Int) + 1) = lo + (k : Int) + 1 := i64_in (by omega) (by omega)
      obtain ⟨wo, hwo⟩ : ∃ x, x = wr := ⟨_, rfl⟩
      subst hwo
      obtain ⟨g, hgg⟩ : ∃ x, x = gk := ⟨_, rfl⟩
      subst hgg
      go_wp2
      go_loopg [47] n (fun g2 i wr => ∃ j : Nat, j + g2 = n ∧ i = .int .i64 j ∧ Aside (stepOk off ls (lo + k) j = true) ∧ Aside (Below wo.heap.size wo wr))
      case atStart => exact ⟨0, by omega, rfl, rfl, Below.refl _ _⟩
      case round =>
        clear q0 q1
        obtain ⟨j, hj, rfl, HS, HB2⟩ := hrel
        have K := J.next HB2.out
        have q0 := K.now.2.2.two
        have q1 := K.now.2.1.2.two
        by_cases hlj : j < n
        · have hlj' : (j : Int) < (n : Int) := by omega
          have hw2 : IntKind.i64.wrap ((j : Int) + 1) = (j : Int) + 1 := i64_in (by omega) (by omega)
          obtain ⟨b, o, rfl, hcs⟩ := (HL.out.later K.now.2.1.1).2 (by omega)
          obtain ⟨Aj, cj, hx, hr⟩ := hcs j hlj
          obtain ⟨k1, k2, k3⟩ := HC.out j (by omega)
          clear hcs
          have hso : stepOk off ls (lo + k) (j + 1) = (stepOk off ls (lo + k) j && allowsF off (lo + k) (rowAt ls j)) := rfl
          rw [HS.out, Bool.true_and] at hso
          generalize rowAt ls j = l at hx hr k1 k2 k3 hso
          have hcall := fun W hW => allows_calls (C := some ⟨b, o, none⟩) (nc := n) (cc := cc) (cap := cj) (s := lo + k) (by omega) (by omega) ho k2 W (Reads.later hr hW) k3
          cases hq : allowsF off (lo + k) l with
          | true =>
            rw [hq] at hcall hso
            have HSO := Lib.hid hso
            have HCALL := Lib.hid hcall
            clear hso hcall hr k1 k2 k3
            go_wp2_with (go_at_call 57; (with_reducible refine (Gives.c (HCALL.out _ (Below.refl _ _))).mono ?_); rintro e w4 ⟨rfl, hb4⟩)
            go_roundg (gk - 1)
            case measure => omega
            case rel => exact ⟨j + 1, by omega, by go_num, HSO.out, HB2.out.trans (hb4.mono HB2.out.size)⟩
          | false =>
            rw [hq] at hcall hso
            have hns := stepOk_down hso (n - (j + 1))
            rw [show j + 1 + (n - (j + 1)) = n by omega] at hns
            have hsf : stepsF off ls lo (k + 1) = stepsF off ls lo k := by
              rw [stepsF, hln, hns]
              rfl
            have HSF := Lib.hid hsf
            have HCALL := Lib.hid hcall
            clear hso hcall hr k1 k2 k3 hns hsf
            go_wp2_with (go_at_call 57; (with_reducible refine (Gives.c (HCALL.out _ (Below.refl _ _))).mono ?_); rintro e w4 ⟨rfl, hb4⟩)
            have hB4 := HB2.out.trans (hb4.mono HB2.out.size)
            go_roundg (g - 1)
            case measure => omega
            case rel => exact ⟨k + 1, by omega, by go_num, (show Aside _ from by rw [HSF.out]; exact own_later HO.out hB4), HB.out.trans (hB4.mono HB.out.size)⟩
        · obtain rfl : j = n := by omega
          have hsf : stepsF off ls lo (k + 1) = stepsF off ls lo k ++ [lo + (k : Int)] := by
            rw [stepsF, hln, HS.out]
            rfl
          have hkl := stepsF_length off ls lo k
          have HSF := Lib.hid hsf
          have hO := own_later HO.out HB2.out
          have hBB := HB.out.trans (HB2.out.mono HB.out.size)
          have hsz := hBB.size
          generalize stepsF off ls lo k = L at hO hkl HSF
          clear hsf HS
          go_wp2_with (first
            | (at_builtin; refine wpList_append_own _ rfl _ _ 32 rfl w2.heap.size 3 i0 (.int .i64 0) 1 8 Try.underlying32 hi0 hz0 hz1 hz2 rfl (by decide) _ _ _ rfl (hO.alloc _) ⟨wr.heap.size, 0, none⟩ 1 1 [.int .i64 (lo + (k : Int))] rfl rfl (cell_one_new _ _ _) (by intro u hu; simp at hu; subst hu; rfl) ?c3 ?c4 ?c5 ?_))
          case c3 => unfold maxLen; omega
          case c4 => omega
          case c5 => simp; omega
          intro v' w7 hown' hgrow _
          have HO' := Lib.hid hown'
          have HB4 := Lib.hid ((hBB.alloc hBB.size _).grown hgrow (by simp; omega) (by intro j hj; exact own_base' hO j hj))
          clear hown' hgrow hO
          go_wp2
          go_roundg (g - 1)
          case measure => omega
          case rel => exact ⟨k + 1, by omega, by go_num, (show Aside _ from by rw [HSF.out, List.length_append]; unfold nums; rw [List.map_append]; exact HO'.out), HB4.out⟩
    · obtain rfl : k = cnt := by omega
      have hkl := stepsF_length off ls lo k
      obtain ⟨A, c, rfl, hR⟩ := own_reads HO.out (by omega)
      have HR := Lib.hid hR
      clear hR
      go_wp2
      go_ret2
      exact ⟨⟨_, _, _, rfl, (by rw [HCN.out]; exact HR.out)⟩, J.now.2.1.1⟩
end Go.Proofs.Ytphbiaagmhhhbaa
