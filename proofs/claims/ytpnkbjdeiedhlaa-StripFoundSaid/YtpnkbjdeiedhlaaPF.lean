/- Plain: who plays the strips that are returned finds the fault. -/
import Derived.Test.YtpnkbjdeiedhlaaNC
import Derived.Test.YtpnkbjdeiedhlaaPD
namespace Go.Proofs.Ytpnkbjdeiedhlaa
open Go.RowKit Go.Lib Go.Shelf
open St

theorem stK_nil {L : Nat} (hL : L ≤ 2) (N : Nat) : stK L [] N = oneS L N := by
  induction N with
  | zero =>
    unfold oneS
    split
    · rfl
    · split <;> rfl
  | succ N ih =>
    rw [stK_xF, ih]
    unfold xF
    rw [show mis [] (N : Int) = 0 from rfl, if_pos (Nat.zero_le _)]
    have : L = 0 ∨ L = 1 ∨ L = 2 := by omega
    rcases this with rfl | rfl | rfl <;> rfl
theorem needed_one {L N : Nat} (hL : L ≤ 2) (hN : N ≤ 10) : ndF (oneS L N) ≤ 20 := ndF_le (hv_win (needed_25 L (by omega) N (by omega)))
theorem one_ask {L N : Nat} (hL : L ≤ 2) (hN : N ≤ 16) : (∀ v : St → Nat, askF v (ln (L + 1) (fun i => if i = 0 then N else 0)) = (v (oneS L N) : Int)) ∧ gchk (ln (L + 1) (fun i => if i = 0 then N else 0)) = 0 := by
  have e : stF (L + 1) (fun i => if i = 0 then N else 0) = oneS L N := by
    have : L = 0 ∨ L = 1 ∨ L = 2 := by omega
    rcases this with rfl | rfl | rfl <;> rfl
  have h := ln_ask (k := L + 1) (by omega) (f := fun i => if i = 0 then N else 0) (by rw [e, oneS_tubes]; exact hN)
  rwa [e] at h
theorem stK_low {L : Nat} (hL : L ≤ 2) (ts : List Tst) (N : Nat) : (L ≤ 1 → (stK L ts N).a = 0) ∧ (L = 0 → (stK L ts N).b = 0) := by
  induction N with
  | zero => exact ⟨fun _ => rfl, fun _ => rfl⟩
  | succ N ih =>
    rw [stK_xF]
    unfold xF
    split
    · have : L = 0 ∨ L = 1 ∨ L = 2 := by omega
      rcases this with rfl | rfl | rfl
      · rename_i h
        rw [show 2 - (0 - mis ts (N : Int)) = 2 by omega]
        exact ⟨fun _ => ih.1 (by omega), fun _ => ih.2 rfl⟩
      · rename_i h
        have : 2 - (1 - mis ts (N : Int)) = 1 ∨ 2 - (1 - mis ts (N : Int)) = 2 := by omega
        rcases this with e | e <;> rw [e] <;> exact ⟨fun _ => ih.1 (by omega), fun h => absurd h (by omega)⟩
      · exact ⟨fun h => absurd h (by omega), fun h => absurd h (by omega)⟩
    · exact ih
theorem state_ask {L N : Nat} (hL : L ≤ 2) (hN : N ≤ 16) (ts : List Tst) : (∀ v : St → Nat, askF v (stL L (stK L ts N)) = (v (stK L ts N) : Int)) ∧ gchk (stL L (stK L ts N)) = 0 := by
  obtain ⟨h1, h2⟩ := stK_low hL ts N
  have ht := stK_tubes L ts N
  have e : stF (L + 1) (ctM L ts N) = stK L ts N := by
    have : L = 0 ∨ L = 1 ∨ L = 2 := by omega
    rcases this with rfl | rfl | rfl
    · exact St.ext' (h1 (by omega)).symm (h2 rfl).symm rfl
    · exact St.ext' (h1 (by omega)).symm rfl rfl
    · rfl
  have h := ln_ask (k := L + 1) (by omega) (f := ctM L ts N) (by rw [e]; omega)
  rw [e] at h
  unfold ln at h
  rwa [ctM_lst hL] at h
/-- What the blocked tube is among. -/
theorem blocked_in {L N bl : Nat} {ts : List Tst} (hb : bl < N) (hm : mis ts bl ≤ L) : (bl : Int) ∈ posK L ts N ∧ 1 ≤ (stK L ts N).tubes := by
  have h1 : (bl : Int) ∈ posK L ts N := by
    rw [posK_seg, mem_segK]
    exact ⟨by omega, by simpa using hm⟩
  refine ⟨h1, ?_⟩
  rw [← tubes_pos]
  exact List.length_pos_of_mem h1
theorem blocked_one {L N bl : Nat} {ts : List Tst} (hb : bl < N) (hm : mis ts bl ≤ L) (ht : (stK L ts N).tubes ≤ 1) : posK L ts N = [(bl : Int)] := by
  obtain ⟨h1, h2⟩ := blocked_in hb hm
  rw [← tubes_pos] at ht h2
  match hp : posK L ts N, ht, h2, h1 with
  | [x], _, _, h1 =>
    rw [List.mem_singleton] at h1
    rw [h1]
/-- One strip more. -/
theorem found_next {L N n k : Nat} {ts : List Tst} (hL : L ≤ 2) (hv : ∀ y ∈ ts, Valid N y.strip) {x : St} (hx : x.Le (stK L ts N)) (ht : 2 ≤ (stK L ts N).tubes) (hb : both (ndF (stK L ts N) - 1) (stK L ts N) x = true)
    (hn : ndF (stK L ts N) + k ≤ n) (ans : Bool) : (∀ y ∈ ts ++ [⟨(chK L ts x N).2, ans⟩], Valid N y.strip) ∧ ndF (stK L (ts ++ [⟨(chK L ts x N).2, ans⟩]) N) + (k + 1) ≤ n := by
  obtain ⟨c1, c2⟩ := chosen_spec ts hx
  have h0 : 1 ≤ ndF (stK L ts N) := by
    rcases Nat.eq_zero_or_pos (ndF (stK L ts N)) with e | e
    · have := (ndF_spec (stK L ts N)).1
      rw [e] at this
      have : (stK L ts N).tubes ≤ 1 := this
      omega
    · exact e
  unfold both at hb
  rw [Bool.and_eq_true, winB_iff, winB_iff] at hb
  refine ⟨fun y hy => ?_, ?_⟩
  · rw [List.mem_append, List.mem_singleton] at hy
    rcases hy with hy | rfl
    · exact hv y hy
    · exact c2
  · cases ans with
    | true =>
      rw [stK_yes hL ts c2, c1]
      have := ndF_le hb.1
      omega
    | false =>
      rw [stK_no hL ts c2, c1]
      have := ndF_le hb.2
      omega
end Go.Proofs.Ytpnkbjdeiedhlaa
