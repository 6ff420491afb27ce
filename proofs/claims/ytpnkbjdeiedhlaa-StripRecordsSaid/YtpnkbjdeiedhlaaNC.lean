/- Records of numbers are valid; the possible tubes one by one; how many tubes have how many mistakes. -/
import Derived.Test.YtpnkbjdeiedhlaaNB
namespace Go.Proofs.Ytpnkbjdeiedhlaa
open Go.RowKit Go.Lib Go.Shelf
open St

theorem tchk_valid {N : Int} : ∀ {l : List Tst}, (∀ x ∈ l, Valid N x.strip) → tchk N l = 0
  | [], _ => rfl
  | x :: l, h => by
    unfold tchk
    rw [if_pos (schk_iff.2 (h x (by simp)))]
    exact tchk_valid fun y hy => h y (by simp [hy])
theorem rchk_valid {N L : Nat} {l : List Tst} (hN : 1 ≤ N ∧ N ≤ 16) (hL : L ≤ 2) (hl : l.length ≤ 30) (h : ∀ x ∈ l, Valid N x.strip) : rchk N L l = 0 := by
  unfold rchk
  rw [if_neg (by omega), if_neg (by omega)]
  exact tchk_valid h
theorem madeL_valid {N : Nat} {l : List Nat} : ∀ x ∈ madeL N l, Valid N x.strip := by
  intro x hx
  unfold madeL at hx
  rw [List.mem_map] at hx
  obtain ⟨b, _, rfl⟩ := hx
  exact segK_valid _ _
theorem madeL_len (N : Nat) (l : List Nat) : (madeL N l).length ≤ 6 := by
  unfold madeL
  rw [List.length_map, List.length_take]
  omega
theorem made_at {N L : Nat} (hN : N ≤ 255) (hL : L ≤ 255) {A : Option Addr} {n c : Nat} {l : List Nat} (q : Nat) (m : Int) (hm : m = ((q + 1 : Nat) : Int)) (hq : 2 ≤ q ∧ q ≤ 14) (w : World) (hl : ReadsB w A n l) :
    Calls Try.prog 36 #[trial N L A n c, .int .i64 m] w fun e w' => ∃ A' k c', e = .returned (rec ((2 + N % q : Nat) : Int) ((L % 3 : Nat) : Int) A' k c') ∧ (ReadsT w' A' k (madeL (2 + N % q) l) ∧ k ≤ c' ∧ k ≤ 6 ∧ (k = 0 → A' = none ∧ c' = 0)) ∧ Below w.heap.size w w' := by
  subst hm
  exact made_calls hN hL hq w hl
theorem posK_prefix (L : Nat) (l : List Tst) {j k : Nat} (h : j ≤ k) : ∃ r, posK L l k = posK L l j ++ r := by
  obtain ⟨d, rfl⟩ := Nat.exists_eq_add_of_le h
  induction d with
  | zero => exact ⟨[], by simp⟩
  | succ d ih =>
    obtain ⟨r, hr⟩ := ih (by omega)
    rw [show j + (d + 1) = (j + d) + 1 by omega, show posK L l (j + d + 1) = if mis l ((j + d : Nat) : Int) ≤ L then posK L l (j + d) ++ [((j + d : Nat) : Int)] else posK L l (j + d) from rfl]
    split
    · exact ⟨r ++ [((j + d : Nat) : Int)], by rw [hr, List.append_assoc]⟩
    · exact ⟨r, hr⟩
theorem posK_at {L : Nat} {l : List Tst} {t N : Nat} (ht : t < N) (h : mis l t ≤ L) : (posK L l t).length < (posK L l N).length ∧ (posK L l N)[(posK L l t).length]?.getD 0 = (t : Int) ∧ (posK L l (t + 1)).length = (posK L l t).length + 1 := by
  have e : posK L l (t + 1) = posK L l t ++ [(t : Int)] := by
    show (if mis l t ≤ L then _ else _) = _
    rw [if_pos h]
  obtain ⟨r, hr⟩ := posK_prefix L l (show t + 1 ≤ N by omega)
  rw [hr, e]
  refine ⟨by simp, ?_, by simp⟩
  rw [List.append_assoc, List.getElem?_append_right (Nat.le_refl _)]
  simp
theorem posK_skip {L : Nat} {l : List Tst} {t : Nat} (h : ¬ mis l t ≤ L) : posK L l (t + 1) = posK L l t := by
  show (if mis l t ≤ L then _ else _) = _
  rw [if_neg h]
/-- How many tubes below t have i mistakes. -/
def ctM (L : Nat) (l : List Tst) (t i : Nat) : Nat := (stK L l t).at (2 - (L - i))
theorem ctM_hit {L : Nat} (hL : L ≤ 2) {l : List Tst} {t : Nat} (h : mis l t ≤ L) {i : Nat} (hi : i ≤ L) : (ctM L l (t + 1) i : Int) = if i = mis l t then (ctM L l t (mis l t) : Int) + 1 else (ctM L l t i : Int) := by
  unfold ctM
  rw [stK_xF]
  unfold xF
  rw [if_pos h, at_put _ (by omega) (by omega)]
  by_cases e : i = mis l t
  · rw [e, if_pos rfl, if_pos rfl]; omega
  · rw [if_neg e, if_neg (by omega)]; rfl
theorem ctM_skip {L : Nat} {l : List Tst} {t : Nat} (h : ¬ mis l t ≤ L) (i : Nat) : ctM L l (t + 1) i = ctM L l t i := by
  unfold ctM
  rw [stK_xF]
  unfold xF
  rw [if_neg h]
theorem ctM_le (L : Nat) (l : List Tst) (t i : Nat) : ctM L l t i ≤ t := Nat.le_trans (at_tubes _ _) (stK_tubes L l t)
theorem ctM_lst {L : Nat} (hL : L ≤ 2) (l : List Tst) (N : Nat) : lst (L + 1) (fun i => (ctM L l N i : Int)) = stL L (stK L l N) := by
  have : L = 0 ∨ L = 1 ∨ L = 2 := by omega
  rcases this with rfl | rfl | rfl <;> rfl

end Go.Proofs.Ytpnkbjdeiedhlaa
