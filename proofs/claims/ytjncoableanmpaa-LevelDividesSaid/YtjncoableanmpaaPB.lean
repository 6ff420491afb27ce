/- Plain: which codings are valid. -/
import Derived.Test.YtjncoableanmpaaPA
namespace Go.Proofs.Ytjncoableanmpaa
/-- Is a code within the limits? -/
def fineC (c : Cd) : Prop := ((-10000 ≤ c.1 ∧ c.1 ≤ 10000) ∧ 0 ≤ c.2.1 ∧ c.2.1 ≤ c.2.2) ∧ c.2.2 ≤ 10000
instance (c : Cd) : Decidable (fineC c) := by unfold fineC; infer_instance
def chkL : Int → List Cd → Int
  | _, [] => 0
  | last, c :: r => if ¬ fineC c then 3 else if c.1 ≤ last then 7 else chkL c.1 r
/-- The error of a coding. -/
def chk (l : List Cd) : Int := if l.length = 0 then 4 else if 24 < l.length then 5 else chkL (-10001) l
theorem drop_at {l : List Cd} {k : Nat} (h : k < l.length) : l.drop k = cAt l k :: l.drop (k + 1) := by
  rw [List.drop_eq_getElem_cons h]
  unfold cAt
  rw [List.getElem?_eq_getElem h]
  rfl
theorem chkL_at {l : List Cd} {k : Nat} (h : k < l.length) (last : Int) : chkL last (l.drop k) = if ¬ fineC (cAt l k) then 3 else if (cAt l k).1 ≤ last then 7 else chkL (cAt l k).1 (l.drop (k + 1)) := by
  rw [drop_at h]
  rfl
theorem chkL_ok {l : List Cd} {last : Int} (h : chkL last l = 0) : (∀ i, i < l.length → fineC (cAt l i) ∧ last < (cAt l i).1) ∧ ∀ i j, i < j → j < l.length → (cAt l i).1 < (cAt l j).1 := by
  induction l generalizing last with
  | nil => exact ⟨fun i hi => absurd hi (by simp), fun i j _ hj => absurd hj (by simp)⟩
  | cons c r ih =>
    unfold chkL at h
    split at h
    · cases h
    · rename_i hf
      split at h
      · cases h
      · rename_i ho
        obtain ⟨h1, h2⟩ := ih h
        have hf : fineC c := Decidable.not_not.1 hf
        refine ⟨fun i hi => ?_, fun i j hij hj => ?_⟩
        · cases i with
          | zero => exact ⟨hf, by show last < c.1; omega⟩
          | succ i =>
            have := h1 i (by simpa using hi)
            exact ⟨this.1, by have := this.2; show last < (cAt r i).1; omega⟩
        · cases j with
          | zero => omega
          | succ j =>
            cases i with
            | zero => exact (h1 j (by simpa using hj)).2
            | succ i => exact h2 i j (by omega) (by simpa using hj)
theorem chk_good {l : List Cd} (h : chk l = 0) : Good l := by
  unfold chk at h
  split at h
  · cases h
  · split at h
    · cases h
    · obtain ⟨h1, h2⟩ := chkL_ok h
      refine ⟨by omega, by omega, fun i hi => ?_, h2⟩
      have := (h1 i hi).1
      unfold fineC at this
      exact ⟨by omega, by omega, by omega, by omega, by omega⟩
end Go.Proofs.Ytjncoableanmpaa
