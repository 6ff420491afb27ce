/- Plain: what is tried growth by growth is what is known; whether measurements clash. -/
import Derived.Test.YtphbiaagmhhhbaaRK
namespace Go.Proofs.Ytphbiaagmhhhbaa
open Go.RowKit

/-- A growth fits all measurements of a list. -/
def FitsAll (c off g : Int) (l : List (Int × Int)) : Prop := ∀ i, i < l.length → Fits c off g (mAt l i)

theorem fitGo_spec {c lo off : Int} {l : List (Int × Int)} (k : Nat) :
    ((fitGo c lo off l k).1 = 1 ∧ (fitGo c lo off l k).2 = 0 ∧ ∀ g, lo ≤ g → g < lo + k → ¬ FitsAll c off g l) ∨
    ((fitGo c lo off l k).1 ≤ (fitGo c lo off l k).2 ∧ lo ≤ (fitGo c lo off l k).1 ∧ (fitGo c lo off l k).2 < lo + k ∧ FitsAll c off (fitGo c lo off l k).1 l ∧ FitsAll c off (fitGo c lo off l k).2 l ∧
      ∀ g, lo ≤ g → g < lo + k → FitsAll c off g l → (fitGo c lo off l k).1 ≤ g ∧ g ≤ (fitGo c lo off l k).2) := by
  induction k with
  | zero => exact .inl ⟨rfl, rfl, fun g h1 h2 => by omega⟩
  | succ k ih =>
    have hstep : fitGo c lo off l (k + 1) = if fitB c off (lo + k) l l.length then (if (fitGo c lo off l k).2 < (fitGo c lo off l k).1 then lo + k else (fitGo c lo off l k).1, lo + k) else fitGo c lo off l k := rfl
    have hB := fitB_iff (c := c) (off := off) (g := lo + k) (l := l) l.length
    rw [hstep]
    by_cases hf : fitB c off (lo + k) l l.length = true
    · rw [if_pos hf]
      have hF : FitsAll c off (lo + k) l := hB.1 hf
      right
      rcases ih with ⟨e1, e2, h⟩ | ⟨h1, h2, h3, h4, h5, h6⟩
      · rw [if_pos (by omega)]
        refine ⟨by simp, by simp; omega, by simp; omega, hF, hF, fun g hg0 hg1 hg => ?_⟩
        by_cases e : g = lo + k
        · simp only; omega
        · exact absurd hg (h g hg0 (by omega))
      · rw [if_neg (by omega)]
        refine ⟨by simp only; omega, h2, by simp only; omega, h4, hF, fun g hg0 hg1 hg => ?_⟩
        by_cases e : g = lo + k
        · simp only; omega
        · have := h6 g hg0 (by omega) hg
          simp only; omega
    · rw [if_neg hf]
      have hF : ¬ FitsAll c off (lo + k) l := fun h => hf (hB.2 h)
      rcases ih with ⟨e1, e2, h⟩ | ⟨h1, h2, h3, h4, h5, h6⟩
      · left
        refine ⟨e1, e2, fun g hg0 hg1 hg => ?_⟩
        by_cases e : g = lo + k
        · rw [e] at hg; exact hF hg
        · exact h g hg0 (by omega) hg
      · right
        refine ⟨h1, h2, by omega, h4, h5, fun g hg0 hg1 hg => ?_⟩
        by_cases e : g = lo + k
        · rw [e] at hg; exact absurd hg hF
        · exact h6 g hg0 (by omega) hg

theorem fitting_spec {c lo hi off : Int} {l : List (Int × Int)} (h : lo ≤ hi) :
    ((fittingF c lo hi off l).2 < (fittingF c lo hi off l).1 ∧ ∀ g, lo ≤ g → g ≤ hi → ¬ FitsAll c off g l) ∨
    ((fittingF c lo hi off l).1 ≤ (fittingF c lo hi off l).2 ∧ lo ≤ (fittingF c lo hi off l).1 ∧ (fittingF c lo hi off l).2 ≤ hi ∧ FitsAll c off (fittingF c lo hi off l).1 l ∧ FitsAll c off (fittingF c lo hi off l).2 l ∧
      ∀ g, lo ≤ g → g ≤ hi → FitsAll c off g l → (fittingF c lo hi off l).1 ≤ g ∧ g ≤ (fittingF c lo hi off l).2) := by
  have e : lo + ((hi + 1 - lo).toNat : Int) = hi + 1 := by omega
  rcases fitGo_spec (c := c) (lo := lo) (off := off) (l := l) (hi + 1 - lo).toNat with ⟨h1, h2, h3⟩ | ⟨h1, h2, h3, h4, h5, h6⟩
  · left
    refine ⟨?_, fun g a b => h3 g a (by omega)⟩
    unfold fittingF
    omega
  · right
    unfold fittingF
    exact ⟨h1, h2, by omega, h4, h5, fun g a b => h6 g a (by omega)⟩

/-- Trying all growths gives what is known. -/
theorem fitting_known {c lo hi off : Int} {l : List (Int × Int)} (hlh : lo ≤ hi) (hf : ∀ i, 0 ≤ (mAt l i).1) :
    ((fittingF c lo hi off l).2 < (fittingF c lo hi off l).1 ∧ (knownF c lo hi off l).hi < (knownF c lo hi off l).lo) ∨
    ((knownF c lo hi off l).lo ≤ (knownF c lo hi off l).hi ∧ (fittingF c lo hi off l).1 = (knownF c lo hi off l).lo ∧ (fittingF c lo hi off l).2 = (knownF c lo hi off l).hi) := by
  rcases known_spec (c := c) (lo := lo) (hi := hi) (off := off) (l := l) hlh hf with ⟨k1, k2, k3, k4⟩ | ⟨k1, i, j, hi', hj, e0, e1, k2⟩
  · right
    rcases fitting_spec (c := c) (lo := lo) (hi := hi) (off := off) (l := l) hlh with ⟨h1, h2⟩ | ⟨h1, h2, h3, h4, h5, h6⟩
    · exact absurd ((k4 _).2 ⟨Int.le_refl _, k1⟩).2.2 (h2 _ k2 (by omega))
    · have a := (k4 _).1 ⟨h2, by omega, h4⟩
      have b := (k4 _).1 ⟨by omega, h3, h5⟩
      have a' := (k4 (knownF c lo hi off l).lo).2 ⟨Int.le_refl _, k1⟩
      have b' := (k4 (knownF c lo hi off l).hi).2 ⟨k1, Int.le_refl _⟩
      have a2 := h6 _ a'.1 a'.2.1 a'.2.2
      have b2 := h6 _ b'.1 b'.2.1 b'.2.2
      exact ⟨k1, by omega, by omega⟩
  · left
    refine ⟨?_, k1⟩
    rcases fitting_spec (c := c) (lo := lo) (hi := hi) (off := off) (l := l) hlh with ⟨h1, h2⟩ | ⟨h1, h2, h3, h4, h5, h6⟩
    · exact h1
    · have a := (fit_iff (hi := hi) (off := off) (hf i) h2 (by omega)).1 (h4 i hi')
      have b := (fit_iff (hi := hi) (off := off) (hf j) h2 (by omega)).1 (h4 j hj)
      unfold fL fH at k2
      omega

/-- No growth fits two measurements. -/
def Bad2 (c lo hi off : Int) (l : List (Int × Int)) (i k : Nat) : Prop := (fittingF c lo hi off [mAt l i, mAt l k]).2 < (fittingF c lo hi off [mAt l i, mAt l k]).1
theorem fitsAll_two {c off g : Int} {a b : Int × Int} : FitsAll c off g [a, b] ↔ Fits c off g a ∧ Fits c off g b := by
  unfold FitsAll
  constructor
  · intro h
    exact ⟨h 0 (by simp), h 1 (by simp)⟩
  · rintro ⟨h1, h2⟩ i hi
    have : i = 0 ∨ i = 1 := by simp at hi; omega
    rcases this with rfl | rfl
    · exact h1
    · exact h2
/-- All have a growth in common if each two have. -/
theorem clash_iff {c lo hi off : Int} {l : List (Int × Int)} (hlh : lo ≤ hi) (hf : ∀ i, 0 ≤ (mAt l i).1) :
    (knownF c lo hi off l).hi < (knownF c lo hi off l).lo ↔ ∃ i k, i < l.length ∧ k ≤ i ∧ Bad2 c lo hi off l i k := by
  constructor
  · intro hk
    rcases known_spec (c := c) (lo := lo) (hi := hi) (off := off) (l := l) hlh hf with ⟨k1, k2, k3, k4⟩ | ⟨k1, i, j, hi', hj, e0, e1, k2⟩
    · omega
    · have hbad : ∀ a b, (a = i ∧ b = j) ∨ (a = j ∧ b = i) → Bad2 c lo hi off l a b := by
        intro a b hab
        unfold Bad2
        rcases fitting_spec (c := c) (lo := lo) (hi := hi) (off := off) (l := [mAt l a, mAt l b]) hlh with ⟨h1, _⟩ | ⟨h1, h2, h3, h4, _, _⟩
        · exact h1
        · have hh := fitsAll_two.1 h4
          have x := (fit_iff (hi := hi) (off := off) (hf a) h2 (by omega)).1 hh.1
          have y := (fit_iff (hi := hi) (off := off) (hf b) h2 (by omega)).1 hh.2
          unfold fL fH at k2
          rcases hab with ⟨rfl, rfl⟩ | ⟨rfl, rfl⟩ <;> omega
      by_cases hij : j ≤ i
      · exact ⟨i, j, hi', hij, hbad i j (.inl ⟨rfl, rfl⟩)⟩
      · exact ⟨j, i, hj, by omega, hbad j i (.inr ⟨rfl, rfl⟩)⟩
  · rintro ⟨i, k, hi', hk, hb⟩
    rcases known_spec (c := c) (lo := lo) (hi := hi) (off := off) (l := l) hlh hf with ⟨k1, k2, k3, k4⟩ | ⟨k1, _⟩
    · exfalso
      have a := (k4 (knownF c lo hi off l).lo).2 ⟨Int.le_refl _, k1⟩
      rcases fitting_spec (c := c) (lo := lo) (hi := hi) (off := off) (l := [mAt l i, mAt l k]) hlh with ⟨h1, h2⟩ | ⟨h1, _⟩
      · exact h2 _ a.1 a.2.1 (fitsAll_two.2 ⟨a.2.2 i hi', a.2.2 k (by omega)⟩)
      · unfold Bad2 at hb; omega
    · exact k1

/-- What is returned as a clash is accepted as one. -/
theorem clash_verify {c t lo hi off : Int} {l : List (Int × Int)} (hm : measF c t lo hi off l = 0) (h : (clashF c t lo hi off l).2 = 0) : verifyF c t lo hi off l (clashF c t lo hi off l).1 = 0 := by
  obtain ⟨hs, ho, hn, hfine⟩ := fine_at hm
  have hlh := hs.2.2.2.1
  have hf : ∀ i, 0 ≤ (mAt l i).1 := fun i => (hfine i).1.1
  unfold clashF at h ⊢
  rw [if_pos hm] at h ⊢
  by_cases hk : (knownF c lo hi off l).lo ≤ (knownF c lo hi off l).hi
  · rw [if_pos hk] at h; cases h
  · rw [if_neg hk]
    rcases known_spec (c := c) (lo := lo) (hi := hi) (off := off) (l := l) hlh hf with ⟨k1, _⟩ | ⟨k1, i, j, hi', hj, e0, e1, k2⟩
    · exact absurd k1 hk
    · rw [e0, e1]
      unfold verifyF
      rw [if_pos hm]
      unfold pair
      unfold fL fH at k2
      by_cases hij : i = j
      · subst hij
        rw [Int.min_self, Int.max_self, if_pos rfl, if_neg (by simp), if_neg (by simp)]
        unfold verGo
        rw [if_pos (by omega), if_neg (by omega)]
        unfold verGo
        rw [if_neg]
        simp only [Int.toNat_natCast]
        omega
      · rw [if_neg (show ¬ (min (i : Int) j = max (i : Int) j) by omega), if_neg (by simp), if_neg (by simp)]
        rcases (by omega : i < j ∨ j < i) with hlt | hlt
        · rw [Int.min_eq_left (by omega), Int.max_eq_right (by omega)]
          unfold verGo
          rw [if_pos (by omega), if_neg (by omega)]
          unfold verGo
          rw [if_pos (by omega), if_neg (by omega)]
          unfold verGo
          rw [if_neg]
          simp only [Int.toNat_natCast]
          omega
        · rw [Int.min_eq_right (by omega), Int.max_eq_left (by omega)]
          unfold verGo
          rw [if_pos (by omega), if_neg (by omega)]
          unfold verGo
          rw [if_pos (by omega), if_neg (by omega)]
          unfold verGo
          rw [if_neg]
          simp only [Int.toNat_natCast]
          omega
end Go.Proofs.Ytphbiaagmhhhbaa
