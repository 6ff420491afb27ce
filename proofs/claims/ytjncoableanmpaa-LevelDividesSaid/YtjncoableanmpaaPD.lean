/- Plain: the gains that pairs of codes allow. -/
import Derived.Test.YtjncoableanmpaaPC
namespace Go.Proofs.Ytjncoableanmpaa
def loG (bn bd : Int) (a b : Cd) : Rat := fr ((b.2.2 - a.2.1) * bd - 2 * bn) ((b.1 - a.1) * bd)
def hiG (bn bd : Int) (a b : Cd) : Rat := fr ((b.2.1 - a.2.2) * bd + 2 * bn) ((b.1 - a.1) * bd)
abbrev Pair := Nat × Nat
/-- The pairs that begin with i: up to the last index k. -/
def prR (i : Nat) : Nat → List Pair
  | 0 => []
  | k + 1 => if i < k then prR i k ++ [(i, k)] else []
def prP (n : Nat) : Nat → List Pair
  | 0 => []
  | i + 1 => prP n i ++ prR i n
abbrev prs (n : Nat) : List Pair := prP n n
theorem prR_mem {i : Nat} (k : Nat) (t : Pair) : t ∈ prR i k ↔ ∃ m, i < m ∧ m < k ∧ t = (i, m) := by
  induction k with
  | zero => simp [prR]
  | succ k ih =>
    unfold prR
    split
    · rename_i h
      rw [List.mem_append, ih]
      constructor
      · rintro (⟨m, h1, h2, rfl⟩ | h1)
        · exact ⟨m, h1, by omega, rfl⟩
        · exact ⟨k, h, by omega, by simpa using h1⟩
      · rintro ⟨m, h1, h2, rfl⟩
        by_cases e : m = k
        · subst e; right; simp
        · left; exact ⟨m, h1, by omega, rfl⟩
    · rename_i h
      constructor
      · intro h1; cases h1
      · rintro ⟨m, h1, h2, _⟩; omega
theorem prP_mem {n : Nat} (m : Nat) (t : Pair) : t ∈ prP n m ↔ t.1 < m ∧ t.1 < t.2 ∧ t.2 < n := by
  induction m with
  | zero => simp [prP]
  | succ i ih =>
    obtain ⟨x, y⟩ := t
    unfold prP
    rw [List.mem_append, ih, prR_mem]
    dsimp only
    constructor
    · rintro (⟨h1, h2⟩ | ⟨m, h1, h2, h3⟩)
      · exact ⟨by omega, h2⟩
      · cases h3; exact ⟨by omega, h1, h2⟩
    · rintro ⟨h1, h2, h3⟩
      by_cases e : x = i
      · subst e; right; exact ⟨y, h2, h3, rfl⟩
      · left; exact ⟨by omega, h2, h3⟩
theorem prs_mem {n : Nat} {t : Pair} : t ∈ prs n ↔ t.1 < t.2 ∧ t.2 < n := by
  unfold prs
  rw [prP_mem]
  omega
def gstp (lo hi : Rat) (s : Option (Rat × Rat)) : Option (Rat × Rat) :=
  match s with
  | none => some (lo, hi)
  | some (p, q) => some (if p < lo then lo else p, if hi < q then hi else q)
def gOne (bn bd : Int) (l : List Cd) (t : Pair) (s : Option (Rat × Rat)) : Option (Rat × Rat) := gstp (loG bn bd (cAt l t.1) (cAt l t.2)) (hiG bn bd (cAt l t.1) (cAt l t.2)) s
def gFold (bn bd : Int) (l : List Cd) (ps : List Pair) : Option (Rat × Rat) := ps.foldl (fun s t => gOne bn bd l t s) none
theorem gFold_snoc (bn bd : Int) (l : List Cd) (ps : List Pair) (t : Pair) : gFold bn bd l (ps ++ [t]) = gOne bn bd l t (gFold bn bd l ps) := by
  unfold gFold
  rw [List.foldl_append]
  rfl
/-- Every least gain is at most every greatest one. -/
def Fits (bn bd : Int) (l : List Cd) : Prop := ∀ s t : Pair, s.1 < s.2 → s.2 < l.length → t.1 < t.2 → t.2 < l.length → loG bn bd (cAt l s.1) (cAt l s.2) ≤ hiG bn bd (cAt l t.1) (cAt l t.2)
/-- What is known behind some pairs. -/
theorem gFold_spec (bn bd : Int) (l : List Cd) : ∀ ps : List Pair, (ps = [] ∧ gFold bn bd l ps = none) ∨ ∃ p q, gFold bn bd l ps = some (p, q) ∧
    (∃ t ∈ ps, p = loG bn bd (cAt l t.1) (cAt l t.2)) ∧ (∃ t ∈ ps, q = hiG bn bd (cAt l t.1) (cAt l t.2)) ∧
    (∀ t ∈ ps, loG bn bd (cAt l t.1) (cAt l t.2) ≤ p) ∧ (∀ t ∈ ps, q ≤ hiG bn bd (cAt l t.1) (cAt l t.2)) := by
  have key : ∀ (q p : List Pair), ((p = [] ∧ gFold bn bd l p = none) ∨ ∃ x y, gFold bn bd l p = some (x, y) ∧
    (∃ t ∈ p, x = loG bn bd (cAt l t.1) (cAt l t.2)) ∧ (∃ t ∈ p, y = hiG bn bd (cAt l t.1) (cAt l t.2)) ∧
    (∀ t ∈ p, loG bn bd (cAt l t.1) (cAt l t.2) ≤ x) ∧ (∀ t ∈ p, y ≤ hiG bn bd (cAt l t.1) (cAt l t.2))) → ((p ++ q = [] ∧ gFold bn bd l (p ++ q) = none) ∨ ∃ x y, gFold bn bd l (p ++ q) = some (x, y) ∧
    (∃ t ∈ p ++ q, x = loG bn bd (cAt l t.1) (cAt l t.2)) ∧ (∃ t ∈ p ++ q, y = hiG bn bd (cAt l t.1) (cAt l t.2)) ∧
    (∀ t ∈ p ++ q, loG bn bd (cAt l t.1) (cAt l t.2) ≤ x) ∧ (∀ t ∈ p ++ q, y ≤ hiG bn bd (cAt l t.1) (cAt l t.2))) := by
    intro q
    induction q with
    | nil => intro p h; simpa using h
    | cons u q ih =>
      intro p h
      have := ih (p ++ [u]) ?_
      · simpa using this
      · right
        rw [gFold_snoc]
        rcases h with ⟨rfl, h⟩ | ⟨x, y, h0, h1, h2, h3, h4⟩
        · rw [h]
          refine ⟨_, _, rfl, ⟨u, by simp, rfl⟩, ⟨u, by simp, rfl⟩, ?_, ?_⟩
          · intro t ht
            rw [List.nil_append, List.mem_singleton] at ht
            rw [ht]; exact Rat.le_refl
          · intro t ht
            rw [List.nil_append, List.mem_singleton] at ht
            rw [ht]; exact Rat.le_refl
        · rw [h0]
          refine ⟨_, _, rfl, ?_, ?_, ?_, ?_⟩
          · split
            · exact ⟨u, by simp, rfl⟩
            · obtain ⟨t, ht, e⟩ := h1; exact ⟨t, by simp [ht], e⟩
          · split
            · exact ⟨u, by simp, rfl⟩
            · obtain ⟨t, ht, e⟩ := h2; exact ⟨t, by simp [ht], e⟩
          · intro t ht
            rcases List.mem_append.1 ht with ht | ht
            · split
              · rename_i hlt; exact Rat.le_trans (h3 t ht) (Rat.le_of_lt hlt)
              · exact h3 t ht
            · rw [List.mem_singleton.1 ht]
              split
              · exact Rat.le_refl
              · rename_i hlt; exact Rat.not_lt.1 hlt
          · intro t ht
            rcases List.mem_append.1 ht with ht | ht
            · split
              · rename_i hlt; exact Rat.le_trans (Rat.le_of_lt hlt) (h4 t ht)
              · exact h4 t ht
            · rw [List.mem_singleton.1 ht]
              split
              · exact Rat.le_refl
              · rename_i hlt; exact Rat.not_lt.1 hlt
  intro ps
  simpa using key ps [] (.inl ⟨rfl, rfl⟩)
def gF (bn bd : Int) (l : List Cd) : Rat × Rat := (gFold bn bd l (prs l.length)).getD (0, 0)
end Go.Proofs.Ytjncoableanmpaa
