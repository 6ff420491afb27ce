/- Plain: divisions. -/
import Derived.Test.YtjncoableanmpaaPG
namespace Go.Proofs.Ytjncoableanmpaa
/-- The codes from one index up to another one. -/
def sub (l : List Cd) (a e : Nat) : List Cd := (l.drop a).take (e - a)
theorem sub_len {l : List Cd} {a e : Nat} (h : e ≤ l.length) : (sub l a e).length = e - a := by
  unfold sub
  simp
  omega
theorem sub_at {l : List Cd} {a e i : Nat} (h : i < e - a) : cAt (sub l a e) i = cAt l (a + i) := by
  unfold cAt sub
  rw [List.getElem?_take, if_pos h, List.getElem?_drop]
theorem sub_good {l : List Cd} (hg : Good l) {a e : Nat} (h1 : a < e) (h2 : e ≤ l.length) : Good (sub l a e) := by
  have hl := sub_len (l := l) (a := a) h2
  refine ⟨by omega, by have := hg.few; omega, fun i hi => ?_, fun i j hij hj => ?_⟩
  · rw [sub_at (by omega)]
    exact hg.tame _ (by omega)
  · rw [sub_at (by omega), sub_at (by omega)]
    exact hg.inc _ _ (by omega) (by omega)
/-- The best error of these codes. -/
def alo (l : List Cd) (a e : Nat) : Rat := (bestC (sub l a e)).off
abbrev Sh := Rat × List Int
def pickS (b : Option Sh) (x : Sh) : Option Sh :=
  match b with
  | none => some x
  | some y => if x.1 < y.1 then some x else some y
def leastS (xs : List Sh) : Option Sh := xs.foldl pickS none
theorem leastS_snoc (xs : List Sh) (x : Sh) : leastS (xs ++ [x]) = pickS (leastS xs) x := by
  unfold leastS
  rw [List.foldl_append]
  rfl
def wayF (l : List Cd) (prev : Nat → Sh) (e a : Nat) : Sh := (if alo l a e < (prev a).1 then (prev a).1 else alo l a e, (prev a).2 ++ [(a : Int)])
/-- The best division of the codes up to e among n + 1 players. -/
def dF (l : List Cd) : Nat → Nat → Sh
  | 0, e => (alo l 0 e, [0])
  | n + 1, e => (leastS ((List.range' (n + 1) (e - (n + 1))).map (wayF l (dF l n) e))).getD (0, [])
theorem leastS_spec (xs : List Sh) : (xs = [] ∧ leastS xs = none) ∨ ∃ b, leastS xs = some b ∧ b ∈ xs ∧ ∀ x ∈ xs, b.1 ≤ x.1 := by
  have key : ∀ (q p : List Sh), ((p = [] ∧ leastS p = none) ∨ ∃ b, leastS p = some b ∧ b ∈ p ∧ ∀ x ∈ p, b.1 ≤ x.1) → ((p ++ q = [] ∧ leastS (p ++ q) = none) ∨ ∃ b, leastS (p ++ q) = some b ∧ b ∈ p ++ q ∧ ∀ x ∈ p ++ q, b.1 ≤ x.1) := by
    intro q
    induction q with
    | nil => intro p h; simpa using h
    | cons y q ih =>
      intro p h
      have := ih (p ++ [y]) ?_
      · simpa using this
      · right
        rw [leastS_snoc]
        rcases h with ⟨rfl, h⟩ | ⟨b, h1, h2, h3⟩
        · rw [h]
          refine ⟨y, rfl, by simp, fun x hx => ?_⟩
          rw [List.nil_append, List.mem_singleton] at hx
          rw [hx]; exact Rat.le_refl
        · rw [h1]
          unfold pickS
          dsimp only
          split
          · rename_i hlt
            refine ⟨y, rfl, by simp, fun x hx => ?_⟩
            rcases List.mem_append.1 hx with h | h
            · exact Rat.le_trans (Rat.le_of_lt hlt) (h3 x h)
            · rw [List.mem_singleton.1 h]; exact Rat.le_refl
          · rename_i hlt
            refine ⟨b, rfl, by simp [h2], fun x hx => ?_⟩
            rcases List.mem_append.1 hx with h | h
            · exact h3 x h
            · rw [List.mem_singleton.1 h]; exact Rat.not_lt.1 hlt
  simpa using key xs [] (.inl ⟨rfl, rfl⟩)
/-- A fraction within the limits of errors. -/
def Sml (q : Rat) : Prop := 0 ≤ q.num ∧ q.num ≤ 400000000 ∧ (q.den : Int) ≤ 40000
end Go.Proofs.Ytjncoableanmpaa
