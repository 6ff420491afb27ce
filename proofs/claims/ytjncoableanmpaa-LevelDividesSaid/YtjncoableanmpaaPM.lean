/- Plain: the reference's table: the least over the last starts. -/
import Derived.Test.YtjncoableanmpaaPK
namespace Go.Proofs.Ytjncoableanmpaa

/-- v is the least of the ways whose last start lies from n + 1 on below f. -/
def Lst (l : List Cd) (n e f : Nat) (v : Rat) : Prop :=
  (∃ a, n + 1 ≤ a ∧ a < f ∧ v = maxR (dF l n a).1 (alo l a e)) ∧ ∀ a, n + 1 ≤ a → a < f → v ≤ maxR (dF l n a).1 (alo l a e)
theorem Lst.first (l : List Cd) (n e : Nat) : Lst l n e (n + 2) (maxR (dF l n (n + 1)).1 (alo l (n + 1) e)) :=
  ⟨⟨n + 1, Nat.le_refl _, by omega, rfl⟩, fun a h1 h2 => by
    obtain rfl : a = n + 1 := by omega
    exact Rat.le_refl⟩
theorem Lst.step {l : List Cd} {n e f : Nat} {v : Rat} (h : Lst l n e f v) (hf : n + 1 ≤ f) : Lst l n e (f + 1) (if maxR (dF l n f).1 (alo l f e) < v then maxR (dF l n f).1 (alo l f e) else v) := by
  obtain ⟨⟨a, h1, h2, h3⟩, h4⟩ := h
  split
  · rename_i hlt
    refine ⟨⟨f, hf, by omega, rfl⟩, fun b k1 k2 => ?_⟩
    by_cases hb : b = f
    · subst hb; exact Rat.le_refl
    · exact Rat.le_trans (Rat.le_of_lt hlt) (h4 b k1 (by omega))
  · rename_i hlt
    refine ⟨⟨a, h1, by omega, h3⟩, fun b k1 k2 => ?_⟩
    by_cases hb : b = f
    · subst hb; exact Rat.not_lt.1 hlt
    · exact h4 b k1 (by omega)
theorem Lst.done {l : List Cd} {n e : Nat} {v : Rat} (h : Lst l n e e v) (he : n + 2 ≤ e) : v = (dF l (n + 1) e).1 := by
  obtain ⟨⟨a, h1, h2, h3⟩, h4⟩ := h
  obtain ⟨⟨b, k1, k2, k3⟩, k4⟩ := dF_way (l := l) he
  refine Rat.le_antisymm ?_ ?_
  · rw [k3, wayF_max]
    exact h4 b k1 k2
  · rw [h3, ← wayF_max]
    exact k4 a h1 h2
end Go.Proofs.Ytjncoableanmpaa
