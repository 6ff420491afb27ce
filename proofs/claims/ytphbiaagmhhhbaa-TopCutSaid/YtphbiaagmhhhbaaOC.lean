/- What the laws without the reference share: single notes, values that are set in the first round. -/
import Derived.Test.YtphbiaagmhhhbaaOB
import Derived.Test.YtphbiaagmhhhbaaRH
namespace Go.Proofs.Ytphbiaagmhhhbaa
open Go.RowKit Go.Lib Go.Shelf

/-- A value that is set in the first round, and what it is before. -/
def sinceD (k : Nat) (d v : Int) : Int := if k = 0 then d else v
theorem sinceD_pos {k : Nat} {d v : Int} (h : k ≠ 0) : sinceD k d v = v := if_neg h
theorem sinceD_succ {k : Nat} {d v : Int} : sinceD (k + 1) d v = v := if_neg (by omega)

theorem one_cell {W : World} {A : Option Addr} {n : Nat} {x : Int} (h : Reads W A n [x]) : n = 1 ∧ ∃ b o, A = some ⟨b, o, none⟩ ∧ W.cell? ⟨b, o, none⟩ = some (.int .i64 x) := by
  have h1 : n = 1 := h.1.symm
  subst h1
  obtain ⟨b, o, e, hc⟩ := h.2.2 (by omega)
  exact ⟨rfl, b, o, e, hc 0 (by omega)⟩

theorem playF_one {c t lo hi g p : Int} (hs : Sound c t lo hi) (h0 : lo ≤ g) (h1 : g ≤ hi) (hp : 0 ≤ p) (hl : p ≤ len c g 1000) : playF c t lo hi g [p] = ([arr c t g p], 0) := by
  have ha := (arr_of hs.2.1.1 hs.2.1.2 (show 0 ≤ g by have := hs.2.2; omega) hl).1
  unfold playF
  rw [if_pos ⟨hs, h0, h1⟩, if_neg (by simp)]
  have e : ferr (placedF c t g) [p] = 0 := by
    have e : placedF c t g p = 0 := by unfold placedF; rw [if_neg (by omega), if_neg (by omega)]
    simp [ferr, e]
  rw [e]
  rfl
theorem playF_over {c t lo hi g p : Int} (hs : Sound c t lo hi) (h0 : lo ≤ g) (h1 : g ≤ hi) (hp : 0 ≤ p) (hl : len c g 1000 < p) : playF c t lo hi g [p] = ([], 11) := by
  have ha := arr_over (c := c) (g := g) hs.2.1.1 hl
  unfold playF
  rw [if_pos ⟨hs, h0, h1⟩, if_neg (by simp)]
  have e : ferr (placedF c t g) [p] = 11 := by
    have e : placedF c t g p = 11 := by unfold placedF; rw [if_neg (by omega), if_pos (by omega)]
    simp [ferr, e]
  rw [e]
  rfl
end Go.Proofs.Ytphbiaagmhhhbaa
