/- What is known of a block of the call's own: its cells, and that it is not frozen. -/
import Derived.WalkKit
import Derived.Lib.Hide
import Derived.Shelf.GgClosure.Gives
namespace Go.Proofs.Ytphbiaagmhhhbaa
open Go.RowKit

/-- Block B holds the cells cs, and may be written. -/
structure Blk (w : World) (B : Nat) (cs : List Value) : Prop where
  lt : B < w.heap.size
  cell : ∀ j v, cs[j]? = some v → w.cell? ⟨B, j, none⟩ = some v
  free : ∀ j, w.frozen? ⟨B, j, none⟩ = false
theorem Blk.new (w : World) (cs : List Value) (t : TypeId) : Blk (w.alloc (.cells cs.toArray t)) w.heap.size cs :=
  ⟨by simp, fun j v h => by rw [World.cell?_alloc_at (hn := rfl)]; simpa using h, fun j => World.frozen?_alloc_at (hn := rfl) ..⟩
theorem Blk.alloc {w : World} {B : Nat} {cs : List Value} (h : Blk w B cs) (o : Obj) : Blk (w.alloc o) B cs :=
  ⟨by have := h.lt; simp; omega, fun j v hv => by rw [World.cell?_alloc_past (hn := h.lt)]; exact h.cell j v hv, fun j => by rw [World.frozen?_alloc_past (hn := h.lt)]; exact h.free j⟩
theorem Blk.later {w w1 : World} {B : Nat} {cs : List Value} (h : Blk w B cs) (hb : Below w.heap.size w w1) : Blk w1 B cs :=
  ⟨Nat.lt_of_lt_of_le h.lt hb.size, fun j v hv => (hb.cell (p := ⟨B, j, none⟩) h.lt).trans (h.cell j v hv), fun j => (hb.frozen (p := ⟨B, j, none⟩) h.lt).trans (h.free j)⟩
theorem Blk.drewN {w : World} {B : Nat} {cs : List Value} (h : Blk w B cs) (n : Nat) : Blk (w.drewN n) B cs := h.later (below_drewN' (Below.refl _ _) n)
theorem Blk.drew {w : World} {B : Nat} {cs : List Value} (h : Blk w B cs) : Blk w.drew B cs := h.later (Below.refl _ _).drew
theorem Blk.other {w : World} {B B' : Nat} {cs : List Value} (h : Blk w B cs) (hne : B' ≠ B) (i : Nat) (v : Value) : Blk (w.setCell ⟨B', i, none⟩ v) B cs :=
  ⟨by simpa using h.lt, fun j u hu => by rw [World.cell?_setCell_other _ _ _ _ (by intro e; cases e; exact hne rfl)]; exact h.cell j u hu, fun j => by rw [World.frozen?_setCell]; exact h.free j⟩
theorem Blk.set {w : World} {B : Nat} {cs : List Value} (h : Blk w B cs) (i : Nat) (hi : i < cs.length) (v : Value) : Blk (w.setCell ⟨B, i, none⟩ v) B (cs.set i v) :=
  ⟨by simpa using h.lt, fun j u hu => by
    by_cases e : i = j
    · subst e
      rw [List.getElem?_set_self hi] at hu
      cases hu
      exact World.cell?_setCell_same _ _ _ (h.cell i _ (List.getElem?_eq_getElem hi))
    · rw [List.getElem?_set_ne e] at hu
      rw [World.cell?_setCell_other _ _ _ _ (by intro e'; cases e'; exact e rfl)]
      exact h.cell j u hu, fun j => by rw [World.frozen?_setCell]; exact h.free j⟩
/-- Two cells of it, as the walk wants them. -/
theorem Blk.two {w : World} {B : Nat} {a b : Value} (h : Blk w B [a, b]) : w.cell? ⟨B, 0, none⟩ = some a ∧ w.cell? ⟨B, 1, none⟩ = some b := ⟨h.cell 0 _ rfl, h.cell 1 _ rfl⟩
theorem Blk.one {w : World} {B : Nat} {a : Value} (h : Blk w B [a]) : w.cell? ⟨B, 0, none⟩ = some a := h.cell 0 _ rfl
theorem Blk.free2 {w : World} {B : Nat} {cs : List Value} (h : Blk w B cs) : w.frozen? ⟨B, 0, none⟩ = false ∧ w.frozen? ⟨B, 1, none⟩ = false := ⟨h.free 0, h.free 1⟩
theorem Blk.four {w : World} {B : Nat} {a b c d : Value} (h : Blk w B [a, b, c, d]) : w.cell? ⟨B, 0, none⟩ = some a ∧ w.cell? ⟨B, 1, none⟩ = some b ∧ w.cell? ⟨B, 2, none⟩ = some c ∧ w.cell? ⟨B, 3, none⟩ = some d := ⟨h.cell 0 _ rfl, h.cell 1 _ rfl, h.cell 2 _ rfl, h.cell 3 _ rfl⟩
theorem Blk.five {w : World} {B : Nat} {a b c d e : Value} (h : Blk w B [a, b, c, d, e]) : w.cell? ⟨B, 0, none⟩ = some a ∧ w.cell? ⟨B, 1, none⟩ = some b ∧ w.cell? ⟨B, 2, none⟩ = some c ∧ w.cell? ⟨B, 3, none⟩ = some d ∧ w.cell? ⟨B, 4, none⟩ = some e := ⟨h.cell 0 _ rfl, h.cell 1 _ rfl, h.cell 2 _ rfl, h.cell 3 _ rfl, h.cell 4 _ rfl⟩
/-- What a cell holds, under a name that the walk doesn't open. -/
def valAt (w : World) (a : Addr) : Value := (w.cell? a).getD undef
theorem valAt_of {w : World} {a : Addr} {v : Value} (h : w.cell? a = some v) : w.cell? a = some (valAt w a) := by
  unfold valAt
  rw [h]
  rfl
theorem Blk.vals {w : World} {B : Nat} {a b : Value} (h : Blk w B [a, b]) : w.cell? ⟨B, 0, none⟩ = some (valAt w ⟨B, 0, none⟩) ∧ w.cell? ⟨B, 1, none⟩ = some (valAt w ⟨B, 1, none⟩) ∧ w.frozen? ⟨B, 0, none⟩ = false ∧ w.frozen? ⟨B, 1, none⟩ = false :=
  ⟨valAt_of (h.cell 0 _ rfl), valAt_of (h.cell 1 _ rfl), h.free 0, h.free 1⟩
theorem Blk.put2 {w : World} {B : Nat} {a b : Value} (h : Blk w B [a, b]) (x y : Value) : Blk ((w.setCell ⟨B, 0, none⟩ x).setCell ⟨B, 1, none⟩ y) B [x, y] :=
  (h.set 0 (by simp) x).set 1 (by simp) y
theorem Blk.other2 {w : World} {B B' : Nat} {cs : List Value} (h : Blk w B cs) (hne : B' ≠ B) (x y : Value) : Blk ((w.setCell ⟨B', 0, none⟩ x).setCell ⟨B', 1, none⟩ y) B cs :=
  (h.other hne 0 x).other hne 1 y
end Go.Proofs.Ytphbiaagmhhhbaa
