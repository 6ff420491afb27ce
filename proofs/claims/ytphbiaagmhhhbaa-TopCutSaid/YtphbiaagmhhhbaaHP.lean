/- A block of cells, whole: it abides what a loop over an iterator does beside it. -/
import Derived.Test.YtphbiaagmhhhbaaBK
import Derived.RangeFuncNested
namespace Go.Proofs.Ytphbiaagmhhhbaa
open Go.RowKit

/-- Block B is just these cells, not frozen. -/
def Hp (W : World) (B : Nat) (cs : List Value) (t : TypeId) : Prop := W.heap[B]? = some (.cells cs.toArray t (0, 0))
theorem Hp.lt {W : World} {B : Nat} {cs : List Value} {t : TypeId} (h : Hp W B cs t) : B < W.heap.size := (Array.getElem?_eq_some_iff.1 h).1
theorem Hp.new (W : World) (cs : List Value) (t : TypeId) : Hp (W.alloc (.cells cs.toArray t)) W.heap.size cs t := World.alloc_heap_new W _
theorem Hp.cell {W : World} {B : Nat} {cs : List Value} {t : TypeId} (h : Hp W B cs t) {j : Nat} {v : Value} (hv : cs[j]? = some v) : W.cell? ⟨B, j, none⟩ = some v := by
  simp [World.cell?, show W.heap[B]? = _ from h, hv]
theorem Hp.free {W : World} {B : Nat} {cs : List Value} {t : TypeId} (h : Hp W B cs t) (j : Nat) : W.frozen? ⟨B, j, none⟩ = false := by
  simp [World.frozen?, show W.heap[B]? = _ from h]
theorem Hp.kept {W W' : World} {row : Option Nat} {B : Nat} {cs : List Value} {t : TypeId} (h : Hp W B cs t) (hg : W.grownBy W' row) (hne : some B ≠ row) : Hp W' B cs t := (hg.block B h.lt hne).trans h
theorem Hp.alloc {W : World} {B : Nat} {cs : List Value} {t : TypeId} (h : Hp W B cs t) (o : Obj) : Hp (W.alloc o) B cs t := h.kept (World.grownBy_alloc W o none) (by simp)
theorem Hp.below {W W' : World} {B B0 : Nat} {cs : List Value} {t : TypeId} (h : Hp W B cs t) (hb : Below B0 W W') (hB : B < B0) : Hp W' B cs t := (hb.block B hB).trans h
theorem Hp.later {W W' : World} {B : Nat} {cs : List Value} {t : TypeId} (h : Hp W B cs t) (hb : Below W.heap.size W W') : Hp W' B cs t := h.below hb h.lt
theorem Hp.drewN {W : World} {B : Nat} {cs : List Value} {t : TypeId} (h : Hp W B cs t) (n : Nat) : Hp (W.drewN n) B cs t := h.later (below_drewN' (Below.refl _ _) n)
theorem Hp.other {W : World} {B B' : Nat} {cs : List Value} {t : TypeId} (h : Hp W B cs t) (hne : B' ≠ B) (i : Nat) (v : Value) : Hp (W.setCell ⟨B', i, none⟩ v) B cs t := (Below.heap_setCell W ⟨B', i, none⟩ v B (Ne.symm hne)).trans h
theorem Hp.set {W : World} {B : Nat} {cs : List Value} {t : TypeId} (h : Hp W B cs t) (i : Nat) (v : Value) : Hp (W.setCell ⟨B, i, none⟩ v) B (cs.set i v) t := by
  have hb : W.heap[B]? = some (.cells cs.toArray t (0, 0)) := h
  simp [Hp, World.setCell, Array.getElem?_modify, hb]
theorem Hp.blk {W : World} {B : Nat} {cs : List Value} {t : TypeId} (h : Hp W B cs t) : Blk W B cs := ⟨h.lt, fun _ _ hv => h.cell hv, fun j => h.free j⟩
theorem hp_own {β : Type} (B : Nat) (t : TypeId) (f : β → List Value) : Own (fun s W => Hp W B (f s) t) := fun s X Y row hs hg hrow =>
  hs.kept hg (fun e' => by obtain ⟨o, ho, hc⟩ := hrow B e'.symm; rw [show X.heap[B]? = _ from hs] at ho; cases ho; cases hc)
end Go.Proofs.Ytphbiaagmhhhbaa
