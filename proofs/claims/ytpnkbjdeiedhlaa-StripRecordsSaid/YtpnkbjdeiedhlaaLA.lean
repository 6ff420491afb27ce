/- The words of the walks: blocks, what is held, what is read. -/
import Derived.Test.YtpnkbjdeiedhlaaProg
import Derived.WalkKit
import Derived.Handy
import Derived.Lib.Hide
import Derived.Deep.LoopGhost
import Derived.Shelf.GgClosure.Gives
import Derived.RangeFuncNested
import Derived.Deep.RegionHeld3
import Derived.BigQuiet
import Derived.Deep.QuietTactic
import Derived.Maps.AppendAt
import Derived.Deep.AppendLies
import Derived.Lib.MinMax
namespace Go.Proofs.Ytpnkbjdeiedhlaa
open Go.RowKit Go.Lib Go.Shelf

theorem ret_int {a b : Int} (h : a = b) : Ending.returned (.int .i64 a) = .returned (.int .i64 b) := by rw [h]
theorem mul_bd {a b A B : Int} (h0 : 0 ≤ a) (h1 : a ≤ A) (h2 : 0 ≤ b) (h3 : b ≤ B) : 0 ≤ a * b ∧ a * b ≤ A * B :=
  ⟨Int.mul_nonneg h0 h2, Int.mul_le_mul h1 h3 h2 (Int.le_trans h0 h1)⟩
theorem w64_in {n : Int} (h0 : -9223372036854775808 ≤ n) (h1 : n ≤ 9223372036854775807) : wrap64 n = n := by unfold wrap64; omega
/-- A call that hands back v; what was there lies as it lay. -/
def Gives (f : Nat) (args : Array Value) (v : Value) (w : World) : Prop :=
  Calls Try.prog f args w fun e w' => e = .returned v ∧ Below w.heap.size w w'
/-- Cells of an elder block, behind a call. -/
theorem kept {w w' : World} (h : Below w.heap.size w w') {B : Nat} (hB : B < w.heap.size) : (∀ o, w'.cell? ⟨B, o, none⟩ = w.cell? ⟨B, o, none⟩) ∧ (∀ o, w'.frozen? ⟨B, o, none⟩ = w.frozen? ⟨B, o, none⟩) ∧ B < w'.heap.size :=
  ⟨fun o => h.cell (p := ⟨B, o, none⟩) hB, fun o => h.frozen (p := ⟨B, o, none⟩) hB, Nat.lt_of_lt_of_le hB h.size⟩
theorem bcell {W w1 : World} (hb : Below W.heap.size W w1) : (∀ b o, b < W.heap.size → w1.cell? ⟨b, o, none⟩ = W.cell? ⟨b, o, none⟩) ∧ (∀ b o, b < W.heap.size → w1.frozen? ⟨b, o, none⟩ = W.frozen? ⟨b, o, none⟩) :=
  ⟨fun b o h => hb.cell (p := ⟨b, o, none⟩) h, fun b o h => hb.frozen (p := ⟨b, o, none⟩) h⟩
theorem i64_w (n : Int) : IntKind.i64.wrap n = wrap64 n := by
  rw [IntKind.wrap_i64]
  unfold wrap64
  rfl
def btw (lo n hi : Int) : Bool := decide (lo ≤ n) && decide (n ≤ hi)
theorem btw_yes {lo n hi : Int} (h : lo ≤ n ∧ n ≤ hi) : btw lo n hi = true := by simp [btw, h]
theorem btw_no {lo n hi : Int} (h : ¬ (lo ≤ n ∧ n ≤ hi)) : btw lo n hi = false := by
  simp only [btw, Bool.and_eq_false_iff, decide_eq_false_iff_not]
  omega
/-- A call that hands back v and leaves the world alone. -/
def Quiet (f : Nat) (args : Array Value) (v : Value) (w : World) : Prop :=
  Calls Try.prog f args w fun e w' => e = .returned v ∧ w = w'
theorem i64_in {n : Int} (h0 : -1000000000000000 ≤ n) (h1 : n ≤ 1000000000000000) : IntKind.i64.wrap n = n := by rw [i64_w]; exact w64_in (by omega) (by omega)

/-- Block B holds the cells cs, and may be written. -/
structure Blk (w : World) (B : Nat) (cs : List Value) : Prop where
  lt : B < w.heap.size
  cell : ∀ j v, cs[j]? = some v → w.cell? ⟨B, j, none⟩ = some v
  free : ∀ j, w.frozen? ⟨B, j, none⟩ = false
theorem Blk.new (w : World) (cs : List Value) (t : TypeId) : Blk (w.alloc (.cells cs.toArray t)) w.heap.size cs :=
  ⟨by simp, fun j v h => by rw [World.cell?_alloc_at (hn := rfl)]; simpa using h, fun j => World.frozen?_alloc_at (hn := rfl) ..⟩
theorem Blk.alloc {w : World} {B : Nat} {cs : List Value} (h : Blk w B cs) (o : Obj) : Blk (w.alloc o) B cs :=
  ⟨by have := h.lt; simp; omega, fun j v hv => by rw [World.cell?_alloc_past (hn := h.lt)]; exact h.cell j v hv, fun j => by rw [World.frozen?_alloc_past (hn := h.lt)]; exact h.free j⟩
theorem Blk.later {w w1 : World} {B : Nat} {cs : List Value} (h : Blk w B cs) (hb : Below w.heap.size w w1) : Blk w1 B cs :=
  ⟨Nat.lt_of_lt_of_le h.lt hb.size, fun j v hv => (hb.cell (p := ⟨B, j, none⟩) h.lt).trans (h.cell j v hv), fun j => (hb.frozen (p := ⟨B, j, none⟩) h.lt).trans (h.free j)⟩
theorem Blk.drewN {w : World} {B : Nat} {cs : List Value} (h : Blk w B cs) (n : Nat) : Blk (w.drewN n) B cs := h.later (below_drewN' (Below.refl _ _) n)
theorem Blk.drew {w : World} {B : Nat} {cs : List Value} (h : Blk w B cs) : Blk w.drew B cs := h.later (Below.refl _ _).drew
theorem Blk.other {w : World} {B B' : Nat} {cs : List Value} (h : Blk w B cs) (hne : B' ≠ B) (i : Nat) (v : Value) : Blk (w.setCell ⟨B', i, none⟩ v) B cs :=
  ⟨by simpa using h.lt, fun j u hu => by rw [World.cell?_setCell_other _ _ _ _ (by intro e; cases e; exact hne rfl)]; exact h.cell j u hu, fun j => by rw [World.frozen?_setCell]; exact h.free j⟩
theorem Blk.set {w : World} {B : Nat} {cs : List Value} (h : Blk w B cs) (i : Nat) (hi : i < cs.length) (v : Value) : Blk (w.setCell ⟨B, i, none⟩ v) B (cs.set i v) :=
  ⟨by simpa using h.lt, fun j u hu => by
    by_cases e : i = j
    · subst e
      rw [List.getElem?_set_self hi] at hu
      cases hu
      exact World.cell?_setCell_same _ _ _ (h.cell i _ (List.getElem?_eq_getElem hi))
    · rw [List.getElem?_set_ne e] at hu
      rw [World.cell?_setCell_other _ _ _ _ (by intro e'; cases e'; exact e rfl)]
      exact h.cell j u hu, fun j => by rw [World.frozen?_setCell]; exact h.free j⟩
/-- Two cells of it, as the walk wants them. -/
theorem Blk.two {w : World} {B : Nat} {a b : Value} (h : Blk w B [a, b]) : w.cell? ⟨B, 0, none⟩ = some a ∧ w.cell? ⟨B, 1, none⟩ = some b := ⟨h.cell 0 _ rfl, h.cell 1 _ rfl⟩
theorem Blk.one {w : World} {B : Nat} {a : Value} (h : Blk w B [a]) : w.cell? ⟨B, 0, none⟩ = some a := h.cell 0 _ rfl
theorem Blk.free2 {w : World} {B : Nat} {cs : List Value} (h : Blk w B cs) : w.frozen? ⟨B, 0, none⟩ = false ∧ w.frozen? ⟨B, 1, none⟩ = false := ⟨h.free 0, h.free 1⟩
theorem Blk.four {w : World} {B : Nat} {a b c d : Value} (h : Blk w B [a, b, c, d]) : w.cell? ⟨B, 0, none⟩ = some a ∧ w.cell? ⟨B, 1, none⟩ = some b ∧ w.cell? ⟨B, 2, none⟩ = some c ∧ w.cell? ⟨B, 3, none⟩ = some d := ⟨h.cell 0 _ rfl, h.cell 1 _ rfl, h.cell 2 _ rfl, h.cell 3 _ rfl⟩
theorem Blk.five {w : World} {B : Nat} {a b c d e : Value} (h : Blk w B [a, b, c, d, e]) : w.cell? ⟨B, 0, none⟩ = some a ∧ w.cell? ⟨B, 1, none⟩ = some b ∧ w.cell? ⟨B, 2, none⟩ = some c ∧ w.cell? ⟨B, 3, none⟩ = some d ∧ w.cell? ⟨B, 4, none⟩ = some e := ⟨h.cell 0 _ rfl, h.cell 1 _ rfl, h.cell 2 _ rfl, h.cell 3 _ rfl, h.cell 4 _ rfl⟩
/-- What a cell holds, under a name that the walk doesn't open. -/
def valAt (w : World) (a : Addr) : Value := (w.cell? a).getD undef
theorem valAt_of {w : World} {a : Addr} {v : Value} (h : w.cell? a = some v) : w.cell? a = some (valAt w a) := by
  unfold valAt
  rw [h]
  rfl
theorem Blk.vals {w : World} {B : Nat} {a b : Value} (h : Blk w B [a, b]) : w.cell? ⟨B, 0, none⟩ = some (valAt w ⟨B, 0, none⟩) ∧ w.cell? ⟨B, 1, none⟩ = some (valAt w ⟨B, 1, none⟩) ∧ w.frozen? ⟨B, 0, none⟩ = false ∧ w.frozen? ⟨B, 1, none⟩ = false :=
  ⟨valAt_of (h.cell 0 _ rfl), valAt_of (h.cell 1 _ rfl), h.free 0, h.free 1⟩
theorem Blk.put2 {w : World} {B : Nat} {a b : Value} (h : Blk w B [a, b]) (x y : Value) : Blk ((w.setCell ⟨B, 0, none⟩ x).setCell ⟨B, 1, none⟩ y) B [x, y] :=
  (h.set 0 (by simp) x).set 1 (by simp) y
theorem Blk.other2 {w : World} {B B' : Nat} {cs : List Value} (h : Blk w B cs) (hne : B' ≠ B) (x y : Value) : Blk ((w.setCell ⟨B', 0, none⟩ x).setCell ⟨B', 1, none⟩ y) B cs :=
  (h.other hne 0 x).other hne 1 y

/-- Block B is just these cells, not frozen. -/
def Hp (W : World) (B : Nat) (cs : List Value) (t : TypeId) : Prop := W.heap[B]? = some (.cells cs.toArray t (0, 0))
theorem Hp.lt {W : World} {B : Nat} {cs : List Value} {t : TypeId} (h : Hp W B cs t) : B < W.heap.size := (Array.getElem?_eq_some_iff.1 h).1
theorem Hp.new (W : World) (cs : List Value) (t : TypeId) : Hp (W.alloc (.cells cs.toArray t)) W.heap.size cs t := World.alloc_heap_new W _
theorem Hp.cell {W : World} {B : Nat} {cs : List Value} {t : TypeId} (h : Hp W B cs t) {j : Nat} {v : Value} (hv : cs[j]? = some v) : W.cell? ⟨B, j, none⟩ = some v := by
  simp [World.cell?, show W.heap[B]? = _ from h, hv]
theorem Hp.free {W : World} {B : Nat} {cs : List Value} {t : TypeId} (h : Hp W B cs t) (j : Nat) : W.frozen? ⟨B, j, none⟩ = false := by
  simp [World.frozen?, show W.heap[B]? = _ from h]
theorem Hp.kept {W W' : World} {row : Option Nat} {B : Nat} {cs : List Value} {t : TypeId} (h : Hp W B cs t) (hg : W.grownBy W' row) (hne : some B ≠ row) : Hp W' B cs t := (hg.block B h.lt hne).trans h
theorem Hp.alloc {W : World} {B : Nat} {cs : List Value} {t : TypeId} (h : Hp W B cs t) (o : Obj) : Hp (W.alloc o) B cs t := h.kept (World.grownBy_alloc W o none) (by simp)
theorem Hp.below {W W' : World} {B B0 : Nat} {cs : List Value} {t : TypeId} (h : Hp W B cs t) (hb : Below B0 W W') (hB : B < B0) : Hp W' B cs t := (hb.block B hB).trans h
theorem Hp.later {W W' : World} {B : Nat} {cs : List Value} {t : TypeId} (h : Hp W B cs t) (hb : Below W.heap.size W W') : Hp W' B cs t := h.below hb h.lt
theorem Hp.drewN {W : World} {B : Nat} {cs : List Value} {t : TypeId} (h : Hp W B cs t) (n : Nat) : Hp (W.drewN n) B cs t := h.later (below_drewN' (Below.refl _ _) n)
theorem Hp.other {W : World} {B B' : Nat} {cs : List Value} {t : TypeId} (h : Hp W B cs t) (hne : B' ≠ B) (i : Nat) (v : Value) : Hp (W.setCell ⟨B', i, none⟩ v) B cs t := (Below.heap_setCell W ⟨B', i, none⟩ v B (Ne.symm hne)).trans h
theorem Hp.set {W : World} {B : Nat} {cs : List Value} {t : TypeId} (h : Hp W B cs t) (i : Nat) (v : Value) : Hp (W.setCell ⟨B, i, none⟩ v) B (cs.set i v) t := by
  have hb : W.heap[B]? = some (.cells cs.toArray t (0, 0)) := h
  simp [Hp, World.setCell, Array.getElem?_modify, hb]
theorem Hp.blk {W : World} {B : Nat} {cs : List Value} {t : TypeId} (h : Hp W B cs t) : Blk W B cs := ⟨h.lt, fun _ _ hv => h.cell hv, fun j => h.free j⟩
theorem hp_own {β : Type} (B : Nat) (t : TypeId) (f : β → List Value) : Own (fun s W => Hp W B (f s) t) := fun s X Y row hs hg hrow =>
  hs.kept hg (fun e' => by obtain ⟨o, ho, hc⟩ := hrow B e'.symm; rw [show X.heap[B]? = _ from hs] at ho; cases ho; cases hc)
/-- Two cells of a block are written: they read so. -/
theorem put2 {w : World} {B : Nat} {a b x y : Value} (h0 : w.cell? ⟨B, 0, none⟩ = some x) (h1 : w.cell? ⟨B, 1, none⟩ = some y) :
    (w.setCell ⟨B, 0, none⟩ a).cell? ⟨B, 0, none⟩ = some a ∧ ((w.setCell ⟨B, 0, none⟩ a).setCell ⟨B, 1, none⟩ b).cell? ⟨B, 1, none⟩ = some b :=
  ⟨World.cell?_setCell_same _ _ _ h0, World.cell?_setCell_same _ _ _ ((World.cell?_setCell_other _ _ _ _ (by simp)).trans h1)⟩
theorem below2 {b0 B : Nat} {w w1 : World} (h : Below b0 w w1) (hB : b0 ≤ B) (a b : Value) : Below b0 w ((w1.setCell ⟨B, 0, none⟩ a).setCell ⟨B, 1, none⟩ b) :=
  (h.setCell (p := ⟨B, 0, none⟩) hB _).setCell (p := ⟨B, 1, none⟩) hB _
/-- A slice that reads as a list of whole numbers. -/
def Reads (w : World) (A : Option Addr) (n : Nat) (l : List Int) : Prop :=
  l.length = n ∧ n ≤ 17592186044416 ∧ (0 < n → ∃ b off, A = some ⟨b, off, none⟩ ∧ ∀ j, j < n → w.cell? ⟨b, off + j, none⟩ = some (.int .i64 (l[j]?.getD 0)))
theorem Reads.later {w w1 : World} {A : Option Addr} {n : Nat} {l : List Int} (h : Reads w A n l) (hb : Below w.heap.size w w1) : Reads w1 A n l := by
  refine ⟨h.1, h.2.1, fun h0 => ?_⟩
  obtain ⟨b, off, e, hc⟩ := h.2.2 h0
  exact ⟨b, off, e, fun j hj => (hb.cell (p := ⟨b, off + j, none⟩) (World.block_lt_of_cell? w _ (hc j hj))).trans (hc j hj)⟩
def nums (l : List Int) : List Value := l.map (Value.int .i64)
theorem own_reads {w : World} {base n : Nat} {e : TypeId} {v : Value} {xs : List Int} (h : w.ownsRow base e 1 v n (nums xs)) (hn : n ≤ 17592186044416) : ∃ A c, v = .slice A n c ∧ Reads w A n xs := by
  have hl : xs.length = n := by have := h.1; simpa [nums] using this
  rcases Nat.eq_zero_or_pos n with h0 | h0
  · subst h0
    rcases h.2 with ⟨rfl, _⟩ | ⟨g, cap, cur, rfl, _⟩
    · exact ⟨none, 0, rfl, hl, by omega, fun hp => absurd hp (by omega)⟩
    · exact ⟨_, cap, rfl, hl, by omega, fun hp => absurd hp (by omega)⟩
  · obtain ⟨g, cap, rfl, _, _⟩ := h.form h0
    refine ⟨_, cap, rfl, hl, hn, fun _ => ⟨g, 0, rfl, fun j hj => ?_⟩⟩
    have := h.cells (g := g) rfl j (.int .i64 (xs[j]?.getD 0)) (by simp [nums, List.getElem?_map, List.getElem?_eq_getElem (show j < xs.length by omega)])
    simp only [Addr.add] at this
    split at this
    · rename_i hj0; subst hj0; simpa using this
    · simpa using this
/-- What is owned lives on behind a call. -/
theorem own_later {w w1 : World} {base n : Nat} {e : TypeId} {size : Nat} {v : Value} {xs : List Value} (h : w.ownsRow base e size v n xs) (hb : Below w.heap.size w w1) : w1.ownsRow base e size v n xs :=
  h.kept (row := none) ⟨hb.os, hb.tape, hb.output, hb.size, fun i hi _ => hb.block i hi⟩ (by cases v.ownBlock <;> simp)
theorem own_base' {w : World} {base n : Nat} {e : TypeId} {size : Nat} {v : Value} {xs : List Value} (h : w.ownsRow base e size v n xs) (k : Nat) (hk : v.ownBlock = some k) : base ≤ k := by
  rcases h.2 with ⟨rfl, _⟩ | ⟨g, cap, cur, rfl, hb, _⟩
  · simp [Value.ownBlock] at hk
  · have : g = k := by simpa [Value.ownBlock] using hk
    omega
/-- What holds now and after whatever leaves these blocks as they are. -/
def Held (w : World) (P : World → Prop) : Prop := ∀ W, Below w.heap.size w W → P W
theorem Held.now {w : World} {P : World → Prop} (h : Held w P) : P w := h w (Below.refl _ _)
theorem Held.next {w w1 : World} {P : World → Prop} (h : Held w P) (hb : Below w.heap.size w w1) : Held w1 P := fun W hW => h W (hb.trans (hW.mono hb.size))
theorem Held.with {w : World} {P Q : World → Prop} (h : Held w P) (hq : Held w Q) : Held w (fun W => P W ∧ Q W) := fun W hW => ⟨h W hW, hq W hW⟩
theorem Held.blk {w : World} {B : Nat} {cs : List Value} (h : Blk w B cs) : Held w (fun W => Blk W B cs) := fun _ hW => h.later hW
theorem Held.reads {w : World} {A : Option Addr} {n : Nat} {l : List Int} (h : Reads w A n l) : Held w (fun W => Reads W A n l) := fun _ hW => h.later hW
theorem Held.from {w0 w : World} {b : Nat} (h : Below b w0 w) (hw : b ≤ w.heap.size) : Held w (fun W => Below b w0 W) := fun _ hW => h.trans (hW.mono hw)
theorem Held.alloc {w : World} {P : World → Prop} (h : Held w P) (o : Obj) : Held (w.alloc o) P := h.next ((Below.refl _ _).alloc (Nat.le_refl _) _)
theorem Held.allocB {w : World} {P : World → Prop} (h : Held w P) (cs : List Value) (t : TypeId) : Held (w.alloc (.cells cs.toArray t)) (fun W => P W ∧ Blk W w.heap.size cs) := (h.alloc _).with (.blk (Blk.new w cs t))
theorem reads3 (w : World) (a b c : Int) (t : TypeId) : Reads (w.alloc (.cells #[.int .i64 a, .int .i64 b, .int .i64 c] t)) (some ⟨w.heap.size, 0, none⟩) 3 [a, b, c] := by
  have k := Blk.new w [.int .i64 a, .int .i64 b, .int .i64 c] t
  refine ⟨rfl, by omega, fun _ => ⟨_, 0, rfl, fun j hj => ?_⟩⟩
  have : j = 0 ∨ j = 1 ∨ j = 2 := by omega
  rcases this with rfl | rfl | rfl
  · exact k.cell 0 _ rfl
  · exact k.cell 1 _ rfl
  · exact k.cell 2 _ rfl
theorem cells_new (w : World) (cs : List Value) (t : TypeId) (B : Nat) (hB : w.heap.size = B) : ∀ j u, cs[j]? = some u → (w.alloc (.cells cs.toArray t)).cell? ((⟨B, 0, none⟩ : Addr).add j) = some u := by
  intro j u h
  subst hB
  rw [WideShapes.add_plain, Nat.zero_add]
  exact (Blk.new w cs t).cell j u h
theorem choose_upto {α : Type} [Inhabited α] {n : Nat} {p : Nat → α → Prop} (h : ∀ i, i < n → ∃ x, p i x) : ∃ l : List α, l.length = n ∧ ∀ i, i < n → ∀ d, p i (l[i]?.getD d) := by
  induction n with
  | zero => exact ⟨[], rfl, fun i hi => by omega⟩
  | succ n ih =>
    obtain ⟨l, hl, hp⟩ := ih (fun i hi => h i (by omega))
    obtain ⟨x, hx⟩ := h n (by omega)
    refine ⟨l ++ [x], by simp [hl], fun i hi d => ?_⟩
    by_cases e : i = n
    · subst e
      rw [List.getElem?_append_right (by omega), hl, Nat.sub_self]
      exact hx
    · rw [List.getElem?_append_left (by omega)]
      exact hp i (by omega) d

end Go.Proofs.Ytpnkbjdeiedhlaa
