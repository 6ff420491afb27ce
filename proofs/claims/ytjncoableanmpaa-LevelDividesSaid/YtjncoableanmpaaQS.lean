/- The rows that the reference's Divide makes. -/
import Derived.Test.YtjncoableanmpaaQR
import Derived.Test.YtjncoableanmpaaQQ
import Derived.Test.YtjncoableanmpaaPM
namespace Go.Proofs.Ytjncoableanmpaa
open Go.RowKit Go.Lib Go.Shelf

theorem info24 : (Try.prog.info? 24).map (fun i => (i.zero, i.size, i.bytes)) = some (some (.agg #[.int .i64 0, .int .i64 0]), 2, 16) := by kernel_rfl
theorem info38 : (Try.prog.info? 38).map (fun i => (i.zero, i.size, i.bytes)) = some (some (.slice none 0 0), 1, 24) := by kernel_rfl
theorem zeros2 (N j : Nat) (hj : j < N) : (madeCells #[Value.int .i64 0, .int .i64 0] N).toList[j]? = some (.int .i64 0) := by
  have h : j % 2 = 0 ∨ j % 2 = 1 := by omega
  rcases h with h | h <;> simp [madeCells, hj, h]
theorem mk72 {n : Nat} (hn : n ≤ 1000) : ∃ cs : List Value, (cs.length = (n + 1) * 2 ∧ ∀ j, j < (n + 1) * 2 → cs[j]? = some (.int .i64 0)) ∧ ∀ w, (Instr.makeSlice 72 (.int .i64 ((n : Int) + 1)) (.int .i64 ((n : Int) + 1))).run Try.prog w = .ok (.slice (some ⟨w.heap.size, 0, none⟩) (n + 1) (n + 1)) (w.alloc (.cells cs.toArray 24)) := by
  obtain ⟨i0, hi, hz0, hz1, hz2⟩ := info_parts info24
  refine ⟨(madeCells (Value.agg #[.int .i64 0, .int .i64 0]).cells ((n + 1) * 2)).toList, ⟨by simp [size_madeCells], fun j hj => zeros2 _ j hj⟩, fun w => ?_⟩
  have := run_make (P := Try.prog) w 72 24 i0 _ Try.underlying72 hi hz0 .i64 .i64 ((n : Int) + 1) ((n : Int) + 1) (by omega) (by omega) (by rw [hz2]; omega) (by omega)
  rw [hz1, show ((n : Int) + 1).toNat = n + 1 by omega] at this
  simpa using this
theorem mk110 {n : Nat} (hn : n ≤ 1000) : ∃ cs : List Value, (cs.length = n + 1 ∧ ∀ j, j < n + 1 → cs[j]? = some (.slice none 0 0)) ∧ ∀ w, (Instr.makeSlice 110 (.int .i64 ((n : Int) + 1)) (.int .i64 ((n : Int) + 1))).run Try.prog w = .ok (.slice (some ⟨w.heap.size, 0, none⟩) (n + 1) (n + 1)) (w.alloc (.cells cs.toArray 38)) := by
  obtain ⟨i0, hi, hz0, hz1, hz2⟩ := info_parts info38
  refine ⟨(madeCells (Value.slice none 0 0).cells ((n + 1) * 1)).toList, ⟨by simp [size_madeCells], fun j hj => by
    show (madeCells #[Value.slice none 0 0] ((n + 1) * 1)).toList[j]? = _
    rw [toList_madeCells_one, List.getElem?_replicate, if_pos (by omega)]⟩, fun w => ?_⟩
  have := run_make (P := Try.prog) w 110 38 i0 _ Try.underlying110 hi hz0 .i64 .i64 ((n : Int) + 1) ((n : Int) + 1) (by omega) (by omega) (by rw [hz2]; omega) (by omega)
  rw [hz1, show ((n : Int) + 1).toNat = n + 1 by omega] at this
  simpa using this
/-- A row of fractions: column e holds v e. -/
def Row2 (W : World) (B n : Nat) (v : Nat → Int × Int) : Prop := ∃ ds : List Value, ds.length = (n + 1) * 2 ∧ Blk W B ds ∧ ∀ e, e ≤ n → ds[e * 2]? = some (.int .i64 (v e).1) ∧ ds[e * 2 + 1]? = some (.int .i64 (v e).2)
section
variable {W W' : World} {B n : Nat} {v : Nat → Int × Int}
theorem Row2.later (h : Row2 W B n v) (hb : Below W.heap.size W W') : Row2 W' B n v := by
  obtain ⟨ds, h1, h2, h3⟩ := h
  exact ⟨ds, h1, h2.later hb, h3⟩
theorem Row2.at (h : Row2 W B n v) {e : Nat} (he : e ≤ n) : (W.cell? ⟨B, e * 2, none⟩ = some (.int .i64 (v e).1) ∧ W.cell? ⟨B, e * 2 + 1, none⟩ = some (.int .i64 (v e).2)) ∧ W.frozen? ⟨B, e * 2, none⟩ = false ∧ W.frozen? ⟨B, e * 2 + 1, none⟩ = false := by
  obtain ⟨ds, h1, h2, h3⟩ := h
  exact ⟨⟨h2.cell _ _ (h3 e he).1, h2.cell _ _ (h3 e he).2⟩, h2.free _, h2.free _⟩
theorem Row2.lt (h : Row2 W B n v) : B < W.heap.size := by
  obtain ⟨ds, h1, h2, h3⟩ := h
  exact h2.lt
theorem Row2.other (h : Row2 W B n v) {B' : Nat} (hne : B' ≠ B) (i : Nat) (x : Value) : Row2 (W.setCell ⟨B', i, none⟩ x) B n v := by
  obtain ⟨ds, h1, h2, h3⟩ := h
  exact ⟨ds, h1, h2.other hne _ _, h3⟩
theorem Row2.set (h : Row2 W B n v) {e : Nat} (he : e ≤ n) (x : Int × Int) : Row2 ((W.setCell ⟨B, e * 2, none⟩ (.int .i64 x.1)).setCell ⟨B, e * 2 + 1, none⟩ (.int .i64 x.2)) B n (upd v e x) := by
  obtain ⟨ds, h1, h2, h3⟩ := h
  refine ⟨(ds.set (e * 2) (.int .i64 x.1)).set (e * 2 + 1) (.int .i64 x.2), by simp [h1], (h2.set (e * 2) (by omega) _).set (e * 2 + 1) (by simp; omega) _, fun i hi => ?_⟩
  by_cases hie : i = e
  · subst hie
    rw [upd_same, List.getElem?_set_ne (by omega), List.getElem?_set_self (by omega), List.getElem?_set_self (by simp; omega)]
    exact ⟨rfl, rfl⟩
  · rw [upd_ne _ _ hie, List.getElem?_set_ne (by omega), List.getElem?_set_ne (by omega), List.getElem?_set_ne (by omega), List.getElem?_set_ne (by omega)]
    exact h3 i hi
end
theorem row2_new {W : World} {n : Nat} {cs : List Value} (h : cs.length = (n + 1) * 2 ∧ ∀ j, j < (n + 1) * 2 → cs[j]? = some (.int .i64 0)) (t : TypeId) : Row2 (W.alloc (.cells cs.toArray t)) W.heap.size n (fun _ => (0, 0)) :=
  ⟨cs, h.1, Blk.new W cs t, fun e he => ⟨h.2 _ (by omega), h.2 _ (by omega)⟩⟩
/-- A slice that reads as some list of whole numbers, not long, not in these two blocks. -/
def Lies (W : World) (k B1 B2 : Nat) (x : Value) : Prop := ∃ A m c xs, x = .slice A m c ∧ Reads W A m xs ∧ m ≤ k ∧ m ≤ c ∧ ∀ a, A = some a → a.block ≠ B1 ∧ a.block ≠ B2
/-- A row of slices: each reads as some list. -/
def RowS (W : World) (B n : Nat) (sv : Nat → Value) : Prop := ∃ ds : List Value, ds.length = n + 1 ∧ Blk W B ds ∧ ∀ e, e ≤ n → ds[e]? = some (sv e)
section
variable {W W' : World} {B n : Nat} {sv : Nat → Value}
theorem RowS.later (h : RowS W B n sv) (hb : Below W.heap.size W W') : RowS W' B n sv := by
  obtain ⟨ds, h1, h2, h3⟩ := h
  exact ⟨ds, h1, h2.later hb, h3⟩
theorem RowS.at (h : RowS W B n sv) {e : Nat} (he : e ≤ n) : W.cell? ⟨B, e, none⟩ = some (sv e) ∧ W.frozen? ⟨B, e, none⟩ = false := by
  obtain ⟨ds, h1, h2, h3⟩ := h
  exact ⟨h2.cell _ _ (h3 e he), h2.free _⟩
theorem RowS.lt (h : RowS W B n sv) : B < W.heap.size := by
  obtain ⟨ds, h1, h2, h3⟩ := h
  exact h2.lt
theorem RowS.other (h : RowS W B n sv) {B' : Nat} (hne : B' ≠ B) (i : Nat) (x : Value) : RowS (W.setCell ⟨B', i, none⟩ x) B n sv := by
  obtain ⟨ds, h1, h2, h3⟩ := h
  exact ⟨ds, h1, h2.other hne _ _, h3⟩
theorem RowS.set (h : RowS W B n sv) {e : Nat} (he : e ≤ n) (x : Value) : RowS (W.setCell ⟨B, e, none⟩ x) B n (upd sv e x) := by
  obtain ⟨ds, h1, h2, h3⟩ := h
  refine ⟨ds.set e x, by simp [h1], h2.set e (by omega) _, fun i hi => ?_⟩
  by_cases hie : i = e
  · subst hie
    rw [upd_same, List.getElem?_set_self (by omega)]
  · rw [upd_ne _ _ hie, List.getElem?_set_ne (by omega)]
    exact h3 i hi
theorem rowS_new {W : World} {n : Nat} {cs : List Value} (h : cs.length = n + 1 ∧ ∀ j, j < n + 1 → cs[j]? = some (.slice none 0 0)) (t : TypeId) : RowS (W.alloc (.cells cs.toArray t)) W.heap.size n (fun _ => .slice none 0 0) :=
  ⟨cs, h.1, Blk.new W cs t, fun e he => h.2 _ (by omega)⟩
end
theorem Lies.nil (W : World) (k B1 B2 : Nat) : Lies W k B1 B2 (.slice none 0 0) := ⟨none, 0, 0, [], rfl, ⟨rfl, by omega, fun h => absurd h (by omega)⟩, by omega, by omega, fun a h => by cases h⟩
theorem Lies.later {W W' : World} {k B1 B2 : Nat} {x : Value} (h : Lies W k B1 B2 x) (hb : Below W.heap.size W W') : Lies W' k B1 B2 x := by
  obtain ⟨A, m, c, xs, e, hr, h1, h2, h3⟩ := h
  exact ⟨A, m, c, xs, e, hr.later hb, h1, h2, h3⟩
end Go.Proofs.Ytjncoableanmpaa
