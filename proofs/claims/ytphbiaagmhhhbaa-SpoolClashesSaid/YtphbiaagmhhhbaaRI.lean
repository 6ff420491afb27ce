/- What the arguments of the laws are: slices of numbers, slices of measurements. -/
import Derived.Test.YtphbiaagmhhhbaaRH
namespace Go.Proofs.Ytphbiaagmhhhbaa
open Go.RowKit Go.Lib Go.Shelf Go.ChangeShapes Go.WideShapes Go.ChangeAt

/-- A slice that reads as a list of whole numbers, however long. -/
def ReadsAny (w : World) (A : Option Addr) (n : Nat) (l : List Int) : Prop :=
  l.length = n ∧ n ≤ 9223372036854775807 ∧ (0 < n → ∃ b off, A = some ⟨b, off, none⟩ ∧ ∀ j, j < n → w.cell? ⟨b, off + j, none⟩ = some (.int .i64 (l[j]?.getD 0)))
theorem ReadsAny.small {w : World} {A : Option Addr} {n : Nat} {l : List Int} (h : ReadsAny w A n l) (hn : n ≤ 1000) : Reads w A n l := ⟨h.1, by omega, h.2.2⟩
theorem ReadsAny.later {w w1 : World} {A : Option Addr} {n : Nat} {l : List Int} (h : ReadsAny w A n l) (hb : Below w.heap.size w w1) : ReadsAny w1 A n l := by
  refine ⟨h.1, h.2.1, fun h0 => ?_⟩
  obtain ⟨b, off, e, hc⟩ := h.2.2 h0
  exact ⟨b, off, e, fun j hj => (hb.cell (p := ⟨b, off + j, none⟩) (World.block_lt_of_cell? w _ (hc j hj))).trans (hc j hj)⟩

variable {H : Type} {enc : TypeId × Value → H}

set_option maxRecDepth 100000 in
theorem slice_arg {W : World} {base : Nat} {v : Value} {d : DataW H} {p : List MemPlace} (h : Value.okWide Try.prog W .any base 32 v) (hd : DataW.Trod enc Try.prog W 0 (fun _ => true) true 32 v d p) :
    ∃ A n cap l, v = .slice A n cap ∧ ReadsAny W A n l := by
  obtain ⟨A, n, cap, rfl⟩ := okWide_slice Try.underlying32 h
  obtain ⟨fuel, hf⟩ := hd
  rcases open_ints Try.underlying32 Try.underlying3 (by kernel_rfl) hf with ⟨hcs, _⟩ | ⟨a, len, cap', zs, hcs, _, hle, hmax, hall, _, hcell, _⟩
  · simp [Value.cells] at hcs
    obtain ⟨rfl, rfl, rfl⟩ := hcs
    exact ⟨none, 0, 0, [], rfl, rfl, by omega, fun h => absurd h (by omega)⟩
  · simp [Value.cells] at hcs
    obtain ⟨rfl, rfl, rfl⟩ := hcs
    simp only [if_true] at hall
    refine ⟨some a, n, cap, zs.take n, rfl, by rw [List.length_take]; omega, by unfold maxLen at hmax; omega, fun h0 => ?_⟩
    obtain ⟨b, off, rfl, hc⟩ := ints_at hcell (by omega)
    refine ⟨b, off, rfl, fun j hj => ?_⟩
    rw [hc j (by omega), List.getElem?_take_of_lt hj, List.getD_eq_getElem?_getD]

/-- A slice that reads as a list of measurements, however long. -/
def ReadsMAny (w : World) (A : Option Addr) (n : Nat) (l : List (Int × Int)) : Prop :=
  l.length = n ∧ n ≤ 9223372036854775807 ∧ (0 < n → ∃ b off, A = some ⟨b, off, none⟩ ∧ ∀ j, j < n → w.cell? ⟨b, off + j * 2, none⟩ = some (.int .i64 (l[j]?.getD (0, 0)).1) ∧ w.cell? ⟨b, off + j * 2 + 1, none⟩ = some (.int .i64 (l[j]?.getD (0, 0)).2))
theorem ReadsMAny.small {w : World} {A : Option Addr} {n : Nat} {l : List (Int × Int)} (h : ReadsMAny w A n l) (hn : n ≤ 1000) : ReadsM w A n l := ⟨h.1, by omega, h.2.2⟩

theorem choose_upto {α : Type} [Inhabited α] {n : Nat} {p : Nat → α → Prop} (h : ∀ i, i < n → ∃ x, p i x) : ∃ l : List α, l.length = n ∧ ∀ i, i < n → ∀ d, p i (l[i]?.getD d) := by
  induction n with
  | zero => exact ⟨[], rfl, fun i hi => by omega⟩
  | succ n ih =>
    obtain ⟨l, hl, hp⟩ := ih (fun i hi => h i (by omega))
    obtain ⟨x, hx⟩ := h n (by omega)
    refine ⟨l ++ [x], by simp [hl], fun i hi d => ?_⟩
    by_cases e : i = n
    · subst e
      rw [List.getElem?_append_right (by omega), hl, Nat.sub_self]
      exact hx
    · rw [List.getElem?_append_left (by omega)]
      exact hp i (by omega) d

set_option maxRecDepth 100000 in
theorem measures_arg {W : World} {base : Nat} {v : Value} {d : DataW H} {p : List MemPlace} (h : Value.okWide Try.prog W .any base 55 v) (hd : DataW.Trod enc Try.prog W 0 (fun _ => true) true 55 v d p) :
    ∃ A n cap l, v = .slice A n cap ∧ ReadsMAny W A n l := by
  obtain ⟨A, n, cap, rfl⟩ := okWide_slice Try.underlying55 h
  obtain ⟨fuel, hf⟩ := hd
  have h2 : Try.prog.cellsOf 80 = 2 := by kernel_rfl
  have h1 : Try.prog.cellsOf 3 = 1 := by kernel_rfl
  rcases DataW.trod_slice Try.underlying55 hf with ⟨hcs, _⟩ | ⟨a, len, cap', elems, rest, m, _, hcs, _, _, hle, hmax, hlen, hel, _, _⟩
  · simp [Value.cells] at hcs
    obtain ⟨rfl, rfl, rfl⟩ := hcs
    exact ⟨none, 0, 0, [], rfl, rfl, by omega, fun h => absurd h (by omega)⟩
  · simp [Value.cells] at hcs
    obtain ⟨rfl, rfl, rfl⟩ := hcs
    have key : ∀ j, j < n → ∃ x : Int × Int, W.cell? (a.add (j * 2)) = some (.int .i64 x.1) ∧ W.cell? ((a.add (j * 2)).add 1) = some (.int .i64 x.2) := by
      intro j hj
      have hj' := hel j hj
      rw [h2, List.getElem?_eq_getElem (by omega), Option.bind_eq_some_iff] at hj'
      obtain ⟨cs, hcs, hst⟩ := hj'
      obtain ⟨y0, y1, k, _, hcl, f0, f1⟩ := trod_struct2 Try.underlying80 hst
      have c := (World.cells?_some hcs).2.2
      rw [h1] at f0 f1
      obtain ⟨z0, e0, _, _⟩ := DataW.trod_int Try.underlying3 f0
      obtain ⟨z1, e1, _, _⟩ := DataW.trod_int Try.underlying3 f1
      rw [h2] at hcl
      match cs, hcl with
      | [a0, a1], _ =>
        simp at e0 e1
        subst e0 e1
        have c0 := c 0 (by omega)
        have c1 := c 1 (by omega)
        refine ⟨(z0, z1), ?_, c1⟩
        simpa [Addr.add] using c0
    obtain ⟨l, hl, hp⟩ := choose_upto key
    refine ⟨some a, n, cap, l, rfl, hl, by unfold maxLen at hmax; omega, fun h0 => ?_⟩
    obtain ⟨b, off, spot⟩ := a
    have hspot : spot = none := by
      have := (hp 0 h0 (0, 0)).1
      simpa [Addr.add] using World.cell?_spot this
    subst hspot
    refine ⟨b, off, rfl, fun j hj => ?_⟩
    have := hp j hj (0, 0)
    rw [WideShapes.add_plain, WideShapes.add_plain] at this
    exact this
end Go.Proofs.Ytphbiaagmhhhbaa
