/- What the arguments of the laws are: codes, whole numbers, fractions, lines. -/
import Derived.Test.YtjncoableanmpaaSX
import Derived.Deep.CutRange
namespace Go.Proofs.Ytjncoableanmpaa
open Go.RowKit Go.Lib Go.Shelf Go.ChangeShapes Go.WideShapes Go.ChangeAt

variable {H : Type} {enc : TypeId × Value → H}

set_option maxRecDepth 100000 in
theorem codes_arg {W : World} {base : Nat} {v : Value} {d : DataW H} {p : List MemPlace} (h : Value.okWide Try.prog W .any base 22 v) (hd : DataW.Trod enc Try.prog W 0 (fun _ => true) true 22 v d p) :
    ∃ A n cap l, v = .slice A n cap ∧ n ≤ 9223372036854775807 ∧ n ≤ cap ∧ (n ≤ 1000000 → ReadsC W A n l) := by
  obtain ⟨A, n, cap, rfl⟩ := okWide_slice Try.underlying22 h
  obtain ⟨fuel, hf⟩ := hd
  have h3 : Try.prog.cellsOf 68 = 3 := by kernel_rfl
  have h2 : Try.prog.cellsOf 66 = 2 := by kernel_rfl
  have h1 : Try.prog.cellsOf 3 = 1 := by kernel_rfl
  rcases DataW.trod_slice Try.underlying22 hf with ⟨hcs, _⟩ | ⟨a, len, cap', elems, rest, m, _, hcs, _, _, hle, hmax, hlen, hel, _, _⟩
  · simp [Value.cells] at hcs
    obtain ⟨rfl, rfl, rfl⟩ := hcs
    exact ⟨none, 0, 0, [], rfl, by omega, by omega, fun _ => ⟨rfl, by omega, fun h => absurd h (by omega)⟩⟩
  · simp [Value.cells] at hcs
    obtain ⟨rfl, rfl, rfl⟩ := hcs
    have key : ∀ j, j < n → ∃ x : Cd, W.cell? (a.add (j * 3)) = some (.int .i64 x.1) ∧ W.cell? ((a.add (j * 3)).add 1) = some (.int .i64 x.2.1) ∧ W.cell? ((a.add (j * 3)).add 2) = some (.int .i64 x.2.2) := by
      intro j hj
      have hj' := hel j hj
      rw [h3, List.getElem?_eq_getElem (by omega), Option.bind_eq_some_iff] at hj'
      obtain ⟨cs, hcs, hst⟩ := hj'
      obtain ⟨y0, y1, k, _, hcl, f0, f1⟩ := trod_struct2 Try.underlying68 hst
      have c := (World.cells?_some hcs).2.2
      rw [h1] at f0
      rw [h2] at f1
      obtain ⟨g0, g1, k', _, hcl', f2, f3⟩ := trod_struct2 Try.underlying66 f1
      rw [h1] at f2 f3
      obtain ⟨z0, e0, _, _⟩ := DataW.trod_int Try.underlying3 f0
      obtain ⟨z1, e1, _, _⟩ := DataW.trod_int Try.underlying3 f2
      obtain ⟨z2, e2, _, _⟩ := DataW.trod_int Try.underlying3 f3
      rw [h3] at hcl
      match cs, hcl with
      | [a0, a1, a2], _ =>
        simp at e0 e1 e2
        subst e0 e1 e2
        have c0 := c 0 (by omega)
        have c1 := c 1 (by omega)
        have c2 := c 2 (by omega)
        refine ⟨(z0, z1, z2), ?_, c1, c2⟩
        simpa [Addr.add] using c0
    obtain ⟨l, hl, hp⟩ := choose_upto key
    refine ⟨some a, n, cap, l, rfl, by unfold maxLen at hmax; omega, hle, fun hn => ⟨hl, by omega, fun h0 => ?_⟩⟩
    obtain ⟨b, off, spot⟩ := a
    have hspot : spot = none := by
      have := (hp 0 h0 (0, 0, 0)).1
      simpa [Addr.add] using World.cell?_spot this
    subst hspot
    refine ⟨b, off, rfl, fun j hj => ?_⟩
    have := hp j hj (0, 0, 0)
    rw [WideShapes.add_plain, WideShapes.add_plain, WideShapes.add_plain] at this
    exact this

set_option maxRecDepth 100000 in
theorem ints_arg {W : World} {base : Nat} {v : Value} {d : DataW H} {p : List MemPlace} (h : Value.okWide Try.prog W .any base 38 v) (hd : DataW.Trod enc Try.prog W 0 (fun _ => true) true 38 v d p) :
    ∃ A n cap l, v = .slice A n cap ∧ n ≤ 9223372036854775807 ∧ n ≤ cap ∧ (n ≤ 1000000 → Reads W A n l) := by
  obtain ⟨A, n, cap, rfl⟩ := okWide_slice Try.underlying38 h
  obtain ⟨fuel, hf⟩ := hd
  rcases open_ints Try.underlying38 Try.underlying3 (by kernel_rfl) hf with ⟨hcs, _⟩ | ⟨a, len, cap', zs, hcs, _, hle, hmax, hall, _, hcell, _⟩
  · simp [Value.cells] at hcs
    obtain ⟨rfl, rfl, rfl⟩ := hcs
    exact ⟨none, 0, 0, [], rfl, by omega, by omega, fun _ => ⟨rfl, by omega, fun h => absurd h (by omega)⟩⟩
  · simp [Value.cells] at hcs
    obtain ⟨rfl, rfl, rfl⟩ := hcs
    simp only [if_true] at hall
    refine ⟨some a, n, cap, zs.take n, rfl, by unfold maxLen at hmax; omega, hle, fun hn => ⟨by rw [List.length_take]; omega, by omega, fun h0 => ?_⟩⟩
    obtain ⟨b, off, rfl, hc⟩ := ints_at hcell (by omega)
    refine ⟨b, off, rfl, fun j hj => ?_⟩
    rw [hc j (by omega), List.getElem?_take_of_lt hj, List.getD_eq_getElem?_getD]

set_option maxRecDepth 100000 in
theorem int_cells {W : World} {base : Nat} {t : TypeId} {v : Value} {ts : List TypeId} (h : ∃ cs, v = .agg cs ∧ cs.size = Try.prog.cellsOf t ∧ Row.okWide Try.prog W .any base t cs) (hts : Try.prog.cellTypes Try.prog.depth t = some ts) (hall : ∀ u ∈ ts, u = 3) :
    ∃ l : List Int, v = .agg (l.map (Value.int .i64)).toArray ∧ l.length = Try.prog.cellsOf t := by
  obtain ⟨cs, rfl, hs, ts', hts', _, hc⟩ := h
  rw [hts] at hts'
  cases hts'
  have hv : ∀ x ∈ cs.toList, ∃ n, x = .int .i64 n := by
    intro x hx
    obtain ⟨i, hi, rfl⟩ := List.getElem_of_mem hx
    obtain ⟨u, hu, ho⟩ := hc i cs.toList[i] (by simp at hi; simp [hi])
    have h3 : u = 3 := hall u (List.mem_of_getElem? hu)
    subst h3
    refine okWide_int (P := Try.prog) (w := W) (r := .any) (base := base) Try.underlying3 ?_
    unfold Value.okWide
    rw [Try.underlying3]
    exact ho
  have hl : ∀ l : List Value, (∀ x ∈ l, ∃ n, x = .int .i64 n) → ∃ k : List Int, l = k.map (Value.int .i64) := by
    intro l
    induction l with
    | nil => exact fun _ => ⟨[], rfl⟩
    | cons x xs ih =>
      intro h
      obtain ⟨n, rfl⟩ := h x (by simp)
      obtain ⟨k, rfl⟩ := ih (fun y hy => h y (by simp [hy]))
      exact ⟨n :: k, rfl⟩
  obtain ⟨k, hk⟩ := hl cs.toList hv
  refine ⟨k, by rw [← hk], ?_⟩
  rw [← hs]
  have := congrArg List.length hk
  simp at this
  omega
set_option maxRecDepth 100000 in
theorem line_arg {W : World} {base : Nat} {v : Value} (h : Value.okWide Try.prog W .any base 26 v) : ∃ a b c d, v = .agg #[.int .i64 a, .int .i64 b, .int .i64 c, .int .i64 d] := by
  have h' : ∃ cs, v = .agg cs ∧ cs.size = Try.prog.cellsOf 26 ∧ Row.okWide Try.prog W .any base 26 cs := by
    unfold Value.okWide at h
    simpa only [Try.underlying26] using h
  obtain ⟨l, rfl, hl⟩ := int_cells h' (ts := [3, 3, 3, 3]) (by kernel_rfl) (by simp)
  have h4 : Try.prog.cellsOf 26 = 4 := by kernel_rfl
  rw [h4] at hl
  match l, hl with
  | [a, b, c, d], _ => exact ⟨a, b, c, d, rfl⟩
set_option maxRecDepth 100000 in
theorem ratio_arg {W : World} {base : Nat} {v : Value} (h : Value.okWide Try.prog W .any base 24 v) : ∃ a b, v = .agg #[.int .i64 a, .int .i64 b] := by
  have h' : ∃ cs, v = .agg cs ∧ cs.size = Try.prog.cellsOf 24 ∧ Row.okWide Try.prog W .any base 24 cs := by
    unfold Value.okWide at h
    simpa only [Try.underlying24] using h
  obtain ⟨l, rfl, hl⟩ := int_cells h' (ts := [3, 3]) (by kernel_rfl) (by simp)
  have h4 : Try.prog.cellsOf 24 = 2 := by kernel_rfl
  rw [h4] at hl
  match l, hl with
  | [a, b], _ => exact ⟨a, b, rfl⟩
end Go.Proofs.Ytjncoableanmpaa
