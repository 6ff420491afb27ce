/- What the arguments of the laws are: bytes, lists of numbers, records, records by numbers. -/
import Derived.Test.YtpnkbjdeiedhlaaSX
import Derived.Deep.CutRange
import Derived.Deep.Strs
namespace Go.Proofs.Ytpnkbjdeiedhlaa
open Go.RowKit Go.Lib Go.Shelf Go.ChangeShapes Go.WideShapes Go.ChangeAt

variable {H : Type} {enc : TypeId × Value → H}

theorem byte_of {W : World} {fuel : Nat} {cs : List Value} {y : DataW H × List MemPlace} (h : DataW.trod enc Try.prog W 0 (fun _ => true) true fuel 5 cs = some y) : ∃ n : Nat, cs = [.int .u8 (n : Int)] ∧ n ≤ 255 := by
  obtain ⟨n, hcs, _, hw⟩ := DataW.trod_int Try.underlying5 h
  obtain ⟨h0, h1⟩ := bounds_u8 hw
  obtain ⟨k, rfl⟩ := Int.eq_ofNat_of_zero_le h0
  exact ⟨k, hcs, by omega⟩
set_option maxRecDepth 100000 in
theorem byte_arg {W : World} {base : Nat} {v : Value} {d : DataW H} {p : List MemPlace} (h : Value.okWide Try.prog W .any base 5 v) (hd : DataW.Trod enc Try.prog W 0 (fun _ => true) true 5 v d p) : ∃ n : Nat, v = .int .u8 (n : Int) ∧ n ≤ 255 := by
  obtain ⟨n, rfl⟩ := okWide_int Try.underlying5 h
  obtain ⟨fuel, hf⟩ := hd
  obtain ⟨m, hm, h0⟩ := byte_of hf
  have e : n = m := by simpa [Value.cells] using hm
  subst e
  exact ⟨m, rfl, h0⟩
set_option maxRecDepth 100000 in
theorem bytes3_arg {W : World} {base : Nat} {v : Value} {d : DataW H} {p : List MemPlace} (h : Value.okWide Try.prog W .any base 69 v) (hd : DataW.Trod enc Try.prog W 0 (fun _ => true) true 69 v d p) :
    ∃ a b c : Nat, v = .agg #[.int .u8 (a : Int), .int .u8 (b : Int), .int .u8 (c : Int)] ∧ a ≤ 255 ∧ b ≤ 255 ∧ c ≤ 255 := by
  have h' : ∃ cs, v = .agg cs ∧ cs.size = Try.prog.cellsOf 69 ∧ Row.okWide Try.prog W .any base 69 cs := by
    unfold Value.okWide at h
    simpa only [Try.underlying69] using h
  obtain ⟨cs, rfl, hl, _⟩ := h'
  obtain ⟨fuel, hf⟩ := hd
  have h1 : Try.prog.cellsOf 5 = 1 := by kernel_rfl
  have h2 : Try.prog.cellsOf 69 = 3 := by kernel_rfl
  obtain ⟨ys, k, _, _, _, hy, ha⟩ := DataW.trod_array Try.underlying69 hf
  have a0 := ha 0 (by omega)
  have a1 := ha 1 (by omega)
  have a2 := ha 2 (by omega)
  rw [List.getElem?_eq_getElem (by omega)] at a0 a1 a2
  obtain ⟨x0, c0, r0⟩ := byte_of a0
  obtain ⟨x1, c1, r1⟩ := byte_of a1
  obtain ⟨x2, c2, r2⟩ := byte_of a2
  rw [h1] at c0 c1 c2
  rw [h2] at hl
  refine ⟨x0, x1, x2, ?_, r0, r1, r2⟩
  have hc : (Value.agg cs).cells.toList = cs.toList := rfl
  rw [hc] at c0 c1 c2
  have hl2 : cs.toList.length = 3 := by simpa using hl
  obtain ⟨l⟩ := cs
  match l, hl2 with
  | [z0, z1, z2], _ =>
    simp at c0 c1 c2
    subst c0 c1 c2
    rfl
theorem reads_of {W : World} {fuel : Nat} {A : Option Addr} {n cap : Nat} {y : DataW H × List MemPlace} (hf : DataW.trod enc Try.prog W 0 (fun _ => true) true fuel 31 [.slice A n cap] = some y) :
    ∃ l, n ≤ 9223372036854775807 ∧ n ≤ cap ∧ (n ≤ 1000000 → Reads W A n l) := by
  rcases open_ints Try.underlying31 Try.underlying3 (by kernel_rfl) hf with ⟨hcs, _⟩ | ⟨a, len, cap', zs, hcs, _, hle, hmax, hall, _, hcell, _⟩
  · cases hcs
    exact ⟨[], by omega, by omega, fun _ => ⟨rfl, by omega, fun h => absurd h (by omega)⟩⟩
  · cases hcs
    simp only [if_true] at hall
    refine ⟨zs.take n, by unfold maxLen at hmax; omega, hle, fun hn => ⟨by rw [List.length_take]; omega, by omega, fun h0 => ?_⟩⟩
    obtain ⟨b, off, rfl, hc⟩ := ints_at hcell (by omega)
    refine ⟨b, off, rfl, fun j hj => ?_⟩
    rw [hc j (by omega), List.getElem?_take_of_lt hj, List.getD_eq_getElem?_getD]
set_option maxRecDepth 100000 in
theorem ints_arg {W : World} {base : Nat} {v : Value} {d : DataW H} {p : List MemPlace} (h : Value.okWide Try.prog W .any base 31 v) (hd : DataW.Trod enc Try.prog W 0 (fun _ => true) true 31 v d p) :
    ∃ A n cap l, v = .slice A n cap ∧ n ≤ 9223372036854775807 ∧ n ≤ cap ∧ (n ≤ 1000000 → Reads W A n l) := by
  obtain ⟨A, n, cap, rfl⟩ := okWide_slice Try.underlying31 h
  obtain ⟨fuel, hf⟩ := hd
  obtain ⟨l, h1, h2, h3⟩ := reads_of hf
  exact ⟨A, n, cap, l, rfl, h1, h2, h3⟩
/-- A slice that reads as a list of bytes. -/
def ReadsB (w : World) (A : Option Addr) (n : Nat) (l : List Nat) : Prop :=
  l.length = n ∧ n ≤ 9223372036854775807 ∧ (∀ x ∈ l, x ≤ 255) ∧ (0 < n → ∃ b off, A = some ⟨b, off, none⟩ ∧ ∀ j, j < n → w.cell? ⟨b, off + j, none⟩ = some (.int .u8 ((l[j]?.getD 0 : Nat) : Int)))
theorem ReadsB.later {w w1 : World} {A : Option Addr} {n : Nat} {l : List Nat} (h : ReadsB w A n l) (hb : Below w.heap.size w w1) : ReadsB w1 A n l := by
  refine ⟨h.1, h.2.1, h.2.2.1, fun h0 => ?_⟩
  obtain ⟨b, off, e, hc⟩ := h.2.2.2 h0
  exact ⟨b, off, e, fun j hj => (hb.cell (p := ⟨b, off + j, none⟩) (World.block_lt_of_cell? w _ (hc j hj))).trans (hc j hj)⟩
theorem Held.readsB {w : World} {A : Option Addr} {n : Nat} {l : List Nat} (h : ReadsB w A n l) : Held w (fun W => ReadsB W A n l) := fun _ hW => h.later hW
theorem readsB_of {W : World} {fuel : Nat} {A : Option Addr} {n cap : Nat} {y : DataW H × List MemPlace} (hf : DataW.trod enc Try.prog W 0 (fun _ => true) true fuel 51 [.slice A n cap] = some y) : ∃ l, ReadsB W A n l := by
  rcases open_ints Try.underlying51 Try.underlying5 (by kernel_rfl) hf with ⟨hcs, _⟩ | ⟨a, len, cap', zs, hcs, _, hle, hmax, hall, _, hcell, hwf⟩
  · cases hcs
    exact ⟨[], rfl, by omega, fun x hx => by simp at hx, fun h => absurd h (by omega)⟩
  · cases hcs
    simp only [if_true] at hall
    refine ⟨(zs.take n).map Int.toNat, by rw [List.length_map, List.length_take]; omega, by unfold maxLen at hmax; omega, fun x hx => ?_, fun h0 => ?_⟩
    · rw [List.mem_map] at hx
      obtain ⟨z, hz, rfl⟩ := hx
      have := bounds_u8 (hwf z (List.mem_of_mem_take hz))
      omega
    · obtain ⟨b, off, rfl, hc⟩ := ints_at hcell (by omega)
      refine ⟨b, off, rfl, fun j hj => ?_⟩
      have hz := bounds_u8 (hwf zs[j] (List.getElem_mem (by omega)))
      rw [hc j (by omega), List.getElem?_map, List.getElem?_take_of_lt hj, List.getD_eq_getElem?_getD, List.getElem?_eq_getElem (by omega)]
      show some (Value.int .u8 zs[j]) = some (.int .u8 (((zs[j]).toNat : Nat) : Int))
      rw [show (((zs[j]).toNat : Nat) : Int) = zs[j] by omega]
set_option maxRecDepth 100000 in
theorem bytes_arg {W : World} {base : Nat} {v : Value} {d : DataW H} {p : List MemPlace} (h : Value.okWide Try.prog W .any base 51 v) (hd : DataW.Trod enc Try.prog W 0 (fun _ => true) true 51 v d p) :
    ∃ A n cap l, v = .slice A n cap ∧ ReadsB W A n l := by
  obtain ⟨A, n, cap, rfl⟩ := okWide_slice Try.underlying51 h
  obtain ⟨fuel, hf⟩ := hd
  obtain ⟨l, h1⟩ := readsB_of hf
  exact ⟨A, n, cap, l, rfl, h1⟩
/-- A record by numbers as it lies. -/
abbrev trial (N L : Nat) (A : Option Addr) (n c : Nat) : Value := .agg #[.int .u8 (N : Int), .int .u8 (L : Int), .slice A n c]
set_option maxRecDepth 100000 in
theorem trial_arg {W : World} {base : Nat} {v : Value} {d : DataW H} {p : List MemPlace} (h : Value.okWide Try.prog W .any base 53 v) (hd : DataW.Trod enc Try.prog W 0 (fun _ => true) true 53 v d p) :
    ∃ N L A n c l, v = trial N L A n c ∧ (N ≤ 255 ∧ L ≤ 255) ∧ ReadsB W A n l := by
  obtain ⟨cs, rfl, hl⟩ := okWide_struct Try.underlying53 h
  obtain ⟨fuel, hf⟩ := hd
  have h3 : Try.prog.cellsOf 53 = 3 := by kernel_rfl
  have h1 : Try.prog.cellsOf 5 = 1 := by kernel_rfl
  have h2 : Try.prog.cellsOf 51 = 1 := by kernel_rfl
  obtain ⟨y0, y1, y2, k, _, hcl, f0, f1, f2⟩ := Go.Deep.trod_struct3 Try.underlying53 hf
  rw [h3] at hl
  rw [h1] at f0 f1
  rw [h2] at f2
  have hc : (Value.agg cs).cells.toList = cs.toList := rfl
  rw [hc] at f0 f1 f2
  have hl2 : cs.toList.length = 3 := by simpa using hl
  obtain ⟨l⟩ := cs
  match l, hl2 with
  | [z0, z1, z2], _ =>
    have f0 : DataW.trod enc Try.prog W 0 (fun _ => true) true k 5 [z0] = some y0 := f0
    have f1 : DataW.trod enc Try.prog W 0 (fun _ => true) true k 5 [z1] = some y1 := f1
    have f2 : DataW.trod enc Try.prog W 0 (fun _ => true) true k 51 [z2] = some y2 := f2
    obtain ⟨x0, e0, r0⟩ := byte_of f0
    obtain ⟨x1, e1, r1⟩ := byte_of f1
    cases e0
    cases e1
    rcases DataW.trod_slice Try.underlying51 f2 with ⟨hcs, _⟩ | ⟨a, len, cap', elems, rest, m, _, hcs, _⟩
    · cases hcs
      obtain ⟨l, hr⟩ := readsB_of f2
      exact ⟨x0, x1, _, _, _, l, rfl, ⟨r0, r1⟩, hr⟩
    · cases hcs
      obtain ⟨l, hr⟩ := readsB_of f2
      exact ⟨x0, x1, _, _, _, l, rfl, ⟨r0, r1⟩, hr⟩
/-- A slice that reads as a list of tests, with how long their strips are; they may be too long to be read. -/
def ReadsR (w : World) (A : Option Addr) (n : Nat) (l : List (Nat × Tst)) : Prop :=
  l.length = n ∧ n ≤ 9223372036854775807 ∧ (0 < n → ∃ b off, A = some ⟨b, off, none⟩ ∧ ∀ j, j < n → (∃ B c, w.cell? ⟨b, off + j * 2, none⟩ = some (.slice B (l[j]?.getD (0, ⟨[], false⟩)).1 c) ∧ ((l[j]?.getD (0, ⟨[], false⟩)).1 ≤ 1000000 → Reads w B (l[j]?.getD (0, ⟨[], false⟩)).1 (l[j]?.getD (0, ⟨[], false⟩)).2.strip) ∧ (l[j]?.getD (0, ⟨[], false⟩)).1 ≤ c ∧ (l[j]?.getD (0, ⟨[], false⟩)).1 ≤ 9223372036854775807) ∧ w.cell? ⟨b, off + j * 2 + 1, none⟩ = some (.bool (l[j]?.getD (0, ⟨[], false⟩)).2.ans))
theorem ReadsR.later {w w1 : World} {A : Option Addr} {n : Nat} {l : List (Nat × Tst)} (h : ReadsR w A n l) (hb : Below w.heap.size w w1) : ReadsR w1 A n l := by
  refine ⟨h.1, h.2.1, fun h0 => ?_⟩
  obtain ⟨b, off, e, hc⟩ := h.2.2 h0
  refine ⟨b, off, e, fun j hj => ?_⟩
  obtain ⟨⟨B, c, h1, h2, h3⟩, h4⟩ := hc j hj
  exact ⟨⟨B, c, (hb.cell (p := ⟨b, off + j * 2, none⟩) (World.block_lt_of_cell? w _ h1)).trans h1, fun h => (h2 h).later hb, h3⟩, (hb.cell (p := ⟨b, off + j * 2 + 1, none⟩) (World.block_lt_of_cell? w _ h4)).trans h4⟩
theorem Held.readsR {w : World} {A : Option Addr} {n : Nat} {l : List (Nat × Tst)} (h : ReadsR w A n l) : Held w (fun W => ReadsR W A n l) := fun _ hW => h.later hW
/-- Not too long: it reads as tests. -/
theorem ReadsR.tests {w : World} {A : Option Addr} {n : Nat} {l : List (Nat × Tst)} (h : ReadsR w A n l) (hn : n ≤ 1000000) (hm : ∀ x ∈ l, x.1 ≤ 1000000) : ReadsT w A n (l.map (·.2)) := by
  refine ⟨by rw [List.length_map]; exact h.1, by omega, fun h0 => ?_⟩
  obtain ⟨b, off, e, hc⟩ := h.2.2 h0
  refine ⟨b, off, e, fun j hj => ?_⟩
  obtain ⟨⟨B, c, h1, h2, h3⟩, h4⟩ := hc j hj
  have hl := h.1
  rw [List.getElem?_eq_getElem (by omega)] at h1 h2 h3 h4
  rw [List.getElem?_map, List.getElem?_eq_getElem (by omega)]
  exact ⟨⟨B, _, c, h1, h2 (hm _ (List.getElem_mem _)), h3.1⟩, h4⟩
set_option maxRecDepth 100000 in
theorem tests_of {W : World} {fuel : Nat} {A : Option Addr} {n cap : Nat} {y : DataW H × List MemPlace} (hf : DataW.trod enc Try.prog W 0 (fun _ => true) true fuel 22 [.slice A n cap] = some y) :
    ∃ l, ReadsR W A n l ∧ n ≤ cap := by
  have h3 : Try.prog.cellsOf 66 = 2 := by kernel_rfl
  have h2 : Try.prog.cellsOf 31 = 1 := by kernel_rfl
  have h1 : Try.prog.cellsOf 4 = 1 := by kernel_rfl
  rcases DataW.trod_slice Try.underlying22 hf with ⟨hcs, _⟩ | ⟨a, len, cap', elems, rest, m, _, hcs, _, _, hle, hmax, hlen, hel, _, _⟩
  · cases hcs
    exact ⟨[], ⟨rfl, by omega, fun h => absurd h (by omega)⟩, by omega⟩
  · cases hcs
    have key : ∀ j, j < n → ∃ x : Nat × Tst, (∃ B c, W.cell? (a.add (j * 2)) = some (.slice B x.1 c) ∧ (x.1 ≤ 1000000 → Reads W B x.1 x.2.strip) ∧ x.1 ≤ c ∧ x.1 ≤ 9223372036854775807) ∧ W.cell? ((a.add (j * 2)).add 1) = some (.bool x.2.ans) := by
      intro j hj
      have hj' := hel j hj
      rw [h3, List.getElem?_eq_getElem (by omega), Option.bind_eq_some_iff] at hj'
      obtain ⟨cs, hcs, hst⟩ := hj'
      obtain ⟨y0, y1, k, _, hcl, f0, f1⟩ := trod_struct2 Try.underlying66 hst
      have c := (World.cells?_some hcs).2.2
      rw [h2] at f0
      rw [h1] at f1
      rw [h3] at hcl
      match cs, hcl with
      | [a0, a1], _ =>
        have f0 : DataW.trod enc Try.prog W 0 (fun _ => true) true k 31 [a0] = some y0 := f0
        have f1 : DataW.trod enc Try.prog W 0 (fun _ => true) true k 4 [a1] = some y1 := f1
        obtain ⟨z1, e1, _⟩ := DataW.trod_bool Try.underlying4 f1
        cases e1
        have c0 := c 0 (by omega)
        have c1 := c 1 (by omega)
        have hsl : ∃ B k c, a0 = .slice B k c := by
          rcases DataW.trod_slice Try.underlying31 f0 with ⟨h, _⟩ | ⟨a, len, cap', elems, rest, m, _, h, _⟩
          · cases h; exact ⟨_, _, _, rfl⟩
          · cases h; exact ⟨_, _, _, rfl⟩
        obtain ⟨B, m, cc, rfl⟩ := hsl
        obtain ⟨l, r1, r2, r3⟩ := reads_of f0
        refine ⟨(m, ⟨l, z1⟩), ⟨B, cc, ?_, r3, r2, r1⟩, c1⟩
        simpa [Addr.add] using c0
    obtain ⟨l, hl, hp⟩ := choose_upto key
    refine ⟨l, ⟨hl, by unfold maxLen at hmax; omega, fun h0 => ?_⟩, hle⟩
    obtain ⟨b, off, spot⟩ := a
    have hspot : spot = none := by
      obtain ⟨⟨B, c, this, _⟩, _⟩ := hp 0 h0 (0, ⟨[], false⟩)
      simpa [Addr.add] using World.cell?_spot this
    subst hspot
    refine ⟨b, off, rfl, fun j hj => ?_⟩
    have := hp j hj (0, ⟨[], false⟩)
    rw [WideShapes.add_plain, WideShapes.add_plain] at this
    exact this
set_option maxRecDepth 100000 in
theorem record_arg {W : World} {base : Nat} {v : Value} {d : DataW H} {p : List MemPlace} (h : Value.okWide Try.prog W .any base 24 v) (hd : DataW.Trod enc Try.prog W 0 (fun _ => true) true 24 v d p) :
    ∃ N L A n c l, v = rec N L A n c ∧ ReadsR W A n l ∧ n ≤ c := by
  obtain ⟨cs, rfl, hl⟩ := okWide_struct Try.underlying24 h
  obtain ⟨fuel, hf⟩ := hd
  have h3 : Try.prog.cellsOf 24 = 3 := by kernel_rfl
  have h1 : Try.prog.cellsOf 3 = 1 := by kernel_rfl
  have h2 : Try.prog.cellsOf 22 = 1 := by kernel_rfl
  obtain ⟨y0, y1, y2, k, _, hcl, f0, f1, f2⟩ := Go.Deep.trod_struct3 Try.underlying24 hf
  rw [h3] at hl
  rw [h1] at f0 f1
  rw [h2] at f2
  have hc : (Value.agg cs).cells.toList = cs.toList := rfl
  rw [hc] at f0 f1 f2
  have hl2 : cs.toList.length = 3 := by simpa using hl
  obtain ⟨l⟩ := cs
  match l, hl2 with
  | [z0, z1, z2], _ =>
    have f0 : DataW.trod enc Try.prog W 0 (fun _ => true) true k 3 [z0] = some y0 := f0
    have f1 : DataW.trod enc Try.prog W 0 (fun _ => true) true k 3 [z1] = some y1 := f1
    have f2 : DataW.trod enc Try.prog W 0 (fun _ => true) true k 22 [z2] = some y2 := f2
    obtain ⟨x0, e0, _, _⟩ := DataW.trod_int Try.underlying3 f0
    obtain ⟨x1, e1, _, _⟩ := DataW.trod_int Try.underlying3 f1
    cases e0
    cases e1
    have hsl : ∃ B k c, z2 = .slice B k c := by
      rcases DataW.trod_slice Try.underlying22 f2 with ⟨h, _⟩ | ⟨a, len, cap', elems, rest, m, _, h, _⟩
      · cases h; exact ⟨_, _, _, rfl⟩
      · cases h; exact ⟨_, _, _, rfl⟩
    obtain ⟨B, m, cc, rfl⟩ := hsl
    obtain ⟨l, hr, hle⟩ := tests_of f2
    exact ⟨x0, x1, B, m, cc, l, rfl, hr, hle⟩
end Go.Proofs.Ytpnkbjdeiedhlaa
