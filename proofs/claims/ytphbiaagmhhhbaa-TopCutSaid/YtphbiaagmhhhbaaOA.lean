/- The contracts of made and paper; the arguments of the laws without the reference. -/
import Derived.Test.YtphbiaagmhhhbaaMB
import Derived.Deep.AppendLies
namespace Go.Proofs.Ytphbiaagmhhhbaa
open Go.RowKit Go.Lib Go.Shelf Go.ChangeShapes Go.WideShapes Go.ChangeAt

/-- A spool that is made by numbers. -/
structure Small (c t lo hi : Int) : Prop where
  t0 : 1 ≤ t
  t1 : t ≤ 20
  c0 : t ≤ c
  c1 : c ≤ 99
  l0 : 0 ≤ lo
  l1 : lo ≤ 29
  h0 : lo ≤ hi
  h1 : hi ≤ lo + 5
theorem Small.sound {c t lo hi : Int} (h : Small c t lo hi) : Sound c t lo hi := by
  obtain ⟨a, b, d, e, f, g, i, j⟩ := h
  exact ⟨by omega, by omega, by omega, by omega, by omega⟩

abbrev reel (a b p q : Int) : Value := .agg #[.int .u8 a, .int .u8 b, .int .u8 p, .int .u8 q]
abbrev spl (c t lo hi : Int) : Value := .agg #[.int .i64 c, .int .i64 t, .int .i64 lo, .int .i64 hi]

theorem made_small {a b p q : Int} : Small (1 + b % 20 + a % 80) (1 + b % 20) (p % 30) (p % 30 + q % 6) :=
  ⟨by omega, by omega, by omega, by omega, by omega, by omega, by omega, by omega⟩

theorem i64_in {n : Int} (h0 : -1000000000000000 ≤ n) (h1 : n ≤ 1000000000000000) : IntKind.i64.wrap n = n := by rw [i64_w]; exact w64_in (by omega) (by omega)

theorem made_calls {a b p q : Int} (ha : 0 ≤ a ∧ a ≤ 255) (hb : 0 ≤ b ∧ b ≤ 255) (hp : 0 ≤ p ∧ p ≤ 255) (hq : 0 ≤ q ∧ q ≤ 255) (w : World) :
    Gives 45 #[reel a b p q] (spl (1 + b % 20 + a % 80) (1 + b % 20) (p % 30) (p % 30 + q % 6)) w := by
  unfold Gives
  have wa : IntKind.i64.wrap a = a := i64_in (by omega) (by omega)
  have wb : IntKind.i64.wrap b = b := i64_in (by omega) (by omega)
  have wp : IntKind.i64.wrap p = p := i64_in (by omega) (by omega)
  have wq : IntKind.i64.wrap q = q := i64_in (by omega) (by omega)
  have ma : a.tmod 80 = a % 80 := Int.tmod_eq_emod_of_nonneg ha.1
  have mb : b.tmod 20 = b % 20 := Int.tmod_eq_emod_of_nonneg hb.1
  have mp : p.tmod 30 = p % 30 := Int.tmod_eq_emod_of_nonneg hp.1
  have mq : q.tmod 6 = q % 6 := Int.tmod_eq_emod_of_nonneg hq.1
  have s1 : wrap64 (1 + b % 20) = 1 + b % 20 := w64_in (by omega) (by omega)
  have s2 : wrap64 (1 + b % 20 + a % 80) = 1 + b % 20 + a % 80 := w64_in (by omega) (by omega)
  have s3 : wrap64 (p % 30 + q % 6) = p % 30 + q % 6 := w64_in (by omega) (by omega)
  clear ha hb hp hq
  go_enter Try.func45, Try.ntmps45
  go_wp2
  refine bodyPost_ret (v := spl (1 + b % 20 + a % 80) (1 + b % 20) (p % 30) (p % 30 + q % 6)) (by simp [results, Try.results45, go_sem]) rfl ⟨rfl, ?_⟩
  exact ((Below.refl _ _).alloc (Nat.le_refl _) _).alloc (by simp) _

/-! ### The arguments. -/
variable {H : Type} {enc : TypeId × Value → H}
theorem byte_of {W : World} {fuel : Nat} {cs : List Value} {y : DataW H × List MemPlace} (h : DataW.trod enc Try.prog W 0 (fun _ => true) true fuel 5 cs = some y) : ∃ n : Int, cs = [.int .u8 n] ∧ 0 ≤ n ∧ n ≤ 255 := by
  obtain ⟨n, hcs, _, hw⟩ := DataW.trod_int Try.underlying5 h
  exact ⟨n, hcs, bounds_u8 hw⟩

set_option maxRecDepth 100000 in
theorem byte_arg {W : World} {base : Nat} {v : Value} {d : DataW H} {p : List MemPlace} (h : Value.okWide Try.prog W .any base 5 v) (hd : DataW.Trod enc Try.prog W 0 (fun _ => true) true 5 v d p) : ∃ n : Nat, v = .int .u8 (n : Int) ∧ n ≤ 255 := by
  obtain ⟨n, rfl⟩ := okWide_int Try.underlying5 h
  obtain ⟨fuel, hf⟩ := hd
  obtain ⟨m, hm, h0, h1⟩ := byte_of hf
  have e : n = m := by simpa [Value.cells] using hm
  subst e
  obtain ⟨k, rfl⟩ := Int.eq_ofNat_of_zero_le h0
  exact ⟨k, rfl, by omega⟩
set_option maxRecDepth 100000 in
theorem word_arg {W : World} {base : Nat} {v : Value} {d : DataW H} {p : List MemPlace} (h : Value.okWide Try.prog W .any base 71 v) (hd : DataW.Trod enc Try.prog W 0 (fun _ => true) true 71 v d p) : ∃ n : Nat, v = .int .u16 (n : Int) ∧ n ≤ 65535 := by
  obtain ⟨n, rfl⟩ := okWide_int Try.underlying71 h
  obtain ⟨fuel, hf⟩ := hd
  obtain ⟨m, hcs, _, hw⟩ := DataW.trod_int Try.underlying71 hf
  have hb := bounds_u16 hw
  have e : n = m := by simpa [Value.cells] using hcs
  subst e
  obtain ⟨k, rfl⟩ := Int.eq_ofNat_of_zero_le hb.1
  exact ⟨k, rfl, by omega⟩

set_option maxRecDepth 100000 in
theorem reel_arg {W : World} {base : Nat} {v : Value} {d : DataW H} {p : List MemPlace} (h : Value.okWide Try.prog W .any base 66 v) (hd : DataW.Trod enc Try.prog W 0 (fun _ => true) true 66 v d p) :
    ∃ a b p q : Int, v = reel a b p q ∧ (0 ≤ a ∧ a ≤ 255) ∧ (0 ≤ b ∧ b ≤ 255) ∧ (0 ≤ p ∧ p ≤ 255) ∧ (0 ≤ q ∧ q ≤ 255) := by
  obtain ⟨cs, rfl, hl⟩ := okWide_struct Try.underlying66 h
  obtain ⟨fuel, hf⟩ := hd
  have h4 : Try.prog.cellsOf 66 = 4 := by kernel_rfl
  have h1 : Try.prog.cellsOf 5 = 1 := by kernel_rfl
  have h2 : Try.prog.cellsOf 24 = 2 := by kernel_rfl
  obtain ⟨xs, m, _, _, hcl, hxs, hfs⟩ := DataW.trod_struct Try.underlying66 hf
  rw [h4] at hl
  have e0 : DataW.trod enc Try.prog W 0 (fun _ => true) true m 5 ((cs.toList.drop 0).take (Try.prog.cellsOf 5)) = xs[0]? := hfs 0 _ rfl
  have e1 : DataW.trod enc Try.prog W 0 (fun _ => true) true m 5 ((cs.toList.drop 1).take (Try.prog.cellsOf 5)) = xs[1]? := hfs 1 _ rfl
  have e2 : DataW.trod enc Try.prog W 0 (fun _ => true) true m 24 ((cs.toList.drop 2).take (Try.prog.cellsOf 24)) = xs[2]? := hfs 2 _ rfl
  have hx3 : xs.length = 3 := hxs
  rw [List.getElem?_eq_getElem (by omega)] at e0 e1 e2
  obtain ⟨ys, k, _, _, _, hy, ha⟩ := DataW.trod_array Try.underlying24 e2
  have a0 := ha 0 (by omega)
  have a1 := ha 1 (by omega)
  rw [List.getElem?_eq_getElem (by omega)] at a0 a1
  obtain ⟨x0, c0, r0⟩ := byte_of e0
  obtain ⟨x1, c1, r1⟩ := byte_of e1
  obtain ⟨x2, c2, r2⟩ := byte_of a0
  obtain ⟨x3, c3, r3⟩ := byte_of a1
  refine ⟨x0, x1, x2, x3, ?_, r0, r1, r2, r3⟩
  rw [h1] at c0 c1 c2 c3
  rw [h2] at c2 c3
  have hcl4 : cs.toList.length = 4 := by simpa using hl
  obtain ⟨l⟩ := cs
  match l, hcl4 with
  | [z0, z1, z2, z3], _ =>
    simp at c0 c1 c2 c3
    subst c0 c1 c2 c3
    rfl
end Go.Proofs.Ytphbiaagmhhhbaa
