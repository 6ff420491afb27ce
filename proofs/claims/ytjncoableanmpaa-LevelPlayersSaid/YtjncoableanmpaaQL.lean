/- The gains: which gains leave an offset; two bytes, two small numbers as arguments. -/
import Derived.Test.YtjncoableanmpaaQK
namespace Go.Proofs.Ytjncoableanmpaa
open Go.RowKit Go.Lib Go.Shelf Go.ChangeShapes Go.WideShapes Go.ChangeAt

theorem fr_le {a d x y : Int} (hd : 0 < d) (hy : 0 < y) : fr a d ≤ fr x y ↔ a * y ≤ x * d := by
  have e := fr_mul (n := a) hd
  have f := fr_mul (n := x) hy
  have hd1 := cast_lt hd
  have hd2 := cast_lt hy
  have z : ((0 : Int) : Rat) = 0 := by simp
  rw [z] at hd1 hd2
  have c1 : ((a * y : Int) : Rat) = fr a d * ((d : Rat) * (y : Rat)) := by
    rw [Rat.intCast_mul, ← e]; grind
  have c2 : ((x * d : Int) : Rat) = fr x y * ((d : Rat) * (y : Rat)) := by
    rw [Rat.intCast_mul, ← f]; grind
  have hp : 0 < (d : Rat) * (y : Rat) := Rat.mul_pos hd1 hd2
  constructor
  · intro h
    have h2 := mul_pos_le h hp
    rw [← c1, ← c2] at h2
    exact_mod_cast h2
  · intro h
    rcases rat_cases (fr x y) (fr a d) with h1 | h1
    · have h2 := mul_pos_lt h1 hp
      rw [← c1, ← c2] at h2
      have h3 : x * d < a * y := by exact_mod_cast h2
      omega
    · exact h1
def dnG (a d bn bd : Int) (c : Cd) : Int := c.2.2 * (d * bd) - bn * d - a * c.1 * bd
def uvG (a d bn bd : Int) (c : Cd) : Int := c.2.1 * (d * bd) + bn * d - a * c.1 * bd
theorem dn_lt {a d bn bd : Int} (hd : 0 < d) (hbd : 0 < bd) {p q : Cd} (h : p.1 < q.1) : dnG a d bn bd p ≤ uvG a d bn bd q ↔ fr a d ≤ hiG bn bd p q := by
  have hp := Int.mul_pos (show 0 < q.1 - p.1 by omega) hbd
  unfold hiG
  rw [fr_le hd hp]
  have e : uvG a d bn bd q - dnG a d bn bd p = ((q.2.1 - p.2.2) * bd + 2 * bn) * d - a * ((q.1 - p.1) * bd) := by
    unfold uvG dnG
    grind
  generalize uvG a d bn bd q = U at e ⊢
  generalize dnG a d bn bd p = D at e ⊢
  generalize ((q.2.1 - p.2.2) * bd + 2 * bn) * d = R at e ⊢
  generalize a * ((q.1 - p.1) * bd) = L at e ⊢
  omega
theorem dn_gt {a d bn bd : Int} (hd : 0 < d) (hbd : 0 < bd) {p q : Cd} (h : q.1 < p.1) : dnG a d bn bd p ≤ uvG a d bn bd q ↔ loG bn bd q p ≤ fr a d := by
  have hp := Int.mul_pos (show 0 < p.1 - q.1 by omega) hbd
  unfold loG
  rw [fr_le hp hd]
  have e : uvG a d bn bd q - dnG a d bn bd p = a * ((p.1 - q.1) * bd) - ((p.2.2 - q.2.1) * bd - 2 * bn) * d := by
    unfold uvG dnG
    grind
  generalize uvG a d bn bd q = U at e ⊢
  generalize dnG a d bn bd p = D at e ⊢
  generalize ((p.2.2 - q.2.1) * bd - 2 * bn) * d = R at e ⊢
  generalize a * ((p.1 - q.1) * bd) = L at e ⊢
  omega
theorem dn_eq {a d bn bd : Int} (hd : 0 < d) (hbd : 0 < bd) {p : Cd} (h : one1 p ≤ fr bn bd) : dnG a d bn bd p ≤ uvG a d bn bd p := by
  unfold one1 at h
  rw [fr_le (by omega) hbd] at h
  have e : uvG a d bn bd p - dnG a d bn bd p = d * (bn * 2 - (p.2.2 - p.2.1) * bd) := by
    unfold uvG dnG
    grind
  have := Int.mul_nonneg (show 0 ≤ d by omega) (show 0 ≤ bn * 2 - (p.2.2 - p.2.1) * bd by omega)
  omega
def maxG (f : Cd → Int) (m : Int) (l : List Cd) : Int := l.foldl (fun m c => max m (f c)) m
def minG (f : Cd → Int) (m : Int) (l : List Cd) : Int := l.foldl (fun m c => min m (f c)) m
theorem maxG_at {f : Cd → Int} {l : List Cd} {k : Nat} (h : k < l.length) (m : Int) : maxG f m (l.drop k) = maxG f (max m (f (cAt l k))) (l.drop (k + 1)) := by
  rw [drop_at h]
  rfl
theorem minG_at {f : Cd → Int} {l : List Cd} {k : Nat} (h : k < l.length) (m : Int) : minG f m (l.drop k) = minG f (min m (f (cAt l k))) (l.drop (k + 1)) := by
  rw [drop_at h]
  rfl
theorem maxG_le {f : Cd → Int} {l : List Cd} {m X : Int} : maxG f m l ≤ X ↔ m ≤ X ∧ ∀ i, i < l.length → f (cAt l i) ≤ X := by
  induction l generalizing m with
  | nil => exact ⟨fun h => ⟨h, fun i hi => absurd hi (by simp)⟩, fun h => h.1⟩
  | cons c r ih =>
    show maxG f (max m (f c)) r ≤ X ↔ _
    rw [ih]
    constructor
    · rintro ⟨h1, h2⟩
      refine ⟨by omega, fun i hi => ?_⟩
      cases i with
      | zero => show f c ≤ X; omega
      | succ i => exact h2 i (by simpa using hi)
    · rintro ⟨h1, h2⟩
      have h0 : f c ≤ X := h2 0 (by simp)
      exact ⟨by omega, fun i hi => h2 (i + 1) (by simpa using hi)⟩
theorem le_minG {f : Cd → Int} {l : List Cd} {m X : Int} : X ≤ minG f m l ↔ X ≤ m ∧ ∀ i, i < l.length → X ≤ f (cAt l i) := by
  induction l generalizing m with
  | nil => exact ⟨fun h => ⟨h, fun i hi => absurd hi (by simp)⟩, fun h => h.1⟩
  | cons c r ih =>
    show X ≤ minG f (min m (f c)) r ↔ _
    rw [ih]
    constructor
    · rintro ⟨h1, h2⟩
      refine ⟨by omega, fun i hi => ?_⟩
      cases i with
      | zero => show X ≤ f c; omega
      | succ i => exact h2 i (by simpa using hi)
    · rintro ⟨h1, h2⟩
      have h0 : X ≤ f c := h2 0 (by simp)
      exact ⟨by omega, fun i hi => h2 (i + 1) (by simpa using hi)⟩
theorem dn_bd {a d bn bd : Int} {c : Cd} (ha : -6000 ≤ a ∧ a ≤ 6000) (hd : 1 ≤ d ∧ d ≤ 512) (h0 : 0 ≤ bn ∧ bn ≤ 2000) (h1 : 1 ≤ bd ∧ bd ≤ 32) (hs : -3 ≤ c.1 ∧ c.1 ≤ 13) (hw : 0 ≤ c.2.1 ∧ c.2.1 ≤ c.2.2 ∧ c.2.2 ≤ 50) :
    ((0 ≤ c.2.2 * (d * bd) ∧ c.2.2 * (d * bd) ≤ 819200) ∧ (0 ≤ c.2.1 * (d * bd) ∧ c.2.1 * (d * bd) ≤ 819200) ∧ (0 ≤ bn * d ∧ bn * d ≤ 1024000) ∧ (-78000 ≤ a * c.1 ∧ a * c.1 ≤ 78000) ∧ (-2496000 ≤ a * c.1 * bd ∧ a * c.1 * bd ≤ 2496000) ∧ (1 ≤ d * bd ∧ d * bd ≤ 16384)) ∧
    (-10000000 ≤ dnG a d bn bd c ∧ dnG a d bn bd c ≤ 10000000) ∧ (-10000000 ≤ uvG a d bn bd c ∧ uvG a d bn bd c ≤ 10000000) := by
  have m0 := mul_bd (a := d) (b := bd) (A := 512) (B := 32) (by omega) (by omega) (by omega) (by omega)
  have m0' := Int.mul_pos (show 0 < d by omega) (show 0 < bd by omega)
  have m1 := mul_bd (a := c.2.2) (b := d * bd) (A := 50) (B := 16384) (by omega) (by omega) (by omega) (by omega)
  have m2 := mul_bd (a := c.2.1) (b := d * bd) (A := 50) (B := 16384) (by omega) (by omega) (by omega) (by omega)
  have m3 := mul_bd (a := bn) (b := d) (A := 2000) (B := 512) (by omega) (by omega) (by omega) (by omega)
  have m4 := mul_in (a := a) (A := 6000) (b := c.1) (B := 13) (by omega) (by omega) (by omega) (by omega)
  have m5 := mul_in (a := a * c.1) (A := 78000) (b := bd) (B := 32) (by omega) (by omega) (by omega) (by omega)
  unfold dnG uvG
  omega
theorem gains_law {l : List Cd} (h : Nice l) (h2 : 2 ≤ l.length) {bn bd : Int} (h0 : 0 ≤ bn ∧ bn ≤ 2000) (h1 : 1 ≤ bd ∧ bd ≤ 32) (hle : (bestC l).off ≤ fr bn bd) {a d : Int} (ha : -6000 ≤ a ∧ a ≤ 6000) (hd : 1 ≤ d ∧ d ≤ 512) :
    maxG (dnG a d bn bd) (-1152921504606846976) l ≤ minG (uvG a d bn bd) 1152921504606846976 l ↔ ((gF bn bd l).1 ≤ fr a d ∧ fr a d ≤ (gF bn bd l).2) := by
  have hb : ∀ i, i < l.length → (-10000000 ≤ dnG a d bn bd (cAt l i) ∧ dnG a d bn bd (cAt l i) ≤ 10000000) ∧ (-10000000 ≤ uvG a d bn bd (cAt l i) ∧ uvG a d bn bd (cAt l i) ≤ 10000000) := fun i hi => (dn_bd ha hd h0 h1 (h.set i hi) (h.want i hi)).2
  obtain ⟨⟨i1, j1, hij1, hj1, e1⟩, ⟨i2, j2, hij2, hj2, e2⟩, h3, h4⟩ := gF_spec (bn := bn) (bd := bd) h2
  have hone := ((off_le h.good).1 hle).1
  have hdp : 0 < d := by omega
  have hbp : 0 < bd := by omega
  rw [maxG_le]
  constructor
  · rintro ⟨_, g⟩
    constructor
    · rw [e1]
      have := (le_minG.1 (g j1 hj1)).2 i1 (by omega)
      exact (dn_gt hdp hbp (h.inc i1 j1 hij1 hj1)).1 this
    · rw [e2]
      have := (le_minG.1 (g i2 (by omega))).2 j2 hj2
      exact (dn_lt hdp hbp (h.inc i2 j2 hij2 hj2)).1 this
  · rintro ⟨g1, g2⟩
    refine ⟨le_minG.2 ⟨by omega, fun j hj => by have := hb j hj; omega⟩, fun i hi => le_minG.2 ⟨by have := hb i hi; omega, fun j hj => ?_⟩⟩
    rcases Nat.lt_trichotomy i j with hij | rfl | hij
    · exact (dn_lt hdp hbp (h.inc i j hij hj)).2 (Rat.le_trans g2 (h4 i j hij hj))
    · exact dn_eq hdp hbp (hone i hi)
    · exact (dn_gt hdp hbp (h.inc j i hij hi)).2 (Rat.le_trans (h3 j i hij hi) g1)
theorem gF_le {l : List Cd} (h : Nice l) (h2 : 2 ≤ l.length) {bn bd : Int} (h0 : 0 ≤ bn) (h1 : 1 ≤ bd) (hle : (bestC l).off ≤ fr bn bd) : (gF bn bd l).1 ≤ (gF bn bd l).2 := by
  obtain ⟨⟨i1, j1, hij1, hj1, e1⟩, ⟨i2, j2, hij2, hj2, e2⟩, _⟩ := gF_spec (bn := bn) (bd := bd) h2
  rw [e1, e2]
  exact fits_best h.good h0 (by omega) hle (i1, j1) (i2, j2) hij1 hj1 hij2 hj2
/-- A greater bound allows more. -/
theorem gF_more {l : List Cd} (h : Nice l) (h2 : 2 ≤ l.length) {bn bd : Int} (h1 : 1 ≤ bd) : (gF (bn + 1) bd l).1 ≤ (gF bn bd l).1 ∧ (gF bn bd l).2 ≤ (gF (bn + 1) bd l).2 := by
  obtain ⟨_, _, h3, h4⟩ := gF_spec (bn := bn) (bd := bd) h2
  obtain ⟨⟨i1, j1, hij1, hj1, e1⟩, ⟨i2, j2, hij2, hj2, e2⟩, _⟩ := gF_spec (bn := bn + 1) (bd := bd) h2
  have hp : ∀ i j, i < j → j < l.length → 0 < ((cAt l j).1 - (cAt l i).1) * bd := fun i j hij hj => Int.mul_pos (by have := h.inc i j hij hj; omega) (by omega)
  constructor
  · rw [e1]
    refine Rat.le_trans ?_ (h3 i1 j1 hij1 hj1)
    unfold loG
    rw [fr_le (hp i1 j1 hij1 hj1) (hp i1 j1 hij1 hj1)]
    exact Int.mul_le_mul_of_nonneg_right (by omega) (by have := hp i1 j1 hij1 hj1; omega)
  · rw [e2]
    refine Rat.le_trans (h4 i2 j2 hij2 hj2) ?_
    unfold hiG
    rw [fr_le (hp i2 j2 hij2 hj2) (hp i2 j2 hij2 hj2)]
    exact Int.mul_le_mul_of_nonneg_right (by omega) (by have := hp i2 j2 hij2 hj2; omega)

variable {H : Type} {enc : TypeId × Value → H}
set_option maxRecDepth 100000 in
theorem bytes2_arg {W : World} {base : Nat} {v : Value} {d : DataW H} {p : List MemPlace} (h : Value.okWide Try.prog W .any base 71 v) (hd : DataW.Trod enc Try.prog W 0 (fun _ => true) true 71 v d p) :
    ∃ a b : Int, v = .agg #[.int .u8 a, .int .u8 b] ∧ (0 ≤ a ∧ a ≤ 255) ∧ (0 ≤ b ∧ b ≤ 255) := by
  have h' : ∃ cs, v = .agg cs ∧ cs.size = Try.prog.cellsOf 71 ∧ Row.okWide Try.prog W .any base 71 cs := by
    unfold Value.okWide at h
    simpa only [Try.underlying71] using h
  obtain ⟨cs, rfl, hl, _⟩ := h'
  obtain ⟨fuel, hf⟩ := hd
  have h1 : Try.prog.cellsOf 5 = 1 := by kernel_rfl
  have h2 : Try.prog.cellsOf 71 = 2 := by kernel_rfl
  obtain ⟨ys, k, _, _, _, hy, ha⟩ := DataW.trod_array Try.underlying71 hf
  have a0 := ha 0 (by omega)
  have a1 := ha 1 (by omega)
  rw [List.getElem?_eq_getElem (by omega)] at a0 a1
  obtain ⟨x0, c0, r0⟩ := byte_of a0
  obtain ⟨x1, c1, r1⟩ := byte_of a1
  rw [h1] at c0 c1
  rw [h2] at hl
  refine ⟨x0, x1, ?_, r0, r1⟩
  have hc : (Value.agg cs).cells.toList = cs.toList := rfl
  rw [hc] at c0 c1
  have hl2 : cs.toList.length = 2 := by simpa using hl
  obtain ⟨l⟩ := cs
  match l, hl2 with
  | [z0, z1], _ =>
    simp at c0 c1
    subst c0 c1
    rfl
theorem small_of {W : World} {fuel : Nat} {cs : List Value} {y : DataW H × List MemPlace} (h : DataW.trod enc Try.prog W 0 (fun _ => true) true fuel 54 cs = some y) : ∃ n : Int, cs = [.int .i8 n] ∧ -128 ≤ n ∧ n ≤ 127 := by
  obtain ⟨n, hcs, _, hw⟩ := DataW.trod_int Try.underlying54 h
  exact ⟨n, hcs, bounds_i8 hw⟩
set_option maxRecDepth 100000 in
theorem smalls_arg {W : World} {base : Nat} {v : Value} {d : DataW H} {p : List MemPlace} (h : Value.okWide Try.prog W .any base 55 v) (hd : DataW.Trod enc Try.prog W 0 (fun _ => true) true 55 v d p) :
    ∃ a b : Int, v = .agg #[.int .i8 a, .int .i8 b] ∧ (-128 ≤ a ∧ a ≤ 127) ∧ (-128 ≤ b ∧ b ≤ 127) := by
  have h' : ∃ cs, v = .agg cs ∧ cs.size = Try.prog.cellsOf 55 ∧ Row.okWide Try.prog W .any base 55 cs := by
    unfold Value.okWide at h
    simpa only [Try.underlying55] using h
  obtain ⟨cs, rfl, hl, _⟩ := h'
  obtain ⟨fuel, hf⟩ := hd
  have h1 : Try.prog.cellsOf 54 = 1 := by kernel_rfl
  have h2 : Try.prog.cellsOf 55 = 2 := by kernel_rfl
  obtain ⟨ys, k, _, _, _, hy, ha⟩ := DataW.trod_array Try.underlying55 hf
  have a0 := ha 0 (by omega)
  have a1 := ha 1 (by omega)
  rw [List.getElem?_eq_getElem (by omega)] at a0 a1
  obtain ⟨x0, c0, r0⟩ := small_of a0
  obtain ⟨x1, c1, r1⟩ := small_of a1
  rw [h1] at c0 c1
  rw [h2] at hl
  refine ⟨x0, x1, ?_, r0, r1⟩
  have hc : (Value.agg cs).cells.toList = cs.toList := rfl
  rw [hc] at c0 c1
  have hl2 : cs.toList.length = 2 := by simpa using hl
  obtain ⟨l⟩ := cs
  match l, hl2 with
  | [z0, z1], _ =>
    simp at c0 c1
    subst c0 c1
    rfl
end Go.Proofs.Ytjncoableanmpaa
