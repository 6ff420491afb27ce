/- Plain: all trios are tried: the best error is the greatest number that codes prove. -/
import Derived.Test.YtjncoableanmpaaQN
import Derived.Test.YtjncoableanmpaaQO
import Derived.Test.YtjncoableanmpaaQF
namespace Go.Proofs.Ytjncoableanmpaa
open Go.RowKit Go.Lib Go.Shelf

theorem twice_bd {l : List Cd} (h : Nice l) {t : Trio} (ht : TrioOk l.length t) : (-1700 ≤ (twice l t).1 ∧ (twice l t).1 ≤ 1700) ∧ (1 ≤ (twice l t).2 ∧ (twice l t).2 ≤ 16) := by
  obtain ⟨i, j, k⟩ := t
  obtain ⟨h0, ⟨h1, h2⟩ | ⟨h1, h2⟩⟩ := ht
  · dsimp only at h0 h1 h2
    subst h1
    subst h2
    unfold twice
    rw [if_pos rfl]
    have := h.want i h0
    dsimp only
    omega
  · dsimp only at h0 h1 h2
    unfold twice
    rw [if_neg (by dsimp only; omega)]
    have w1 := h.want i (by omega)
    have w2 := h.want j (by omega)
    have w3 := h.want k h0
    have s1 := h.set i (by omega)
    have s3 := h.set k h0
    have i1 := h.inc i j h1 (by omega)
    have i2 := h.inc j k h2 h0
    dsimp only
    generalize cAt l i = a at *
    generalize cAt l j = b at *
    generalize cAt l k = c at *
    have b1 := mul_bd (a := b.2.2) (b := b.1 - a.1 + (c.1 - b.1)) (A := 50) (B := 16) (by omega) (by omega) (by omega) (by omega)
    have b2 := mul_bd (a := a.2.1) (b := c.1 - b.1) (A := 50) (B := 16) (by omega) (by omega) (by omega) (by omega)
    have b3 := mul_bd (a := c.2.1) (b := b.1 - a.1) (A := 50) (B := 16) (by omega) (by omega) (by omega) (by omega)
    have b4 := mul_bd (a := a.2.2) (b := c.1 - b.1) (A := 50) (B := 16) (by omega) (by omega) (by omega) (by omega)
    have b5 := mul_bd (a := c.2.2) (b := b.1 - a.1) (A := 50) (B := 16) (by omega) (by omega) (by omega) (by omega)
    have b6 := mul_bd (a := b.2.1) (b := b.1 - a.1 + (c.1 - b.1)) (A := 50) (B := 16) (by omega) (by omega) (by omega) (by omega)
    unfold upF downF
    omega
theorem clm_twice {l : List Cd} (h : Nice l) {t : Trio} (ht : TrioOk l.length t) : (clm l t).off = fr (max 0 (twice l t).1) (2 * (twice l t).2) := by
  obtain ⟨i, j, k⟩ := t
  obtain ⟨h0, ⟨h1, h2⟩ | ⟨h1, h2⟩⟩ := ht
  · dsimp only at h0 h1 h2
    subst h1
    subst h2
    have := h.want i h0
    rw [clm_one]
    unfold twice one1
    rw [if_pos rfl]
    dsimp only
    rw [show max 0 ((cAt l i).2.2 - (cAt l i).2.1) = (cAt l i).2.2 - (cAt l i).2.1 by omega]
    rfl
  · dsimp only at h0 h1 h2
    rw [clm_three l h1 h2]
    unfold twice three1
    rw [if_neg (by dsimp only; omega)]
    dsimp only
    rw [show (cAt l j).1 - (cAt l i).1 + ((cAt l k).1 - (cAt l j).1) = (cAt l k).1 - (cAt l i).1 by omega]
/-- The codes of a trio, as a list. -/
def csOf (t : Trio) : List Int := if t.1 = t.2.2 then [(t.1 : Int)] else [(t.1 : Int), (t.2.1 : Int), (t.2.2 : Int)]
theorem csOf_ok {n : Nat} {t : Trio} (ht : TrioOk n t) : ((csOf t).length = 1 ∨ (csOf t).length = 3) ∧ cdL n (-1) (csOf t) = 0 ∧ trioOf (csOf t) = t := by
  obtain ⟨i, j, k⟩ := t
  obtain ⟨h0, ⟨h1, h2⟩ | ⟨h1, h2⟩⟩ := ht
  · dsimp only at h0 h1 h2
    subst h1
    subst h2
    unfold csOf
    rw [if_pos rfl]
    refine ⟨.inl rfl, ?_, by simp [trioOf]⟩
    simp only [cdL]
    rw [if_neg (by omega), if_neg (by omega)]
  · dsimp only at h0 h1 h2
    unfold csOf
    rw [if_neg (by dsimp only; omega)]
    refine ⟨.inr rfl, ?_, by simp [trioOf]⟩
    simp only [cdL]
    rw [if_neg (by omega), if_neg (by omega), if_neg (by omega), if_neg (by omega), if_neg (by omega), if_neg (by omega)]
theorem ver_half {l : List Cd} (h : Nice l) {t : Trio} (ht : TrioOk l.length t) (h0 : 0 ≤ (twice l t).1) :
    verV l (csOf t) (twice l t).1 (2 * (twice l t).2) = 0 ∧ verV l (csOf t) ((twice l t).1 * 3 + 1) (2 * (twice l t).2 * 3) = 14 := by
  obtain ⟨c1, c2, c3⟩ := csOf_ok ht
  have hb := twice_bd h ht
  have e := clm_twice h ht
  rw [show max 0 (twice l t).1 = (twice l t).1 by omega] at e
  have ok : ∀ a d : Int, 0 ≤ a → a ≤ 1000000 → 1 ≤ d → d ≤ 100000 → bdOk a d = true := fun a d x1 x2 x3 x4 => by
    unfold bdOk
    simp [x1, x2, x3, x4]
  unfold verV
  rw [if_neg (fun k => k (good_chk h.good)), if_neg (fun k => k c1), if_neg (fun k => k c2), ok _ _ (by omega) (by omega) (by omega) (by omega), if_neg (by decide), c3, e, if_neg Rat.lt_irrefl]
  refine ⟨rfl, ?_⟩
  rw [if_neg (fun k => k (good_chk h.good)), if_neg (fun k => k c1), if_neg (fun k => k c2), ok _ _ (by omega) (by omega) (by omega) (by omega), if_neg (by decide), if_pos]
  refine Rat.not_le.1 fun hc => ?_
  rw [fr_le (by omega) (by omega)] at hc
  generalize (twice l t).1 = p at *
  generalize (twice l t).2 = q at *
  have x : (p * 3 + 1) * (2 * q) = p * (2 * q * 3) + 2 * q := by grind
  omega
/-- The greatest of twice the claims so far. -/
def Mx (l : List Cd) (n : Nat) (P : Trio → Prop) (a d : Int) : Prop :=
  ((0 ≤ a ∧ a ≤ 1700) ∧ (1 ≤ d ∧ d ≤ 16)) ∧ (a = 0 ∨ ∃ u, TrioOk n u ∧ (a, d) = twice l u) ∧ ∀ u, TrioOk n u → P u → (twice l u).1 * d ≤ a * (twice l u).2
theorem Mx.weak {l : List Cd} {n : Nat} {P P' : Trio → Prop} {a d : Int} (h : Mx l n P a d) (hP : ∀ u, TrioOk n u → P' u → P u) : Mx l n P' a d :=
  ⟨h.1, h.2.1, fun u hu hp => h.2.2 u hu (hP u hu hp)⟩
theorem Mx.step {l : List Cd} (hN : Nice l) {P P' : Trio → Prop} {a d : Int} {v : Trio} (h : Mx l l.length P a d) (hv : TrioOk l.length v) (hP : ∀ u, TrioOk l.length u → P' u → P u ∨ u = v) :
    Mx l l.length P' (if decide (a * (twice l v).2 < (twice l v).1 * d) = true then (twice l v).1 else a) (if decide (a * (twice l v).2 < (twice l v).1 * d) = true then (twice l v).2 else d) := by
  obtain ⟨h1, h2, h3⟩ := h
  have hb := twice_bd hN hv
  by_cases hlt : a * (twice l v).2 < (twice l v).1 * d
  · rw [if_pos (decide_eq_true hlt), if_pos (decide_eq_true hlt)]
    have ha := Int.mul_nonneg h1.1.1 (show 0 ≤ (twice l v).2 by omega)
    have hp : 0 ≤ (twice l v).1 := by
      rcases Int.lt_or_le (twice l v).1 0 with hc | hc
      · have := Int.mul_le_mul_of_nonneg_right (show (twice l v).1 ≤ 0 by omega) (show 0 ≤ d by omega)
        omega
      · exact hc
    refine ⟨⟨by omega, by omega⟩, .inr ⟨v, hv, rfl⟩, fun u hu hpu => ?_⟩
    rcases hP u hu hpu with k | rfl
    · have hs := h3 u hu k
      have hub := twice_bd hN hu
      generalize (twice l u).1 = un at *
      generalize (twice l u).2 = ud at *
      generalize (twice l v).1 = pn at *
      generalize (twice l v).2 = pd at *
      have m1 := Int.mul_le_mul_of_nonneg_right hs (show 0 ≤ pd by omega)
      have m2 := Int.mul_le_mul_of_nonneg_right (Int.le_of_lt hlt) (show 0 ≤ ud by omega)
      have e1 : un * d * pd = un * pd * d := by grind
      have e2 : a * ud * pd = a * pd * ud := by grind
      have e3 : pn * d * ud = pn * ud * d := by grind
      exact Int.le_of_mul_le_mul_right (a := d) (by omega) (by omega)
    · exact Int.le_refl _
  · rw [if_neg (by simpa using hlt), if_neg (by simpa using hlt)]
    refine ⟨h1, h2, fun u hu hpu => ?_⟩
    rcases hP u hu hpu with k | rfl
    · exact h3 u hu k
    · omega
theorem Mx.done {l : List Cd} (hN : Nice l) {P : Trio → Prop} {a d : Int} (h : Mx l l.length P a d) (hP : ∀ u, TrioOk l.length u → P u) : a * ((bestC l).off.den : Int) = 2 * (bestC l).off.num * d := by
  obtain ⟨h1, h2, h3⟩ := h
  obtain ⟨t, ht, e, hall⟩ := bestC_spec hN.pos
  have hd : 0 < 2 * d := by omega
  have hq : (bestC l).off = fr a (2 * d) := by
    refine Rat.le_antisymm ?_ ?_
    · rw [e, clm_twice hN ht]
      have hb := twice_bd hN ht
      have k := h3 t ht (hP t ht)
      rw [fr_le (by omega) hd]
      generalize (twice l t).1 = p at *
      generalize (twice l t).2 = q at *
      rcases Int.lt_or_le p 0 with hc | hc
      · rw [show max 0 p = 0 by omega]
        have := Int.mul_nonneg h1.1.1 (show 0 ≤ 2 * q by omega)
        omega
      · rw [show max 0 p = p by omega]
        have e1 : p * (2 * d) = 2 * (p * d) := by grind
        have e2 : a * (2 * q) = 2 * (a * q) := by grind
        omega
    · rcases h2 with h0 | ⟨u, hu, he⟩
      · subst h0
        have hnn := (nice_off hN)
        have k := hall t ht
        have z : fr 0 (2 * d) = 0 := by
          have := fr_mul (n := 0) hd
          have hdr := cast_lt hd
          have z : ((0 : Int) : Rat) = 0 := by simp
          rw [z] at hdr this
          rcases Rat.mul_eq_zero.1 this with h | h
          · exact h
          · rw [h] at hdr; exact absurd hdr Rat.lt_irrefl
        rw [z, ← num_den (bestC l).off]
        have := (fr_le (a := 0) (d := 2 * d) (x := (bestC l).off.num) (y := ((bestC l).off.den : Int)) hd (by omega)).2 (by rw [Int.zero_mul]; exact Int.mul_nonneg hnn.1 (by omega))
        rwa [z] at this
      · have k := hall u hu
        rw [clm_twice hN hu, ← he] at k
        dsimp only at k
        rwa [show max 0 a = a by omega] at k
  have e1 := fr_mul (n := a) hd
  have e2 := fr_mul (n := (bestC l).off.num) (d := ((bestC l).off.den : Int)) (by have := (bestC l).off.den_pos; omega)
  rw [num_den] at e2
  rw [← hq] at e1
  have : ((a * ((bestC l).off.den : Int) : Int) : Rat) = ((2 * (bestC l).off.num * d : Int) : Rat) := by
    rw [Rat.intCast_mul] at e1
    simp only [Rat.intCast_mul]
    grind
  exact_mod_cast this
def seenA (i j : Nat) (u : Trio) : Prop := u.1 < i ∨ (u.1 = i ∧ u.2.1 < j)
def seenB (i j k : Nat) (u : Trio) : Prop := u.1 < i ∨ (u.1 = i ∧ (u.2.1 < j ∨ (u.2.1 = j ∧ u.2.2 < k)))
theorem seenA_0 {n i : Nat} (u : Trio) (hu : TrioOk n u) (h : seenA i i u) : seenI i u := by
  obtain ⟨x, y, z⟩ := u
  unfold seenA at h
  unfold seenI
  unfold TrioOk at hu
  dsimp only at h hu ⊢
  omega
theorem seenB_0 {n i j : Nat} (u : Trio) (hu : TrioOk n u) (h : seenB i j j u) : seenA i j u := by
  obtain ⟨x, y, z⟩ := u
  unfold seenB at h
  unfold seenA
  unfold TrioOk at hu
  dsimp only at h hu ⊢
  omega
theorem seenB_n {n i j : Nat} (u : Trio) (hu : TrioOk n u) (h : seenA i (j + 1) u) : seenB i j n u := by
  obtain ⟨x, y, z⟩ := u
  unfold seenA at h
  unfold seenB
  unfold TrioOk at hu
  dsimp only at h hu ⊢
  omega
theorem seenA_n {n i : Nat} (u : Trio) (hu : TrioOk n u) (h : seenI (i + 1) u) : seenA i n u := by
  obtain ⟨x, y, z⟩ := u
  unfold seenI at h
  unfold seenA
  unfold TrioOk at hu
  dsimp only at h hu ⊢
  omega
theorem seenB_skip {n i j k : Nat} (h1 : ¬ TrioOk n (i, j, k)) (u : Trio) (hu : TrioOk n u) (h : seenB i j (k + 1) u) : seenB i j k u := by
  obtain ⟨x, y, z⟩ := u
  unfold seenB at h ⊢
  unfold TrioOk at hu h1
  dsimp only at h hu h1 ⊢
  omega
theorem seenB_step {n i j k : Nat} (u : Trio) (_ : TrioOk n u) (h : seenB i j (k + 1) u) : seenB i j k u ∨ u = (i, j, k) := by
  obtain ⟨x, y, z⟩ := u
  unfold seenB at h
  unfold seenB
  dsimp only at h ⊢
  by_cases h1 : x < i ∨ (x = i ∧ (y < j ∨ (y = j ∧ z < k)))
  · exact .inl h1
  · refine .inr ?_
    have : x = i ∧ y = j ∧ z = k := by omega
    rw [this.1, this.2.1, this.2.2]
/-- What an accepted proof says. -/
theorem ver_best {l : List Cd} {cs : List Int} {bn bd : Int} (h : Nice l) (hv : verV l cs bn bd = 0) : fr bn bd ≤ (bestC l).off := by
  obtain ⟨t, ht, e, hall⟩ := bestC_spec h.pos
  unfold verV at hv
  rw [if_neg (fun k => k (good_chk h.good))] at hv
  by_cases h1 : cs.length = 1 ∨ cs.length = 3
  · rw [if_neg (fun k => k h1)] at hv
    by_cases h2 : cdL l.length (-1) cs = 0
    · rw [if_neg (fun k => k h2)] at hv
      have htr := (trioOf_ok h1 h2).1
      by_cases h3 : bdOk bn bd = false
      · rw [if_pos h3] at hv
        cases hv
      · rw [if_neg h3] at hv
        by_cases h4 : (clm l (trioOf cs)).off < fr bn bd
        · rw [if_pos h4] at hv
          cases hv
        · exact Rat.le_trans (Rat.not_lt.1 h4) (hall _ htr)
    · rw [if_pos h2] at hv
      exact absurd hv h2
  · rw [if_pos h1] at hv
    cases hv
theorem errN_bd {l : List Cd} (h : Nice l) {gn gd on od : Int} (h1 : -128 ≤ gn ∧ gn ≤ 127) (h2 : 1 ≤ gd ∧ gd ≤ 8) (h3 : -128 ≤ on ∧ on ≤ 127) (h4 : 1 ≤ od ∧ od ≤ 8) : 0 ≤ errN gn gd on od l ∧ errN gn gd on od l ≤ 100000 := by
  constructor
  · exact ((errN_le gn gd on od l 0 _).1 (Int.le_refl _)).1
  · refine (errN_le gn gd on od l 0 100000).2 ⟨by omega, fun i hi => ?_⟩
    have hs := h.set i hi
    have hw := h.want i hi
    generalize cAt l i = c at *
    have m1 := mul_in (a := gn) (A := 128) (b := c.1) (B := 13) (by omega) (by omega) (by omega) (by omega)
    have m2 := mul_in (a := gn * c.1) (A := 1664) (b := od) (B := 8) (by omega) (by omega) (by omega) (by omega)
    have m3 := mul_in (a := on) (A := 128) (b := gd) (B := 8) (by omega) (by omega) (by omega) (by omega)
    have m4 := mul_bd (a := gd) (b := od) (A := 8) (B := 8) (by omega) (by omega) (by omega) (by omega)
    have m5 := mul_bd (a := c.2.1) (b := gd * od) (A := 50) (B := 64) (by omega) (by omega) (by omega) (by omega)
    have m6 := mul_bd (a := c.2.2) (b := gd * od) (A := 50) (B := 64) (by omega) (by omega) (by omega) (by omega)
    unfold loudF
    omega
end Go.Proofs.Ytjncoableanmpaa
