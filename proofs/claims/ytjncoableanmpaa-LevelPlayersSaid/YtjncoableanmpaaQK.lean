/- Codings by numbers: what Best and Gains come to. -/
import Derived.Test.YtjncoableanmpaaQJ
namespace Go.Proofs.Ytjncoableanmpaa
open Go.RowKit Go.Lib Go.Shelf

theorem fr_ab {n d D : Int} {N : Nat} (hd : 0 < d) (hD : d ≤ D) (hn : n.natAbs ≤ N) : (fr n d).num.natAbs ≤ N ∧ ((fr n d).den : Int) ≤ D := by
  obtain ⟨h1, h2, _⟩ := fr_bd (n := n) hd
  omega
theorem nice_one {l : List Cd} (h : Nice l) {i : Nat} (hi : i < l.length) : (one1 (cAt l i)).num.natAbs ≤ 1700 ∧ ((one1 (cAt l i)).den : Int) ≤ 32 := by
  have hw := h.want i hi
  unfold one1
  exact fr_ab (by omega) (by omega) (by omega)
theorem nice_three {l : List Cd} (h : Nice l) {i j k : Nat} (hij : i < j) (hjk : j < k) (hk : k < l.length) : (three1 (cAt l i) (cAt l j) (cAt l k)).num.natAbs ≤ 1700 ∧ ((three1 (cAt l i) (cAt l j) (cAt l k)).den : Int) ≤ 32 := by
  have w1 := h.want i (by omega)
  have w2 := h.want j (by omega)
  have w3 := h.want k hk
  have s1 := h.set i (by omega)
  have s3 := h.set k hk
  have i1 := h.inc i j hij (by omega)
  have i2 := h.inc j k hjk hk
  generalize cAt l i = a at *
  generalize cAt l j = b at *
  generalize cAt l k = c at *
  have b1 := mul_bd (a := b.2.2) (b := b.1 - a.1 + (c.1 - b.1)) (A := 50) (B := 16) (by omega) (by omega) (by omega) (by omega)
  have b2 := mul_bd (a := a.2.1) (b := c.1 - b.1) (A := 50) (B := 16) (by omega) (by omega) (by omega) (by omega)
  have b3 := mul_bd (a := c.2.1) (b := b.1 - a.1) (A := 50) (B := 16) (by omega) (by omega) (by omega) (by omega)
  have b4 := mul_bd (a := a.2.2) (b := c.1 - b.1) (A := 50) (B := 16) (by omega) (by omega) (by omega) (by omega)
  have b5 := mul_bd (a := c.2.2) (b := b.1 - a.1) (A := 50) (B := 16) (by omega) (by omega) (by omega) (by omega)
  have b6 := mul_bd (a := b.2.1) (b := b.1 - a.1 + (c.1 - b.1)) (A := 50) (B := 16) (by omega) (by omega) (by omega) (by omega)
  unfold three1 upF downF
  exact fr_ab (by omega) (by omega) (by omega)
theorem nice_off {l : List Cd} (h : Nice l) : 0 ≤ (bestC l).off.num ∧ (bestC l).off.num ≤ 1700 ∧ 0 < ((bestC l).off.den : Int) ∧ ((bestC l).off.den : Int) ≤ 32 := by
  obtain ⟨t, ht, e, _⟩ := bestC_spec h.pos
  have hc := clm_bd h.good ht
  have hp := (clm l t).off.den_pos
  rw [e]
  obtain ⟨i, j, k⟩ := t
  obtain ⟨h0, ⟨h1, h2⟩ | ⟨h1, h2⟩⟩ := ht
  · dsimp only at h0 h1 h2
    subst h1
    subst h2
    have hx := nice_one h h0
    have e2 : (clm l (i, i, i)).off = one1 (cAt l i) := by unfold clm; rw [if_pos rfl]
    rw [e2] at hc hp ⊢
    omega
  · dsimp only at h0 h1 h2
    have hx := nice_three h h1 h2 h0
    have e2 : (clm l (i, j, k)).off = three1 (cAt l i) (cAt l j) (cAt l k) := by unfold clm; rw [if_neg (by dsimp only; omega)]
    rw [e2] at hc hp ⊢
    omega
theorem nice_gain {l : List Cd} (h : Nice l) {bn bd : Int} (h0 : 0 ≤ bn ∧ bn ≤ 2000) (h1 : 1 ≤ bd ∧ bd ≤ 32) {i j : Nat} (hij : i < j) (hj : j < l.length) :
    ((loG bn bd (cAt l i) (cAt l j)).num.natAbs ≤ 6000 ∧ ((loG bn bd (cAt l i) (cAt l j)).den : Int) ≤ 512) ∧ ((hiG bn bd (cAt l i) (cAt l j)).num.natAbs ≤ 6000 ∧ ((hiG bn bd (cAt l i) (cAt l j)).den : Int) ≤ 512) := by
  have w1 := h.want i (by omega)
  have w2 := h.want j hj
  have s1 := h.set i (by omega)
  have s2 := h.set j hj
  have i1 := h.inc i j hij hj
  generalize cAt l i = a at *
  generalize cAt l j = b at *
  have m1 := mul_in (a := b.2.2 - a.2.1) (A := 50) (b := bd) (B := 32) (by omega) (by omega) (by omega) (by omega)
  have m2 := mul_in (a := b.2.1 - a.2.2) (A := 50) (b := bd) (B := 32) (by omega) (by omega) (by omega) (by omega)
  have m3 := mul_in (a := b.1 - a.1) (A := 16) (b := bd) (B := 32) (by omega) (by omega) (by omega) (by omega)
  have m4 := Int.mul_pos (show 0 < b.1 - a.1 by omega) (show 0 < bd by omega)
  unfold loG hiG
  exact ⟨fr_ab m4 (by omega) (by omega), fr_ab m4 (by omega) (by omega)⟩
theorem nice_gF {l : List Cd} (h : Nice l) {bn bd : Int} (h0 : 0 ≤ bn ∧ bn ≤ 2000) (h1 : 1 ≤ bd ∧ bd ≤ 32) (h2 : 2 ≤ l.length) :
    ((gF bn bd l).1.num.natAbs ≤ 6000 ∧ ((gF bn bd l).1.den : Int) ≤ 512) ∧ ((gF bn bd l).2.num.natAbs ≤ 6000 ∧ ((gF bn bd l).2.den : Int) ≤ 512) := by
  obtain ⟨⟨i, j, hij, hj, e1⟩, ⟨k, m, hkm, hm, e2⟩, _⟩ := gF_spec (bn := bn) (bd := bd) h2
  rw [e1, e2]
  exact ⟨(nice_gain h h0 h1 hij hj).1, (nice_gain h h0 h1 hkm hm).2⟩
theorem bnd_ok {bn bd : Int} (h0 : 0 ≤ bn ∧ bn ≤ 1000000) (h1 : 1 ≤ bd ∧ bd ≤ 100000) : bndB bn bd = true := by
  unfold bndB btw
  simp [h0, h1]
theorem gains_one {l : List Cd} (hg : Good l) {bn bd : Int} (h0 : 0 ≤ bn ∧ bn ≤ 1000000) (h1 : 1 ≤ bd ∧ bd ≤ 100000) (hl : l.length = 1) : gainsV l bn bd = .tuple #[.agg #[.int .i64 0, .int .i64 0], .agg #[.int .i64 0, .int .i64 0], .int .i64 13] := by
  unfold gainsV
  dsimp only
  rw [if_neg (fun h => h (good_chk hg)), bnd_ok h0 h1, if_neg (by decide), if_pos hl]
theorem gains_many {l : List Cd} (hg : Good l) {bn bd : Int} (h0 : 0 ≤ bn ∧ bn ≤ 1000000) (h1 : 1 ≤ bd ∧ bd ≤ 100000) (hl : 2 ≤ l.length) (hle : ¬ fr bn bd < (bestC l).off) : gainsV l bn bd = .tuple #[rv (gF bn bd l).1, rv (gF bn bd l).2, .int .i64 0] := by
  unfold gainsV
  dsimp only
  rw [if_neg (fun h => h (good_chk hg)), bnd_ok h0 h1, if_neg (by decide), if_neg (by omega), if_neg hle]
theorem gains_over {l : List Cd} (hg : Good l) {bn bd : Int} (h0 : 0 ≤ bn ∧ bn ≤ 1000000) (h1 : 1 ≤ bd ∧ bd ≤ 100000) (hl : 2 ≤ l.length) (hle : fr bn bd < (bestC l).off) : gainsV l bn bd = .tuple #[.agg #[.int .i64 0, .int .i64 0], .agg #[.int .i64 0, .int .i64 0], .int .i64 11] := by
  unfold gainsV
  dsimp only
  rw [if_neg (fun h => h (good_chk hg)), bnd_ok h0 h1, if_neg (by decide), if_neg (by omega), if_pos hle]
theorem not_under (q : Rat) {B : Int} (h : 0 ≤ B) : ¬ fr (q.num + B) (q.den : Int) < q := by
  have hp := q.den_pos
  rw [fr_lt (by omega)]
  have := Int.mul_le_mul_of_nonneg_right (show q.num ≤ q.num + B by omega) (show (0 : Int) ≤ (q.den : Int) by omega)
  omega
theorem best_nice {b off n c : Nat} {l : List Cd} (hg : Good l) (hcap : n ≤ c) : ∃ x1 x2 x3 x4 : Int, ∀ W : World, ReadsC W (some ⟨b, off, none⟩) n l → Gives 25 #[.slice (some ⟨b, off, none⟩) n c] (.tuple #[.agg #[.int .i64 x1, .int .i64 x2, .int .i64 x3, .int .i64 x4], .agg #[.int .i64 (bestC l).off.num, .int .i64 ((bestC l).off.den : Int)], .int .i64 0]) W :=
  ⟨_, _, _, _, fun W h => Best_calls W h (good_chk hg) hcap⟩
end Go.Proofs.Ytjncoableanmpaa
