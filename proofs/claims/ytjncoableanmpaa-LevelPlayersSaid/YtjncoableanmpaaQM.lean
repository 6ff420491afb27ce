/- The gains of a coding by numbers, with what the law asks of them. -/
import Derived.Test.YtjncoableanmpaaQL
namespace Go.Proofs.Ytjncoableanmpaa
open Go.RowKit Go.Lib Go.Shelf

theorem lawless {a b c d : Int} (ha : a.natAbs ≤ 100000) (hb : b.natAbs ≤ 100000) (hc : c.natAbs ≤ 100000) (hd : d.natAbs ≤ 100000) (w : World) : Gives 29 #[.agg #[.int .i64 a, .int .i64 b], .agg #[.int .i64 c, .int .i64 d]] (.bool (decide (a * d < c * b))) w := by
  have m1 := mul_ab (a := a) (b := d) ha hd
  have m2 := mul_ab (a := c) (b := b) hc hb
  exact lawless_raw (i64_in (by omega) (by omega)) (i64_in (by omega) (by omega)) w
/-- A gain within the limits. -/
def GB (a d : Int) : Prop := (-6000 ≤ a ∧ a ≤ 6000) ∧ (1 ≤ d ∧ d ≤ 512)
theorem gains_pack {l : List Cd} (hN : Nice l) (h2 : 2 ≤ l.length) {bn bd : Int} (h0 : 0 ≤ bn ∧ bn ≤ 1000) (h1 : 1 ≤ bd ∧ bd ≤ 32) (hle : ¬ fr bn bd < (bestC l).off) :
    ∃ p1 p2 q1 q2 r1 r2 s1 s2 : Int, gainsV l bn bd = .tuple #[.agg #[.int .i64 p1, .int .i64 p2], .agg #[.int .i64 q1, .int .i64 q2], .int .i64 0] ∧
      gainsV l (bn + 1) bd = .tuple #[.agg #[.int .i64 r1, .int .i64 r2], .agg #[.int .i64 s1, .int .i64 s2], .int .i64 0] ∧ (GB p1 p2 ∧ GB q1 q2) ∧
      (∀ W, Gives 29 #[.agg #[.int .i64 q1, .int .i64 q2], .agg #[.int .i64 p1, .int .i64 p2]] (.bool false) W) ∧
      (∀ W, Gives 29 #[.agg #[.int .i64 p1, .int .i64 p2], .agg #[.int .i64 r1, .int .i64 r2]] (.bool false) W) ∧
      (∀ W, Gives 29 #[.agg #[.int .i64 s1, .int .i64 s2], .agg #[.int .i64 q1, .int .i64 q2]] (.bool false) W) ∧
      ∀ a d : Int, GB a d → ∃ x y : Bool, (∀ W, Gives 29 #[.agg #[.int .i64 a, .int .i64 d], .agg #[.int .i64 p1, .int .i64 p2]] (.bool x) W) ∧ (∀ W, Gives 29 #[.agg #[.int .i64 q1, .int .i64 q2], .agg #[.int .i64 a, .int .i64 d]] (.bool y) W) ∧
        (maxG (dnG a d bn bd) (-1152921504606846976) l ≤ minG (uvG a d bn bd) 1152921504606846976 l ↔ (x = false ∧ y = false)) := by
  have hle' : (bestC l).off ≤ fr bn bd := Rat.not_lt.1 hle
  have hup : fr bn bd ≤ fr (bn + 1) bd := by
    rw [fr_le (by omega) (by omega)]
    exact Int.mul_le_mul_of_nonneg_right (by omega) (by omega)
  have hle2 : ¬ fr (bn + 1) bd < (bestC l).off := Rat.not_lt.2 (Rat.le_trans hle' hup)
  have b1 := nice_gF hN (bn := bn) (bd := bd) (by omega) h1 h2
  have b2 := nice_gF hN (bn := bn + 1) (bd := bd) (by omega) h1 h2
  have g1 := gains_many hN.good (bn := bn) (bd := bd) (by omega) (by omega) h2 hle
  have g2 := gains_many hN.good (bn := bn + 1) (bd := bd) (by omega) (by omega) h2 hle2
  have hlo := gF_le hN h2 h0.1 h1.1 hle'
  have hmo := gF_more hN h2 (bn := bn) h1.1
  have hlaw := fun a d (ha : -6000 ≤ a ∧ a ≤ 6000) (hd : 1 ≤ d ∧ d ≤ 512) => gains_law hN h2 (bn := bn) (bd := bd) (by omega) h1 hle' ha hd
  generalize gF bn bd l = G at *
  generalize gF (bn + 1) bd l = G2 at *
  obtain ⟨P, Q⟩ := G
  obtain ⟨R, S⟩ := G2
  have dp := P.den_pos
  have dq := Q.den_pos
  have dr := R.den_pos
  have ds := S.den_pos
  dsimp only at b1 b2 g1 g2 hlo hmo hlaw
  have no : ∀ {x y : Rat}, x ≤ y → decide (y.num * (x.den : Int) < x.num * (y.den : Int)) = false := fun {x y} h => by
    rw [rat_lt]
    exact decide_eq_false (Rat.not_lt.2 h)
  refine ⟨_, _, _, _, _, _, _, _, g1, g2, ⟨⟨by omega, by omega⟩, ⟨by omega, by omega⟩⟩, ?_, ?_, ?_, ?_⟩
  · intro W
    rw [← no hlo]
    exact lawless (by omega) (by omega) (by omega) (by omega) W
  · intro W
    rw [← no hmo.1]
    exact lawless (by omega) (by omega) (by omega) (by omega) W
  · intro W
    rw [← no hmo.2]
    exact lawless (by omega) (by omega) (by omega) (by omega) W
  · intro a d ⟨ha, hd⟩
    refine ⟨decide (fr a d < P), decide (Q < fr a d), ?_, ?_, ?_⟩
    · intro W
      rw [decide_eq_decide.2 (fr_lt (n := a) (d := d) (by omega) P)]
      exact lawless (by omega) (by omega) (by omega) (by omega) W
    · intro W
      rw [decide_eq_decide.2 (lt_fr (n := a) (d := d) (by omega) Q)]
      exact lawless (by omega) (by omega) (by omega) (by omega) W
    · rw [hlaw a d ha hd, decide_eq_false_iff_not, decide_eq_false_iff_not, Rat.not_lt, Rat.not_lt]
/-- A number of seven bits of a small number. -/
theorem and7 {y : Int} (h : -128 ≤ y ∧ y ≤ 127) : 0 ≤ bits .and .i64 y 7 ∧ bits .and .i64 y 7 ≤ 7 := by
  have key : ∀ n : Fin 256, 0 ≤ bits .and .i64 ((n.val : Int) - 128) 7 ∧ bits .and .i64 ((n.val : Int) - 128) 7 ≤ 7 := by decide +kernel
  have := key ⟨(y + 128).toNat, by omega⟩
  rw [show (((⟨(y + 128).toNat, by omega⟩ : Fin 256).val : Nat) : Int) - 128 = y by show ((y + 128).toNat : Int) - 128 = y; omega] at this
  exact this
/-- Three fractions in a row. -/
def Rd3 (W : World) (B o : Nat) (g : Nat → Int × Int) : Prop := ∀ j, j < 3 → W.cell? ⟨B, o + j * 2, none⟩ = some (.int .i64 (g j).1) ∧ W.cell? ⟨B, o + j * 2 + 1, none⟩ = some (.int .i64 (g j).2)
theorem Rd3.later {W W' : World} {B o : Nat} {g : Nat → Int × Int} (h : Rd3 W B o g) (hb : Below W.heap.size W W') : Rd3 W' B o g := fun j hj =>
  ⟨(hb.cell (p := ⟨B, o + j * 2, none⟩) (World.block_lt_of_cell? W _ (h j hj).1)).trans (h j hj).1, (hb.cell (p := ⟨B, o + j * 2 + 1, none⟩) (World.block_lt_of_cell? W _ (h j hj).2)).trans (h j hj).2⟩
def three (x y z : Int × Int) (j : Nat) : Int × Int := if j = 0 then x else if j = 1 then y else z
theorem rd3_new {W : World} {B : Nat} {a b c d e f : Int} (h : Blk W B [.int .i64 a, .int .i64 b, .int .i64 c, .int .i64 d, .int .i64 e, .int .i64 f]) : Rd3 W B 0 (three (a, b) (c, d) (e, f)) := by
  intro j hj
  have : j = 0 ∨ j = 1 ∨ j = 2 := by omega
  rcases this with rfl | rfl | rfl
  · exact ⟨h.cell 0 _ rfl, h.cell 1 _ rfl⟩
  · exact ⟨h.cell 2 _ rfl, h.cell 3 _ rfl⟩
  · exact ⟨h.cell 4 _ rfl, h.cell 5 _ rfl⟩
end Go.Proofs.Ytjncoableanmpaa
