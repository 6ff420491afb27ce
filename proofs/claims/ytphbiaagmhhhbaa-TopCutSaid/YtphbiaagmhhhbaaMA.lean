/- The plain numbers of a spool: lengths, places, and their bounds. -/
import Derived.RowKit
namespace Go.Proofs.Ytphbiaagmhhhbaa
open Go.RowKit

theorem mul_bd {a b A B : Int} (h0 : 0 ≤ a) (h1 : a ≤ A) (h2 : 0 ≤ b) (h3 : b ≤ B) : 0 ≤ a * b ∧ a * b ≤ A * B :=
  ⟨Int.mul_nonneg h0 h2, Int.mul_le_mul h1 h3 h2 (Int.le_trans h0 h1)⟩

theorem w64_in {n : Int} (h0 : -9223372036854775808 ≤ n) (h1 : n ≤ 9223372036854775807) : wrap64 n = n := by unfold wrap64; omega

/-- The length of n turns. -/
def len (c g n : Int) : Int := n * c + g * (n * (n - 1) / 2)
def lenR (c g n : Int) : Int := wrap64 (wrap64 (n * c) + wrap64 (g * wrap64 ((wrap64 (n * wrap64 (n - 1))).tdiv 2)))
/-- The place at a time. -/
def plc (c t g x : Int) : Int := len c g (x / t) + (c + x / t * g) * (x % t) / t
def plcR (c t g x : Int) : Int := wrap64 (lenR c g (wrap64 (x.tdiv t)) + wrap64 ((wrap64 (wrap64 (c + wrap64 (wrap64 (x.tdiv t) * g)) * (x % t))).tdiv t))

theorem tri_bd {n : Int} (h0 : 0 ≤ n) (h1 : n ≤ 1001) : 0 ≤ n * (n - 1) ∧ n * (n - 1) ≤ 1001000 := by
  by_cases h : n = 0
  · subst h; decide
  · exact mul_bd (B := 1000) h0 h1 (by omega) (by omega)

theorem len_bd {c g n : Int} (hc0 : 0 ≤ c) (hc1 : c ≤ 100000) (hg0 : 0 ≤ g) (hg1 : g ≤ 1000) (h0 : 0 ≤ n) (h1 : n ≤ 1001) : 0 ≤ len c g n ∧ len c g n ≤ 600600000 := by
  have a := mul_bd h0 h1 hc0 hc1
  have b := tri_bd h0 h1
  have d := mul_bd (a := g) (b := n * (n - 1) / 2) (B := 500500) hg0 hg1 (by omega) (by omega)
  unfold len
  omega

theorem lenR_eq {c g n : Int} (hc0 : 0 ≤ c) (hc1 : c ≤ 100000) (hg0 : 0 ≤ g) (hg1 : g ≤ 1000) (h0 : 0 ≤ n) (h1 : n ≤ 1001) : lenR c g n = len c g n := by
  have a := mul_bd h0 h1 hc0 hc1
  have b := tri_bd h0 h1
  have d := mul_bd (a := g) (b := n * (n - 1) / 2) (B := 500500) hg0 hg1 (by omega) (by omega)
  unfold lenR len
  rw [w64_in (n := n - 1) (by omega) (by omega), w64_in (n := n * (n - 1)) (by omega) (by omega), w64_in (n := n * c) (by omega) (by omega),
    Int.tdiv_eq_ediv_of_nonneg (by omega), w64_in (n := n * (n - 1) / 2) (by omega) (by omega), w64_in (n := g * _) (by omega) (by omega), w64_in (by omega) (by omega)]

theorem div_bd {x t : Int} (ht : 1 ≤ t) (h0 : 0 ≤ x) {m : Int} (h1 : x ≤ m * t) : 0 ≤ x / t ∧ x / t ≤ m ∧ 0 ≤ x % t ∧ x % t < t :=
  ⟨Int.ediv_nonneg h0 (by omega), Int.ediv_le_of_le_mul (by omega) h1, Int.emod_nonneg _ (by omega), Int.emod_lt_of_pos _ (by omega)⟩

theorem rest_bd {c t g n r : Int} (ht : 1 ≤ t) (htc : t ≤ c) (hc1 : c ≤ 100000) (hg0 : 0 ≤ g) (hg1 : g ≤ 1000) (h0 : 0 ≤ n) (h1 : n ≤ 1000) (hr0 : 0 ≤ r) (hr1 : r < t) :
    0 ≤ n * g ∧ n * g ≤ 1000000 ∧ 0 ≤ (c + n * g) * r ∧ (c + n * g) * r ≤ 110000000000 ∧ 0 ≤ (c + n * g) * r / t ∧ (c + n * g) * r / t < c + n * g := by
  have a := mul_bd h0 h1 hg0 hg1
  have b := mul_bd (a := c + n * g) (b := r) (A := 1100000) (B := 100000) (by omega) (by omega) hr0 (by omega)
  refine ⟨a.1, a.2, b.1, b.2, Int.ediv_nonneg b.1 (by omega), Int.ediv_lt_of_lt_mul (by omega) ?_⟩
  exact Int.mul_lt_mul_of_pos_left hr1 (by omega)

theorem plc_bd {c t g x : Int} (ht : 1 ≤ t) (htc : t ≤ c) (hc1 : c ≤ 100000) (hg0 : 0 ≤ g) (hg1 : g ≤ 1000) (h0 : 0 ≤ x) (h1 : x ≤ 1000 * t) : 0 ≤ plc c t g x ∧ plc c t g x ≤ 700000000 := by
  obtain ⟨a, b, d, e⟩ := div_bd ht h0 h1
  have f := rest_bd ht htc hc1 hg0 hg1 a b d e
  have l := len_bd (c := c) (by omega) hc1 hg0 hg1 a (by omega)
  unfold plc
  omega

theorem plcR_eq {c t g x : Int} (ht : 1 ≤ t) (htc : t ≤ c) (hc1 : c ≤ 100000) (hg0 : 0 ≤ g) (hg1 : g ≤ 1000) (h0 : 0 ≤ x) (h1 : x ≤ 1000 * t) : plcR c t g x = plc c t g x := by
  obtain ⟨a, b, d, e⟩ := div_bd ht h0 h1
  have f := rest_bd ht htc hc1 hg0 hg1 a b d e
  have l := len_bd (c := c) (by omega) hc1 hg0 hg1 a (by omega)
  unfold plcR plc
  rw [Int.tdiv_eq_ediv_of_nonneg h0, w64_in (n := x / t) (by omega) (by omega), lenR_eq (by omega) hc1 hg0 hg1 a (by omega), w64_in (n := x / t * g) (by omega) (by omega),
    w64_in (n := c + x / t * g) (by omega) (by omega), w64_in (n := (c + x / t * g) * (x % t)) (by omega) (by omega), Int.tdiv_eq_ediv_of_nonneg (by omega),
    w64_in (n := (c + x / t * g) * (x % t) / t) (by omega) (by omega), w64_in (by omega) (by omega)]
end Go.Proofs.Ytphbiaagmhhhbaa
