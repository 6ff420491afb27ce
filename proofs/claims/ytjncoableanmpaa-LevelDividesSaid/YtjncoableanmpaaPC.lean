/- Plain: the error of a line. -/
import Derived.Test.YtjncoableanmpaaPB
namespace Go.Proofs.Ytjncoableanmpaa
def loudF (gn gd on od s : Int) : Int := gn * s * od + on * gd
def errStep (gn gd on od : Int) (m : Int) (c : Cd) : Int := max m (max (loudF gn gd on od c.1 - c.2.1 * (gd * od)) (c.2.2 * (gd * od) - loudF gn gd on od c.1))
def errN (gn gd on od : Int) (l : List Cd) : Int := l.foldl (errStep gn gd on od) 0
theorem errStep_at {gn gd on od : Int} {l : List Cd} {k : Nat} (h : k < l.length) (m : Int) : (l.drop k).foldl (errStep gn gd on od) m = (l.drop (k + 1)).foldl (errStep gn gd on od) (errStep gn gd on od m (cAt l k)) := by
  rw [drop_at h]
  rfl
/-- Is a fraction as stated? -/
def insB (a b n : Int) : Bool := decide (-n ≤ a) && decide (a ≤ n) && (decide (1 ≤ b) && decide (b ≤ 100000))
theorem mul_in {a b A B : Int} (h0 : -A ≤ a) (h1 : a ≤ A) (h2 : -B ≤ b) (h3 : b ≤ B) : -(A * B) ≤ a * b ∧ a * b ≤ A * B := by
  have hA : 0 ≤ A := by omega
  have h : (a * b).natAbs ≤ (A * B).toNat := by
    rw [Int.natAbs_mul]
    have e : (A * B).toNat = A.toNat * B.toNat := by rw [← Int.toNat_mul hA (by omega)]
    rw [e]
    exact Nat.mul_le_mul (by omega) (by omega)
  have := Int.mul_nonneg hA (show 0 ≤ B by omega)
  omega
theorem loud_bd {gn gd on od s : Int} (h1 : -1000000 ≤ gn ∧ gn ≤ 1000000) (h2 : 1 ≤ gd ∧ gd ≤ 100000) (h3 : -10000000000 ≤ on ∧ on ≤ 10000000000) (h4 : 1 ≤ od ∧ od ≤ 100000) (h5 : -10000 ≤ s ∧ s ≤ 10000) :
    (-10000000000 ≤ gn * s ∧ gn * s ≤ 10000000000) ∧ (-1000000000000000 ≤ gn * s * od ∧ gn * s * od ≤ 1000000000000000) ∧ (-1000000000000000 ≤ on * gd ∧ on * gd ≤ 1000000000000000) ∧ (1 ≤ gd * od ∧ gd * od ≤ 10000000000) := by
  have a1 := mul_in h1.1 h1.2 h5.1 h5.2
  have a2 := mul_in (a := gn * s) (A := 10000000000) (b := od) (B := 100000) (by omega) (by omega) (by omega) h4.2
  have a3 := mul_in (a := on) (A := 10000000000) (b := gd) (B := 100000) (by omega) (by omega) (by omega) h2.2
  have a4 := mul_in (a := gd) (A := 100000) (b := od) (B := 100000) (by omega) (by omega) (by omega) h4.2
  have a5 := Int.mul_pos (show 0 < gd by omega) (show 0 < od by omega)
  omega
end Go.Proofs.Ytjncoableanmpaa
