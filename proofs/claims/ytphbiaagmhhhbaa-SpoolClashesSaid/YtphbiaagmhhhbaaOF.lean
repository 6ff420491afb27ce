/- The contract of the closure that tells whether a growth fits a measurement. -/
import Derived.Test.YtphbiaagmhhhbaaMT
namespace Go.Proofs.Ytphbiaagmhhhbaa
open Go.RowKit Go.Lib Go.Shelf

def fitC (c d g a b : Int) : Bool := decide (len c g a - b ≤ d) && decide (b - len c g a ≤ d)
theorem fitC_iff {c d g : Int} {m : Int × Int} : fitC c d g m.1 m.2 = true ↔ Fits c d g m := by
  unfold fitC Fits
  simp
  omega

theorem eg48 : ∀ args w, (callFunc 48 args).run Try.prog w = .ok (.enter 48 args) w := enters_of Try.func48 (by kernel_rfl) rfl

set_option maxRecDepth 100000 in
theorem fits_closure {c d g a b : Int} {BS BD : Nat} (hc0 : 1 ≤ c) (hc1 : c ≤ 99) (hg0 : 0 ≤ g) (hg1 : g ≤ 40) (ha : 0 ≤ a ∧ a ≤ 24) (hb : 0 ≤ b ∧ b ≤ 1000000) (w : World) (h1 : w.cell? ⟨BS, 0, none⟩ = some (.int .i64 c)) (h2 : w.cell? ⟨BD, 0, none⟩ = some (.int .i64 d)) :
    Gives 48 #[.agg #[.int .i64 a, .int .i64 b], .int .i64 g, .pointer (some ⟨BS, 0, none⟩), .pointer (some ⟨BD, 0, none⟩)] (.bool (fitC c d g a b)) w := by
  unfold Gives fitC
  have z1 := World.block_lt_of_cell? w _ h1
  have z2 := World.block_lt_of_cell? w _ h2
  have k1 := mul_bd ha.1 ha.2 (show 0 ≤ c by omega) hc1
  have k2 := tri_bd ha.1 (by omega)
  have k3 := mul_bd (a := g) (b := a * (a - 1) / 2) (A := 40) (B := 500500) hg0 hg1 (by omega) (by omega)
  have hlb := len_bd (c := c) (g := g) (n := a) (by omega) (by omega) hg0 (by omega) ha.1 (by omega)
  have v1 : IntKind.i64.wrap (a * c) = a * c := i64_in (by omega) (by omega)
  have v2 : IntKind.i64.wrap (a - 1) = a - 1 := i64_in (by omega) (by omega)
  have v3 : IntKind.i64.wrap (a * (a - 1)) = a * (a - 1) := i64_in (by omega) (by omega)
  have v4 : IntKind.i64.wrap ((a * (a - 1)).tdiv 2) = a * (a - 1) / 2 := by rw [Int.tdiv_eq_ediv_of_nonneg k2.1]; exact i64_in (by omega) (by omega)
  have v5 : IntKind.i64.wrap (g * (a * (a - 1) / 2)) = g * (a * (a - 1) / 2) := i64_in (by omega) (by omega)
  have v6 : IntKind.i64.wrap (a * c + g * (a * (a - 1) / 2)) = len c g a := by unfold len; exact i64_in (by omega) (by omega)
  have v7 : IntKind.i64.wrap (len c g a - b) = len c g a - b := i64_in (by omega) (by omega)
  have v8 : IntKind.i64.wrap (b - len c g a) = b - len c g a := i64_in (by omega) (by omega)
  have u7 : wrap64 (len c g a - b) = len c g a - b := by rw [← i64_w]; exact v7
  have u8 : wrap64 (b - len c g a) = b - len c g a := by rw [← i64_w]; exact v8
  clear k1 k2 k3
  generalize len c g a = n at v6 v7 v8 u7 u8 hlb
  by_cases e1 : n - b ≤ d
  · rw [decide_eq_true e1]
    by_cases e2 : b - n ≤ d
    · rw [decide_eq_true e2]
      have d1 : decide (n - b ≤ d) = true := decide_eq_true e1
      have d2 : decide (b - n ≤ d) = true := decide_eq_true e2
      go_enter Try.func48, Try.ntmps48
      go_wp2
      go_ret
      exact ⟨rfl, by go_grown⟩
    · rw [decide_eq_false e2]
      have d1 : decide (n - b ≤ d) = true := decide_eq_true e1
      have d2 : decide (b - n ≤ d) = false := decide_eq_false e2
      go_enter Try.func48, Try.ntmps48
      go_wp2
      go_ret
      exact ⟨rfl, by go_grown⟩
  · rw [decide_eq_false e1]
    have d1 : decide (n - b ≤ d) = false := decide_eq_false e1
    go_enter Try.func48, Try.ntmps48
    go_wp2
    go_ret
    exact ⟨rfl, by go_grown⟩
end Go.Proofs.Ytphbiaagmhhhbaa
