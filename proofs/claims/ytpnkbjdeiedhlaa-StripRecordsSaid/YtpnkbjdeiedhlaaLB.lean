/- The small functions: between, tubes, weight, after, rest. -/
import Derived.Test.YtpnkbjdeiedhlaaPA
namespace Go.Proofs.Ytpnkbjdeiedhlaa
open Go.RowKit Go.Lib Go.Shelf
open St

theorem Gives.c {f : Nat} {args : Array Value} {v : Value} {w : World} (h : Gives f args v w) : Calls Try.prog f args w (fun e w' => e = .returned v ∧ Below w.heap.size w w') := h
theorem Quiet.c {f : Nat} {args : Array Value} {v : Value} {w : World} (h : Quiet f args v w) : Calls Try.prog f args w (fun e w' => e = .returned v ∧ w = w') := h
theorem Held.at {w W : World} {P : World → Prop} (h : Held w P) (hb : Below w.heap.size w W) : P W := h W hb
theorem Blk.three {w : World} {B : Nat} {a b c : Value} (h : Blk w B [a, b, c]) : w.cell? ⟨B, 0, none⟩ = some a ∧ w.cell? ⟨B, 1, none⟩ = some b ∧ w.cell? ⟨B, 2, none⟩ = some c := ⟨h.cell 0 _ rfl, h.cell 1 _ rfl, h.cell 2 _ rfl⟩
theorem Blk.free3 {w : World} {B : Nat} {cs : List Value} (h : Blk w B cs) : w.frozen? ⟨B, 0, none⟩ = false ∧ w.frozen? ⟨B, 1, none⟩ = false ∧ w.frozen? ⟨B, 2, none⟩ = false := ⟨h.free 0, h.free 1, h.free 2⟩
/-- A state as it lies. -/
abbrev St.v (s : St) : Value := .agg #[.int .i64 (s.a : Int), .int .i64 (s.b : Int), .int .i64 (s.c : Int)]
theorem between_calls (lo n hi : Int) (w : World) : Quiet 53 #[.int .i64 lo, .int .i64 n, .int .i64 hi] (.bool (btw lo n hi)) w := by
  unfold Quiet
  by_cases h1 : lo ≤ n
  · by_cases h2 : n ≤ hi
    · rw [btw_yes ⟨h1, h2⟩]
      go_enter Try.func53, Try.ntmps53
      go_wp2
      go_ret
      simp
    · rw [btw_no (by omega)]
      go_enter Try.func53, Try.ntmps53
      go_wp2
      go_ret
      simp
  · rw [btw_no (by omega)]
    go_enter Try.func53, Try.ntmps53
    go_wp2
    go_ret
    exact ⟨rfl, rfl⟩
theorem tubes_calls {s : St} (h : s.tubes ≤ 1000) (w : World) : Gives 79 #[s.v] (.int .i64 (s.tubes : Int)) w := by
  unfold Gives
  obtain ⟨a, b, c⟩ := s
  simp only [tubes] at h ⊢
  have w1 : IntKind.i64.wrap ((a : Int) + (b : Int)) = (a : Int) + (b : Int) := i64_in (by omega) (by omega)
  have w2 : IntKind.i64.wrap ((a : Int) + (b : Int) + (c : Int)) = (a : Int) + (b : Int) + (c : Int) := i64_in (by omega) (by omega)
  go_enter Try.func79, Try.ntmps79
  go_wp2
  go_ret
  exact ⟨ret_int (by omega), by go_grown⟩
theorem tri_int {n : Nat} : ((n : Int) * ((n : Int) - 1)).tdiv 2 = (tri n : Int) := by
  unfold tri
  cases n with
  | zero => rfl
  | succ m =>
    rw [show ((m + 1 : Nat) : Int) - 1 = (m : Int) by omega, show m + 1 - 1 = m by omega]
    rw [← Int.natCast_mul]
    exact (Int.ofNat_tdiv _ _).symm
theorem weight_calls {s : St} (h : s.tubes ≤ 100) {n : Nat} (hn : n ≤ 100) (w : World) : Gives 58 #[s.v, .int .i64 (n : Int)] (.int .i64 (s.wt n : Int)) w := by
  unfold Gives
  obtain ⟨a, b, c⟩ := s
  simp only [tubes] at h
  have htri : tri n ≤ 10000 := by
    have h2 : n * (n - 1) ≤ 100 * 100 := Nat.mul_le_mul hn (by omega)
    unfold tri
    omega
  have m1 : 0 ≤ (n : Int) * ((n : Int) - 1) ∧ (n : Int) * ((n : Int) - 1) ≤ 10000 := by
    rcases Nat.eq_zero_or_pos n with h0 | h0
    · subst h0; decide
    · exact mul_bd (A := 100) (B := 100) (by omega) (by omega) (by omega) (by omega)
  have w0 : IntKind.i64.wrap ((n : Int) + 1) = (n : Int) + 1 := i64_in (by omega) (by omega)
  have w1 : IntKind.i64.wrap ((n : Int) - 1) = (n : Int) - 1 := i64_in (by omega) (by omega)
  have w2 : IntKind.i64.wrap ((n : Int) * ((n : Int) - 1)) = (n : Int) * ((n : Int) - 1) := i64_in (by omega) (by omega)
  have w3 : IntKind.i64.wrap (((n : Int) * ((n : Int) - 1)).tdiv 2) = (tri n : Int) := by rw [tri_int]; exact i64_in (by omega) (by omega)
  have w4 : IntKind.i64.wrap ((n : Int) + 1 + (tri n : Int)) = (n : Int) + 1 + (tri n : Int) := i64_in (by omega) (by omega)
  have p1 := mul_bd (a := (a : Int)) (b := (n : Int) + 1 + (tri n : Int)) (A := 100) (B := 10101) (by omega) (by omega) (by omega) (by omega)
  have p2 := mul_bd (a := (b : Int)) (b := (n : Int) + 1) (A := 100) (B := 101) (by omega) (by omega) (by omega) (by omega)
  have w5 : IntKind.i64.wrap ((a : Int) * ((n : Int) + 1 + (tri n : Int))) = (a : Int) * ((n : Int) + 1 + (tri n : Int)) := i64_in (by omega) (by omega)
  have w6 : IntKind.i64.wrap ((b : Int) * ((n : Int) + 1)) = (b : Int) * ((n : Int) + 1) := i64_in (by omega) (by omega)
  have w7 : IntKind.i64.wrap ((a : Int) * ((n : Int) + 1 + (tri n : Int)) + (b : Int) * ((n : Int) + 1)) = (a : Int) * ((n : Int) + 1 + (tri n : Int)) + (b : Int) * ((n : Int) + 1) := i64_in (by omega) (by omega)
  have w8 : IntKind.i64.wrap ((a : Int) * ((n : Int) + 1 + (tri n : Int)) + (b : Int) * ((n : Int) + 1) + (c : Int)) = (a : Int) * ((n : Int) + 1 + (tri n : Int)) + (b : Int) * ((n : Int) + 1) + (c : Int) := i64_in (by omega) (by omega)
  have hF : ((wt ⟨a, b, c⟩ n : Nat) : Int) = (a : Int) * ((n : Int) + 1 + (tri n : Int)) + (b : Int) * ((n : Int) + 1) + (c : Int) := by
    simp only [wt]
    push_cast
    rfl
  have HF := Lib.hid hF
  clear hF m1 p1 p2 htri
  go_enter Try.func58, Try.ntmps58
  go_wp2
  go_ret
  exact ⟨ret_int HF.out.symm, by go_grown⟩
theorem Blk.at_new {w : World} {B : Nat} (h : w.heap.size = B) (cs : List Value) (t : TypeId) : Blk (w.alloc (.cells cs.toArray t)) B cs := by
  subst h
  exact Blk.new w cs t
theorem after_calls {s x : St} (h : s.tubes ≤ 1000) (hx : x.Le s) (w : World) : Gives 69 #[s.v, x.v] (s.aft x).v w := by
  unfold Gives
  obtain ⟨a, b, c⟩ := s
  obtain ⟨i, j, k⟩ := x
  obtain ⟨h1, h2, h3⟩ := hx
  dsimp only at h1 h2 h3
  simp only [tubes] at h
  have w1 : IntKind.i64.wrap ((j : Int) + (a : Int)) = (j : Int) + (a : Int) := i64_in (by omega) (by omega)
  have w2 : IntKind.i64.wrap ((j : Int) + (a : Int) - (i : Int)) = ((j + (a - i) : Nat) : Int) := by rw [i64_in (by omega) (by omega)]; omega
  have w3 : IntKind.i64.wrap ((k : Int) + (b : Int)) = (k : Int) + (b : Int) := i64_in (by omega) (by omega)
  have w4 : IntKind.i64.wrap ((k : Int) + (b : Int) - (j : Int)) = ((k + (b - j) : Nat) : Int) := by rw [i64_in (by omega) (by omega)]; omega
  simp only [aft, St.v]
  go_enter Try.func69, Try.ntmps69
  go_wp2
  go_returns
  exact ⟨by simp, by go_grown⟩
theorem rest_calls {s x : St} (h : s.tubes ≤ 1000) (hx : x.Le s) (w : World) : Gives 70 #[s.v, x.v] (s.rst x).v w := by
  unfold Gives
  obtain ⟨a, b, c⟩ := s
  obtain ⟨i, j, k⟩ := x
  obtain ⟨h1, h2, h3⟩ := hx
  dsimp only at h1 h2 h3
  simp only [tubes] at h
  have w1 : IntKind.i64.wrap ((a : Int) - (i : Int)) = ((a - i : Nat) : Int) := by rw [i64_in (by omega) (by omega)]; omega
  have w2 : IntKind.i64.wrap ((b : Int) - (j : Int)) = ((b - j : Nat) : Int) := by rw [i64_in (by omega) (by omega)]; omega
  have w3 : IntKind.i64.wrap ((c : Int) - (k : Int)) = ((c - k : Nat) : Int) := by rw [i64_in (by omega) (by omega)]; omega
  simp only [rst, St.v]
  go_enter Try.func70, Try.ntmps70
  go_wp2
  go_returns
  exact ⟨by simp, by go_grown⟩
end Go.Proofs.Ytpnkbjdeiedhlaa
