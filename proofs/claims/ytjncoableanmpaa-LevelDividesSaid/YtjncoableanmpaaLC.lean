/- The contracts of the level's small functions. -/
import Derived.Test.YtjncoableanmpaaLB
namespace Go.Proofs.Ytjncoableanmpaa
open Go.RowKit Go.Lib Go.Shelf

theorem between_calls (lo n hi : Int) (w : World) : Quiet 42 #[.int .i64 lo, .int .i64 n, .int .i64 hi] (.bool (btw lo n hi)) w := by
  unfold Quiet
  by_cases h1 : lo ≤ n
  · by_cases h2 : n ≤ hi
    · rw [btw_yes ⟨h1, h2⟩]
      go_enter Try.func42, Try.ntmps42
      go_wp2
      go_ret
      simp
    · rw [btw_no (by omega)]
      go_enter Try.func42, Try.ntmps42
      go_wp2
      go_ret
      simp
  · rw [btw_no (by omega)]
    go_enter Try.func42, Try.ntmps42
    go_wp2
    go_ret
    exact ⟨rfl, rfl⟩

theorem less_raw {a b c d : Int} (h1 : IntKind.i64.wrap (a * d) = a * d) (h2 : IntKind.i64.wrap (c * b) = c * b) (w : World) : Gives 53 #[.agg #[.int .i64 a, .int .i64 b], .agg #[.int .i64 c, .int .i64 d]] (.bool (decide (a * d < c * b))) w := by
  unfold Gives
  go_enter Try.func53, Try.ntmps53
  go_wp2
  go_ret
  exact ⟨rfl, by go_grown⟩
theorem more_raw {a b c d : Int} (h1 : IntKind.i64.wrap (a * d) = a * d) (h2 : IntKind.i64.wrap (c * b) = c * b) (w : World) : Gives 46 #[.agg #[.int .i64 c, .int .i64 d], .agg #[.int .i64 a, .int .i64 b]] (.bool (decide (a * d < c * b))) w := by
  unfold Gives
  have HC : ∀ W, Gives 53 #[.agg #[.int .i64 a, .int .i64 b], .agg #[.int .i64 c, .int .i64 d]] (.bool (decide (a * d < c * b))) W := less_raw h1 h2
  generalize decide (a * d < c * b) = r at HC
  have HC := Lib.hid HC
  clear h1 h2
  go_enter Try.func46, Try.ntmps46
  go_wp2_with (go_at_call 53; (with_reducible refine (Gives.c (HC.out _)).mono ?_); rintro e w1 ⟨rfl, hb⟩)
  go_ret
  exact ⟨rfl, (((Below.refl _ _).alloc (Nat.le_refl _) _).alloc (by simp) _).trans (hb.mono (by simp; omega))⟩

theorem out_calls (a b : Int) (w : World) : Gives 39 #[.agg #[.int .i64 a, .int .i64 b]] (.agg #[.int .i64 a, .int .i64 b]) w := by
  unfold Gives
  go_enter Try.func39, Try.ntmps39
  go_wp2
  refine bodyPost_ret (v := .agg #[.int .i64 a, .int .i64 b]) (by simp [results, Try.results39, go_sem]) rfl ⟨rfl, ?_⟩
  go_grown
theorem given_calls (a b : Int) (w : World) : Gives 47 #[.agg #[.int .i64 a, .int .i64 b]] (.agg #[.int .i64 a, .int .i64 b]) w := by
  unfold Gives
  go_enter Try.func47, Try.ntmps47
  go_wp2
  refine bodyPost_ret (v := .agg #[.int .i64 a, .int .i64 b]) (by simp [results, Try.results47, go_sem]) rfl ⟨rfl, ?_⟩
  go_grown

theorem inside_calls (a b n : Int) (hn : 0 ≤ n ∧ n ≤ 100000000000) (w : World) : Gives 37 #[.agg #[.int .i64 a, .int .i64 b], .int .i64 n] (.bool (btw (-n) a n && btw 1 b 100000)) w := by
  unfold Gives
  have wn : IntKind.i64.wrap (-n) = -n := i64_in (by omega) (by omega)
  have hB : ∀ lo n hi W, Quiet 42 #[.int .i64 lo, .int .i64 n, .int .i64 hi] (.bool (btw lo n hi)) W := between_calls
  have HB := Lib.hid hB
  clear hB hn
  cases h1 : btw (-n) a n with
  | true =>
    cases h2 : btw 1 b 100000 with
    | true =>
      go_enter Try.func37, Try.ntmps37
      go_wp2_with (go_at_call 42; (with_reducible refine (Quiet.c (HB.out _ _ _ _)).mono ?_); rintro e w1 ⟨rfl, rfl⟩)
      go_ret
      exact ⟨rfl, by go_grown⟩
    | false =>
      go_enter Try.func37, Try.ntmps37
      go_wp2_with (go_at_call 42; (with_reducible refine (Quiet.c (HB.out _ _ _ _)).mono ?_); rintro e w1 ⟨rfl, rfl⟩)
      go_ret
      exact ⟨rfl, by go_grown⟩
  | false =>
    go_enter Try.func37, Try.ntmps37
    go_wp2_with (go_at_call 42; (with_reducible refine (Quiet.c (HB.out _ _ _ _)).mono ?_); rintro e w1 ⟨rfl, rfl⟩)
    go_ret
    exact ⟨rfl, by go_grown⟩

/-- Is a bound as stated? -/
def bndB (a b : Int) : Bool := btw 0 a 1000000 && btw 1 b 100000
theorem bounded_calls (a b : Int) (w : World) : Gives 44 #[.agg #[.int .i64 a, .int .i64 b]] (.bool (bndB a b)) w := by
  unfold Gives
  have e : bndB a b = (decide (0 ≤ a) && (btw (-1000000) a 1000000 && btw 1 b 100000)) := by
    unfold bndB btw
    by_cases h : 0 ≤ a
    · rw [decide_eq_true h, decide_eq_true (show -1000000 ≤ a by omega)]
      rfl
    · rw [decide_eq_false h]
      rfl
  rw [e]
  have HC : ∀ W, Gives 37 #[.agg #[.int .i64 a, .int .i64 b], .int .i64 1000000] (.bool (btw (-1000000) a 1000000 && btw 1 b 100000)) W := inside_calls a b 1000000 (by decide)
  generalize (btw (-1000000) a 1000000 && btw 1 b 100000) = r at HC
  have HC := Lib.hid HC
  clear e
  by_cases h : 0 ≤ a
  · have d : decide (0 ≤ a) = true := decide_eq_true h
    rw [d, Bool.true_and]
    go_enter Try.func44, Try.ntmps44
    go_wp2_with (go_at_call 37; (with_reducible refine (Gives.c (HC.out _)).mono ?_); rintro e w1 ⟨rfl, hb⟩)
    go_ret
    exact ⟨rfl, ((Below.refl _ _).alloc (Nat.le_refl _) _).trans (hb.mono (by simp))⟩
  · have d : decide (0 ≤ a) = false := decide_eq_false h
    rw [d, Bool.false_and]
    go_enter Try.func44, Try.ntmps44
    go_wp2
    go_ret
    exact ⟨rfl, by go_grown⟩

theorem rat_add (p q : Rat) : fr (p.num * (q.den : Int) + q.num * (p.den : Int)) ((p.den : Int) * (q.den : Int)) = p + q := by
  rw [Rat.add_def']
  have h : ((p.den : Int) * (q.den : Int)) = ((p.den * q.den : Nat) : Int) := by push_cast; rfl
  unfold fr
  rw [h, Rat.divInt_ofNat]
theorem rat_mul (q : Rat) (n : Int) : fr (q.num * n) (q.den : Int) = q * (n : Rat) := by
  rw [Rat.mul_def']
  unfold fr
  rw [Rat.divInt_ofNat]
  simp

theorem plus_calls {p q : Rat} (h1 : p.num.natAbs ≤ 2000000000) (h2 : p.den ≤ 2000000000) (h3 : q.num.natAbs ≤ 900000000) (h4 : q.den ≤ 900000000) (w : World) : Gives 66 #[rv p, rv q] (rv (p + q)) w := by
  unfold Gives
  have hp := p.den_pos
  have hq := q.den_pos
  have m1 : (p.num * (q.den : Int)).natAbs ≤ 2000000000 * 900000000 := by rw [Int.natAbs_mul]; exact Nat.mul_le_mul h1 (by omega)
  have m2 : (q.num * (p.den : Int)).natAbs ≤ 900000000 * 2000000000 := by rw [Int.natAbs_mul]; exact Nat.mul_le_mul h3 (by omega)
  have m3 := mul_bd (a := (p.den : Int)) (b := (q.den : Int)) (A := 2000000000) (B := 900000000) (by omega) (by omega) (by omega) (by omega)
  have m4 : 0 < (p.den : Int) * (q.den : Int) := Int.mul_pos (by omega) (by omega)
  have v1 : IntKind.i64.wrap (p.num * (q.den : Int)) = p.num * (q.den : Int) := by rw [i64_w]; exact w64_in (by omega) (by omega)
  have v2 : IntKind.i64.wrap (q.num * (p.den : Int)) = q.num * (p.den : Int) := by rw [i64_w]; exact w64_in (by omega) (by omega)
  have v3 : IntKind.i64.wrap ((p.den : Int) * (q.den : Int)) = (p.den : Int) * (q.den : Int) := by rw [i64_w]; exact w64_in (by omega) (by omega)
  have v4 : IntKind.i64.wrap (p.num * (q.den : Int) + q.num * (p.den : Int)) = p.num * (q.den : Int) + q.num * (p.den : Int) := by rw [i64_w]; exact w64_in (by omega) (by omega)
  have HC : ∀ W, Gives 38 #[.agg #[.int .i64 (p.num * (q.den : Int) + q.num * (p.den : Int)), .int .i64 ((p.den : Int) * (q.den : Int))]] (rv (p + q)) W := fun W => by
    have := plain_calls (n := p.num * (q.den : Int) + q.num * (p.den : Int)) (d := (p.den : Int) * (q.den : Int)) m4 (by omega) (by omega) W
    rw [rat_add] at this
    exact this
  unfold rv
  generalize hx1 : p.num * (q.den : Int) = x1 at v1 v4 HC
  generalize hx2 : q.num * (p.den : Int) = x2 at v2 v4 HC
  generalize hx3 : (p.den : Int) * (q.den : Int) = x3 at v3 HC
  unfold rv at HC
  generalize (p + q).num = y1 at HC ⊢
  generalize (((p + q).den : Nat) : Int) = y2 at HC ⊢
  have HC := Lib.hid HC
  clear m1 m2 m3 m4 h1 h2 h3 h4
  have I : Held (((w.alloc (.cells [Value.int .i64 p.num, .int .i64 (p.den : Int)].toArray 82)).alloc (.cells [Value.int .i64 q.num, .int .i64 (q.den : Int)].toArray 82)).alloc (.cells [Value.int .i64 0, .int .i64 0].toArray 82)) (fun W => Below w.heap.size w W ∧ Blk W (w.heap.size + 1 + 1) [.int .i64 0, .int .i64 0]) :=
    fun W hW => ⟨((((Below.refl _ _).alloc (Nat.le_refl _) _).alloc (by simp) _).alloc (by simp; omega) _).trans (hW.mono (by simp; omega)), Blk.later (by simpa using Blk.new ((w.alloc (.cells [Value.int .i64 p.num, .int .i64 (p.den : Int)].toArray 82)).alloc (.cells [Value.int .i64 q.num, .int .i64 (q.den : Int)].toArray 82)) [.int .i64 0, .int .i64 0] 82) hW⟩
  go_enter Try.func66, Try.ntmps66
  go_wp2_with (go_at_call 38; (with_reducible refine (Gives.c (HC.out _)).mono ?_); rintro e w1 ⟨rfl, hb⟩; replace I := I.next hb; have qv := I.now.2.vals; clear hb)
  have r := put2 (a := .int .i64 y1) (b := .int .i64 y2) I.now.2.two.1 I.now.2.two.2
  refine bodyPost_ret (v := .agg #[.int .i64 y1, .int .i64 y2]) (by simp [results, Try.results66, go_sem, r.1, r.2]) rfl ⟨rfl, ?_⟩
  exact below2 I.now.1 (by omega) _ _

theorem times_calls {q : Rat} {n : Int} (h1 : q.num.natAbs ≤ 2000000000) (h2 : q.den ≤ 2000000000) (h3 : n.natAbs ≤ 1000000000) (w : World) : Gives 67 #[rv q, .int .i64 n] (rv (q * (n : Rat))) w := by
  unfold Gives
  have hq := q.den_pos
  have m1 : (q.num * n).natAbs ≤ 2000000000 * 1000000000 := by rw [Int.natAbs_mul]; exact Nat.mul_le_mul h1 h3
  have v1 : IntKind.i64.wrap (q.num * n) = q.num * n := by rw [i64_w]; exact w64_in (by omega) (by omega)
  have HC : ∀ W, Gives 38 #[.agg #[.int .i64 (q.num * n), .int .i64 (q.den : Int)]] (rv (q * (n : Rat))) W := fun W => by
    have := plain_calls (n := q.num * n) (d := (q.den : Int)) (by omega) (by omega) (by omega) W
    rw [rat_mul] at this
    exact this
  unfold rv
  generalize hx1 : q.num * n = x1 at v1 HC
  unfold rv at HC
  generalize (q * (n : Rat)).num = y1 at HC ⊢
  generalize (((q * (n : Rat)).den : Nat) : Int) = y2 at HC ⊢
  have HC := Lib.hid HC
  clear m1 h1 h2 h3
  have I : Held ((w.alloc (.cells [Value.int .i64 q.num, .int .i64 (q.den : Int)].toArray 82)).alloc (.cells [Value.int .i64 0, .int .i64 0].toArray 82)) (fun W => Below w.heap.size w W ∧ Blk W (w.heap.size + 1) [.int .i64 0, .int .i64 0]) :=
    fun W hW => ⟨(((Below.refl _ _).alloc (Nat.le_refl _) _).alloc (by simp) _).trans (hW.mono (by simp; omega)), Blk.later (by simpa using Blk.new (w.alloc (.cells [Value.int .i64 q.num, .int .i64 (q.den : Int)].toArray 82)) [.int .i64 0, .int .i64 0] 82) hW⟩
  go_enter Try.func67, Try.ntmps67
  go_wp2_with (go_at_call 38; (with_reducible refine (Gives.c (HC.out _)).mono ?_); rintro e w1 ⟨rfl, hb⟩; replace I := I.next hb; have qv := I.now.2.vals; clear hb)
  have r := put2 (a := .int .i64 y1) (b := .int .i64 y2) I.now.2.two.1 I.now.2.two.2
  refine bodyPost_ret (v := .agg #[.int .i64 y1, .int .i64 y2]) (by simp [results, Try.results67, go_sem, r.1, r.2]) rfl ⟨rfl, ?_⟩
  exact below2 I.now.1 (by omega) _ _
end Go.Proofs.Ytjncoableanmpaa
