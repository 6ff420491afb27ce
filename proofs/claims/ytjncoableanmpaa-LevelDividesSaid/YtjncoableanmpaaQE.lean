/- The reference: bounded, proved, proved3. -/
import Derived.Test.YtjncoableanmpaaQC
import Derived.Test.YtjncoableanmpaaLQ
namespace Go.Proofs.Ytjncoableanmpaa
open Go.RowKit Go.Lib Go.Shelf
attribute [local go_sem] run_max3

theorem rbounded_calls (a b : Int) (w : World) : Gives 49 #[.agg #[.int .i64 a, .int .i64 b]] (.bool (bndB a b)) w := by
  unfold Gives bndB
  have hB : ∀ n lo hi W, Quiet 43 #[.int .i64 n, .int .i64 lo, .int .i64 hi] (.bool (btw lo n hi)) W := is_calls
  have HB := Lib.hid hB
  clear hB
  cases h1 : btw 0 a 1000000 with
  | true =>
    cases h2 : btw 1 b 100000 with
    | true =>
      go_enter Try.func49, Try.ntmps49
      go_wp2_with (go_at_call 43; (with_reducible refine (Quiet.c (HB.out _ _ _ _)).mono ?_); rintro e w1 ⟨rfl, rfl⟩)
      go_ret
      exact ⟨rfl, by go_grown⟩
    | false =>
      go_enter Try.func49, Try.ntmps49
      go_wp2_with (go_at_call 43; (with_reducible refine (Quiet.c (HB.out _ _ _ _)).mono ?_); rintro e w1 ⟨rfl, rfl⟩)
      go_ret
      exact ⟨rfl, by go_grown⟩
  | false =>
    go_enter Try.func49, Try.ntmps49
    go_wp2_with (go_at_call 43; (with_reducible refine (Quiet.c (HB.out _ _ _ _)).mono ?_); rintro e w1 ⟨rfl, rfl⟩)
    go_ret
    exact ⟨rfl, by go_grown⟩

theorem proved_calls (c : Cd) (t : Tame c) (w : World) : Gives 54 #[.agg #[.int .i64 c.1, .int .i64 c.2.1, .int .i64 c.2.2]] (rv (one1 c)) w := by
  unfold Gives one1
  obtain ⟨s, lo, hi⟩ := c
  have t1 := t.l0
  have t2 := t.l1
  have t3 := t.h1
  dsimp only at t1 t2 t3 ⊢
  have v1 : IntKind.i64.wrap (hi - lo) = hi - lo := i64_in (by omega) (by omega)
  have hP : ∀ W, Gives 41 #[.int .i64 (hi - lo), .int .i64 2] (rv (fr (hi - lo) 2)) W := fun W => rleast_calls (by omega) (by omega) (by omega) W
  generalize fr (hi - lo) 2 = q at hP ⊢
  unfold rv at hP
  have HP := Lib.hid hP
  have I : Held ((w.alloc (.cells [Value.int .i64 s, .int .i64 lo, .int .i64 hi].toArray 79)).alloc (.cells [Value.int .i64 0, .int .i64 0].toArray 24)) (fun W => Below w.heap.size w W ∧ Blk W (w.heap.size + 1) [Value.int .i64 0, .int .i64 0]) :=
    fun W hW => ⟨(((Below.refl _ _).alloc (Nat.le_refl _) _).alloc (by simp) _).trans (hW.mono (by simp; omega)), Blk.later (by simpa using Blk.new (w.alloc _) [Value.int .i64 0, .int .i64 0] 24) hW⟩
  clear hP t t1 t2 t3
  go_enter Try.func54, Try.ntmps54
  go_wp2_with (go_at_call 41; (with_reducible refine (Gives.c (HP.out (World.alloc _ _))).mono ?_); rintro e w5 ⟨rfl, hb⟩; replace I := I.next hb; clear hb; have qr := I.now.2.two; have fr2 := I.now.2.free2)
  have k2 := (I.now.2.put2 (.int .i64 q.num) (.int .i64 (q.den : Int))).two
  have kb := below2 I.now.1 (show w.heap.size ≤ w.heap.size + 1 by omega) (.int .i64 q.num) (.int .i64 (q.den : Int))
  generalize World.setCell _ _ _ = wf at k2 kb ⊢
  refine bodyPost_ret (v := rv q) (by simp [results, Try.results54, go_sem, k2, rv]) rfl ⟨rfl, kb⟩

set_option maxHeartbeats 4000000 in
theorem proved3_calls (a b c : Cd) (ta : Tame a) (tb : Tame b) (tc : Tame c) (h1 : a.1 < b.1) (h2 : b.1 < c.1) (w : World) :
    Gives 55 #[.agg #[.int .i64 a.1, .int .i64 a.2.1, .int .i64 a.2.2], .agg #[.int .i64 b.1, .int .i64 b.2.1, .int .i64 b.2.2], .agg #[.int .i64 c.1, .int .i64 c.2.1, .int .i64 c.2.2]] (rv (three1 a b c)) w := by
  unfold Gives three1 upF downF
  obtain ⟨s1, lo1, hi1⟩ := a
  obtain ⟨s2, lo2, hi2⟩ := b
  obtain ⟨s3, lo3, hi3⟩ := c
  have x1 := ta.s0
  have x2 := tc.s1
  have a1 := ta.l0
  have a2 := ta.l1
  have a3 := ta.h1
  have b1 := tb.l0
  have b2 := tb.l1
  have b3 := tb.h1
  have c1 := tc.l0
  have c2 := tc.l1
  have c3 := tc.h1
  dsimp only at x1 x2 a1 a2 a3 b1 b2 b3 c1 c2 c3 h1 h2 ⊢
  have e1 : s2 - s1 + (s3 - s2) = s3 - s1 := by omega
  rw [e1]
  have y7 : 0 < s3 - s1 ∧ s3 - s1 ≤ 20000 := by omega
  have y8 : 0 < s2 - s1 ∧ s2 - s1 ≤ 20000 := by omega
  have y9 : 0 < s3 - s2 ∧ s3 - s2 ≤ 20000 := by omega
  have u7 : ∃ x, IntKind.i64.wrap (s3 - s1) = x ∧ s3 - s1 = x := ⟨_, i64_in (by omega) (by omega), rfl⟩
  have u8 : ∃ x, IntKind.i64.wrap (s2 - s1) = x ∧ s2 - s1 = x := ⟨_, i64_in (by omega) (by omega), rfl⟩
  have u9 : ∃ x, IntKind.i64.wrap (s3 - s2) = x ∧ s3 - s2 = x := ⟨_, i64_in (by omega) (by omega), rfl⟩
  obtain ⟨x7, u7, f7⟩ := u7
  obtain ⟨x8, u8, f8⟩ := u8
  obtain ⟨x9, u9, f9⟩ := u9
  rw [f7] at y7
  rw [f8] at y8
  rw [f9] at y9
  rw [f7, f8, f9]
  have p1 := mul_bd (a := hi2) (b := x7) (A := 10000) (B := 20000) (by omega) b3 (by omega) (by omega)
  have p2 := mul_bd (a := lo1) (b := x9) (A := 10000) (B := 20000) (by omega) (by omega) (by omega) (by omega)
  have p3 := mul_bd (a := lo3) (b := x8) (A := 10000) (B := 20000) (by omega) (by omega) (by omega) (by omega)
  have p4 := mul_bd (a := hi1) (b := x9) (A := 10000) (B := 20000) (by omega) a3 (by omega) (by omega)
  have p5 := mul_bd (a := hi3) (b := x8) (A := 10000) (B := 20000) (by omega) c3 (by omega) (by omega)
  have p6 := mul_bd (a := lo2) (b := x7) (A := 10000) (B := 20000) (by omega) (by omega) (by omega) (by omega)
  have w1 : IntKind.i64.wrap (hi2 * x7) = hi2 * x7 := i64_in (by omega) (by omega)
  have w2 : IntKind.i64.wrap (lo1 * x9) = lo1 * x9 := i64_in (by omega) (by omega)
  have w3 : IntKind.i64.wrap (lo3 * x8) = lo3 * x8 := i64_in (by omega) (by omega)
  have w4 : IntKind.i64.wrap (hi1 * x9) = hi1 * x9 := i64_in (by omega) (by omega)
  have w5 : IntKind.i64.wrap (hi3 * x8) = hi3 * x8 := i64_in (by omega) (by omega)
  have w6 : IntKind.i64.wrap (lo2 * x7) = lo2 * x7 := i64_in (by omega) (by omega)
  have w7 : IntKind.i64.wrap (hi2 * x7 - lo1 * x9) = hi2 * x7 - lo1 * x9 := i64_in (by omega) (by omega)
  have w8 : IntKind.i64.wrap (hi2 * x7 - lo1 * x9 - lo3 * x8) = hi2 * x7 - lo1 * x9 - lo3 * x8 := i64_in (by omega) (by omega)
  have w9 : IntKind.i64.wrap (hi1 * x9 + hi3 * x8) = hi1 * x9 + hi3 * x8 := i64_in (by omega) (by omega)
  have w10 : IntKind.i64.wrap (hi1 * x9 + hi3 * x8 - lo2 * x7) = hi1 * x9 + hi3 * x8 - lo2 * x7 := i64_in (by omega) (by omega)
  have w11 : IntKind.i64.wrap (2 * x7) = 2 * x7 := i64_in (by omega) (by omega)
  have hP : ∀ W, Gives 41 #[.int .i64 (max 0 (max (hi2 * x7 - lo1 * x9 - lo3 * x8) (hi1 * x9 + hi3 * x8 - lo2 * x7))), .int .i64 (2 * x7)] (rv (fr (max 0 (max (hi2 * x7 - lo1 * x9 - lo3 * x8) (hi1 * x9 + hi3 * x8 - lo2 * x7))) (2 * x7))) W := fun W => rleast_calls (by omega) (by omega) (by omega) W
  generalize fr (max 0 (max (hi2 * x7 - lo1 * x9 - lo3 * x8) (hi1 * x9 + hi3 * x8 - lo2 * x7))) (2 * x7) = q at hP ⊢
  unfold rv at hP
  have HP := Lib.hid hP
  have I : Held ((((w.alloc (.cells [Value.int .i64 s1, .int .i64 lo1, .int .i64 hi1].toArray 79)).alloc (.cells [Value.int .i64 s2, .int .i64 lo2, .int .i64 hi2].toArray 79)).alloc (.cells [Value.int .i64 s3, .int .i64 lo3, .int .i64 hi3].toArray 79)).alloc (.cells [Value.int .i64 0, .int .i64 0].toArray 24))
      (fun W => (((Below w.heap.size w W ∧ Blk W w.heap.size [Value.int .i64 s1, .int .i64 lo1, .int .i64 hi1]) ∧ Blk W (w.heap.size + 1) [Value.int .i64 s2, .int .i64 lo2, .int .i64 hi2]) ∧ Blk W (w.heap.size + 1 + 1) [Value.int .i64 s3, .int .i64 lo3, .int .i64 hi3]) ∧ Blk W (w.heap.size + 1 + 1 + 1) [Value.int .i64 0, .int .i64 0]) := by
    have := ((((Held.from (w0 := w) (Below.refl w.heap.size w) (Nat.le_refl _)).allocB [Value.int .i64 s1, .int .i64 lo1, .int .i64 hi1] 79).allocB [Value.int .i64 s2, .int .i64 lo2, .int .i64 hi2] 79).allocB [Value.int .i64 s3, .int .i64 lo3, .int .i64 hi3] 79).allocB [Value.int .i64 0, .int .i64 0] 24
    simpa using this
  clear hP ta tb tc h1 h2 x1 x2 a1 a2 a3 b1 b2 b3 c1 c2 c3 e1 y7 y8 y9 p1 p2 p3 p4 p5 p6 f7 f8 f9
  go_enter Try.func55, Try.ntmps55
  go_wp2_with fail
  generalize World.alloc _ _ = w1 at I ⊢
  have r1 := I.now.1.1.1.2.three
  have r2 := I.now.1.1.2.three
  have r3 := I.now.1.2.three
  go_quiet (fail)
  replace I := I.next (below_drewN' (Below.refl _ _) nq)
  have r1 := I.now.1.1.1.2.three
  have r2 := I.now.1.1.2.three
  have r3 := I.now.1.2.three
  go_wp2_with (go_at_call 41; (with_reducible refine (Gives.c (HP.out _)).mono ?_); rintro e w5 ⟨rfl, hb⟩; replace I := I.next hb; clear hb; have qr := I.now.2.two; have fr2 := I.now.2.free2)
  have k2 := (I.now.2.put2 (.int .i64 q.num) (.int .i64 (q.den : Int))).two
  have kb := below2 I.now.1.1.1.1 (show w.heap.size ≤ w.heap.size + 1 + 1 + 1 by omega) (.int .i64 q.num) (.int .i64 (q.den : Int))
  generalize World.setCell _ _ _ = wf at k2 kb ⊢
  refine bodyPost_ret (v := rv q) (by simp [results, Try.results55, go_sem, k2, rv]) rfl ⟨rfl, kb⟩
end Go.Proofs.Ytjncoableanmpaa
