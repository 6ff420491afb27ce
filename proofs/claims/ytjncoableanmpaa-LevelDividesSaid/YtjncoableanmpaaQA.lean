/- The reference's small functions. -/
import Derived.Test.YtjncoableanmpaaLH
namespace Go.Proofs.Ytjncoableanmpaa
open Go.RowKit Go.Lib Go.Shelf

theorem is_calls (n lo hi : Int) (w : World) : Quiet 43 #[.int .i64 n, .int .i64 lo, .int .i64 hi] (.bool (btw lo n hi)) w := by
  unfold Quiet
  by_cases h1 : lo ≤ n
  · by_cases h2 : n ≤ hi
    · rw [btw_yes ⟨h1, h2⟩]
      go_enter Try.func43, Try.ntmps43
      go_wp2
      go_ret
      simp
    · rw [btw_no (by omega)]
      go_enter Try.func43, Try.ntmps43
      go_wp2
      go_ret
      simp
  · rw [btw_no (by omega)]
    go_enter Try.func43, Try.ntmps43
    go_wp2
    go_ret
    exact ⟨rfl, rfl⟩
theorem rgood_calls (a b n : Int) (hn : 0 ≤ n ∧ n ≤ 100000000000) (w : World) : Gives 40 #[.agg #[.int .i64 a, .int .i64 b], .int .i64 n] (.bool (btw (-n) a n && btw 1 b 100000)) w := by
  unfold Gives
  have wn : IntKind.i64.wrap (-n) = -n := i64_in (by omega) (by omega)
  have hB : ∀ n lo hi W, Quiet 43 #[.int .i64 n, .int .i64 lo, .int .i64 hi] (.bool (btw lo n hi)) W := is_calls
  have HB := Lib.hid hB
  clear hB hn
  cases h1 : btw (-n) a n with
  | true =>
    cases h2 : btw 1 b 100000 with
    | true =>
      go_enter Try.func40, Try.ntmps40
      go_wp2_with (go_at_call 43; (with_reducible refine (Quiet.c (HB.out _ _ _ _)).mono ?_); rintro e w1 ⟨rfl, rfl⟩)
      go_ret
      exact ⟨rfl, by go_grown⟩
    | false =>
      go_enter Try.func40, Try.ntmps40
      go_wp2_with (go_at_call 43; (with_reducible refine (Quiet.c (HB.out _ _ _ _)).mono ?_); rintro e w1 ⟨rfl, rfl⟩)
      go_ret
      exact ⟨rfl, by go_grown⟩
  | false =>
    go_enter Try.func40, Try.ntmps40
    go_wp2_with (go_at_call 43; (with_reducible refine (Quiet.c (HB.out _ _ _ _)).mono ?_); rintro e w1 ⟨rfl, rfl⟩)
    go_ret
    exact ⟨rfl, by go_grown⟩
theorem rless_raw {a b c d : Int} (h1 : IntKind.i64.wrap (a * d) = a * d) (h2 : IntKind.i64.wrap (c * b) = c * b) (w : World) : Gives 51 #[.agg #[.int .i64 a, .int .i64 b], .agg #[.int .i64 c, .int .i64 d]] (.bool (decide (a * d < c * b))) w := by
  unfold Gives
  go_enter Try.func51, Try.ntmps51
  go_wp2
  go_ret
  exact ⟨rfl, by go_grown⟩
theorem rless_calls {p q : Rat} (h1 : p.num.natAbs ≤ 20000000000000) (h2 : (p.den : Int) ≤ 400000) (h3 : q.num.natAbs ≤ 20000000000000) (h4 : (q.den : Int) ≤ 400000) (w : World) : Gives 51 #[rv p, rv q] (.bool (decide (p < q))) w := by
  have hp := p.den_pos
  have hq := q.den_pos
  have m1 := mul_ab (a := p.num) (b := (q.den : Int)) h1 (B := 400000) (by omega)
  have m2 := mul_ab (a := q.num) (b := (p.den : Int)) h3 (B := 400000) (by omega)
  have := rless_raw (a := p.num) (b := (p.den : Int)) (c := q.num) (d := (q.den : Int)) (by rw [i64_w]; exact w64_in (by omega) (by omega)) (by rw [i64_w]; exact w64_in (by omega) (by omega)) w
  rwa [rat_lt] at this

set_option maxRecDepth 100000 in
set_option maxHeartbeats 2000000 in
theorem rleast_calls {n d : Int} (hd : 0 < d) (hd1 : d ≤ 4000000000000000000) (hn : n.natAbs ≤ 4000000000000000000) (w : World) : Gives 41 #[.int .i64 n, .int .i64 d] (rv (fr n d)) w := by
  unfold Gives rv
  rw [fr_num hd, fr_den hd]
  have hg := gcd_pos (n := n) hd
  have hq1 : n.tdiv (Int.gcd d n : Int) = n / (Int.gcd d n : Int) := Int.tdiv_eq_ediv_of_dvd (Int.gcd_dvd_right _ _)
  have hq2 : d.tdiv (Int.gcd d n : Int) = d / (Int.gcd d n : Int) := Int.tdiv_eq_ediv_of_dvd (Int.gcd_dvd_left _ _)
  have hb1 : (n / (Int.gcd d n : Int)).natAbs ≤ n.natAbs := ediv_ab
  have hb2 : (d / (Int.gcd d n : Int)).natAbs ≤ d.natAbs := ediv_ab
  have wn : IntKind.i64.wrap (-n) = -n := by rw [i64_w]; exact w64_in (by omega) (by omega)
  have hgn : Int.gcd (max n (-n)) d = Int.gcd d n := by
    rw [Int.gcd_comm]
    by_cases h : 0 ≤ n
    · rw [show max n (-n) = n by omega]
    · rw [show max n (-n) = -n by omega, Int.gcd_neg]
  generalize hG : Int.gcd d n = G at hg hq1 hq2 hb1 hb2 hgn
  clear hG
  have hGN := Lib.hid hgn
  have hQ1 := Lib.hid hq1
  have hQ2 := Lib.hid hq2
  clear hgn hq1 hq2
  have K : Held (w.alloc (.cells #[.int .i64 0, .int .i64 0] 24)) (fun W => Below w.heap.size w W ∧ Blk W w.heap.size [.int .i64 0, .int .i64 0]) :=
    fun W hW => ⟨((Below.refl _ _).alloc (Nat.le_refl _) _).trans (hW.mono (by simp)), (Blk.new w [.int .i64 0, .int .i64 0] 24).later hW⟩
  go_enter Try.func41, Try.ntmps41
  go_wp2_with fail
  generalize World.alloc _ _ = w2 at K ⊢
  go_loopw [5, 6] (fun v3 v4 wr => ∃ a b : Int, v3 = .int .i64 a ∧ v4 = .int .i64 b ∧ 0 ≤ a ∧ a ≤ 4000000000000000000 ∧ 0 ≤ b ∧ b ≤ 4000000000000000000 ∧ 0 < a + b ∧ Aside (Int.gcd a b = G) ∧ Aside (Below w2.heap.size w2 wr)) (fun _ v4 _ => (intOf v4).toNat)
  case atStart => exact ⟨_, _, rfl, rfl, by omega, by omega, by omega, by omega, by omega, hGN.out, Below.refl _ _⟩
  case round =>
    obtain ⟨a, b, rfl, rfl, ha0, ha1, hb0, hb1', hab, HG, HB⟩ := hrel
    by_cases hlt : 0 < b
    · have hz : ¬ b = 0 := by omega
      have h1 := Int.emod_nonneg a hz
      have h2 := Int.emod_lt_of_pos a hlt
      have v1 : a.tmod b = a % b := Int.tmod_eq_emod_of_nonneg ha0
      have v2 : IntKind.i64.wrap (a % b) = a % b := by rw [i64_w]; exact w64_in (by omega) (by omega)
      have hgs := Lib.hid ((gcd_step (a := a) (b := b)).trans HG.out)
      go_wp2_with fail
      go_quiet (fail)
      go_wp2
      go_roundw
      case measure => simp [intOf]; omega
      case rel => exact ⟨b, a % b, rfl, rfl, by omega, by omega, by omega, by omega, by omega, hgs.out, below_drewN' HB.out _⟩
    · obtain rfl : b = 0 := by omega
      have ha : a = (G : Int) := by
        have h := HG.out
        rw [Int.gcd_zero_right] at h
        omega
      subst ha
      have hz : ¬ (G : Int) = 0 := by omega
      have hz2 : ¬ G = 0 := by omega
      have hz3 : ((G : Int) == 0) = false := beq_eq_false_iff_ne.2 hz
      have J := K.next HB.out
      have q1 := J.now.2.vals
      have z1 := J.now.2.lt
      have e1 := hQ1.out
      have e2 := hQ2.out
      have v1 : IntKind.i64.wrap (n / (G : Int)) = n / (G : Int) := by rw [i64_w]; exact w64_in (by omega) (by omega)
      have v2 : IntKind.i64.wrap (d / (G : Int)) = d / (G : Int) := by rw [i64_w]; exact w64_in (by omega) (by omega)
      generalize hx : n / (G : Int) = x at e1 v1 hb1 ⊢
      generalize hy : d / (G : Int) = y at e2 v2 hb2 ⊢
      have HX := Lib.hid hx
      have HY := Lib.hid hy
      clear hb1 hb2 hx hy
      go_wp2_with fail
      go_still_tail 6, (by kernel_rfl)
      have J2 := J.next (Below.refl _ _).drew
      change wpList _ _ _ _ _ wr.drew
      go_wp2
      have r := put2 (a := .int .i64 x) (b := .int .i64 y) J.now.2.two.1 J.now.2.two.2
      refine bodyPost_ret (v := .agg #[.int .i64 x, .int .i64 y]) (by simp [results, Try.results41, go_sem, r.1, r.2]) rfl ⟨by rw [HX.out, HY.out], ?_⟩
      exact (below2 J.now.1 (by omega) _ _).drew
end Go.Proofs.Ytjncoableanmpaa
