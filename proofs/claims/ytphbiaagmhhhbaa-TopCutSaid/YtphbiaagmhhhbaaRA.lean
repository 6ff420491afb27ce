/- The contracts of the reference: is, Check, length, place, given, Length, Place. -/
import Derived.Test.YtphbiaagmhhhbaaSX
namespace Go.Proofs.Ytphbiaagmhhhbaa
open Go.RowKit Go.Lib Go.Shelf

theorem Is_calls (n lo hi : Int) (w : World) : Calls Try.prog 86 #[.int .i64 n, .int .i64 lo, .int .i64 hi] w fun e w' => e = .returned (.bool (btw lo n hi)) ∧ w' = w := by
  unfold btw
  by_cases h : lo ≤ n
  · have h1 : decide (lo ≤ n) = true := decide_eq_true h
    by_cases h3 : n ≤ hi
    · have h4 : decide (n ≤ hi) = true := decide_eq_true h3
      rw [h1, h4]
      go_enter Try.func86, Try.ntmps86
      go_wp2
      go_ret
      exact ⟨rfl, rfl⟩
    · have h4 : decide (n ≤ hi) = false := decide_eq_false h3
      rw [h1, h4]
      go_enter Try.func86, Try.ntmps86
      go_wp2
      go_ret
      exact ⟨rfl, rfl⟩
  · have h1 : decide (lo ≤ n) = false := decide_eq_false h
    rw [h1]
    go_enter Try.func86, Try.ntmps86
    go_wp2
    go_ret
    exact ⟨rfl, rfl⟩

theorem is_calls (n lo hi : Int) (w : World) : Calls Try.prog 62 #[.int .i64 n, .int .i64 lo, .int .i64 hi] w fun e w' => e = .returned (.bool (btw lo n hi)) ∧ w' = w := by
  go_enter Try.func62, Try.ntmps62
  go_wp2_with (go_at_call 86; (with_reducible refine (Is_calls _ _ _ _).mono ?_); rintro e w1 ⟨rfl, rfl⟩)
  go_ret
  exact ⟨rfl, rfl⟩

theorem given_calls (c t lo hi : Int) (w : World) : Gives 24 #[.agg #[.int .i64 c, .int .i64 t, .int .i64 lo, .int .i64 hi]] (.agg #[.int .i64 c, .int .i64 t, .int .i64 lo, .int .i64 hi]) w := by
  unfold Gives
  go_enter Try.func24, Try.ntmps24
  go_wp2
  refine bodyPost_ret (v := .agg #[.int .i64 c, .int .i64 t, .int .i64 lo, .int .i64 hi]) (by simp [results, Try.results24, go_sem]) rfl ⟨rfl, by go_grown⟩

theorem rcheck_calls (c t lo hi : Int) (w : World) : Gives 28 #[.agg #[.int .i64 c, .int .i64 t, .int .i64 lo, .int .i64 hi]] (.int .i64 (chk c t lo hi)) w := by
  unfold Gives
  by_cases h1 : 1 ≤ c ∧ c ≤ 100000
  · have b0 : btw 1 c 100000 = true := btw_yes h1
    by_cases h2 : 1 ≤ t ∧ t ≤ c
    · have b1 : btw 1 t c = true := btw_yes h2
      by_cases h3 : 0 ≤ lo ∧ lo ≤ hi
      · have b2 : btw 0 lo hi = true := btw_yes h3
        by_cases h5 : hi ≤ 1000
        · have b4 : decide (1000 < hi) = false := decide_eq_false (by omega)
          rw [chk_yes ⟨h1, h2, h3.1, h3.2, h5⟩]
          clear h1 h2 h3 h5
          go_enter Try.func28, Try.ntmps28
          go_wp2_with (go_at_call 62; (with_reducible refine (is_calls _ _ _ _).mono ?_); rintro e w1 ⟨rfl, rfl⟩)
          go_ret
          exact ⟨rfl, by go_grown⟩
        · have b4 : decide (1000 < hi) = true := decide_eq_true (by omega)
          rw [chk_no (fun h => h5 h.2.2.2.2)]
          clear h1 h2 h3 h5
          go_enter Try.func28, Try.ntmps28
          go_wp2_with (go_at_call 62; (with_reducible refine (is_calls _ _ _ _).mono ?_); rintro e w1 ⟨rfl, rfl⟩)
          go_ret
          exact ⟨rfl, by go_grown⟩
      · have b2 : btw 0 lo hi = false := btw_no h3
        rw [chk_no (fun h => h3 ⟨h.2.2.1, h.2.2.2.1⟩)]
        clear h1 h2 h3
        go_enter Try.func28, Try.ntmps28
        go_wp2_with (go_at_call 62; (with_reducible refine (is_calls _ _ _ _).mono ?_); rintro e w1 ⟨rfl, rfl⟩)
        go_ret
        exact ⟨rfl, by go_grown⟩
    · have b1 : btw 1 t c = false := btw_no h2
      rw [chk_no (fun h => h2 h.2.1)]
      clear h1 h2
      go_enter Try.func28, Try.ntmps28
      go_wp2_with (go_at_call 62; (with_reducible refine (is_calls _ _ _ _).mono ?_); rintro e w1 ⟨rfl, rfl⟩)
      go_ret
      exact ⟨rfl, by go_grown⟩
  · have b0 : btw 1 c 100000 = false := btw_no h1
    rw [chk_no (fun h => h1 h.1)]
    clear h1
    go_enter Try.func28, Try.ntmps28
    go_wp2_with (go_at_call 62; (with_reducible refine (is_calls _ _ _ _).mono ?_); rintro e w1 ⟨rfl, rfl⟩)
    go_ret
    exact ⟨rfl, by go_grown⟩

/-- The reference's length, before it is known that nothing wraps. -/
def lenQ (c g n : Int) : Int := wrap64 (wrap64 (n * c) + wrap64 ((wrap64 (wrap64 (g * n) * wrap64 (n - 1))).tdiv 2))

theorem mul_tri {g n : Int} : g * n * (n - 1) / 2 = g * (n * (n - 1) / 2) := by
  obtain ⟨k, hk⟩ : ∃ k, n * (n - 1) = 2 * k := by
    rcases (by omega : n % 2 = 0 ∨ n % 2 = 1) with h | h
    · exact ⟨n / 2 * (n - 1), by rw [← Int.mul_assoc]; congr 1; omega⟩
    · exact ⟨n * ((n - 1) / 2), by rw [← Int.mul_assoc, Int.mul_comm 2 n, Int.mul_assoc]; congr 1; omega⟩
  rw [Int.mul_assoc, hk, Int.mul_ediv_cancel_left _ (by decide), show g * (2 * k) = 2 * (g * k) from by rw [← Int.mul_assoc, Int.mul_comm g 2, Int.mul_assoc], Int.mul_ediv_cancel_left _ (by decide)]

theorem lenQ_eq {c g n : Int} (hc0 : 0 ≤ c) (hc1 : c ≤ 100000) (hg0 : 0 ≤ g) (hg1 : g ≤ 1000) (h0 : 0 ≤ n) (h1 : n ≤ 1001) : lenQ c g n = len c g n := by
  have a := mul_bd h0 h1 hc0 hc1
  have b := tri_bd h0 h1
  have d := mul_bd (a := g) (b := n * (n - 1) / 2) (B := 500500) hg0 hg1 (by omega) (by omega)
  have e := mul_bd hg0 hg1 h0 h1
  have f := mul_bd (a := g) (b := n * (n - 1)) (B := 1001000) hg0 hg1 (by omega) (by omega)
  unfold lenQ len
  rw [← mul_tri]
  rw [← Int.mul_assoc] at f
  have hq : g * n * (n - 1) / 2 = g * (n * (n - 1) / 2) := mul_tri
  rw [w64_in (n := n - 1) (by omega) (by omega), w64_in (n := g * n) (by omega) (by omega), w64_in (n := g * n * (n - 1)) (by omega) (by omega), w64_in (n := n * c) (by omega) (by omega),
    Int.tdiv_eq_ediv_of_nonneg (by omega), w64_in (n := g * n * (n - 1) / 2) (by omega) (by omega), w64_in (by omega) (by omega)]

theorem rlength_calls {c t lo hi g n : Int} (hc0 : 0 ≤ c) (hc1 : c ≤ 100000) (hg0 : 0 ≤ g) (hg1 : g ≤ 1000) (h0 : 0 ≤ n) (h1 : n ≤ 1001) (w : World) :
    Gives 63 #[.agg #[.int .i64 c, .int .i64 t, .int .i64 lo, .int .i64 hi], .int .i64 g, .int .i64 n] (.int .i64 (len c g n)) w := by
  rw [← lenQ_eq hc0 hc1 hg0 hg1 h0 h1]
  clear hc0 hc1 hg0 hg1 h0 h1
  unfold Gives
  go_enter Try.func63, Try.ntmps63
  go_wp2
  go_ret
  exact ⟨rfl, by go_grown⟩

/-- The reference's place, before it is known that nothing wraps. -/
def plcQ (c t g x : Int) : Int := wrap64 (len c g (x / t) + wrap64 ((wrap64 (wrap64 (c + wrap64 (x / t * g)) * (x % t))).tdiv t))

theorem plcQ_eq {c t g x : Int} (ht : 1 ≤ t) (htc : t ≤ c) (hc1 : c ≤ 100000) (hg0 : 0 ≤ g) (hg1 : g ≤ 1000) (h0 : 0 ≤ x) (h1 : x ≤ 1000 * t) : plcQ c t g x = plc c t g x := by
  obtain ⟨a, b, d, e⟩ := div_bd ht h0 h1
  have f := rest_bd ht htc hc1 hg0 hg1 a b d e
  have l := len_bd (c := c) (by omega) hc1 hg0 hg1 a (by omega)
  unfold plcQ plc
  rw [w64_in (n := x / t * g) (by omega) (by omega),
    w64_in (n := c + x / t * g) (by omega) (by omega), w64_in (n := (c + x / t * g) * (x % t)) (by omega) (by omega), Int.tdiv_eq_ediv_of_nonneg (by omega),
    w64_in (n := (c + x / t * g) * (x % t) / t) (by omega) (by omega), w64_in (by omega) (by omega)]

theorem rplace_calls {c t lo hi g x : Int} (ht : 1 ≤ t) (htc : t ≤ c) (hc1 : c ≤ 100000) (hg0 : 0 ≤ g) (hg1 : g ≤ 1000) (h0 : 0 ≤ x) (h1 : x ≤ 1000 * t) (w : World) :
    Gives 66 #[.agg #[.int .i64 c, .int .i64 t, .int .i64 lo, .int .i64 hi], .int .i64 g, .int .i64 x] (.int .i64 (plc c t g x)) w := by
  have hd := div_bd ht h0 h1
  have hq : wrap64 (x.tdiv t) = x / t := by rw [Int.tdiv_eq_ediv_of_nonneg h0]; exact w64_in (by omega) (by omega)
  have hm : x.tmod t = x % t := Int.tmod_eq_emod_of_nonneg h0
  have ht0 : (t == 0) = false := beq_eq_false_iff_ne.2 (by omega)
  have ht1 : ¬ t = 0 := by omega
  have hl : ∀ W, Gives 63 #[.agg #[.int .i64 c, .int .i64 t, .int .i64 lo, .int .i64 hi], .int .i64 g, .int .i64 (x / t)] (.int .i64 (len c g (x / t))) W := fun W => rlength_calls (by omega) hc1 hg0 hg1 hd.1 (by omega) W
  have HL := Lib.hid hl
  have hq2 : IntKind.i64.wrap (x.tdiv t) = x / t := by rw [i64_w]; exact hq
  rw [← plcQ_eq ht htc hc1 hg0 hg1 h0 h1]
  unfold Gives
  clear hd hl h0 h1 hg0 hg1 hc1 htc ht
  go_enter Try.func66, Try.ntmps66
  go_wp2_with fail
  generalize hW : World.alloc _ _ = W0
  have b0 : Below w.heap.size w W0 := by rw [← hW]; go_grown
  have k0 : Blk W0 w.heap.size [.int .i64 c, .int .i64 t, .int .i64 lo, .int .i64 hi] := by rw [← hW]; exact Blk.new w _ 43
  clear hW
  have q0 := k0.four
  have K0 := Lib.hid k0
  have B0 := Lib.hid b0
  clear k0 b0
  go_region_held3 (fun W => Below w.heap.size w W ∧ (W.cell? ⟨w.heap.size, 0, none⟩ = some (.int .i64 c) ∧ W.cell? ⟨w.heap.size, 1, none⟩ = some (.int .i64 t) ∧ W.cell? ⟨w.heap.size, 2, none⟩ = some (.int .i64 lo) ∧ W.cell? ⟨w.heap.size, 3, none⟩ = some (.int .i64 hi)))
    (first
      | exact ⟨below_drewN' B0.out 1, q0⟩
      | (exact ⟨B0.out.trans (hB1.mono B0.out.size), (K0.out.later hB1).four⟩)
      | fail)
    (first
      | (go_at_call 63; refine (HL.out _).mono ?_; rintro e w1 ⟨rfl, hb1⟩; have hB1 : Below W0.heap.size W0 w1 := (Below.refl W0.heap.size W0).drew.trans hb1)
      | fail)
  go_wp2
  go_ret
  rename_i hh
  exact ⟨ret_int (by unfold plcQ; simp only [i64_w]), hh.1⟩
end Go.Proofs.Ytphbiaagmhhhbaa
