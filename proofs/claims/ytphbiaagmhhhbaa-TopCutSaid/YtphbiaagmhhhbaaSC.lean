/- The contracts of lengths, places and arrivals. -/
import Derived.Test.YtphbiaagmhhhbaaSB
namespace Go.Proofs.Ytphbiaagmhhhbaa
open Go.RowKit Go.Lib Go.Shelf

theorem length_raw (c t lo hi g n : Int) (w : World) : Gives 60 #[.agg #[.int .i64 c, .int .i64 t, .int .i64 lo, .int .i64 hi, .int .i64 g], .int .i64 n] (.int .i64 (lenR c g n)) w := by
  unfold Gives
  go_enter Try.func60, Try.ntmps60
  go_wp2
  go_ret
  exact ⟨by rfl, by go_grown⟩

set_option maxHeartbeats 1000000 in
theorem place_raw (c t lo hi g x : Int) (w : World) (ht : 1 ≤ t) (hx : 0 ≤ x) :
    Gives 53 #[.agg #[.int .i64 c, .int .i64 t, .int .i64 lo, .int .i64 hi, .int .i64 g], .int .i64 x] (.int .i64 (plcR c t g x)) w := by
  unfold Gives
  have ht0 : ¬ t = 0 := by omega
  have ht1 : (t == 0) = false := beq_eq_false_iff_ne.2 ht0
  go_enter Try.func53, Try.ntmps53
  go_wp2
  go_quiet (fail)
  go_wp2_with fail
  go_region_held3 (fun W => Below w.heap.size w W ∧ w.heap.size < W.heap.size ∧ W.cell? ⟨w.heap.size, 0, none⟩ = some (.int .i64 c) ∧ W.cell? ⟨w.heap.size, 1, none⟩ = some (.int .i64 t) ∧ W.cell? ⟨w.heap.size, 2, none⟩ = some (.int .i64 lo) ∧ W.cell? ⟨w.heap.size, 3, none⟩ = some (.int .i64 hi) ∧ W.cell? ⟨w.heap.size, 4, none⟩ = some (.int .i64 g))
    (first | (refine ⟨(by repeat (first | exact Below.refl _ _ | refine below_drewN' ?_ _ | refine Below.drew ?_ | refine Below.alloc ?_ (by simp) _)), ?_⟩; go_keep) | (rename_i hh _ _; refine ⟨hh.1.trans (hb.mono hh.1.size), ?_⟩; have hk := kept hb hh.2.1; simp only [hk.1]; exact ⟨hk.2.2, hh.2.2⟩))
    (first | (go_at_call 60; refine (length_raw _ _ _ _ _ _ _).mono ?_; rintro e w' ⟨rfl, hb⟩))
  go_wp2
  go_ret
  rename_i hh
  exact ⟨ret_int (by unfold plcR; simp only [i64_w]), hh.1⟩

theorem length_calls {c t lo hi g n : Int} (h : Sound c t lo hi) (hg0 : 0 ≤ g) (hg1 : g ≤ 1000) (h0 : 0 ≤ n) (h1 : n ≤ 1001) (w : World) :
    Gives 60 #[.agg #[.int .i64 c, .int .i64 t, .int .i64 lo, .int .i64 hi, .int .i64 g], .int .i64 n] (.int .i64 (len c g n)) w := by
  obtain ⟨⟨c0, c1⟩, _⟩ := h
  rw [← lenR_eq (by omega) c1 hg0 hg1 h0 h1]
  exact length_raw _ _ _ _ _ _ _

theorem place_calls {c t lo hi g x : Int} (h : Sound c t lo hi) (hg0 : 0 ≤ g) (hg1 : g ≤ 1000) (h0 : 0 ≤ x) (h1 : x ≤ 1000 * t) (w : World) :
    Gives 53 #[.agg #[.int .i64 c, .int .i64 t, .int .i64 lo, .int .i64 hi, .int .i64 g], .int .i64 x] (.int .i64 (plc c t g x)) w := by
  obtain ⟨⟨c0, c1⟩, ⟨t0, t1⟩, _⟩ := h
  rw [← plcR_eq t0 t1 c1 hg0 hg1 h0 h1]
  exact place_raw _ _ _ _ _ _ _ t0 h0

/-- 'func(time int) bool { return w.place(time) >= place }', with w in block B and place in block B'. -/
theorem arr1_calls {c t lo hi g x p : Int} (h : Sound c t lo hi) (hg0 : 0 ≤ g) (hg1 : g ≤ 1000) (h0 : 0 ≤ x) (h1 : x ≤ 1000 * t) (w : World) (B B' : Nat) (hp : w.cell? ⟨B', 0, none⟩ = some (.int .i64 p))
    (k0 : w.cell? ⟨B, 0, none⟩ = some (.int .i64 c)) (k1 : w.cell? ⟨B, 1, none⟩ = some (.int .i64 t)) (k2 : w.cell? ⟨B, 2, none⟩ = some (.int .i64 lo)) (k3 : w.cell? ⟨B, 3, none⟩ = some (.int .i64 hi)) (k4 : w.cell? ⟨B, 4, none⟩ = some (.int .i64 g)) :
    Gives 77 #[.int .i64 x, .pointer (some ⟨B, 0, none⟩), .pointer (some ⟨B', 0, none⟩)] (.bool (decide (p ≤ plc c t g x))) w := by
  unfold Gives
  have hB := World.block_lt_of_cell? w _ hp
  have H := Lib.hid h
  clear h
  go_enter Try.func77, Try.ntmps77
  go_wp2_with fail
  go_region_held3 (fun W => Below w.heap.size w W ∧ W.cell? ⟨B', 0, none⟩ = some (.int .i64 p) ∧ W.cell? ⟨B, 0, none⟩ = some (.int .i64 c) ∧ W.cell? ⟨B, 1, none⟩ = some (.int .i64 t) ∧ W.cell? ⟨B, 2, none⟩ = some (.int .i64 lo) ∧ W.cell? ⟨B, 3, none⟩ = some (.int .i64 hi) ∧ W.cell? ⟨B, 4, none⟩ = some (.int .i64 g))
    (first | (refine ⟨(by repeat (first | exact Below.refl _ _ | refine below_drewN' ?_ _ | refine Below.drew ?_ | refine Below.alloc ?_ (by simp) _)), ?_⟩; go_keep) | (rename_i hh _ _; refine ⟨hh.1.trans (hb.mono hh.1.size), ?_⟩; have hk := (kept hb (Nat.lt_of_lt_of_le hB hh.1.size)).1 0; rw [hk]; refine ⟨hh.2.1, ?_⟩; have hk := (kept hb (World.block_lt_of_cell? _ _ hh.2.2.1)).1; simp only [hk]; exact hh.2.2))
    (first | (go_at_call 53; refine (place_calls H.out hg0 hg1 h0 h1 _).mono ?_; rintro e w' ⟨rfl, hb⟩))
  go_wp2
  go_ret
  rename_i hh
  exact ⟨rfl, hh.1⟩
end Go.Proofs.Ytphbiaagmhhhbaa
