/- The contracts of the reference's Length and Place. -/
import Derived.Test.YtphbiaagmhhhbaaRA
namespace Go.Proofs.Ytphbiaagmhhhbaa
open Go.RowKit Go.Lib Go.Shelf

set_option maxRecDepth 100000 in
set_option maxHeartbeats 4000000 in
theorem rLength_yes {c t lo hi n : Int} (h : Sound c t lo hi) (h0 : 0 ≤ n) (h1 : n ≤ 1000) (w : World) :
    Gives 23 #[.agg #[.int .i64 c, .int .i64 t, .int .i64 lo, .int .i64 hi], .int .i64 n] (.tuple #[.agg #[.int .i64 (len c lo n), .int .i64 (len c hi n)], .int .i64 0]) w := by
  unfold Gives
  have hk := chk_yes h
  have hm := btw_yes (lo := 0) (n := n) (hi := 1000) ⟨h0, h1⟩
  have hlo : ∀ W, Gives 63 #[.agg #[.int .i64 c, .int .i64 t, .int .i64 lo, .int .i64 hi], .int .i64 lo, .int .i64 n] (.int .i64 (len c lo n)) W := fun W => rlength_calls (by have := h.1; omega) h.1.2 (by have := h.2.2; omega) (by have := h.2.2; omega) h0 (by omega) W
  have hhi : ∀ W, Gives 63 #[.agg #[.int .i64 c, .int .i64 t, .int .i64 lo, .int .i64 hi], .int .i64 hi, .int .i64 n] (.int .i64 (len c hi n)) W := fun W => rlength_calls (by have := h.1; omega) h.1.2 (by have := h.2.2; omega) (by have := h.2.2; omega) h0 (by omega) W
  have HLO := Lib.hid hlo
  have HHI := Lib.hid hhi
  clear h hlo hhi h0 h1
  go_enter Try.func23, Try.ntmps23
  go_wp2_with (first | (go_at_call 28; refine (rcheck_calls _ _ _ _ _).mono ?_; rintro e w1 ⟨rfl, hb⟩; rw [hk]; have k0 : Blk w1 w.heap.size [.int .i64 c, .int .i64 t, .int .i64 lo, .int .i64 hi] := ((Blk.new w _ 43).alloc _).later hb; have q0 := k0.four) | (go_at_call 62; (with_reducible refine (is_calls _ _ _ _).mono ?_); rintro e w1 ⟨rfl, rfl⟩))
  have k3 : Blk w1 (w.heap.size + 1) [.int .i64 0, .int .i64 0] := Blk.later (by simpa using Blk.new (w.alloc _) _ 26) hb
  have b0 : Below w.heap.size w w1 := (((Below.refl _ _).alloc (Nat.le_refl _) _).alloc (by simp) _).trans (hb.mono (by simp; omega))
  have K0 := Lib.hid k0
  have K3 := Lib.hid k3
  have B0 := Lib.hid b0
  clear k0 k3 b0 hb
  go_region_held3 (fun W => Below w.heap.size w W ∧ (W.cell? ⟨w.heap.size, 0, none⟩ = some (.int .i64 c) ∧ W.cell? ⟨w.heap.size, 1, none⟩ = some (.int .i64 t) ∧ W.cell? ⟨w.heap.size, 2, none⟩ = some (.int .i64 lo) ∧ W.cell? ⟨w.heap.size, 3, none⟩ = some (.int .i64 hi)) ∧
      (W.cell? ⟨w.heap.size + 1, 0, none⟩ = some (valAt W ⟨w.heap.size + 1, 0, none⟩) ∧ W.cell? ⟨w.heap.size + 1, 1, none⟩ = some (valAt W ⟨w.heap.size + 1, 1, none⟩) ∧ W.frozen? ⟨w.heap.size + 1, 0, none⟩ = false ∧ W.frozen? ⟨w.heap.size + 1, 1, none⟩ = false))
    (first
      | exact ⟨below_drewN' B0.out 1, q0, (K3.out.drewN 1).vals⟩
      | (exact ⟨below2 (B0.out.trans (hB2.mono B0.out.size)) (by omega) _ _, ((K0.out.later hB2).other2 (by omega) _ _).four, ((K3.out.later hB2).put2 _ _).vals⟩)
      | (exact ⟨B0.out.trans (hB2.mono B0.out.size), (K0.out.later hB2).four, (K3.out.later hB2).vals⟩)
      | (exact ⟨B0.out.trans (hB1.mono B0.out.size), (K0.out.later hB1).four, (K3.out.later hB1).vals⟩)
      | fail)
    (first
      | (go_at_call 63; (with_reducible refine (Gives.c (HLO.out _)).mono ?_); rintro e wa ⟨rfl, hb1⟩; have hB1 : Below w1.heap.size w1 wa := (Below.refl w1.heap.size w1).drew.trans hb1)
      | (go_at_call 63; (with_reducible refine (Gives.c (HHI.out _)).mono ?_); rintro e wb ⟨rfl, hb2⟩; have hB2 : Below w1.heap.size w1 wb := hB1.trans (hb2.mono hB1.size))
      | fail)
  go_wp2
  have r := put2 (a := .int .i64 (len c lo n)) (b := .int .i64 (len c hi n)) (K3.out.later hB2).two.1 (K3.out.later hB2).two.2
  refine bodyPost_ret (v := .tuple #[.agg #[.int .i64 (len c lo n), .int .i64 (len c hi n)], .int .i64 0]) (by simp [results, Try.results23, go_sem, r.1, r.2]) rfl ⟨rfl, ?_⟩
  rename_i hh
  exact hh.1

theorem rLength_far {c t lo hi n : Int} (h : Sound c t lo hi) (hn : ¬ (0 ≤ n ∧ n ≤ 1000)) (w : World) :
    Gives 23 #[.agg #[.int .i64 c, .int .i64 t, .int .i64 lo, .int .i64 hi], .int .i64 n] (.tuple #[.agg #[.int .i64 0, .int .i64 0], .int .i64 3]) w := by
  unfold Gives
  have hk := chk_yes h
  have hm := btw_no hn
  clear h hn
  go_enter Try.func23, Try.ntmps23
  go_wp2_with (first | (go_at_call 28; refine (rcheck_calls _ _ _ _ _).mono ?_; rintro e w1 ⟨rfl, hb⟩; rw [hk]; have k0 : Blk w1 w.heap.size [.int .i64 c, .int .i64 t, .int .i64 lo, .int .i64 hi] := ((Blk.new w _ 43).alloc _).later hb; have q0 := k0.four; have k3 : Blk w1 (w.heap.size + 1) [.int .i64 0, .int .i64 0] := Blk.later (by simpa using Blk.new (w.alloc _) _ 26) hb; have q3 := k3.two; have f3 := k3.free2) | (go_at_call 62; (with_reducible refine (is_calls _ _ _ _).mono ?_); rintro e w1 ⟨rfl, rfl⟩))
  have b0 : Below w.heap.size w w1 := (((Below.refl _ _).alloc (Nat.le_refl _) _).alloc (by simp) _).trans (hb.mono (by simp; omega))
  have r := put2 (a := .int .i64 0) (b := .int .i64 0) q3.1 q3.2
  refine bodyPost_ret (v := .tuple #[.agg #[.int .i64 0, .int .i64 0], .int .i64 3]) (by simp [results, Try.results23, go_sem, r.1, r.2]) rfl ⟨rfl, ?_⟩
  exact below2 b0 (by omega) _ _

theorem rLength_no {c t lo hi n : Int} (h : ¬ Sound c t lo hi) (w : World) :
    Gives 23 #[.agg #[.int .i64 c, .int .i64 t, .int .i64 lo, .int .i64 hi], .int .i64 n] (.tuple #[.agg #[.int .i64 0, .int .i64 0], .int .i64 3]) w := by
  unfold Gives
  have hk := chk_no h
  clear h
  go_enter Try.func23, Try.ntmps23
  go_wp2_with (go_at_call 28; refine (rcheck_calls _ _ _ _ _).mono ?_; rintro e w1 ⟨rfl, hb⟩; rw [hk]; have k3 : Blk w1 (w.heap.size + 1) [.int .i64 0, .int .i64 0] := Blk.later (by simpa using Blk.new (w.alloc _) _ 26) hb; have q3 := k3.two; have f3 := k3.free2)
  have b0 : Below w.heap.size w w1 := (((Below.refl _ _).alloc (Nat.le_refl _) _).alloc (by simp) _).trans (hb.mono (by simp; omega))
  have r := put2 (a := .int .i64 0) (b := .int .i64 0) q3.1 q3.2
  refine bodyPost_ret (v := .tuple #[.agg #[.int .i64 0, .int .i64 0], .int .i64 3]) (by simp [results, Try.results23, go_sem, r.1, r.2]) rfl ⟨rfl, ?_⟩
  exact below2 b0 (by omega) _ _

set_option maxRecDepth 100000 in
set_option maxHeartbeats 4000000 in
theorem rPlace_yes {c t lo hi n : Int} (h : Sound c t lo hi) (h0 : 0 ≤ n) (h1 : n ≤ 1000 * t) (w : World) :
    Gives 26 #[.agg #[.int .i64 c, .int .i64 t, .int .i64 lo, .int .i64 hi], .int .i64 n] (.tuple #[.agg #[.int .i64 (plc c t lo n), .int .i64 (plc c t hi n)], .int .i64 0]) w := by
  unfold Gives
  have hk := chk_yes h
  have hm := btw_yes (lo := 0) (n := n) (hi := 1000 * t) ⟨h0, h1⟩
  have hw : IntKind.i64.wrap (1000 * t) = 1000 * t := by rw [i64_w]; exact w64_in (by have := h.2.1; have := h.1; omega) (by have := h.2.1; have := h.1; omega)
  have hw' : wrap64 (1000 * t) = 1000 * t := by rw [← i64_w]; exact hw
  have hlo : ∀ W, Gives 66 #[.agg #[.int .i64 c, .int .i64 t, .int .i64 lo, .int .i64 hi], .int .i64 lo, .int .i64 n] (.int .i64 (plc c t lo n)) W := fun W => rplace_calls h.2.1.1 h.2.1.2 h.1.2 (by have := h.2.2; omega) (by have := h.2.2; omega) h0 h1 W
  have hhi : ∀ W, Gives 66 #[.agg #[.int .i64 c, .int .i64 t, .int .i64 lo, .int .i64 hi], .int .i64 hi, .int .i64 n] (.int .i64 (plc c t hi n)) W := fun W => rplace_calls h.2.1.1 h.2.1.2 h.1.2 (by have := h.2.2; omega) (by have := h.2.2; omega) h0 h1 W
  have HLO := Lib.hid hlo
  have HHI := Lib.hid hhi
  clear h hlo hhi h0 h1
  go_enter Try.func26, Try.ntmps26
  go_wp2_with (first | (go_at_call 28; refine (rcheck_calls _ _ _ _ _).mono ?_; rintro e w1 ⟨rfl, hb⟩; rw [hk]; have k0 : Blk w1 w.heap.size [.int .i64 c, .int .i64 t, .int .i64 lo, .int .i64 hi] := ((Blk.new w _ 43).alloc _).later hb; have q0 := k0.four) | (go_at_call 62; (with_reducible refine (is_calls _ _ _ _).mono ?_); rintro e w1 ⟨rfl, rfl⟩))
  have k3 : Blk w1 (w.heap.size + 1) [.int .i64 0, .int .i64 0] := Blk.later (by simpa using Blk.new (w.alloc _) _ 26) hb
  have b0 : Below w.heap.size w w1 := (((Below.refl _ _).alloc (Nat.le_refl _) _).alloc (by simp) _).trans (hb.mono (by simp; omega))
  have K0 := Lib.hid k0
  have K3 := Lib.hid k3
  have B0 := Lib.hid b0
  clear k0 k3 b0 hb
  go_region_held3 (fun W => Below w.heap.size w W ∧ (W.cell? ⟨w.heap.size, 0, none⟩ = some (.int .i64 c) ∧ W.cell? ⟨w.heap.size, 1, none⟩ = some (.int .i64 t) ∧ W.cell? ⟨w.heap.size, 2, none⟩ = some (.int .i64 lo) ∧ W.cell? ⟨w.heap.size, 3, none⟩ = some (.int .i64 hi)) ∧
      (W.cell? ⟨w.heap.size + 1, 0, none⟩ = some (valAt W ⟨w.heap.size + 1, 0, none⟩) ∧ W.cell? ⟨w.heap.size + 1, 1, none⟩ = some (valAt W ⟨w.heap.size + 1, 1, none⟩) ∧ W.frozen? ⟨w.heap.size + 1, 0, none⟩ = false ∧ W.frozen? ⟨w.heap.size + 1, 1, none⟩ = false))
    (first
      | exact ⟨below_drewN' B0.out 1, q0, (K3.out.drewN 1).vals⟩
      | (exact ⟨below2 (B0.out.trans (hB2.mono B0.out.size)) (by omega) _ _, ((K0.out.later hB2).other2 (by omega) _ _).four, ((K3.out.later hB2).put2 _ _).vals⟩)
      | (exact ⟨B0.out.trans (hB2.mono B0.out.size), (K0.out.later hB2).four, (K3.out.later hB2).vals⟩)
      | (exact ⟨B0.out.trans (hB1.mono B0.out.size), (K0.out.later hB1).four, (K3.out.later hB1).vals⟩)
      | fail)
    (first
      | (go_at_call 66; (with_reducible refine (Gives.c (HLO.out _)).mono ?_); rintro e wa ⟨rfl, hb1⟩; have hB1 : Below w1.heap.size w1 wa := (Below.refl w1.heap.size w1).drew.trans hb1)
      | (go_at_call 66; (with_reducible refine (Gives.c (HHI.out _)).mono ?_); rintro e wb ⟨rfl, hb2⟩; have hB2 : Below w1.heap.size w1 wb := hB1.trans (hb2.mono hB1.size))
      | fail)
  go_wp2
  have r := put2 (a := .int .i64 (plc c t lo n)) (b := .int .i64 (plc c t hi n)) (K3.out.later hB2).two.1 (K3.out.later hB2).two.2
  refine bodyPost_ret (v := .tuple #[.agg #[.int .i64 (plc c t lo n), .int .i64 (plc c t hi n)], .int .i64 0]) (by simp [results, Try.results26, go_sem, r.1, r.2]) rfl ⟨rfl, ?_⟩
  rename_i hh
  exact hh.1

theorem rPlace_far {c t lo hi n : Int} (h : Sound c t lo hi) (hn : ¬ (0 ≤ n ∧ n ≤ 1000 * t)) (w : World) :
    Gives 26 #[.agg #[.int .i64 c, .int .i64 t, .int .i64 lo, .int .i64 hi], .int .i64 n] (.tuple #[.agg #[.int .i64 0, .int .i64 0], .int .i64 3]) w := by
  unfold Gives
  have hk := chk_yes h
  have hm := btw_no hn
  have hw : IntKind.i64.wrap (1000 * t) = 1000 * t := by rw [i64_w]; exact w64_in (by have := h.2.1; have := h.1; omega) (by have := h.2.1; have := h.1; omega)
  have hw' : wrap64 (1000 * t) = 1000 * t := by rw [← i64_w]; exact hw
  clear h hn
  go_enter Try.func26, Try.ntmps26
  go_wp2_with (first | (go_at_call 28; refine (rcheck_calls _ _ _ _ _).mono ?_; rintro e w1 ⟨rfl, hb⟩; rw [hk]; have k0 : Blk w1 w.heap.size [.int .i64 c, .int .i64 t, .int .i64 lo, .int .i64 hi] := ((Blk.new w _ 43).alloc _).later hb; have q0 := k0.four; have k3 : Blk w1 (w.heap.size + 1) [.int .i64 0, .int .i64 0] := Blk.later (by simpa using Blk.new (w.alloc _) _ 26) hb; have q3 := k3.two; have f3 := k3.free2) | (go_at_call 62; (with_reducible refine (is_calls _ _ _ _).mono ?_); rintro e w1 ⟨rfl, rfl⟩))
  have b0 : Below w.heap.size w w1 := (((Below.refl _ _).alloc (Nat.le_refl _) _).alloc (by simp) _).trans (hb.mono (by simp; omega))
  have r := put2 (a := .int .i64 0) (b := .int .i64 0) q3.1 q3.2
  refine bodyPost_ret (v := .tuple #[.agg #[.int .i64 0, .int .i64 0], .int .i64 3]) (by simp [results, Try.results26, go_sem, r.1, r.2]) rfl ⟨rfl, ?_⟩
  exact below2 b0 (by omega) _ _

theorem rPlace_no {c t lo hi n : Int} (h : ¬ Sound c t lo hi) (w : World) :
    Gives 26 #[.agg #[.int .i64 c, .int .i64 t, .int .i64 lo, .int .i64 hi], .int .i64 n] (.tuple #[.agg #[.int .i64 0, .int .i64 0], .int .i64 3]) w := by
  unfold Gives
  have hk := chk_no h
  clear h
  go_enter Try.func26, Try.ntmps26
  go_wp2_with (go_at_call 28; refine (rcheck_calls _ _ _ _ _).mono ?_; rintro e w1 ⟨rfl, hb⟩; rw [hk]; have k3 : Blk w1 (w.heap.size + 1) [.int .i64 0, .int .i64 0] := Blk.later (by simpa using Blk.new (w.alloc _) _ 26) hb; have q3 := k3.two; have f3 := k3.free2)
  have b0 : Below w.heap.size w w1 := (((Below.refl _ _).alloc (Nat.le_refl _) _).alloc (by simp) _).trans (hb.mono (by simp; omega))
  have r := put2 (a := .int .i64 0) (b := .int .i64 0) q3.1 q3.2
  refine bodyPost_ret (v := .tuple #[.agg #[.int .i64 0, .int .i64 0], .int .i64 3]) (by simp [results, Try.results26, go_sem, r.1, r.2]) rfl ⟨rfl, ?_⟩
  exact below2 b0 (by omega) _ _
end Go.Proofs.Ytphbiaagmhhhbaa
