/- The contracts of the reference's Arrival and Drift. -/
import Derived.Test.YtphbiaagmhhhbaaRG
namespace Go.Proofs.Ytphbiaagmhhhbaa
open Go.RowKit Go.Lib Go.Shelf

theorem rArrival_no {c t lo hi n : Int} (h : ¬ Sound c t lo hi) (w : World) :
    Gives 31 #[.agg #[.int .i64 c, .int .i64 t, .int .i64 lo, .int .i64 hi], .int .i64 n] (.tuple #[.agg #[.int .i64 0, .int .i64 0], .int .i64 3]) w := by
  unfold Gives
  have hk := chk_no h
  clear h
  go_enter Try.func31, Try.ntmps31
  go_wp2_with (go_at_call 28; refine (rcheck_calls _ _ _ _ _).mono ?_; rintro e w1 ⟨rfl, hb⟩; rw [hk]; have k3 : Blk w1 (w.heap.size + 1) [.int .i64 0, .int .i64 0] := Blk.later (by simpa using Blk.new (w.alloc _) _ 26) hb; have q3 := k3.two; have f3 := k3.free2)
  have b0 : Below w.heap.size w w1 := (((Below.refl _ _).alloc (Nat.le_refl _) _).alloc (by simp) _).trans (hb.mono (by simp; omega))
  have r := put2 (a := .int .i64 0) (b := .int .i64 0) q3.1 q3.2
  refine bodyPost_ret (v := .tuple #[.agg #[.int .i64 0, .int .i64 0], .int .i64 3]) (by simp [results, Try.results31, go_sem, r.1, r.2]) rfl ⟨rfl, ?_⟩
  exact below2 b0 (by omega) _ _

theorem rArrival_neg {c t lo hi n : Int} (h : Sound c t lo hi) (hn : n < 0) (w : World) :
    Gives 31 #[.agg #[.int .i64 c, .int .i64 t, .int .i64 lo, .int .i64 hi], .int .i64 n] (.tuple #[.agg #[.int .i64 0, .int .i64 0], .int .i64 3]) w := by
  unfold Gives
  have hk := chk_yes h
  clear h
  go_enter Try.func31, Try.ntmps31
  go_wp2_with (go_at_call 28; refine (rcheck_calls _ _ _ _ _).mono ?_; rintro e w1 ⟨rfl, hb⟩; rw [hk]; have k3 : Blk w1 (w.heap.size + 1) [.int .i64 0, .int .i64 0] := Blk.later (by simpa using Blk.new (w.alloc _) _ 26) hb; have q3 := k3.two; have f3 := k3.free2)
  have b0 : Below w.heap.size w w1 := (((Below.refl _ _).alloc (Nat.le_refl _) _).alloc (by simp) _).trans (hb.mono (by simp; omega))
  have r := put2 (a := .int .i64 0) (b := .int .i64 0) q3.1 q3.2
  refine bodyPost_ret (v := .tuple #[.agg #[.int .i64 0, .int .i64 0], .int .i64 3]) (by simp [results, Try.results31, go_sem, r.1, r.2]) rfl ⟨rfl, ?_⟩
  exact below2 b0 (by omega) _ _

set_option maxRecDepth 100000 in
set_option maxHeartbeats 4000000 in
theorem rArrival_yes {c t lo hi n a b x y e : Int} (h : Sound c t lo hi) (h0 : 0 ≤ n) (ha : arr c t hi n = a) (hb : arr c t lo n = b) (hr : (if b < 0 then ((0, 0, 11) : Int × Int × Int) else (a, b, 0)) = (x, y, e)) (w : World) :
    Gives 31 #[.agg #[.int .i64 c, .int .i64 t, .int .i64 lo, .int .i64 hi], .int .i64 n] (.tuple #[.agg #[.int .i64 x, .int .i64 y], .int .i64 e]) w := by
  unfold Gives
  have hk := chk_yes h
  have hlo : ∀ W, Gives 68 #[.agg #[.int .i64 c, .int .i64 t, .int .i64 lo, .int .i64 hi], .int .i64 lo, .int .i64 n] (.int .i64 b) W := fun W => by rw [← hb]; exact rarrival_calls h.2.1.1 h.2.1.2 h.1.2 (by have := h.2.2; omega) (by have := h.2.2; omega) W
  have hhi : ∀ W, Gives 68 #[.agg #[.int .i64 c, .int .i64 t, .int .i64 lo, .int .i64 hi], .int .i64 hi, .int .i64 n] (.int .i64 a) W := fun W => by rw [← ha]; exact rarrival_calls h.2.1.1 h.2.1.2 h.1.2 (by have := h.2.2; omega) (by have := h.2.2; omega) W
  have HLO := Lib.hid hlo
  have HHI := Lib.hid hhi
  clear h hlo hhi ha hb
  have I : Held ((w.alloc (.cells [Value.int .i64 c, .int .i64 t, .int .i64 lo, .int .i64 hi].toArray 43)).alloc (.cells [Value.int .i64 0, .int .i64 0].toArray 26)) (fun W => (Below w.heap.size w W ∧ Blk W w.heap.size [.int .i64 c, .int .i64 t, .int .i64 lo, .int .i64 hi]) ∧ Blk W (w.heap.size + 1) [.int .i64 0, .int .i64 0]) := by
    have h1 : Held (w.alloc (.cells [Value.int .i64 c, .int .i64 t, .int .i64 lo, .int .i64 hi].toArray 43)) (fun W => Below w.heap.size w W ∧ Blk W w.heap.size [.int .i64 c, .int .i64 t, .int .i64 lo, .int .i64 hi]) := .start (.from (Below.refl _ _) (Nat.le_refl _)) _ _
    have h2 := h1.allocB [Value.int .i64 0, .int .i64 0] 26
    have e : (w.alloc (.cells [Value.int .i64 c, .int .i64 t, .int .i64 lo, .int .i64 hi].toArray 43)).heap.size = w.heap.size + 1 := by simp
    rw [e] at h2
    exact h2
  go_enter Try.func31, Try.ntmps31
  go_wp2_with (go_at_call 28; (with_reducible refine (Gives.c (rcheck_calls _ _ _ _ _)).mono ?_); rintro e w1 ⟨rfl, hb⟩; rw [hk]; replace I := I.next hb; clear hb)
  have hS : ∀ W, Below w1.heap.size w1 W → Below w1.heap.size w1 W ∧ (W.cell? ⟨w.heap.size, 0, none⟩ = some (.int .i64 c) ∧ W.cell? ⟨w.heap.size, 1, none⟩ = some (.int .i64 t) ∧ W.cell? ⟨w.heap.size, 2, none⟩ = some (.int .i64 lo) ∧ W.cell? ⟨w.heap.size, 3, none⟩ = some (.int .i64 hi)) := fun W hW => ⟨hW, (I.next hW).now.1.2.four⟩
  have HS := Lib.hid hS
  clear hS
  go_region_held3 (fun W => Below w1.heap.size w1 W ∧ (W.cell? ⟨w.heap.size, 0, none⟩ = some (.int .i64 c) ∧ W.cell? ⟨w.heap.size, 1, none⟩ = some (.int .i64 t) ∧ W.cell? ⟨w.heap.size, 2, none⟩ = some (.int .i64 lo) ∧ W.cell? ⟨w.heap.size, 3, none⟩ = some (.int .i64 hi)))
    (first
      | exact HS.out _ (below_drewN' (Below.refl _ _) 1)
      | exact HS.out _ (hb2.trans (hb3.mono hb2.size))
      | exact HS.out _ hb2
      | fail)
    (first
      | (go_at_call 68; (with_reducible refine (Gives.c (HHI.out _)).mono ?_); rintro e w2 ⟨rfl, hb0⟩; have hb2 : Below w1.heap.size w1 w2 := (Below.refl w1.heap.size w1).drew.trans hb0)
      | (go_at_call 68; (with_reducible refine (Gives.c (HLO.out _)).mono ?_); rintro e w3 ⟨rfl, hb3⟩)
      | fail)
  rename_i hh
  replace I := I.next hh.1
  clear hh HS hb0 hb2 hb3
  have q3 := I.now.2.two
  have f3 := I.now.2.free2
  have z3 := I.now.2.lt
  by_cases hn : b < 0
  · rw [if_pos hn] at hr
    cases hr
    go_wp2
    have r := put2 (a := .int .i64 0) (b := .int .i64 0) q3.1 q3.2
    refine bodyPost_ret (v := .tuple #[.agg #[.int .i64 0, .int .i64 0], .int .i64 11]) (by simp [results, Try.results31, go_sem, r.1, r.2]) rfl ⟨rfl, ?_⟩
    exact below2 I.now.1.1 (by omega) _ _
  · rw [if_neg hn] at hr
    cases hr
    go_wp2
    have r := put2 (a := .int .i64 a) (b := .int .i64 b) q3.1 q3.2
    refine bodyPost_ret (v := .tuple #[.agg #[.int .i64 a, .int .i64 b], .int .i64 0]) (by simp [results, Try.results31, go_sem, r.1, r.2]) rfl ⟨rfl, ?_⟩
    exact below2 I.now.1.1 (by omega) _ _

theorem rArrival_calls {c t lo hi p a b e : Int} (h : arrivalF c t lo hi p = (a, b, e)) (w : World) :
    Gives 31 #[.agg #[.int .i64 c, .int .i64 t, .int .i64 lo, .int .i64 hi], .int .i64 p] (.tuple #[.agg #[.int .i64 a, .int .i64 b], .int .i64 e]) w := by
  unfold arrivalF at h
  by_cases hs : Sound c t lo hi
  · by_cases hn : 0 ≤ p
    · rw [if_pos ⟨hs, hn⟩] at h
      refine rArrival_yes hs hn rfl rfl ?_ w
      rw [← h]
      by_cases hov : len c lo 1000 < p
      · rw [arr_over hs.2.1.1 hov, if_pos (by omega), if_pos (by omega)]
      · have hm := arr_mono (c := c) (t := t) (g := lo) (k := hi) (p := p) hs.2.1.1 hs.2.1.2 hs.2.2.1 hs.2.2.2.1 (by omega)
        rw [Int.min_eq_right hm.1, Int.max_eq_left hm.1, if_neg (by omega), if_neg (by omega)]
    · rw [if_neg (fun h => hn h.2)] at h; cases h; exact rArrival_neg hs (by omega) w
  · rw [if_neg (fun h => hs h.1)] at h; cases h; exact rArrival_no hs w

theorem reads1 (w : World) (a : Int) (t : TypeId) : Reads (w.alloc (.cells #[.int .i64 a] t)) (some ⟨w.heap.size, 0, none⟩) 1 [a] := by
  have k := Blk.new w [.int .i64 a] t
  refine ⟨rfl, by omega, fun _ => ⟨_, 0, rfl, fun j hj => ?_⟩⟩
  have : j = 0 := by omega
  subst this
  exact k.cell 0 _ rfl

theorem reads1_at (w : World) (a : Int) (t : TypeId) (B : Nat) (hB : w.heap.size = B) : Reads (w.alloc (.cells #[.int .i64 a] t)) (some ⟨B, 0, none⟩) 1 [a] := by
  subst hB
  exact reads1 w a t

theorem cutF_one {c t lo hi g x : Int} : cutF c t lo hi g [x] = if Sound c t lo hi ∧ (lo ≤ g ∧ g ≤ hi) ∧ (0 ≤ x ∧ x ≤ 1000 * t) then ([plc c t g x], 0) else ([], 3) := by
  unfold cutF
  by_cases h : Sound c t lo hi ∧ lo ≤ g ∧ g ≤ hi
  · rw [if_pos h, if_neg (by simp)]
    by_cases hx : 0 ≤ x ∧ x ≤ 1000 * t
    · rw [if_pos (c := _ ∧ _ ∧ _) ⟨h.1, h.2, hx⟩]
      have e : ferr (timedF t) [x] = 0 := by
        have e : timedF t x = 0 := if_pos hx
        simp [ferr, e]
      rw [e]; rfl
    · rw [if_neg (c := _ ∧ _ ∧ _) (fun h => hx h.2.2)]
      have e : ferr (timedF t) [x] = 3 := by
        have e : timedF t x = 3 := if_neg hx
        simp [ferr, e]
      rw [e]; rfl
  · rw [if_neg h, if_neg (fun h' => h ⟨h'.1, h'.2.1⟩)]

set_option maxRecDepth 100000 in
set_option maxHeartbeats 4000000 in
theorem rDrift_yes {c t lo hi g x p a b e : Int} (hc : cutF c t lo hi g [x] = ([p], 0)) (h : arrivalF c t lo hi p = (a, b, e)) (w : World) :
    Gives 32 #[.agg #[.int .i64 c, .int .i64 t, .int .i64 lo, .int .i64 hi], .int .i64 g, .int .i64 x] (.tuple #[.agg #[.int .i64 a, .int .i64 b], .int .i64 e]) w := by
  unfold Gives
  have HC := Lib.hid hc
  have HA := Lib.hid h
  clear hc h
  have I : Held ((w.alloc (.cells [Value.int .i64 c, .int .i64 t, .int .i64 lo, .int .i64 hi].toArray 43)).alloc (.cells [Value.int .i64 0, .int .i64 0].toArray 26)) (fun W => (Below w.heap.size w W ∧ Blk W w.heap.size [.int .i64 c, .int .i64 t, .int .i64 lo, .int .i64 hi]) ∧ Blk W (w.heap.size + 1) [.int .i64 0, .int .i64 0]) := by
    have h1 : Held (w.alloc (.cells [Value.int .i64 c, .int .i64 t, .int .i64 lo, .int .i64 hi].toArray 43)) (fun W => Below w.heap.size w W ∧ Blk W w.heap.size [.int .i64 c, .int .i64 t, .int .i64 lo, .int .i64 hi]) := .start (.from (Below.refl _ _) (Nat.le_refl _)) _ _
    have h2 := h1.allocB [Value.int .i64 0, .int .i64 0] 26
    have e : (w.alloc (.cells [Value.int .i64 c, .int .i64 t, .int .i64 lo, .int .i64 hi].toArray 43)).heap.size = w.heap.size + 1 := by simp
    rw [e] at h2
    exact h2
  go_enter Try.func32, Try.ntmps32
  go_wp2_with (first
    | (go_at_call 33; (with_reducible refine (rcut_new _ _ _ _ _ _ _ _ _ _ (reads1_at _ x _ _ (by simp))).mono ?_); intro e1 w1 hh; rw [HC.out] at hh; obtain ⟨⟨A, n, cp, rfl, hr, hN⟩, hb⟩ := hh; replace I := ((I.allocB _ _).next hb).with (.reads hr); clear hb hr))
  have hr := I.now.2
  obtain rfl : n = 1 := hr.1.symm
  obtain ⟨b1, off, rfl, hc⟩ := hr.2.2 (by omega)
  have hb1 : w.heap.size + 1 < b1 := by have := hN _ rfl; simp at this; omega
  have hcell : ∀ W, Below w1.heap.size w1 W → W.cell? ⟨b1, off, none⟩ = some (.int .i64 p) := fun W hW => by
    have h := (I.next hW).now.2
    obtain ⟨b', off', e, hc'⟩ := h.2.2 (by omega)
    cases e
    exact hc' 0 (by omega)
  have HC2 := Lib.hid hcell
  clear hr hc hcell hN
  have hS : ∀ W, Below w1.heap.size w1 W → Below w.heap.size w W ∧ (W.cell? ⟨w.heap.size, 0, none⟩ = some (.int .i64 c) ∧ W.cell? ⟨w.heap.size, 1, none⟩ = some (.int .i64 t) ∧ W.cell? ⟨w.heap.size, 2, none⟩ = some (.int .i64 lo) ∧ W.cell? ⟨w.heap.size, 3, none⟩ = some (.int .i64 hi)) ∧ W.cell? ⟨b1, off, none⟩ = some (.int .i64 p) ∧ (W.cell? ⟨w.heap.size + 1, 0, none⟩ = some (valAt W ⟨w.heap.size + 1, 0, none⟩) ∧ W.cell? ⟨w.heap.size + 1, 1, none⟩ = some (valAt W ⟨w.heap.size + 1, 1, none⟩) ∧ W.frozen? ⟨w.heap.size + 1, 0, none⟩ = false ∧ W.frozen? ⟨w.heap.size + 1, 1, none⟩ = false) :=
    fun W hW => ⟨(I.next hW).now.1.1.1.1, (I.next hW).now.1.1.1.2.four, HC2.out W hW, (I.next hW).now.1.1.2.vals⟩
  have hS2 : ∀ W x y, Below w1.heap.size w1 W → Below w.heap.size w ((W.setCell ⟨w.heap.size + 1, 0, none⟩ x).setCell ⟨w.heap.size + 1, 1, none⟩ y) ∧ (((W.setCell ⟨w.heap.size + 1, 0, none⟩ x).setCell ⟨w.heap.size + 1, 1, none⟩ y).cell? ⟨w.heap.size, 0, none⟩ = some (.int .i64 c) ∧ ((W.setCell ⟨w.heap.size + 1, 0, none⟩ x).setCell ⟨w.heap.size + 1, 1, none⟩ y).cell? ⟨w.heap.size, 1, none⟩ = some (.int .i64 t) ∧ ((W.setCell ⟨w.heap.size + 1, 0, none⟩ x).setCell ⟨w.heap.size + 1, 1, none⟩ y).cell? ⟨w.heap.size, 2, none⟩ = some (.int .i64 lo) ∧ ((W.setCell ⟨w.heap.size + 1, 0, none⟩ x).setCell ⟨w.heap.size + 1, 1, none⟩ y).cell? ⟨w.heap.size, 3, none⟩ = some (.int .i64 hi)) ∧ ((W.setCell ⟨w.heap.size + 1, 0, none⟩ x).setCell ⟨w.heap.size + 1, 1, none⟩ y).cell? ⟨b1, off, none⟩ = some (.int .i64 p) ∧ (((W.setCell ⟨w.heap.size + 1, 0, none⟩ x).setCell ⟨w.heap.size + 1, 1, none⟩ y).cell? ⟨w.heap.size + 1, 0, none⟩ = some (valAt ((W.setCell ⟨w.heap.size + 1, 0, none⟩ x).setCell ⟨w.heap.size + 1, 1, none⟩ y) ⟨w.heap.size + 1, 0, none⟩) ∧ ((W.setCell ⟨w.heap.size + 1, 0, none⟩ x).setCell ⟨w.heap.size + 1, 1, none⟩ y).cell? ⟨w.heap.size + 1, 1, none⟩ = some (valAt ((W.setCell ⟨w.heap.size + 1, 0, none⟩ x).setCell ⟨w.heap.size + 1, 1, none⟩ y) ⟨w.heap.size + 1, 1, none⟩) ∧ ((W.setCell ⟨w.heap.size + 1, 0, none⟩ x).setCell ⟨w.heap.size + 1, 1, none⟩ y).frozen? ⟨w.heap.size + 1, 0, none⟩ = false ∧ ((W.setCell ⟨w.heap.size + 1, 0, none⟩ x).setCell ⟨w.heap.size + 1, 1, none⟩ y).frozen? ⟨w.heap.size + 1, 1, none⟩ = false) :=
    fun W x y hW => ⟨below2 (I.next hW).now.1.1.1.1 (by omega) _ _, ((I.next hW).now.1.1.1.2.other2 (by omega) _ _).four, by
      rw [World.cell?_setCell_other _ _ _ _ (by intro e'; cases e'; omega), World.cell?_setCell_other _ _ _ _ (by intro e'; cases e'; omega)]
      exact HC2.out W hW, ((I.next hW).now.1.1.2.put2 _ _).vals⟩
  have HS := Lib.hid hS
  have HS2 := Lib.hid hS2
  have z3 := I.now.1.1.2.lt
  clear hS hS2
  have HB1 := Lib.hid hb1
  clear hb1
  go_wp2
  go_region_held3 (fun W => Below w.heap.size w W ∧ (W.cell? ⟨w.heap.size, 0, none⟩ = some (.int .i64 c) ∧ W.cell? ⟨w.heap.size, 1, none⟩ = some (.int .i64 t) ∧ W.cell? ⟨w.heap.size, 2, none⟩ = some (.int .i64 lo) ∧ W.cell? ⟨w.heap.size, 3, none⟩ = some (.int .i64 hi)) ∧ W.cell? ⟨b1, off, none⟩ = some (.int .i64 p) ∧ (W.cell? ⟨w.heap.size + 1, 0, none⟩ = some (valAt W ⟨w.heap.size + 1, 0, none⟩) ∧ W.cell? ⟨w.heap.size + 1, 1, none⟩ = some (valAt W ⟨w.heap.size + 1, 1, none⟩) ∧ W.frozen? ⟨w.heap.size + 1, 0, none⟩ = false ∧ W.frozen? ⟨w.heap.size + 1, 1, none⟩ = false))
    (first
      | exact HS2.out _ _ _ hb2
      | exact HS.out _ hb2
      | exact HS.out _ (below_drewN' (Below.refl _ _) 1)
      | fail)
    (first
      | (go_at_call 31; (with_reducible refine (Gives.c (rArrival_calls HA.out _)).mono ?_); rintro e1 w2 ⟨rfl, hb0⟩; have hb2 : Below w1.heap.size w1 w2 := (Below.refl w1.heap.size w1).drew.trans hb0)
      | fail)
  rename_i hh
  have q3 := (I.next hb2).now.1.1.2.two
  have r := put2 (a := .int .i64 a) (b := .int .i64 b) q3.1 q3.2
  have hh1 := hh.1
  clear hh HS HS2 z3
  go_wp2
  refine bodyPost_ret (v := .tuple #[.agg #[.int .i64 a, .int .i64 b], .int .i64 e]) (by simp [results, Try.results32, go_sem, r.1, r.2]) rfl ⟨rfl, ?_⟩
  exact hh1

theorem rDrift_no {c t lo hi g x : Int} (hc : cutF c t lo hi g [x] = ([], 3)) (w : World) :
    Gives 32 #[.agg #[.int .i64 c, .int .i64 t, .int .i64 lo, .int .i64 hi], .int .i64 g, .int .i64 x] (.tuple #[.agg #[.int .i64 0, .int .i64 0], .int .i64 3]) w := by
  unfold Gives
  have HC := Lib.hid hc
  clear hc
  have I : Held ((w.alloc (.cells [Value.int .i64 c, .int .i64 t, .int .i64 lo, .int .i64 hi].toArray 43)).alloc (.cells [Value.int .i64 0, .int .i64 0].toArray 26)) (fun W => (Below w.heap.size w W ∧ Blk W w.heap.size [.int .i64 c, .int .i64 t, .int .i64 lo, .int .i64 hi]) ∧ Blk W (w.heap.size + 1) [.int .i64 0, .int .i64 0]) := by
    have h1 : Held (w.alloc (.cells [Value.int .i64 c, .int .i64 t, .int .i64 lo, .int .i64 hi].toArray 43)) (fun W => Below w.heap.size w W ∧ Blk W w.heap.size [.int .i64 c, .int .i64 t, .int .i64 lo, .int .i64 hi]) := .start (.from (Below.refl _ _) (Nat.le_refl _)) _ _
    have h2 := h1.allocB [Value.int .i64 0, .int .i64 0] 26
    have e : (w.alloc (.cells [Value.int .i64 c, .int .i64 t, .int .i64 lo, .int .i64 hi].toArray 43)).heap.size = w.heap.size + 1 := by simp
    rw [e] at h2
    exact h2
  go_enter Try.func32, Try.ntmps32
  go_wp2_with (first
    | (go_at_call 33; (with_reducible refine (rcut_new _ _ _ _ _ _ _ _ _ _ (reads1_at _ x _ _ (by simp))).mono ?_); intro e1 w1 hh; rw [HC.out] at hh; obtain ⟨⟨A, n, cp, rfl, hr, hN⟩, hb⟩ := hh; replace I := ((I.allocB _ _).next hb); clear hb hr; have q3 := I.now.1.2.two; have f3 := I.now.1.2.free2; have z3 := I.now.1.2.lt))
  have r := put2 (a := .int .i64 0) (b := .int .i64 0) q3.1 q3.2
  refine bodyPost_ret (v := .tuple #[.agg #[.int .i64 0, .int .i64 0], .int .i64 3]) (by simp [results, Try.results32, go_sem, r.1, r.2]) rfl ⟨rfl, ?_⟩
  exact below2 I.now.1.1.1 (by omega) _ _

theorem rDrift_calls {c t lo hi g x a b e : Int} (h : driftF c t lo hi g x = (a, b, e)) (w : World) :
    Gives 32 #[.agg #[.int .i64 c, .int .i64 t, .int .i64 lo, .int .i64 hi], .int .i64 g, .int .i64 x] (.tuple #[.agg #[.int .i64 a, .int .i64 b], .int .i64 e]) w := by
  unfold driftF at h
  by_cases hc : Sound c t lo hi ∧ (lo ≤ g ∧ g ≤ hi) ∧ (0 ≤ x ∧ x ≤ 1000 * t)
  · rw [if_pos hc] at h
    exact rDrift_yes (p := plc c t g x) (by rw [cutF_one, if_pos hc]) h w
  · rw [if_neg hc] at h
    cases h
    exact rDrift_no (by rw [cutF_one, if_neg hc]) w
end Go.Proofs.Ytphbiaagmhhhbaa
