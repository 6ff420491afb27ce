/- The contract of Drift. -/
import Derived.Test.YtphbiaagmhhhbaaSK
import Derived.Test.YtphbiaagmhhhbaaBK
namespace Go.Proofs.Ytphbiaagmhhhbaa
open Go.RowKit Go.Lib Go.Shelf

def lengthF (c t lo hi n : Int) : Int × Int × Int :=
  if Sound c t lo hi ∧ 0 ≤ n ∧ n ≤ 1000 then (min (len c lo n) (len c hi n), max (len c lo n) (len c hi n), 0) else (0, 0, 3)
def placeF (c t lo hi x : Int) : Int × Int × Int :=
  if Sound c t lo hi ∧ 0 ≤ x ∧ x ≤ 1000 * t then (min (plc c t lo x) (plc c t hi x), max (plc c t lo x) (plc c t hi x), 0) else (0, 0, 3)
def arrivalF (c t lo hi p : Int) : Int × Int × Int :=
  if Sound c t lo hi ∧ 0 ≤ p then (if min (arr c t lo p) (arr c t hi p) < 0 then (0, 0, 11) else (min (arr c t lo p) (arr c t hi p), max (arr c t lo p) (arr c t hi p), 0)) else (0, 0, 3)

theorem Length_calls {c t lo hi n a b e : Int} (h : lengthF c t lo hi n = (a, b, e)) (w : World) :
    Gives 22 #[.agg #[.int .i64 c, .int .i64 t, .int .i64 lo, .int .i64 hi], .int .i64 n] (.tuple #[.agg #[.int .i64 a, .int .i64 b], .int .i64 e]) w := by
  unfold lengthF at h
  by_cases hs : Sound c t lo hi
  · by_cases hn : 0 ≤ n ∧ n ≤ 1000
    · rw [if_pos ⟨hs, hn⟩] at h; cases h; exact Length_yes hs hn.1 hn.2 w
    · rw [if_neg (fun h => hn h.2)] at h; cases h; exact Length_far hs hn w
  · rw [if_neg (fun h => hs h.1)] at h; cases h; exact Length_no hs w
theorem Place_calls {c t lo hi x a b e : Int} (h : placeF c t lo hi x = (a, b, e)) (w : World) :
    Gives 25 #[.agg #[.int .i64 c, .int .i64 t, .int .i64 lo, .int .i64 hi], .int .i64 x] (.tuple #[.agg #[.int .i64 a, .int .i64 b], .int .i64 e]) w := by
  unfold placeF at h
  by_cases hs : Sound c t lo hi
  · by_cases hn : 0 ≤ x ∧ x ≤ 1000 * t
    · rw [if_pos ⟨hs, hn⟩] at h; cases h; exact Place_yes hs hn.1 hn.2 w
    · rw [if_neg (fun h => hn h.2)] at h; cases h; exact Place_far hs hn w
  · rw [if_neg (fun h => hs h.1)] at h; cases h; exact Place_no hs w
theorem Arrival_calls {c t lo hi p a b e : Int} (h : arrivalF c t lo hi p = (a, b, e)) (w : World) :
    Gives 30 #[.agg #[.int .i64 c, .int .i64 t, .int .i64 lo, .int .i64 hi], .int .i64 p] (.tuple #[.agg #[.int .i64 a, .int .i64 b], .int .i64 e]) w := by
  unfold arrivalF at h
  by_cases hs : Sound c t lo hi
  · by_cases hn : 0 ≤ p
    · rw [if_pos ⟨hs, hn⟩] at h
      by_cases ha : min (arr c t lo p) (arr c t hi p) < 0
      · rw [if_pos ha] at h; cases h; exact Arrival_over hs hn rfl rfl ha w
      · rw [if_neg ha] at h; cases h; exact Arrival_yes hs hn rfl rfl (by omega) w
    · rw [if_neg (fun h => hn h.2)] at h; cases h; exact Arrival_neg hs (by omega) w
  · rw [if_neg (fun h => hs h.1)] at h; cases h; exact Arrival_no hs w

set_option maxHeartbeats 2000000 in
theorem Drift_yes {c t lo hi g x a b e : Int} (hs : Sound c t lo hi) (hg : lo ≤ g ∧ g ≤ hi) (hx : 0 ≤ x ∧ x ≤ 1000 * t) (h : arrivalF c t lo hi (plc c t g x) = (a, b, e)) (w : World) :
    Gives 19 #[.agg #[.int .i64 c, .int .i64 t, .int .i64 lo, .int .i64 hi], .int .i64 g, .int .i64 x] (.tuple #[.agg #[.int .i64 a, .int .i64 b], .int .i64 e]) w := by
  unfold Gives
  have hk : timedF t x = 0 := if_pos hx
  have hb1 : -1000000 ≤ t ∧ t ≤ 1000000 := by have := hs.1; have := hs.2.1; omega
  have H := Lib.hid hs
  have HG := Lib.hid hg
  have HX := Lib.hid hx
  have HA := Lib.hid h
  clear hs hg hx h
  go_enter Try.func19, Try.ntmps19
  go_wp2_with (first | (go_at_call 50; refine (wind_yes H.out HG.out.1 HG.out.2 _).mono ?_; rintro e w1 ⟨rfl, hb⟩) | (go_at_call 52; refine (timed_calls _ _ _ _ _ hb1.1 hb1.2 _).mono ?_; rintro e w2 ⟨rfl, hb2⟩; rw [hk]))
  have b1 : Below w.heap.size w w1 := (((Below.refl _ _).alloc (Nat.le_refl _) _).alloc (by simp) _).trans (hb.mono (by simp; omega))
  have b2 : Below w.heap.size w w2 := (b1.alloc b1.size _).trans (hb2.mono (by have := b1.size; simp; omega))
  have k0 : Blk w2 w.heap.size _ := ((((Blk.new w _ 28).alloc _).later hb).alloc _).later hb2
  have k1 : Blk w2 (w.heap.size + 1) _ := ((Blk.later (by simpa using Blk.new (w.alloc _) _ 26) hb).alloc _).later hb2
  have k2 : Blk w2 w1.heap.size _ := (Blk.new w1 _ 84).later hb2
  have q0 := k0.four
  have q2 := k2.five
  clear hb hb2
  go_region_with (first
    | (go_at_call 53; refine (place_calls H.out (by have := H.out.2.2; have := HG.out; omega) (by have := H.out.2.2; have := HG.out; omega) HX.out.1 HX.out.2 _).mono ?_; rintro e w3 ⟨rfl, hb3⟩; have k03 := k0.drew.later hb3; have k13 := k1.drew.later hb3; have q03 := k03.four; have q13 := k13.two; have f13 := k13.free2; have b3 := b2.drew.trans (hb3.mono b2.size); clear q0 q2)
    | (go_at_call 30; refine (Arrival_calls HA.out _).mono ?_; rintro e' w4 ⟨rfl, hb4⟩; have k14 := k13.later hb4; have q14 := k14.two; have f14 := k14.free2; have b4 := b3.trans (hb4.mono b3.size); clear q03 q13 f13 hb4))
  all_goals
    go_wp2
    have r := put2 (a := .int .i64 a) (b := .int .i64 b) k14.two.1 k14.two.2
    refine bodyPost_ret (v := .tuple #[.agg #[.int .i64 a, .int .i64 b], .int .i64 e]) (by simp [results, Try.results19, go_sem, r.1, r.2]) rfl ⟨rfl, ?_⟩
    exact below2 b4 (by omega) _ _

theorem Drift_no {c t lo hi g x : Int} (hs : ¬ Sound c t lo hi) (w : World) :
    Gives 19 #[.agg #[.int .i64 c, .int .i64 t, .int .i64 lo, .int .i64 hi], .int .i64 g, .int .i64 x] (.tuple #[.agg #[.int .i64 0, .int .i64 0], .int .i64 3]) w := by
  unfold Gives
  have H := Lib.hid hs
  clear hs
  go_enter Try.func19, Try.ntmps19
  go_wp2_with (first | (go_at_call 50; refine (wind_no H.out _).mono ?_; rintro e w1 ⟨rfl, hb⟩; have k1 : Blk w1 (w.heap.size + 1) _ := Blk.later (by simpa using Blk.new (w.alloc _) _ 26) hb; have q1 := k1.two; have f1 := k1.free2; have z1 := k1.lt; have Hb := Lib.hid hb; clear hb))
  have b1 : Below w.heap.size w w1 := (((Below.refl _ _).alloc (Nat.le_refl _) _).alloc (by simp) _).trans (Hb.out.mono (by simp; omega))
  have r := put2 (a := .int .i64 0) (b := .int .i64 0) q1.1 q1.2
  refine bodyPost_ret (v := .tuple #[.agg #[.int .i64 0, .int .i64 0], .int .i64 3]) (by simp [results, Try.results19, go_sem, r.1, r.2, z1]) rfl ⟨rfl, ?_⟩
  exact (below2 b1 (by omega) _ _).alloc (by simp; exact b1.size) _

theorem Drift_far {c t lo hi g x : Int} (hs : Sound c t lo hi) (hg : ¬ (lo ≤ g ∧ g ≤ hi)) (w : World) :
    Gives 19 #[.agg #[.int .i64 c, .int .i64 t, .int .i64 lo, .int .i64 hi], .int .i64 g, .int .i64 x] (.tuple #[.agg #[.int .i64 0, .int .i64 0], .int .i64 3]) w := by
  unfold Gives
  have H := Lib.hid hs
  have HG := Lib.hid hg
  clear hs hg
  go_enter Try.func19, Try.ntmps19
  go_wp2_with (first | (go_at_call 50; refine (wind_far H.out HG.out _).mono ?_; rintro e w1 ⟨rfl, hb⟩; have k1 : Blk w1 (w.heap.size + 1) _ := Blk.later (by simpa using Blk.new (w.alloc _) _ 26) hb; have q1 := k1.two; have f1 := k1.free2; have z1 := k1.lt; have Hb := Lib.hid hb; clear hb))
  have b1 : Below w.heap.size w w1 := (((Below.refl _ _).alloc (Nat.le_refl _) _).alloc (by simp) _).trans (Hb.out.mono (by simp; omega))
  have r := put2 (a := .int .i64 0) (b := .int .i64 0) q1.1 q1.2
  refine bodyPost_ret (v := .tuple #[.agg #[.int .i64 0, .int .i64 0], .int .i64 3]) (by simp [results, Try.results19, go_sem, r.1, r.2, z1]) rfl ⟨rfl, ?_⟩
  exact (below2 b1 (by omega) _ _).alloc (by simp; exact b1.size) _

theorem Drift_late {c t lo hi g x : Int} (hs : Sound c t lo hi) (hg : lo ≤ g ∧ g ≤ hi) (hx : ¬ (0 ≤ x ∧ x ≤ 1000 * t)) (w : World) :
    Gives 19 #[.agg #[.int .i64 c, .int .i64 t, .int .i64 lo, .int .i64 hi], .int .i64 g, .int .i64 x] (.tuple #[.agg #[.int .i64 0, .int .i64 0], .int .i64 3]) w := by
  unfold Gives
  have hk : timedF t x = 3 := if_neg hx
  have hb1 : -1000000 ≤ t ∧ t ≤ 1000000 := by have := hs.1; have := hs.2.1; omega
  have H := Lib.hid hs
  have HG := Lib.hid hg
  clear hs hg hx
  go_enter Try.func19, Try.ntmps19
  go_wp2_with (first | (go_at_call 50; refine (wind_yes H.out HG.out.1 HG.out.2 _).mono ?_; rintro e w1 ⟨rfl, hb⟩) | (go_at_call 52; refine (timed_calls _ _ _ _ _ hb1.1 hb1.2 _).mono ?_; rintro e w2 ⟨rfl, hb2⟩; rw [hk]; have k1 : Blk w2 (w.heap.size + 1) _ := ((Blk.later (by simpa using Blk.new (w.alloc _) _ 26) hb).alloc _).later hb2; have q1 := k1.two; have f1 := k1.free2))
  have b1 : Below w.heap.size w w1 := (((Below.refl _ _).alloc (Nat.le_refl _) _).alloc (by simp) _).trans (hb.mono (by simp; omega))
  have b2 : Below w.heap.size w w2 := (b1.alloc b1.size _).trans (hb2.mono (by have := b1.size; simp; omega))
  have r := put2 (a := .int .i64 0) (b := .int .i64 0) q1.1 q1.2
  refine bodyPost_ret (v := .tuple #[.agg #[.int .i64 0, .int .i64 0], .int .i64 3]) (by simp [results, Try.results19, go_sem, r.1, r.2]) rfl ⟨rfl, ?_⟩
  exact below2 b2 (by omega) _ _

def driftF (c t lo hi g x : Int) : Int × Int × Int :=
  if Sound c t lo hi ∧ (lo ≤ g ∧ g ≤ hi) ∧ (0 ≤ x ∧ x ≤ 1000 * t) then arrivalF c t lo hi (plc c t g x) else (0, 0, 3)
theorem Drift_calls {c t lo hi g x a b e : Int} (h : driftF c t lo hi g x = (a, b, e)) (w : World) :
    Gives 19 #[.agg #[.int .i64 c, .int .i64 t, .int .i64 lo, .int .i64 hi], .int .i64 g, .int .i64 x] (.tuple #[.agg #[.int .i64 a, .int .i64 b], .int .i64 e]) w := by
  unfold driftF at h
  by_cases hs : Sound c t lo hi
  · by_cases hg : lo ≤ g ∧ g ≤ hi
    · by_cases hx : 0 ≤ x ∧ x ≤ 1000 * t
      · rw [if_pos ⟨hs, hg, hx⟩] at h; exact Drift_yes hs hg hx h w
      · rw [if_neg (fun h => hx h.2.2)] at h; cases h; exact Drift_late hs hg hx w
    · rw [if_neg (fun h => hg h.2.1)] at h; cases h; exact Drift_far hs hg w
  · rw [if_neg (fun h => hs h.1)] at h; cases h; exact Drift_no hs w
end Go.Proofs.Ytphbiaagmhhhbaa
