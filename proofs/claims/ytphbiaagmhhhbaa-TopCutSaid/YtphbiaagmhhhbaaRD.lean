/- The contract of the reference's arrival. -/
import Derived.Test.YtphbiaagmhhhbaaMB
namespace Go.Proofs.Ytphbiaagmhhhbaa
open Go.RowKit Go.Lib Go.Shelf

theorem least_le {c t g p T k : Int} (ht : 1 ≤ t) (htc : t ≤ c) (hg : 0 ≤ g) (h0 : 0 ≤ T) (hk : 0 ≤ k) (hT : p ≤ plc c t g T) (h : len c g k < p) : k * t ≤ T := by
  rw [← plc_turn (c := c) (g := g) ht] at h
  have := plc_lt ht htc hg (Int.mul_nonneg hk (by omega)) (show plc c t g (k * t) < plc c t g T by omega) h0
  omega

set_option maxRecDepth 100000 in
set_option maxHeartbeats 2000000 in
theorem rarrival_calls {c t lo hi g p : Int} (ht : 1 ≤ t) (htc : t ≤ c) (hc1 : c ≤ 100000) (hg0 : 0 ≤ g) (hg1 : g ≤ 1000) (w : World) :
    Gives 68 #[.agg #[.int .i64 c, .int .i64 t, .int .i64 lo, .int .i64 hi], .int .i64 g, .int .i64 p] (.int .i64 (arr c t g p)) w := by
  have hl : ∀ n W, 0 ≤ n → n ≤ 1001 → Gives 63 #[.agg #[.int .i64 c, .int .i64 t, .int .i64 lo, .int .i64 hi], .int .i64 g, .int .i64 n] (.int .i64 (len c g n)) W := fun n W h0 h1 => rlength_calls (by omega) hc1 hg0 hg1 h0 h1 W
  have hp : ∀ x W, 0 ≤ x → x ≤ 1000 * t → Gives 66 #[.agg #[.int .i64 c, .int .i64 t, .int .i64 lo, .int .i64 hi], .int .i64 g, .int .i64 x] (.int .i64 (plc c t g x)) W := fun x W h0 h1 => rplace_calls ht htc hc1 hg0 hg1 h0 h1 W
  have HL := Lib.hid hl
  have HP := Lib.hid hp
  unfold Gives
  clear hl hp
  by_cases hov : len c g 1000 < p
  · rw [arr_over ht hov]
    go_enter Try.func68, Try.ntmps68
    go_wp2_with (go_at_call 63; (with_reducible refine (Gives.c (HL.out _ _ (by omega) (by omega))).mono ?_); rintro e w1 ⟨rfl, hb⟩)
    go_ret
    exact ⟨rfl, ((Below.refl _ _).alloc (Nat.le_refl _) _).trans (hb.mono (by simp))⟩
  · obtain ⟨t0, t1, t2, t3⟩ := arr_of ht htc hg0 (show p ≤ len c g 1000 by omega)
    generalize arr c t g p = T at t0 t1 t2 t3
    have hlast : ∀ k : Int, 0 ≤ k → len c g k < p → k * t ≤ T := fun k hk h => least_le ht htc hg0 t0 hk t2 h
    have hend : ∀ x : Int, 0 ≤ x → x ≤ T → p ≤ plc c t g x → x = T := by
      intro x hx hxT h
      rcases t3 with h3 | h3
      · omega
      · by_cases e : x = T
        · exact e
        · have := plc_incr ht htc hg0 hx (show x ≤ T - 1 by omega)
          omega
    have hgo : ∀ x : Int, x ≤ T → plc c t g x < p → x < T := by
      intro x hx h
      by_cases e : x = T
      · subst e; omega
      · omega
    have LAST := Lib.hid hlast
    have END := Lib.hid hend
    have GO := Lib.hid hgo
    clear hlast hend hgo t2 t3 hg0 hg1
    have I : Held (w.alloc (.cells [Value.int .i64 c, .int .i64 t, .int .i64 lo, .int .i64 hi].toArray 43)) (fun W => Below w.heap.size w W ∧ Blk W w.heap.size [.int .i64 c, .int .i64 t, .int .i64 lo, .int .i64 hi]) := .start (.from (Below.refl _ _) (Nat.le_refl _)) _ _
    go_enter Try.func68, Try.ntmps68
    go_wp2_with (go_at_call 63; (with_reducible refine (Gives.c (HL.out _ _ (by omega) (by omega))).mono ?_); rintro e w1 ⟨rfl, hb⟩; replace I := I.next hb; clear hb)
    go_loopw [7] (fun n wr => ∃ k : Int, 0 ≤ k ∧ k ≤ 1000 ∧ n = .int .i64 k ∧ k * t ≤ T ∧ Aside (Below w1.heap.size w1 wr)) (fun n _ => 1000 - (intOf n).toNat)
    case atStart => exact ⟨0, by omega, by omega, rfl, by omega, Below.refl _ _⟩
    case round =>
      obtain ⟨k, hk0, hk1, rfl, hkT, HB⟩ := hrel
      have J := I.next HB.out
      have q := J.now.2.four
      have hkt0 : 0 ≤ k * t := Int.mul_nonneg hk0 (by omega)
      have hmul : IntKind.i64.wrap (k * t) = k * t := by rw [i64_w]; exact w64_in (by omega) (by omega)
      by_cases hlt : k < 1000
      · have hw1 : IntKind.i64.wrap (k + 1) = k + 1 := by rw [i64_w]; exact w64_in (by omega) (by omega)
        by_cases hln : len c g (k + 1) < p
        · have hkn := LAST.out (k + 1) (by omega) hln
          go_wp2_with (go_at_call 63; (with_reducible refine (Gives.c (HL.out _ _ (by omega) (by omega))).mono ?_); rintro e w2 ⟨rfl, hb⟩)
          go_roundw
          case measure => simp [intOf]; omega
          case rel => exact ⟨k + 1, by omega, by omega, by go_num, hkn, HB.out.trans (hb.mono HB.out.size)⟩
        · go_wp2_with (go_at_call 63; (with_reducible refine (Gives.c (HL.out _ _ (by omega) (by omega))).mono ?_); rintro e w2 ⟨rfl, hb⟩; replace J := J.next hb; clear hb q; have q := J.now.2.four)
          go_loopw [8] (fun x wz => ∃ y : Int, 0 ≤ y ∧ y ≤ T ∧ x = .int .i64 y ∧ Aside (Below w2.heap.size w2 wz)) (fun x _ => (T - intOf x).toNat)
          case atStart => exact ⟨k * t, hkt0, hkT, rfl, Below.refl _ _⟩
          case round =>
            clear q
            obtain ⟨y, hy0, hyT, rfl, HB2⟩ := hrel
            have J2 := J.next HB2.out
            have q := J2.now.2.four
            have hw3 : IntKind.i64.wrap (y + 1) = y + 1 := by rw [i64_w]; exact w64_in (by omega) (by omega)
            by_cases hyp : plc c t g y < p
            · have hlt2 := GO.out y hyT hyp
              go_wp2_with (go_at_call 66; (with_reducible refine (Gives.c (HP.out _ _ hy0 (by omega))).mono ?_); rintro e w3 ⟨rfl, hb⟩)
              go_roundw
              case measure => simp [intOf]; omega
              case rel => exact ⟨y + 1, by omega, by omega, by go_num, HB2.out.trans (hb.mono HB2.out.size)⟩
            · have hyT2 := END.out y hy0 hyT (by omega)
              subst hyT2
              go_wp2_with (go_at_call 66; (with_reducible refine (Gives.c (HP.out _ _ hy0 (by omega))).mono ?_); rintro e w3 ⟨rfl, hb⟩; replace J2 := J2.next hb; clear hb)
              go_ret
              exact ⟨rfl, J2.now.1⟩
      · go_wp2
        go_loopw [8] (fun x wz => ∃ y : Int, 0 ≤ y ∧ y ≤ T ∧ x = .int .i64 y ∧ Aside (Below wr.heap.size wr wz)) (fun x _ => (T - intOf x).toNat)
        case atStart => exact ⟨k * t, hkt0, hkT, rfl, Below.refl _ _⟩
        case round =>
          clear q
          obtain ⟨y, hy0, hyT, rfl, HB2⟩ := hrel
          have J2 := J.next HB2.out
          have q := J2.now.2.four
          have hw3 : IntKind.i64.wrap (y + 1) = y + 1 := by rw [i64_w]; exact w64_in (by omega) (by omega)
          by_cases hyp : plc c t g y < p
          · have hlt2 := GO.out y hyT hyp
            go_wp2_with (go_at_call 66; (with_reducible refine (Gives.c (HP.out _ _ hy0 (by omega))).mono ?_); rintro e w3 ⟨rfl, hb⟩)
            go_roundw
            case measure => simp [intOf]; omega
            case rel => exact ⟨y + 1, by omega, by omega, by go_num, HB2.out.trans (hb.mono HB2.out.size)⟩
          · have hyT2 := END.out y hy0 hyT (by omega)
            subst hyT2
            go_wp2_with (go_at_call 66; (with_reducible refine (Gives.c (HP.out _ _ hy0 (by omega))).mono ?_); rintro e w3 ⟨rfl, hb⟩; replace J2 := J2.next hb; clear hb)
            go_ret
            exact ⟨rfl, J2.now.1⟩
end Go.Proofs.Ytphbiaagmhhhbaa
