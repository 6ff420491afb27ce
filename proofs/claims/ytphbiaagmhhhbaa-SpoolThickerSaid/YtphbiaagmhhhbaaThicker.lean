/- SpoolThicker: thicker paper is not behind, and nothing arrives later on it: the call returns true at every reel, time and place. -/
import Derived.Test.YtphbiaagmhhhbaaOC
import Derived.Deep.CutRange
namespace Go.Proofs.Ytphbiaagmhhhbaa
open Go.ChangeShapes Go.WideShapes Go.ChangeAt Go.RowKit Go.Lib Go.Shelf

set_option maxRecDepth 1000000 in
set_option maxHeartbeats 8000000 in
theorem thicker_walk {r : Value} {c lo hi : Int} {T xn yn t p : Nat} (hsm : Small c T lo hi) (hx : xn ≤ 65535) (hy : yn ≤ 65535) (ht : xn % (1000 * T + 1) = t) (hp : ((yn : Int)) % (1000 * c + 1) = p) {p0 p1 p2 p3 : Int} (hr : r = reel p0 p1 p2 p3)
    (hmade : ∀ W, Gives 45 #[r] (spl c T lo hi) W)
    (w : World) : Gives 11 #[r, .int .u16 (xn : Int), .int .u16 (yn : Int)] (.bool true) w := by
  unfold Gives
  subst hr
  have I : Held w (fun W => Below w.heap.size w W) := .from (Below.refl _ _) (Nat.le_refl _)
  have hs := hsm.sound
  have hsm' := hsm
  obtain ⟨s1, s2, s3, s4, s5, s6, s7, s8⟩ := hsm'
  have ht1 : t ≤ 1000 * T := by have := Nat.mod_lt xn (show 0 < 1000 * T + 1 by omega); omega
  have hp1 : (p : Int) ≤ 1000 * c := by have := Int.emod_lt_of_pos (yn : Int) (show 0 < 1000 * c + 1 by omega); omega
  have hwx : IntKind.i64.wrap (xn : Int) = (xn : Int) := i64_in (by omega) (by omega)
  have hwy : IntKind.i64.wrap (yn : Int) = (yn : Int) := i64_in (by omega) (by omega)
  have hwt : IntKind.i64.wrap (1000 * (T : Int)) = 1000 * (T : Int) := i64_in (by omega) (by omega)
  have hwt1 : IntKind.i64.wrap (1000 * (T : Int) + 1) = 1000 * (T : Int) + 1 := i64_in (by omega) (by omega)
  have hwc : IntKind.i64.wrap (1000 * c) = 1000 * c := i64_in (by omega) (by omega)
  have hwc1 : IntKind.i64.wrap (1000 * c + 1) = 1000 * c + 1 := i64_in (by omega) (by omega)
  have hmt : (xn : Int).tmod (1000 * (T : Int) + 1) = (t : Int) := by
    rw [Int.tmod_eq_emod_of_nonneg (by omega), ← ht]
    push_cast
    rfl
  have hmp : (yn : Int).tmod (1000 * c + 1) = (p : Int) := by rw [Int.tmod_eq_emod_of_nonneg (by omega)]; exact hp
  have hz1 : (1000 * (T : Int) + 1 == 0) = false := beq_eq_false_iff_ne.2 (by omega)
  have hz2 : (1000 * c + 1 == 0) = false := beq_eq_false_iff_ne.2 (by omega)
  have hz3 : ¬ 1000 * (T : Int) + 1 = 0 := by omega
  have hz4 : ¬ 1000 * c + 1 = 0 := by omega
  have hlen : ∀ g : Int, 0 ≤ g → (p : Int) ≤ len c g 1000 := fun g hg => by
    have := len_mono (c := c) (n := 1000) (by decide) hg
    unfold len at this ⊢
    omega
  have hcut : ∀ g : Int, lo ≤ g → g ≤ hi → cutF c T lo hi g [(t : Int)] = ([plc c T g t], 0) := fun g h0 h1 => by rw [cutF_one, if_pos ⟨hs, ⟨h0, h1⟩, by omega, by omega⟩]
  have hplay : ∀ g : Int, lo ≤ g → g ≤ hi → playF c T lo hi g [(p : Int)] = ([arr c T g p], 0) := fun g h0 h1 => playF_one hs h0 h1 (by omega) (hlen g (by omega))
  have hpl : placeF c T lo hi t = (plc c T lo t, plc c T hi t, 0) := by
    have h1 := plc_mono (c := c) (t := (T : Int)) (x := (t : Int)) s1 (by omega) s7
    unfold placeF
    rw [if_pos ⟨hs, by omega, by omega⟩, Int.min_eq_left h1, Int.max_eq_right h1]
  have har : arrivalF c T lo hi p = (arr c T hi p, arr c T lo p, 0) := by
    have h1 := arr_mono (c := c) (t := (T : Int)) (g := lo) (k := hi) (p := (p : Int)) s1 s3 s5 s7 (hlen lo s5)
    unfold arrivalF
    rw [if_pos ⟨hs, by omega⟩, Int.min_eq_right h1.1, Int.max_eq_left h1.1, if_neg (by omega)]
  have hpm : ∀ g k : Int, g ≤ k → plc c T g t ≤ plc c T k t := fun g k h => plc_mono s1 (by omega) h
  have hp0 : ∀ g : Int, 0 ≤ g → g ≤ 1000 → 0 ≤ plc c T g t := fun g h0 h1 => (plc_bd s1 s3 (by omega) h0 h1 (by omega) (by omega)).1
  have ham : ∀ g k : Int, 0 ≤ g → g ≤ k → arr c T k p ≤ arr c T g p := fun g k h0 h => (arr_mono s1 s3 h0 h (hlen g h0)).1
  have hab : ∀ g : Int, 0 ≤ g → arr c T g p ≤ 1099511627776 := fun g h0 => by have := (arr_of s1 s3 h0 (hlen g h0)).2.1; omega
  have HM := Lib.hid hmade
  have HPL := Lib.hid hpl
  have HAR := Lib.hid har
  have HC := Lib.hid hcut
  have HP := Lib.hid hplay
  have HPM := Lib.hid hpm
  have HP0 := Lib.hid hp0
  have HAM := Lib.hid ham
  have HAB := Lib.hid hab
  clear hmade hpl har hcut hplay hpm hp0 ham hab ht hp hs hsm hlen ht1 hp1
  go_enter Try.func11, Try.ntmps11
  go_wp2_with (first
    | (go_at_call 45; (with_reducible refine (Gives.c (HM.out (World.alloc _ _))).mono ?_); rintro e w1 ⟨rfl, hb⟩; replace I := (I.alloc _).next hb; clear hb))
  have I2 := I.allocB [.int .i64 c, .int .i64 (T : Int), .int .i64 lo, .int .i64 hi] 28
  clear I
  generalize World.alloc _ _ = W0 at I2 ⊢
  replace I2 := (Held.from (Below.refl W0.heap.size W0) (Nat.le_refl _)).with I2
  have q0 := I2.now.2.2.four
  go_wp2_with fail
  go_loopw [10, 11, 12] (fun v1 v2 g wr => ∃ k : Nat, lo + k ≤ hi + 1 ∧ g = .int .i64 (lo + k) ∧ v1 = .int .i64 (sinceD k (-1) (plc c T (lo + k - 1) t)) ∧ v2 = .int .i64 (sinceD k 1099511627776 (arr c T (lo + k - 1) p)) ∧ Aside (Below W0.heap.size W0 wr))
    (fun _ _ g _ => (hi + 1 - intOf g).toNat)
  case atStart => exact ⟨0, by omega, by simp, rfl, rfl, Below.refl _ _⟩
  case round =>
    clear q0
    obtain ⟨k, hk, rfl, rfl, rfl, HB⟩ := hrel
    have J := I2.next HB.out
    have q0 := J.now.2.2.four
    by_cases hlt : lo + (k : Int) ≤ hi
    · have hw1 : IntKind.i64.wrap (lo + (k : Int) + 1) = lo + (k : Int) + 1 := i64_in (by omega) (by omega)
      have hA : ¬ plc c T (lo + k) t < sinceD k (-1) (plc c T (lo + k - 1) t) := by
        unfold sinceD
        have h1 := HP0.out (lo + k) (by omega) (by omega)
        have h2 := HPM.out (lo + k - 1) (lo + k) (by omega)
        split <;> omega
      have hB : ¬ sinceD k 1099511627776 (arr c T (lo + k - 1) p) < arr c T (lo + k) p := by
        unfold sinceD
        have h1 := HAB.out (lo + k) (by omega)
        by_cases h : k = 0
        · rw [if_pos h]; omega
        · rw [if_neg h]
          have h2 := HAM.out (lo + k - 1) (lo + k) (by omega) (by omega)
          omega
      have hC := HC.out (lo + k) (by omega) hlt
      have hP := HP.out (lo + k) (by omega) hlt
      have e1 : sinceD (k + 1) (-1) (plc c T (lo + ((k + 1 : Nat) : Int) - 1) t) = plc c T (lo + k) t := by rw [sinceD_succ]; congr 1; omega
      have e2 : sinceD (k + 1) 1099511627776 (arr c T (lo + ((k + 1 : Nat) : Int) - 1) p) = arr c T (lo + k) p := by rw [sinceD_succ]; congr 1; omega
      generalize plc c T (lo + k) t = X at hA hC e1
      generalize arr c T (lo + k) p = Y at hB hP e2
      have HC1 := Lib.hid hC
      have HP1 := Lib.hid hP
      have E1 := Lib.hid e1
      have E2 := Lib.hid e2
      clear hC hP e1 e2
      go_upto_region 10 with (first
        | (go_at_call 17; (with_reducible refine (cut_calls _ _ _ _ _ _ _ _ _ _ (reads1_at wr (t : Int) _ _ rfl)).mono ?_); intro e w2 hh; obtain ⟨A1, m1, c1, rfl, hr, hb⟩ := slc_of HC1.out hh; replace J := ((J.alloc _).next hb).with hr; clear hr hb hh q0; have q0 := J.now.1.2.2.four)
        | (go_at_call 18; (with_reducible refine (play_calls _ _ _ _ _ _ _ _ _ _ (reads1_at _ (p : Int) _ _ rfl)).mono ?_); intro e w3 hh; obtain ⟨A2, m2, c2, rfl, hr, hb⟩ := slc_of HP1.out hh; replace J := ((J.alloc _).next hb).with hr; clear hr hb hh q0))
      obtain ⟨rfl, b1, o1, rfl, hc1⟩ := one_cell J.now.1.2
      obtain ⟨rfl, b2, o2, rfl, hc2⟩ := one_cell J.now.2
      go_wp2
      go_quiet (fail)
      go_wp2
      go_roundw
      case measure => simp [intOf]; omega
      case rel =>
        refine ⟨k + 1, by omega, by go_num, ?_, ?_, ?_⟩
        · rw [E1.out]
        · rw [E2.out]
        · show Aside _
          repeat (first | exact J.now.1.1.1 | refine below_drewN' ?_ _ | refine Below.drew ?_)
    · have hkh : lo + (k : Int) - 1 = hi := by omega
      have hk0 : k ≠ 0 := by omega
      rw [sinceD_pos hk0, sinceD_pos hk0, hkh]
      clear HPM HP0 HAM HAB hkh
      go_wp2_with (first
        | (go_at_call 25; (with_reducible refine (Gives.c (Place_calls HPL.out _)).mono ?_); rintro e w2 ⟨rfl, hb⟩; replace J := J.next hb; clear hb q0; have q0 := J.now.2.2.four; have z0 := J.now.2.2.lt)
        | (go_at_call 30; (with_reducible refine (Gives.c (Arrival_calls HAR.out (World.alloc _ _))).mono ?_); rintro e w3 ⟨rfl, hb⟩; replace J := (J.allocB _ _).next hb; clear hb q0; have q0 := J.now.2.two; have z2 := J.now.2.lt)
        | (go_at_call 29; (with_reducible refine (Gives.c (works_calls _)).mono ?_); rintro e w' ⟨rfl, hb⟩; replace J := (J.alloc _).next hb))
      go_ret
      exact ⟨rfl, J.now.1.2.1⟩

theorem thicker_law {a b p q : Int} (ha : 0 ≤ a ∧ a ≤ 255) (hb : 0 ≤ b ∧ b ≤ 255) (hp : 0 ≤ p ∧ p ≤ 255) (hq : 0 ≤ q ∧ q ≤ 255) {n m : Nat} (hn : n ≤ 65535) (hm : m ≤ 65535) (w : World) :
    Gives 11 #[reel a b p q, .int .u16 (n : Int), .int .u16 (m : Int)] (.bool true) w := by
  obtain ⟨T, hT⟩ := Int.eq_ofNat_of_zero_le (show 0 ≤ 1 + b % 20 by omega)
  have hs := made_small (a := a) (b := b) (p := p) (q := q)
  have hmd := fun W => made_calls ha hb hp hq W
  rw [hT] at hs
  simp only [hT] at hmd
  obtain ⟨P, hP⟩ := Int.eq_ofNat_of_zero_le (Int.emod_nonneg (m : Int) (show 1000 * ((T : Int) + a % 80) + 1 ≠ 0 by omega))
  exact thicker_walk hs hn hm rfl hP rfl hmd w

theorem thicker_own : ownKnob Try.prog.godebug = none := by kernel_rfl

set_option maxRecDepth 100000 in
theorem thicker_lifted (os : Os) (started : os.Started) (H : Type) (enc : TypeId × Value → H) :
    ReturnsInHanded {} Try.checked os 11 .any (Rows.spoolThickerSpec.pre6 enc Try.prog Try.f11 Rows.spoolThickerRow.domain false) (Rows.spoolThickerSpec.post enc Try.prog Try.f11 false true false false) := by
  refine returnsInHanded_of_change (C := Try.checked) thicker_own started (by kernel_rfl) Try.func11
    (ChangeSpec.witness6 (enc := enc) (C := Try.checked) false ⟨#[], #[.agg #[.int .u8 0, .int .u8 0, .int .u8 0, .int .u8 0], .int .u16 0, .int .u16 0], []⟩ 8 (by kernel_rfl) (by kernel_rfl) (by kernel_rfl) (by kernel_rfl)) ?_
  intro W base args ds gs before hval0 hW hcnd _
  have hval : ∀ (j : Nat) t v, Try.f11.params[j]? = some t → args[j]? = some v → Value.okWide Try.prog W .any base t v := hval0
  have hW' := hW
  obtain ⟨p, q, hA, hV, rfl, hfz, hnd⟩ := hW
  rw [Try.params11] at hA hval
  obtain ⟨v1, l1, d1, ds1, p1, q1, e1, rfl, rfl, h1, hA⟩ := trodAll_cons hA
  obtain ⟨v2, l2, d2, ds2, p2, q2, rfl, rfl, rfl, h2, hA⟩ := trodAll_cons hA
  obtain ⟨v3, l3, d3, ds3, p3, q3, rfl, rfl, rfl, h3, hA⟩ := trodAll_cons hA
  obtain ⟨rfl, rfl, rfl⟩ := trodAll_nil hA
  obtain ⟨rfl, rfl⟩ := trodVars_none hV
  obtain rfl : args = #[v1, v2, v3] := by cases args; simp_all
  obtain ⟨b0, b1, b2, b3, rfl, hb0, hb1, hb2, hb3⟩ := reel_arg (hval 0 66 v1 rfl rfl) h1
  obtain ⟨n, rfl, hn⟩ := word_arg (hval 1 71 v2 rfl rfl) h2
  obtain ⟨m, rfl, hm⟩ := word_arg (hval 2 71 v3 rfl rfl) h3
  refine (Gives.c (thicker_law hb0 hb1 hb2 hb3 hn hm W)).mono fun e W' ⟨he, hb⟩ => ?_
  subst he
  exact ⟨_, rfl, post_true hW' rfl rfl rfl (by decide) hb⟩

theorem thicker_over : Rows.spoolThickerRow.holds Try.pinned (OpenSpec.ofChange Rows.spoolThickerSpec) :=
  OpenClaim.holds_of_wide 11 Try.f11 rfl rfl rfl rfl rfl rfl rfl ⟨rfl, rfl, rfl, rfl, rfl⟩ rfl rfl rfl rfl rfl (by kernel_rfl) Try.func11 (by kernel_rfl)
    (of_decide_eq_true (by kernel_rfl)) (by unfold Func.isWrapper; first | (rw [if_pos (by decide +kernel)]; kernel_rfl) | (rw [if_neg (by decide +kernel)]; exact ⟨rfl, rfl⟩))
    (fun os started H enc _ => thicker_lifted os started H enc)

/-- SpoolThicker returns true. -/
theorem spoolThicker_holds : Rows.SpoolThickerSaid := thicker_over
#print axioms spoolThicker_holds
end Go.Proofs.Ytphbiaagmhhhbaa
