/- SpoolDrift: a note sounds within the drift that is returned, whatever growth is true: the call returns true at every reel, growth and time. -/
import Derived.Test.YtphbiaagmhhhbaaOC
import Derived.Deep.CutRange
namespace Go.Proofs.Ytphbiaagmhhhbaa
open Go.ChangeShapes Go.WideShapes Go.ChangeAt Go.RowKit Go.Lib Go.Shelf

set_option maxRecDepth 1000000 in
set_option maxHeartbeats 8000000 in
theorem drift_walk {r : Value} {c lo hi g d : Int} {T xn yn t : Nat} (hsm : Small c T lo hi) (hx : xn ≤ 255) (hy : yn ≤ 65535) (hd : (xn : Int) % (hi - lo + 1) = d) (hg : lo + d = g) (ht : yn % (500 * T + 1) = t) {p0 p1 p2 p3 : Int} (hr : r = reel p0 p1 p2 p3)
    (hmade : ∀ W, Gives 45 #[r] (spl c T lo hi) W)
    (w : World) : Gives 12 #[r, .int .u8 (xn : Int), .int .u16 (yn : Int)] (.bool true) w := by
  unfold Gives
  subst hr
  have hgt := guard26
  have hst := stood26
  have I : Held w (fun W => Below w.heap.size w W) := .from (Below.refl _ _) (Nat.le_refl _)
  have hs := hsm.sound
  have hsm' := hsm
  obtain ⟨s1, s2, s3, s4, s5, s6, s7, s8⟩ := hsm'
  have hd0 : 0 ≤ d := by rw [← hd]; exact Int.emod_nonneg _ (by omega)
  have hd1 : d < hi - lo + 1 := by rw [← hd]; exact Int.emod_lt_of_pos _ (by omega)
  have ht1 : t ≤ 500 * T := by have := Nat.mod_lt yn (show 0 < 500 * T + 1 by omega); omega
  have hwx : IntKind.i64.wrap (xn : Int) = (xn : Int) := i64_in (by omega) (by omega)
  have hwy : IntKind.i64.wrap (yn : Int) = (yn : Int) := i64_in (by omega) (by omega)
  have hwd : IntKind.i64.wrap (hi - lo) = hi - lo := i64_in (by omega) (by omega)
  have hwd1 : IntKind.i64.wrap (hi - lo + 1) = hi - lo + 1 := i64_in (by omega) (by omega)
  have hmd : (xn : Int).tmod (hi - lo + 1) = d := by rw [Int.tmod_eq_emod_of_nonneg (by omega)]; exact hd
  have hwg : IntKind.i64.wrap (lo + d) = g := by rw [hg]; exact i64_in (by omega) (by omega)
  have hwt : IntKind.i64.wrap (1000 * (T : Int)) = 1000 * (T : Int) := i64_in (by omega) (by omega)
  have hwh : IntKind.i64.wrap ((1000 * (T : Int)).tdiv 2) = 500 * (T : Int) := by
    rw [Int.tdiv_eq_ediv_of_nonneg (by omega)]
    have e : 1000 * (T : Int) / 2 = 500 * (T : Int) := by omega
    rw [e]
    exact i64_in (by omega) (by omega)
  have hwh1 : IntKind.i64.wrap (500 * (T : Int) + 1) = 500 * (T : Int) + 1 := i64_in (by omega) (by omega)
  have hmt : (yn : Int).tmod (500 * (T : Int) + 1) = (t : Int) := by
    rw [Int.tmod_eq_emod_of_nonneg (by omega), ← ht]
    push_cast
    rfl
  have hz1 : (hi - lo + 1 == 0) = false := beq_eq_false_iff_ne.2 (by omega)
  have hz2 : (500 * (T : Int) + 1 == 0) = false := beq_eq_false_iff_ne.2 (by omega)
  have hz3 : ¬ hi - lo + 1 = 0 := by omega
  have hz4 : ¬ 500 * (T : Int) + 1 = 0 := by omega
  have hcut : cutF c T lo hi g [(t : Int)] = ([plc c T g t], 0) := by rw [cutF_one, if_pos ⟨hs, ⟨by omega, by omega⟩, by omega, by omega⟩]
  have hdr : driftF c T lo hi g t = arrivalF c T lo hi (plc c T g t) := by
    unfold driftF
    rw [if_pos ⟨hs, ⟨by omega, by omega⟩, by omega, by omega⟩]
  have hback : arr c T g (plc c T g t) = t := arr_back s1 s3 (by omega) (by omega) (by omega)
  have hP0 : 0 ≤ plc c T g t := (plc_bd s1 s3 (by omega) (by omega) (by omega) (by omega) (by omega)).1
  have hg0 : lo ≤ g := by omega
  have hg1 : g ≤ hi := by omega
  generalize plc c T g t = P at hcut hdr hback hP0
  have HM := Lib.hid hmade
  have HC := Lib.hid hcut
  by_cases hov : len c lo 1000 < P
  · have hdv : driftF c T lo hi g t = (0, 0, 11) := by
      have h1 := arr_over (c := c) (g := lo) s1 hov
      rw [hdr]
      unfold arrivalF
      rw [if_pos ⟨hs, hP0⟩, if_pos (by omega)]
    have hpl := playF_over hs (Int.le_refl lo) s7 hP0 hov
    have HD := Lib.hid hdv
    have HP := Lib.hid hpl
    clear hmade hcut hback ht hd hg hsm ht1 hdr hdv hpl hs hov
    go_enter Try.func12, Try.ntmps12
    go_upto_region 2 with (go_at_call 45; (with_reducible refine (Gives.c (HM.out (World.alloc _ _))).mono ?_); rintro e w1 ⟨rfl, hb⟩; replace I := (I.alloc _).next hb; clear hb)
    have I2 := I.allocB [.int .i64 c, .int .i64 (T : Int), .int .i64 lo, .int .i64 hi] 28
    clear I
    generalize World.alloc _ _ = W0 at I2 ⊢
    have q0 := I2.now.2.four
    go_quiet (fail)
    go_upto_region 6 with (first
      | (go_at_call 19; (with_reducible refine (Gives.c (Drift_calls HD.out _)).mono ?_); rintro e w2 ⟨rfl, hb⟩; replace I2 := (I2.next (below_drewN' (Below.refl _ _) _)).next hb; clear hb q0; have q0 := I2.now.2.four; have z0 := I2.now.2.lt)
      | (go_at_call 17; (with_reducible refine (cut_calls _ _ _ _ _ _ _ _ _ _ (reads1_at _ (t : Int) _ _ (by simp))).mono ?_); intro e w3 hh; obtain ⟨A1, m1, c1, rfl, hr, hb⟩ := slc_of HC.out hh; replace I2 := (((I2.allocB _ _).alloc _).next hb).with hr; clear hr hb hh q0 z0; have q0 := I2.now.1.1.2.four))
    have hA := I2.now.2.1
    obtain rfl : m1 = 1 := hA.symm
    clear hA
    replace I2 := (Held.from (Below.refl w3.heap.size w3) (Nat.le_refl _)).with I2
    go_wp2_with fail
    go_loopw [14, 15, 16] (fun v1 v2 h wr => v1 = .int .i64 1099511627776 ∧ v2 = .int .i64 (-1) ∧ h = .int .i64 lo ∧ Aside (wr = w3)) (fun _ _ _ _ => 0)
    case atStart => exact ⟨rfl, rfl, rfl, rfl⟩
    case round =>
      obtain ⟨rfl, rfl, rfl, HE⟩ := hrel
      have he := HE.out
      subst he
      clear HE
      go_wp2_with (first
        | (go_at_call 18; (with_reducible refine (play_calls _ _ _ _ _ _ _ _ _ _ I2.now.2.2).mono ?_); intro e w4 hh; obtain ⟨A2, m2, c2, rfl, hr, hb⟩ := slc_of HP.out hh; replace I2 := (I2.next hb); clear hr hb hh q0)
        | (go_at_call 29; (with_reducible refine (Gives.c (works_calls _)).mono ?_); rintro e w' ⟨rfl, hb⟩; replace I2 := I2.next hb))
      go_ret
      exact ⟨rfl, I2.now.2.1.1.1⟩
  · have hdv : driftF c T lo hi g t = (arr c T hi P, arr c T lo P, 0) := by
      have h1 := arr_mono (c := c) (t := (T : Int)) (g := lo) (k := hi) (p := P) s1 s3 s5 s7 (by omega)
      rw [hdr]
      unfold arrivalF
      rw [if_pos ⟨hs, hP0⟩, Int.min_eq_right h1.1, Int.max_eq_left h1.1, if_neg (by omega)]
    have hln : ∀ h : Int, lo ≤ h → P ≤ len c h 1000 := fun h h0 => by
      have := len_mono (c := c) (n := 1000) (by decide) h0
      omega
    have hpl : ∀ h : Int, lo ≤ h → h ≤ hi → playF c T lo hi h [P] = ([arr c T h P], 0) := fun h h0 h1 => playF_one hs h0 h1 hP0 (hln h h0)
    have ham : ∀ a b : Int, lo ≤ a → a ≤ b → arr c T b P ≤ arr c T a P := fun a b h0 h => (arr_mono s1 s3 (by omega) h (hln a h0)).1
    have hab : ∀ h : Int, lo ≤ h → 0 ≤ arr c T h P ∧ arr c T h P ≤ 1099511627776 := fun h h0 => by have := arr_of s1 s3 (show 0 ≤ h by omega) (hln h h0); omega
    have HD := Lib.hid hdv
    have HP := Lib.hid hpl
    have HAM := Lib.hid ham
    have HAB := Lib.hid hab
    have HBK := Lib.hid hback
    clear hmade hcut hback ht hd hg hsm ht1 hdr hdv hpl hs hov hln ham hab
    go_enter Try.func12, Try.ntmps12
    go_upto_region 2 with (go_at_call 45; (with_reducible refine (Gives.c (HM.out (World.alloc _ _))).mono ?_); rintro e w1 ⟨rfl, hb⟩; replace I := (I.alloc _).next hb; clear hb)
    have I2 := I.allocB [.int .i64 c, .int .i64 (T : Int), .int .i64 lo, .int .i64 hi] 28
    clear I
    generalize World.alloc _ _ = W0 at I2 ⊢
    have q0 := I2.now.2.four
    go_quiet (fail)
    go_upto_region 6 with (first
      | (go_at_call 19; (with_reducible refine (Gives.c (Drift_calls HD.out _)).mono ?_); rintro e w2 ⟨rfl, hb⟩; replace I2 := (I2.next (below_drewN' (Below.refl _ _) _)).next hb; clear hb q0; have q0 := I2.now.2.four; have z0 := I2.now.2.lt)
      | (go_at_call 17; (with_reducible refine (cut_calls _ _ _ _ _ _ _ _ _ _ (reads1_at _ (t : Int) _ _ (by simp))).mono ?_); intro e w3 hh; obtain ⟨A1, m1, c1, rfl, hr, hb⟩ := slc_of HC.out hh; replace I2 := (((I2.allocB _ _).alloc _).next hb).with hr; clear hr hb hh q0 z0; have q0 := I2.now.1.1.2.four))
    have hA := I2.now.2.1
    obtain rfl : m1 = 1 := hA.symm
    clear hA
    replace I2 := (Held.from (Below.refl w3.heap.size w3) (Nat.le_refl _)).with I2
    go_wp2_with fail
    go_loopw [14, 15, 16] (fun v1 v2 h wr => ∃ k : Nat, lo + k ≤ hi + 1 ∧ h = .int .i64 (lo + k) ∧ v1 = .int .i64 (sinceD k 1099511627776 (arr c T (lo + k - 1) P)) ∧ v2 = .int .i64 (sinceD k (-1) (arr c T lo P)) ∧ Aside (Below w3.heap.size w3 wr))
      (fun _ _ h _ => (hi + 1 - intOf h).toNat)
    case atStart => exact ⟨0, by omega, by simp, rfl, rfl, Below.refl _ _⟩
    case round =>
      clear q0
      obtain ⟨k, hk, rfl, rfl, rfl, HB⟩ := hrel
      have J := I2.next HB.out
      have q0 := J.now.2.1.1.2.four
      by_cases hlt : lo + (k : Int) ≤ hi
      · have hw1 : IntKind.i64.wrap (lo + (k : Int) + 1) = lo + (k : Int) + 1 := i64_in (by omega) (by omega)
        have hmin : min (sinceD k 1099511627776 (arr c T (lo + k - 1) P)) (arr c T (lo + k) P) = arr c T (lo + k) P := by
          have h1 := HAB.out (lo + k) (by omega)
          unfold sinceD
          by_cases h : k = 0
          · rw [if_pos h, Int.min_eq_right h1.2]
          · rw [if_neg h, Int.min_eq_right (HAM.out (lo + k - 1) (lo + k) (by omega) (by omega))]
        have hmax : max (sinceD k (-1) (arr c T lo P)) (arr c T (lo + k) P) = arr c T lo P := by
          have h1 := HAB.out (lo + k) (by omega)
          unfold sinceD
          by_cases h : k = 0
          · rw [if_pos h]
            subst h
            simp only [Int.natCast_zero, Int.add_zero] at h1 ⊢
            rw [Int.max_eq_right (by omega)]
          · rw [if_neg h, Int.max_eq_left (HAM.out lo (lo + k) (by omega) (by omega))]
        have hP := HP.out (lo + k) (by omega) hlt
        have hG : lo + (k : Int) = g → arr c T (lo + k) P = t := fun h => by rw [h]; exact HBK.out
        have e1 : sinceD (k + 1) 1099511627776 (arr c T (lo + ((k + 1 : Nat) : Int) - 1) P) = arr c T (lo + k) P := by rw [sinceD_succ]; congr 1; omega
        have e2 : sinceD (k + 1) (-1) (arr c T lo P) = arr c T lo P := sinceD_succ
        generalize arr c T (lo + k) P = Y at hmin hmax hP hG e1
        have HP1 := Lib.hid hP
        have E1 := Lib.hid e1
        have E2 := Lib.hid e2
        have HMIN := Lib.hid hmin
        have HMAX := Lib.hid hmax
        have HG := Lib.hid hG
        clear hP e1 e2 hmin hmax hG
        go_upto_region 13 with (go_at_call 18; (with_reducible refine (play_calls _ _ _ _ _ _ _ _ _ _ J.now.2.2).mono ?_); intro e w4 hh; obtain ⟨A2, m2, c2, rfl, hr, hb⟩ := slc_of HP1.out hh; replace J := (J.next hb).with hr; clear hr hb hh q0)
        obtain ⟨rfl, b2, o2, rfl, hc2⟩ := one_cell J.now.2
        by_cases hkg : lo + (k : Int) = g
        · have hY := HG.out hkg
          have hkg1 : (lo + (k : Int) == g) = true := by rw [hkg]; simp
          have HKG := Lib.hid hkg
          have HYY := Lib.hid hY
          rw [hY] at hc2
          clear hkg hY
          go_wp2
          go_quiet (fail)
          go_wp2
          go_roundw
          case measure => simp [intOf]; omega
          case rel =>
            refine ⟨k + 1, by omega, by go_num, ?_, ?_, ?_⟩
            · have hm := HMIN.out
              rw [HYY.out] at hm
              rw [E1.out, hm, HYY.out]
            · have hm := HMAX.out
              rw [HYY.out] at hm
              rw [E2.out, hm]
            · show Aside _
              repeat (first | exact J.now.1.1 | refine below_drewN' ?_ _ | refine Below.drew ?_)
        · have hkg1 : (lo + (k : Int) == g) = false := beq_eq_false_iff_ne.2 hkg
          clear hkg
          go_wp2
          go_quiet (fail)
          go_wp2
          go_roundw
          case measure => simp [intOf]; omega
          case rel =>
            refine ⟨k + 1, by omega, by go_num, ?_, ?_, ?_⟩
            · rw [E1.out, HMIN.out]
            · rw [E2.out, HMAX.out]
            · show Aside _
              repeat (first | exact J.now.1.1 | refine below_drewN' ?_ _ | refine Below.drew ?_)
      · have hkh : lo + (k : Int) - 1 = hi := by omega
        have hk0 : k ≠ 0 := by omega
        rw [sinceD_pos hk0, sinceD_pos hk0, hkh]
        have q1 := J.now.2.1.2.two
        clear HAM HAB hkh
        go_wp2_with (go_at_call 29; (with_reducible refine (Gives.c (works_calls _)).mono ?_); rintro e w' ⟨rfl, hb⟩; replace J := J.next hb)
        go_ret
        exact ⟨rfl, J.now.2.1.1.1⟩

theorem drift_law {a b p q : Int} (ha : 0 ≤ a ∧ a ≤ 255) (hb : 0 ≤ b ∧ b ≤ 255) (hp : 0 ≤ p ∧ p ≤ 255) (hq : 0 ≤ q ∧ q ≤ 255) {n m : Nat} (hn : n ≤ 255) (hm : m ≤ 65535) (w : World) :
    Gives 12 #[reel a b p q, .int .u8 (n : Int), .int .u16 (m : Int)] (.bool true) w := by
  obtain ⟨T, hT⟩ := Int.eq_ofNat_of_zero_le (show 0 ≤ 1 + b % 20 by omega)
  have hs := made_small (a := a) (b := b) (p := p) (q := q)
  have hmd := fun W => made_calls ha hb hp hq W
  rw [hT] at hs
  simp only [hT] at hmd
  exact drift_walk hs hn hm rfl rfl rfl rfl hmd w

theorem drift_own : ownKnob Try.prog.godebug = none := by kernel_rfl

set_option maxRecDepth 100000 in
theorem drift_lifted (os : Os) (started : os.Started) (H : Type) (enc : TypeId × Value → H) :
    ReturnsInHanded {} Try.checked os 12 .any (Rows.spoolDriftSpec.pre6 enc Try.prog Try.f12 Rows.spoolDriftRow.domain false) (Rows.spoolDriftSpec.post enc Try.prog Try.f12 false true false false) := by
  refine returnsInHanded_of_change (C := Try.checked) drift_own started (by kernel_rfl) Try.func12
    (ChangeSpec.witness6 (enc := enc) (C := Try.checked) false ⟨#[], #[.agg #[.int .u8 0, .int .u8 0, .int .u8 0, .int .u8 0], .int .u8 0, .int .u16 0], []⟩ 8 (by kernel_rfl) (by kernel_rfl) (by kernel_rfl) (by kernel_rfl)) ?_
  intro W base args ds gs before hval0 hW hcnd _
  have hval : ∀ (j : Nat) t v, Try.f12.params[j]? = some t → args[j]? = some v → Value.okWide Try.prog W .any base t v := hval0
  have hW' := hW
  obtain ⟨p, q, hA, hV, rfl, hfz, hnd⟩ := hW
  rw [Try.params12] at hA hval
  obtain ⟨v1, l1, d1, ds1, p1, q1, e1, rfl, rfl, h1, hA⟩ := trodAll_cons hA
  obtain ⟨v2, l2, d2, ds2, p2, q2, rfl, rfl, rfl, h2, hA⟩ := trodAll_cons hA
  obtain ⟨v3, l3, d3, ds3, p3, q3, rfl, rfl, rfl, h3, hA⟩ := trodAll_cons hA
  obtain ⟨rfl, rfl, rfl⟩ := trodAll_nil hA
  obtain ⟨rfl, rfl⟩ := trodVars_none hV
  obtain rfl : args = #[v1, v2, v3] := by cases args; simp_all
  obtain ⟨b0, b1, b2, b3, rfl, hb0, hb1, hb2, hb3⟩ := reel_arg (hval 0 66 v1 rfl rfl) h1
  obtain ⟨n, rfl, hn⟩ := byte_arg (hval 1 5 v2 rfl rfl) h2
  obtain ⟨m, rfl, hm⟩ := word_arg (hval 2 71 v3 rfl rfl) h3
  refine (Gives.c (drift_law hb0 hb1 hb2 hb3 hn hm W)).mono fun e W' ⟨he, hb⟩ => ?_
  subst he
  exact ⟨_, rfl, post_true hW' rfl rfl rfl (by decide) hb⟩

theorem drift_over : Rows.spoolDriftRow.holds Try.pinned (OpenSpec.ofChange Rows.spoolDriftSpec) :=
  OpenClaim.holds_of_wide 12 Try.f12 rfl rfl rfl rfl rfl rfl rfl ⟨rfl, rfl, rfl, rfl, rfl⟩ rfl rfl rfl rfl rfl (by kernel_rfl) Try.func12 (by kernel_rfl)
    (of_decide_eq_true (by kernel_rfl)) (by unfold Func.isWrapper; first | (rw [if_pos (by decide +kernel)]; kernel_rfl) | (rw [if_neg (by decide +kernel)]; exact ⟨rfl, rfl⟩))
    (fun os started H enc _ => drift_lifted os started H enc)

/-- SpoolDrift returns true. -/
theorem spoolDrift_holds : Rows.SpoolDriftSaid := drift_over
#print axioms spoolDrift_holds
end Go.Proofs.Ytphbiaagmhhhbaa
