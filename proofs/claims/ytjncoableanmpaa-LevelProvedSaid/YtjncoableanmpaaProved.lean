/- LevelProved: whatever codes are accepted as a proof of a bound, no line has an error below it; the best error is the greatest number that codes prove: the call returns true at every coding, codes, bound and line by numbers. -/
import Derived.Test.YtjncoableanmpaaPJ
import Derived.Deep.DeepCutAuto
namespace Go.Proofs.Ytjncoableanmpaa
open Go.ChangeShapes Go.WideShapes Go.ChangeAt Go.RowKit Go.Lib Go.Shelf

theorem and127 {y : Int} (h : -128 ≤ y ∧ y ≤ 127) : 0 ≤ bits .and .i64 y 127 ∧ bits .and .i64 y 127 ≤ 127 := by
  have key : ∀ n : Fin 256, 0 ≤ bits .and .i64 ((n.val : Int) - 128) 127 ∧ bits .and .i64 ((n.val : Int) - 128) 127 ≤ 127 := by decide +kernel
  have := key ⟨(y + 128).toNat, by omega⟩
  rw [show (((⟨(y + 128).toNat, by omega⟩ : Fin 256).val : Nat) : Int) - 128 = y by show ((y + 128).toNat : Int) - 128 = y; omega] at this
  exact this
theorem Reads.set_other {w : World} {b off n B : Nat} {l : List Int} (h : Reads w (some ⟨b, off, none⟩) n l) (hne : ¬ B = b) (i : Nat) (v : Value) : Reads (w.setCell ⟨B, i, none⟩ v) (some ⟨b, off, none⟩) n l := by
  refine ⟨h.1, h.2.1, fun h0 => ⟨b, off, rfl, fun j hj => ?_⟩⟩
  rw [World.cell?_setCell_other _ _ _ _ (by intro e; cases e; exact hne rfl)]
  exact h.cell hj
theorem reads_cut {w : World} {b off : Nat} {x y z : Int} (h : Reads w (some ⟨b, off, none⟩) 3 [x, y, z]) : Reads w (some ⟨b, off, none⟩) 1 [x] := by
  refine ⟨rfl, by omega, fun _ => ⟨b, off, rfl, fun j hj => ?_⟩⟩
  have := h.cell (j := 0) (by omega)
  obtain rfl : j = 0 := by omega
  exact this
/-- One trio is tried: what the calls answer. -/
structure Tried (l : List Cd) (n : Nat) (t : Trio) (a d pn pd a' d' : Int) (dd : Bool) : Prop where
  less : ∀ W, Gives 29 #[.agg #[.int .i64 a, .int .i64 d], .agg #[.int .i64 pn, .int .i64 pd]] (.bool dd) W
  mx : Mx l l.length (seenB t.1 t.2.1 (t.2.2 + 1)) a' d'
  pick : (dd = true ∧ a' = pn ∧ d' = pd) ∨ (dd = false ∧ a' = a ∧ d' = d)
  bd : (-1700 ≤ pn ∧ pn ≤ 1700) ∧ (1 ≤ pd ∧ pd ≤ 16)
  tw : twice l t = (pn, pd)
theorem tried {l : List Cd} (hN : Nice l) {t : Trio} {a d : Int} (h : Mx l l.length (seenB t.1 t.2.1 t.2.2) a d) (ht : TrioOk l.length t) : ∃ pn pd a' d' dd, Tried l l.length t a d pn pd a' d' dd := by
  have hb := twice_bd hN ht
  refine ⟨(twice l t).1, (twice l t).2, _, _, decide (a * (twice l t).2 < (twice l t).1 * d), ?_, h.step hN ht seenB_step, ?_, hb, rfl⟩
  · intro W
    have := h.1
    exact lawless (by omega) (by omega) (by omega) (by omega) W
  · cases hd : decide (a * (twice l t).2 < (twice l t).1 * d)
    · exact .inr ⟨rfl, by simp, by simp⟩
    · exact .inl ⟨rfl, by simp, by simp⟩

set_option maxRecDepth 1000000 in
set_option maxHeartbeats 16000000 in
theorem proved_walk (A : Option Addr) (n0 c0 : Nat) (tl : List Tri) (x0 x1 x2 y0 y1 z0 z1 v0 v1 : Int) (w : World) (hs : ReadsS w A n0 tl) (hx0 : 0 ≤ x0 ∧ x0 ≤ 255) (hx1 : 0 ≤ x1 ∧ x1 ≤ 255) (hx2 : 0 ≤ x2 ∧ x2 ≤ 255)
    (hy0 : -128 ≤ y0 ∧ y0 ≤ 127) (hy1 : -128 ≤ y1 ∧ y1 ≤ 127) (hz0 : -128 ≤ z0 ∧ z0 ≤ 127) (hz1 : -128 ≤ z1 ∧ z1 ≤ 127) (hv0 : -128 ≤ v0 ∧ v0 ≤ 127) (hv1 : -128 ≤ v1 ∧ v1 ≤ 127) :
    Gives 6 #[.slice A n0 c0, .agg #[.int .u8 x0, .int .u8 x1, .int .u8 x2], .agg #[.int .i8 y0, .int .i8 y1], .agg #[.int .i8 z0, .int .i8 z1], .agg #[.int .i8 v0, .int .i8 v1]] (.bool true) w := by
  unfold Gives
  have hN := madeC_nice tl
  generalize hM : madeC tl = l at hN
  obtain ⟨n, hn⟩ : ∃ n, l.length = n := ⟨_, rfl⟩
  have HN := Lib.hid hN
  have hn1 : 1 ≤ n := by have := hN.pos; omega
  have hn5 : n ≤ 5 := by have := hN.few; omega
  have HLN := Lib.hid hn
  have hMK : ∀ W, ReadsS W A n0 tl → Calls Try.prog 24 #[.slice A n0 c0] W fun e w' => ∃ b o c, e = .returned (.slice (some ⟨b, o, none⟩) n c) ∧ (ReadsC w' (some ⟨b, o, none⟩) n l ∧ n ≤ c) ∧ Below W.heap.size W w' := fun W h => by
    have k := made_calls A n0 c0 tl W h
    rw [hM, hn] at k
    exact k
  have HMK := Lib.hid hMK
  have I0 := (((Held.from (w0 := w) (Below.refl w.heap.size w) (Nat.le_refl _)).with (.readsS hs)).allocB2 [Value.int .u8 x0, .int .u8 x1, .int .u8 x2] 53 [Value.int .i8 y0, .int .i8 y1] 55).allocB2 [Value.int .i8 z0, .int .i8 z1] 55 [Value.int .i8 v0, .int .i8 v1] 55
  have I : Held ((((w.alloc (.cells [Value.int .u8 x0, .int .u8 x1, .int .u8 x2].toArray 53)).alloc (.cells [Value.int .i8 y0, .int .i8 y1].toArray 55)).alloc (.cells [Value.int .i8 z0, .int .i8 z1].toArray 55)).alloc (.cells [Value.int .i8 v0, .int .i8 v1].toArray 55)) (fun W => ((((Below w.heap.size w W ∧ ReadsS W A n0 tl) ∧ Blk W w.heap.size [Value.int .u8 x0, .int .u8 x1, .int .u8 x2]) ∧ Blk W (w.heap.size + 1) [Value.int .i8 y0, .int .i8 y1]) ∧ Blk W (w.heap.size + 1 + 1) [Value.int .i8 z0, .int .i8 z1]) ∧ Blk W (w.heap.size + 1 + 1 + 1) [Value.int .i8 v0, .int .i8 v1]) := by
    simpa using I0
  have hq := nice_off HN.out
  have hsm : ∀ W, Gives 26 #[.agg #[.int .i64 (bestC l).off.num, .int .i64 ((bestC l).off.den : Int)]] (.bool true) W := fun W => small_calls _ _ (by omega) W
  have hX : ∀ b o c, n ≤ c → ∃ k1 k2 k3 k4 : Int, ∀ W : World, ReadsC W (some ⟨b, o, none⟩) n l → Gives 25 #[.slice (some ⟨b, o, none⟩) n c] (.tuple #[.agg #[.int .i64 k1, .int .i64 k2, .int .i64 k3, .int .i64 k4], .agg #[.int .i64 (bestC l).off.num, .int .i64 ((bestC l).off.den : Int)], .int .i64 0]) W := fun b o c hc => best_nice HN.out.good hc
  have HX := Lib.hid hX
  have HSM := Lib.hid hsm
  have HQ := Lib.hid hq
  clear hs hM hn hMK hN I0 hX hsm hq
  go_enter Try.func6, Try.ntmps6
  go_wp2_with fail
  generalize World.alloc _ _ = w1 at I ⊢
  go_upto_region 3 with (go_at_call 24; (with_reducible refine (HMK.out _ I.now.1.1.1.1.2).mono ?_); rintro e w2 ⟨b, off, c, rfl, ⟨hr, hc⟩, hb⟩; replace I := (I.next hb).with (.readsC hr); clear hb hr)
  obtain ⟨k1, k2, k3, k4, hX⟩ := HX.out b off c hc
  have HX2 := Lib.hid hX
  clear hX HX HMK
  go_upto_region 4 with (go_at_call 25; (with_reducible refine (Gives.c (HX2.out _ I.now.2)).mono ?_); rintro e w3 ⟨rfl, hb⟩; replace I := (I.next hb).allocB2 [.int .i64 k1, .int .i64 k2, .int .i64 k3, .int .i64 k4] 26 [.int .i64 (bestC l).off.num, .int .i64 ((bestC l).off.den : Int)] 24; clear hb)
  generalize World.alloc _ _ = w4 at I ⊢
  have q14 := I.now.2.two
  go_upto_region 6 with (go_at_call 26; (with_reducible refine (Gives.c (HSM.out _)).mono ?_); rintro e w5 ⟨rfl, hb⟩; replace I := I.next hb; clear hb q14)
  go_upto_region 7 with (go_at_call 27; (with_reducible refine (Gives.c (part_calls _ _ _)).mono ?_); rintro e w6 ⟨rfl, hb⟩; replace I := I.next hb; clear hb)
  have H16 := Blk.new w6 [.int .i64 0, .int .i64 1] 24
  have z16 := (I.now.1.1.1.1.1.1.1.1).size
  have HB0 := Lib.hid ((Below.refl w6.heap.size w6).alloc (Nat.le_refl _) (.cells [Value.int .i64 0, .int .i64 1].toArray 24))
  obtain ⟨B16, hB16⟩ : ∃ B, B = w6.heap.size := ⟨_, rfl⟩
  have HB16 := Lib.hid hB16
  have HN16 := Lib.hid H16
  clear H16 hB16 z16
  have hM0 : Mx l l.length (seenI 0) 0 1 := ⟨⟨by omega, by omega⟩, .inl rfl, fun u _ hu => absurd hu (Nat.not_lt_zero _)⟩
  have HM0 := Lib.hid hM0
  clear hM0
  replace I := I.with (Held.from (Below.refl w6.heap.size w6) (Nat.le_refl _))
  go_wp2_with fail
  go_loopw [17] (fun s17 wr => ∃ (i : Nat) (a d : Int), i ≤ n ∧ s17 = .int .i64 i ∧ Aside (Mx l l.length (seenI i) a d) ∧ Aside (Blk wr w6.heap.size [.int .i64 a, .int .i64 d]) ∧ Aside (Below w6.heap.size w6 wr)) (fun s17 _ => n - (intOf s17).toNat)
  case atStart => exact ⟨0, 0, 1, Nat.zero_le _, rfl, HM0.out, HN16.out, HB0.out⟩
  case round =>
    obtain ⟨i, a, d, hi, rfl, HMX, HBK, HBW⟩ := hrel
    clear HN16 HB0 HM0 HB16
    by_cases hge : n ≤ i
    · obtain rfl : i = n := by omega
      have hmx := HMX.out.done HN.out (fun u hu => by rw [HLN.out] at hu; unfold TrioOk at hu; unfold seenI; omega)
      have hmb := HMX.out.1
      have hq := HQ.out
      have J := (I.next HBW.out).with (.blk HBK.out)
      clear HMX HBW HBK I
      obtain ⟨E, hE⟩ : ∃ E, a * ((bestC l).off.den : Int) = E := ⟨_, rfl⟩
      have me := mul_bd (a := a) (b := ((bestC l).off.den : Int)) (A := 1700) (B := 32) (by omega) (by omega) (by omega) (by omega)
      have u1 : IntKind.i64.wrap (a * ((bestC l).off.den : Int)) = E := by rw [i64_in (by omega) (by omega)]; exact hE
      have u2 : IntKind.i64.wrap (2 * (bestC l).off.num) = 2 * (bestC l).off.num := i64_in (by omega) (by omega)
      have u3 : IntKind.i64.wrap (2 * (bestC l).off.num * d) = E := by rw [← hmx, i64_in (by omega) (by omega)]; exact hE
      have ux0 : x0.tmod (i : Int) = x0 % (i : Int) := Int.tmod_eq_emod_of_nonneg hx0.1
      have ux1 : x1.tmod (i : Int) = x1 % (i : Int) := Int.tmod_eq_emod_of_nonneg hx1.1
      have ux2 : x2.tmod (i : Int) = x2 % (i : Int) := Int.tmod_eq_emod_of_nonneg hx2.1
      have cx0 : IntKind.i64.wrap x0 = x0 := i64_in (by omega) (by omega)
      have rx0 : 0 ≤ x0 % (i : Int) ∧ x0 % (i : Int) < (i : Int) := ⟨Int.emod_nonneg _ (by omega), Int.emod_lt_of_pos _ (by omega)⟩
      have mx0 : IntKind.i64.wrap (x0 % (i : Int)) = x0 % (i : Int) := i64_in (by omega) (by omega)
      have cx1 : IntKind.i64.wrap x1 = x1 := i64_in (by omega) (by omega)
      have rx1 : 0 ≤ x1 % (i : Int) ∧ x1 % (i : Int) < (i : Int) := ⟨Int.emod_nonneg _ (by omega), Int.emod_lt_of_pos _ (by omega)⟩
      have mx1 : IntKind.i64.wrap (x1 % (i : Int)) = x1 % (i : Int) := i64_in (by omega) (by omega)
      have cx2 : IntKind.i64.wrap x2 = x2 := i64_in (by omega) (by omega)
      have rx2 : 0 ≤ x2 % (i : Int) ∧ x2 % (i : Int) < (i : Int) := ⟨Int.emod_nonneg _ (by omega), Int.emod_lt_of_pos _ (by omega)⟩
      have mx2 : IntKind.i64.wrap (x2 % (i : Int)) = x2 % (i : Int) := i64_in (by omega) (by omega)
      generalize x0 % (i : Int) = r0 at ux0 rx0 mx0
      generalize x1 % (i : Int) = r1 at ux1 rx1 mx1
      generalize x2 % (i : Int) = r2 at ux2 rx2 mx2
      have hn0n : ¬ i = 0 := by omega
      have hn0 : ¬ (i : Int) = 0 := by omega
      have hn0' : ((i : Int) == 0) = false := beq_eq_false_iff_ne.2 hn0
      have cy0 : IntKind.i64.wrap y0 = y0 := i64_in (by omega) (by omega)
      have cy1 : IntKind.i64.wrap y1 = y1 := i64_in (by omega) (by omega)
      have cz0 : IntKind.i64.wrap z0 = z0 := i64_in (by omega) (by omega)
      have cz1 : IntKind.i64.wrap z1 = z1 := i64_in (by omega) (by omega)
      have cv0 : IntKind.i64.wrap v0 = v0 := i64_in (by omega) (by omega)
      have cv1 : IntKind.i64.wrap v1 = v1 := i64_in (by omega) (by omega)
      have hy27 := and127 hy0
      generalize hay0 : bits .and .i64 y0 127 = bn at hy27
      have h7y1 := and7 hy1
      generalize hay1 : bits .and .i64 y1 7 = y17 at h7y1
      have my1 : ∃ t, IntKind.i64.wrap (1 + y17) = t ∧ 1 + y17 = t := ⟨_, i64_in (by omega) (by omega), rfl⟩
      obtain ⟨bd, my1, hbd⟩ := my1
      have bbd : 1 ≤ bd ∧ bd ≤ 8 := by omega
      clear h7y1 hbd
      have h7z1 := and7 hz1
      generalize haz1 : bits .and .i64 z1 7 = z17 at h7z1
      have mz1 : ∃ t, IntKind.i64.wrap (1 + z17) = t ∧ 1 + z17 = t := ⟨_, i64_in (by omega) (by omega), rfl⟩
      obtain ⟨gd, mz1, hgd⟩ := mz1
      have bgd : 1 ≤ gd ∧ gd ≤ 8 := by omega
      clear h7z1 hgd
      have h7v1 := and7 hv1
      generalize hav1 : bits .and .i64 v1 7 = v17 at h7v1
      have mv1 : ∃ t, IntKind.i64.wrap (1 + v17) = t ∧ 1 + v17 = t := ⟨_, i64_in (by omega) (by omega), rfl⟩
      obtain ⟨od, mv1, hod⟩ := mv1
      have bod : 1 ≤ od ∧ od ≤ 8 := by omega
      clear h7v1 hod
      have H30 := Lib.hid (fun (W : World) (h : ReadsC W (some ⟨b, off, none⟩) i l) => off_calls (c := c) (gn := z0) (gd := gd) (on := v0) (od := od) W h HN.out hz0 bgd hv0 bod)
      have hVV : ∀ cs : List Int, verV l cs bn bd = 0 → (∀ W, Gives 29 #[.agg #[.int .i64 (errN z0 gd v0 od l), .int .i64 (gd * od)], .agg #[.int .i64 bn, .int .i64 bd]] (.bool false) W) ∧ (∀ W, Gives 29 #[.agg #[.int .i64 (bestC l).off.num, .int .i64 ((bestC l).off.den : Int)], .agg #[.int .i64 bn, .int .i64 bd]] (.bool false) W) := fun cs h0 => by
        have h1 := ver_best HN.out h0
        have h2 := err_best HN.out.good (gn := z0) (gd := gd) (on := v0) (od := od) bgd.1 bod.1
        have h3 := errN_bd HN.out hz0 bgd hv0 bod
        have hp := Int.mul_pos (show 0 < gd by omega) (show 0 < od by omega)
        have hb := mul_bd (a := gd) (b := od) (A := 8) (B := 8) (by omega) (by omega) (by omega) (by omega)
        constructor
        · intro W
          have k := lawless (a := errN z0 gd v0 od l) (b := gd * od) (c := bn) (d := bd) (by omega) (by omega) (by omega) (by omega) W
          rw [decide_eq_false (Int.not_lt.2 ((fr_le (by omega) hp).1 (Rat.le_trans h1 h2)))] at k
          exact k
        · intro W
          have k := lawless (a := (bestC l).off.num) (b := ((bestC l).off.den : Int)) (c := bn) (d := bd) (by omega) (by omega) (by omega) (by omega) W
          rw [← decide_eq_decide.2 (lt_fr (n := bn) (d := bd) (by omega) (bestC l).off), decide_eq_false (Rat.not_lt.2 h1)] at k
          exact k
      have HVV := Lib.hid hVV
      generalize errN z0 gd v0 od l = EE at H30 HVV
      have mgd := mul_bd (a := gd) (b := od) (A := 8) (B := 8) (by omega) (by omega) (by omega) (by omega)
      have q16 := J.now.2.two
      have q14 := J.now.1.1.2.two
      clear hVV hmx hE me rx0 rx1 rx2 hq hmb mgd HQ HSM HX2 bgd bod
      go_upto_region 28 with fail
      clear q16 q14 u1 u2 u3
      have HJ := Lib.hid J
      have hS1 : ∀ X, Below wr.heap.size wr X → Below wr.heap.size wr X ∧ (X.cell? ⟨w.heap.size, 0, none⟩ = some (.int .u8 x0) ∧ X.cell? ⟨w.heap.size, 1, none⟩ = some (.int .u8 x1) ∧ X.cell? ⟨w.heap.size, 2, none⟩ = some (.int .u8 x2)) := fun X hX => ⟨hX, (J X hX).1.1.1.1.1.1.1.1.2.three⟩
      have HS1 := Lib.hid hS1
      clear hS1 J
      go_cut [23] (fun s23 wx => ∃ B o, s23 = .slice (some ⟨B, o, none⟩) 3 3 ∧ Aside (Reads wx (some ⟨B, o, none⟩) 3 [r0, r1, r2]) ∧ Aside (Below wr.heap.size wr wx))
      case first =>
        go_region_held3 (fun X => Below wr.heap.size wr X ∧ (X.cell? ⟨w.heap.size, 0, none⟩ = some (.int .u8 x0) ∧ X.cell? ⟨w.heap.size, 1, none⟩ = some (.int .u8 x1) ∧ X.cell? ⟨w.heap.size, 2, none⟩ = some (.int .u8 x2)))
          (first
            | with_reducible exact HS1.out _ (Below.refl _ _).drew
            | exact HS1.out _ (by go_grown)
            | fail)
          (fail)
        all_goals
          go_wp2_with fail
          go_meet
          exact ⟨_, 0, rfl, (readsK3 wr r0 r1 r2 3).later (Below.refl _ _).drew, afterA wr _⟩
      case rest =>
        obtain ⟨B, o, rfl, hr3, hbx⟩ := hcut
        have J := (HJ.out.next hbx.out).with (.reads hr3.out)
        clear HJ HS1 hbx ux0 ux1 ux2 mx0 mx1 mx2 hr3
        have q6 := J.now.1.1.1.1.1.1.1.1.1.2.three
        by_cases h128 : 128 ≤ x2
        · have HR1 := Lib.hid (fun (W : World) (h : Reads W (some ⟨B, o, none⟩) 3 [r0, r1, r2]) => reads_cut h)
          have HV := Lib.hid (fun (W : World) (h1 : ReadsC W (some ⟨b, off, none⟩) i l) (h2 : Reads W (some ⟨B, o, none⟩) 1 [r0]) => verify_calls _ i c l _ 1 3 _ bn bd W h1 h2)
          obtain ⟨V, hV⟩ : ∃ V, verV l [r0] bn bd = V := ⟨_, rfl⟩
          rw [hV] at HV
          have HVE := Lib.hid hV
          clear hV
          go_upto_region 31 with fail
          clear q6
          have q7 := J.now.1.1.1.1.1.1.1.1.2.two
          go_upto_region 32 with (go_at_call 27; (with_reducible refine (Gives.c (part_calls _ _ _)).mono ?_); rintro e wp ⟨rfl, hb⟩; replace J := (J.next hb).allocB [.int .i64 bn, .int .i64 bd] 24; clear hb q7; have q24 := J.now.2.two)
          generalize World.alloc _ _ = wq at J q24 ⊢
          by_cases hV0 : V = 0
          · have hvv := HVV.out _ (HVE.out.trans hV0)
            have HL1 := Lib.hid hvv.1
            have HL2 := Lib.hid hvv.2
            clear hvv HVV HVE
            subst hV0
            go_upto_region 34 with (go_at_call 19; (with_reducible refine (Gives.c (HV.out _ J.now.1.1.1.1.1.1.2 (HR1.out _ J.now.1.2))).mono ?_); rintro e wz ⟨rfl, hb⟩; replace J := J.next hb; clear hb q24)
            have hS2 : ∀ X, Below wz.heap.size wz X → Below wz.heap.size wz X ∧ (X.cell? ⟨w.heap.size + 1 + 1, 0, none⟩ = some (.int .i8 z0) ∧ X.cell? ⟨w.heap.size + 1 + 1, 1, none⟩ = some (.int .i8 z1)) ∧ (X.cell? ⟨w.heap.size + 1 + 1 + 1, 0, none⟩ = some (.int .i8 v0) ∧ X.cell? ⟨w.heap.size + 1 + 1 + 1, 1, none⟩ = some (.int .i8 v1)) ∧ (X.cell? ⟨w3.heap.size + 1, 0, none⟩ = some (.int .i64 (bestC l).off.num) ∧ X.cell? ⟨w3.heap.size + 1, 1, none⟩ = some (.int .i64 ((bestC l).off.den : Int))) ∧ (X.cell? ⟨wp.heap.size, 0, none⟩ = some (.int .i64 bn) ∧ X.cell? ⟨wp.heap.size, 1, none⟩ = some (.int .i64 bd)) := fun X hX => ⟨hX, (J X hX).1.1.1.1.1.1.1.1.2.two, (J X hX).1.1.1.1.1.1.1.2.two, (J X hX).1.1.1.1.2.two, (J X hX).2.two⟩
            have h30 : ∀ X, Below wz.heap.size wz X → Gives 30 #[.slice (some ⟨b, off, none⟩) i c, .agg #[.int .i64 z0, .int .i64 gd], .agg #[.int .i64 v0, .int .i64 od]] (.agg #[.int .i64 EE, .int .i64 (gd * od)]) X := fun X hX => H30.out X (J X hX).1.1.1.1.1.1.2
            have h00 : ∀ X, Below wz.heap.size wz X → Below w.heap.size w X := fun X hX => (J X hX).1.1.1.1.1.1.1.1.1.1.1.1
            have HS2 := Lib.hid hS2
            have H30b := Lib.hid h30
            have H00 := Lib.hid h00
            clear hS2 h30 h00 J H30 HV
            generalize (bestC l).off.num = xn at *
            generalize ((bestC l).off.den : Int) = xd at *
            go_region_held3 (fun X => Below wz.heap.size wz X ∧ (X.cell? ⟨w.heap.size + 1 + 1, 0, none⟩ = some (.int .i8 z0) ∧ X.cell? ⟨w.heap.size + 1 + 1, 1, none⟩ = some (.int .i8 z1)) ∧ (X.cell? ⟨w.heap.size + 1 + 1 + 1, 0, none⟩ = some (.int .i8 v0) ∧ X.cell? ⟨w.heap.size + 1 + 1 + 1, 1, none⟩ = some (.int .i8 v1)) ∧ (X.cell? ⟨w3.heap.size + 1, 0, none⟩ = some (.int .i64 xn) ∧ X.cell? ⟨w3.heap.size + 1, 1, none⟩ = some (.int .i64 xd)) ∧ (X.cell? ⟨wp.heap.size, 0, none⟩ = some (.int .i64 bn) ∧ X.cell? ⟨wp.heap.size, 1, none⟩ = some (.int .i64 bd)))
              (first
                | with_reducible exact HS2.out _ (Below.refl _ _).drew
                | with_reducible exact HS2.out _ HB.out
                | fail)
              (first
                | (go_at_call 27; (with_reducible refine (Gives.c (part_calls _ _ _)).mono ?_); rintro e' wy ⟨rfl, hb⟩; first | have HB := Lib.hid (HB.out.trans (hb.mono HB.out.size)) | have HB := Lib.hid ((Below.refl wz.heap.size wz).drew.trans hb))
                | (go_at_call 30; (with_reducible refine (Gives.c (H30b.out _ HB.out)).mono ?_); rintro e' wy ⟨rfl, hb⟩; first | have HB := Lib.hid (HB.out.trans (hb.mono HB.out.size)) | have HB := Lib.hid ((Below.refl wz.heap.size wz).drew.trans hb))
                | (go_at_call 29; (first | (with_reducible refine (Gives.c (HL1.out _)).mono ?_) | (with_reducible refine (Gives.c (HL2.out _)).mono ?_)); rintro e' wy ⟨rfl, hb⟩; first | have HB := Lib.hid (HB.out.trans (hb.mono HB.out.size)) | have HB := Lib.hid ((Below.refl wz.heap.size wz).drew.trans hb))
                | (go_at_call 11; (with_reducible refine (Gives.c (works_calls _)).mono ?_); rintro e' wy ⟨rfl, hb⟩; first | have HB := Lib.hid (HB.out.trans (hb.mono HB.out.size)) | have HB := Lib.hid ((Below.refl wz.heap.size wz).drew.trans hb))
                | fail)
            all_goals
              go_wp2_with fail
              go_ret
              exact ⟨rfl, H00.out _ HB.out⟩
          · have hV1 : (V != 0) = true := bne_iff_ne.2 hV0
            go_wp2_with (first
              | (go_at_call 19; (with_reducible refine (Gives.c (HV.out _ J.now.1.1.1.1.1.1.2 (HR1.out _ J.now.1.2))).mono ?_); rintro e wz ⟨rfl, hb⟩; replace J := J.next hb; clear hb q24)
              | (go_at_call 11; (with_reducible refine (Gives.c (works_calls _)).mono ?_); rintro e wy ⟨rfl, hb⟩; replace J := J.next hb; clear hb))
            go_ret
            exact ⟨rfl, J.now.1.1.1.1.1.1.1.1.1.1.1.1⟩
        · skip
          have HV := Lib.hid (fun (W : World) (h1 : ReadsC W (some ⟨b, off, none⟩) i l) (h2 : Reads W (some ⟨B, o, none⟩) 3 [r0, r1, r2]) => verify_calls _ i c l _ 3 3 _ bn bd W h1 h2)
          obtain ⟨V, hV⟩ : ∃ V, verV l [r0, r1, r2] bn bd = V := ⟨_, rfl⟩
          rw [hV] at HV
          have HVE := Lib.hid hV
          clear hV
          go_upto_region 31 with fail
          clear q6
          have q7 := J.now.1.1.1.1.1.1.1.1.2.two
          go_upto_region 32 with (go_at_call 27; (with_reducible refine (Gives.c (part_calls _ _ _)).mono ?_); rintro e wp ⟨rfl, hb⟩; replace J := (J.next hb).allocB [.int .i64 bn, .int .i64 bd] 24; clear hb q7; have q24 := J.now.2.two)
          generalize World.alloc _ _ = wq at J q24 ⊢
          by_cases hV0 : V = 0
          · have hvv := HVV.out _ (HVE.out.trans hV0)
            have HL1 := Lib.hid hvv.1
            have HL2 := Lib.hid hvv.2
            clear hvv HVV HVE
            subst hV0
            go_upto_region 34 with (go_at_call 19; (with_reducible refine (Gives.c (HV.out _ J.now.1.1.1.1.1.1.2 J.now.1.2)).mono ?_); rintro e wz ⟨rfl, hb⟩; replace J := J.next hb; clear hb q24)
            have hS2 : ∀ X, Below wz.heap.size wz X → Below wz.heap.size wz X ∧ (X.cell? ⟨w.heap.size + 1 + 1, 0, none⟩ = some (.int .i8 z0) ∧ X.cell? ⟨w.heap.size + 1 + 1, 1, none⟩ = some (.int .i8 z1)) ∧ (X.cell? ⟨w.heap.size + 1 + 1 + 1, 0, none⟩ = some (.int .i8 v0) ∧ X.cell? ⟨w.heap.size + 1 + 1 + 1, 1, none⟩ = some (.int .i8 v1)) ∧ (X.cell? ⟨w3.heap.size + 1, 0, none⟩ = some (.int .i64 (bestC l).off.num) ∧ X.cell? ⟨w3.heap.size + 1, 1, none⟩ = some (.int .i64 ((bestC l).off.den : Int))) ∧ (X.cell? ⟨wp.heap.size, 0, none⟩ = some (.int .i64 bn) ∧ X.cell? ⟨wp.heap.size, 1, none⟩ = some (.int .i64 bd)) := fun X hX => ⟨hX, (J X hX).1.1.1.1.1.1.1.1.2.two, (J X hX).1.1.1.1.1.1.1.2.two, (J X hX).1.1.1.1.2.two, (J X hX).2.two⟩
            have h30 : ∀ X, Below wz.heap.size wz X → Gives 30 #[.slice (some ⟨b, off, none⟩) i c, .agg #[.int .i64 z0, .int .i64 gd], .agg #[.int .i64 v0, .int .i64 od]] (.agg #[.int .i64 EE, .int .i64 (gd * od)]) X := fun X hX => H30.out X (J X hX).1.1.1.1.1.1.2
            have h00 : ∀ X, Below wz.heap.size wz X → Below w.heap.size w X := fun X hX => (J X hX).1.1.1.1.1.1.1.1.1.1.1.1
            have HS2 := Lib.hid hS2
            have H30b := Lib.hid h30
            have H00 := Lib.hid h00
            clear hS2 h30 h00 J H30 HV
            generalize (bestC l).off.num = xn at *
            generalize ((bestC l).off.den : Int) = xd at *
            go_region_held3 (fun X => Below wz.heap.size wz X ∧ (X.cell? ⟨w.heap.size + 1 + 1, 0, none⟩ = some (.int .i8 z0) ∧ X.cell? ⟨w.heap.size + 1 + 1, 1, none⟩ = some (.int .i8 z1)) ∧ (X.cell? ⟨w.heap.size + 1 + 1 + 1, 0, none⟩ = some (.int .i8 v0) ∧ X.cell? ⟨w.heap.size + 1 + 1 + 1, 1, none⟩ = some (.int .i8 v1)) ∧ (X.cell? ⟨w3.heap.size + 1, 0, none⟩ = some (.int .i64 xn) ∧ X.cell? ⟨w3.heap.size + 1, 1, none⟩ = some (.int .i64 xd)) ∧ (X.cell? ⟨wp.heap.size, 0, none⟩ = some (.int .i64 bn) ∧ X.cell? ⟨wp.heap.size, 1, none⟩ = some (.int .i64 bd)))
              (first
                | with_reducible exact HS2.out _ (Below.refl _ _).drew
                | with_reducible exact HS2.out _ HB.out
                | fail)
              (first
                | (go_at_call 27; (with_reducible refine (Gives.c (part_calls _ _ _)).mono ?_); rintro e' wy ⟨rfl, hb⟩; first | have HB := Lib.hid (HB.out.trans (hb.mono HB.out.size)) | have HB := Lib.hid ((Below.refl wz.heap.size wz).drew.trans hb))
                | (go_at_call 30; (with_reducible refine (Gives.c (H30b.out _ HB.out)).mono ?_); rintro e' wy ⟨rfl, hb⟩; first | have HB := Lib.hid (HB.out.trans (hb.mono HB.out.size)) | have HB := Lib.hid ((Below.refl wz.heap.size wz).drew.trans hb))
                | (go_at_call 29; (first | (with_reducible refine (Gives.c (HL1.out _)).mono ?_) | (with_reducible refine (Gives.c (HL2.out _)).mono ?_)); rintro e' wy ⟨rfl, hb⟩; first | have HB := Lib.hid (HB.out.trans (hb.mono HB.out.size)) | have HB := Lib.hid ((Below.refl wz.heap.size wz).drew.trans hb))
                | (go_at_call 11; (with_reducible refine (Gives.c (works_calls _)).mono ?_); rintro e' wy ⟨rfl, hb⟩; first | have HB := Lib.hid (HB.out.trans (hb.mono HB.out.size)) | have HB := Lib.hid ((Below.refl wz.heap.size wz).drew.trans hb))
                | fail)
            all_goals
              go_wp2_with fail
              go_ret
              exact ⟨rfl, H00.out _ HB.out⟩
          · have hV1 : (V != 0) = true := bne_iff_ne.2 hV0
            go_wp2_with (first
              | (go_at_call 19; (with_reducible refine (Gives.c (HV.out _ J.now.1.1.1.1.1.1.2 J.now.1.2)).mono ?_); rintro e wz ⟨rfl, hb⟩; replace J := J.next hb; clear hb q24)
              | (go_at_call 11; (with_reducible refine (Gives.c (works_calls _)).mono ?_); rintro e wy ⟨rfl, hb⟩; replace J := J.next hb; clear hb))
            go_ret
            exact ⟨rfl, J.now.1.1.1.1.1.1.1.1.1.1.1.1⟩
    · replace hge : i < n := by omega
      have hge' : (i : Int) < (n : Int) := by omega
      have hw1 : IntKind.i64.wrap ((i : Int) + 1) = (i : Int) + 1 := i64_in (by omega) (by omega)
      have HM1 := Lib.hid (HMX.out.weak (P' := seenA i i) seenA_0)
      have HK1 := Lib.hid HBK.out
      have HW1 := Lib.hid HBW.out
      clear HMX HBK HBW
      obtain ⟨wo1, hwo1⟩ : ∃ x, x = wr := ⟨_, rfl⟩
      subst hwo1
      go_wp2_with fail
      go_loopw [18] (fun s18 wr => ∃ (j : Nat) (a d : Int), (i ≤ j ∧ j ≤ n) ∧ s18 = .int .i64 j ∧ Aside (Mx l l.length (seenA i j) a d) ∧ Aside (Blk wr w6.heap.size [.int .i64 a, .int .i64 d]) ∧ Aside (Below w6.heap.size w6 wr)) (fun s18 _ => n - (intOf s18).toNat)
      case atStart => exact ⟨i, a, d, ⟨by omega, by omega⟩, rfl, HM1.out, HK1.out, HW1.out⟩
      case round =>
        obtain ⟨j, a, d, hij, rfl, HMX, HBK, HBW⟩ := hrel
        clear HM1 HK1 HW1
        by_cases hjn : n ≤ j
        · obtain rfl : j = n := by omega
          have HM1 := Lib.hid (HMX.out.weak (P' := seenI (i + 1)) (fun u hu h => by have hu' := hu; rw [HLN.out] at hu'; exact seenA_n u hu' h))
          go_wp2_with fail
          go_roundw
          case rel => exact ⟨i + 1, a, d, by omega, by go_num, HM1.out, HBK.out, HBW.out⟩
          case measure => simp [intOf]; omega
        · replace hjn : j < n := by omega
          have hjn' : (j : Int) < (n : Int) := by omega
          have hw2 : IntKind.i64.wrap ((j : Int) + 1) = (j : Int) + 1 := i64_in (by omega) (by omega)
          have HM1 := Lib.hid (HMX.out.weak (P' := seenB i j j) seenB_0)
          have HK1 := Lib.hid HBK.out
          have HW1 := Lib.hid HBW.out
          have HIJ := Lib.hid hij.1
          clear HMX HBK HBW
          obtain ⟨wo2, hwo2⟩ : ∃ x, x = wr := ⟨_, rfl⟩
          subst hwo2
          go_wp2_with fail
          go_loopw [19] (fun s19 wr => ∃ (k : Nat) (a d : Int), (j ≤ k ∧ k ≤ n) ∧ s19 = .int .i64 k ∧ Aside (Mx l l.length (seenB i j k) a d) ∧ Aside (Blk wr w6.heap.size [.int .i64 a, .int .i64 d]) ∧ Aside (Below w6.heap.size w6 wr)) (fun s19 _ => n - (intOf s19).toNat)
          case atStart => exact ⟨j, a, d, ⟨by omega, by omega⟩, rfl, HM1.out, HK1.out, HW1.out⟩
          case round =>
            obtain ⟨k, a, d, hjk, rfl, HMX, HBK, HBW⟩ := hrel
            clear HM1 HK1 HW1
            by_cases hkn : n ≤ k
            · obtain rfl : k = n := by omega
              have HM1 := Lib.hid (HMX.out.weak (P' := seenA i (j + 1)) (fun u hu h => by have hu' := hu; rw [HLN.out] at hu'; exact seenB_n u hu' h))
              go_wp2_with fail
              go_roundw
              case rel => exact ⟨j + 1, a, d, by omega, by go_num, HM1.out, HBK.out, HBW.out⟩
              case measure => simp [intOf]; omega
            · replace hkn : k < n := by omega
              have hkn' : (k : Int) < (n : Int) := by omega
              have hw3 : IntKind.i64.wrap ((k : Int) + 1) = (k : Int) + 1 := i64_in (by omega) (by omega)
              have J := (I.next HBW.out).with (.blk HBK.out)
              have HWR := Lib.hid HBW.out
              clear HBK HBW
              by_cases hik : i = k
              · obtain rfl : i = k := hik
                obtain rfl : i = j := by omega
                have eik : ((i : Int) == (i : Int)) = true := beq_self_eq_true _
                obtain ⟨pn, pd, a', d', dd, ht⟩ := tried HN.out (t := (i, i, i)) HMX.out ⟨by rw [HLN.out]; exact hkn, .inl ⟨rfl, rfl⟩⟩
                have hver := fun h0 => ver_half HN.out (t := (i, i, i)) ⟨by rw [HLN.out]; exact hkn, .inl ⟨rfl, rfl⟩⟩ h0
                have hcs : csOf (i, i, i) = [(i : Int)] := if_pos rfl
                rw [hcs, ht.tw] at hver
                dsimp only at hver
                have h28 : ∀ B W, ReadsC W (some ⟨b, off, none⟩) n l → Reads W (some ⟨B, 0, none⟩) 1 [(i : Int)] → Gives 28 #[.slice (some ⟨b, off, none⟩) n c, .slice (some ⟨B, 0, none⟩) 1 1] (.agg #[.int .i64 pn, .int .i64 pd]) W := fun B W h1 h2 => by
                  have h := proof_one (c := c) (c2 := 1) W h1 HN.out hkn rfl h2
                  rw [ht.tw] at h
                  exact h
                have hv1 : ∀ B W, 0 ≤ pn → ReadsC W (some ⟨b, off, none⟩) n l → Reads W (some ⟨B, 0, none⟩) 1 [(i : Int)] → Gives 19 #[.slice (some ⟨b, off, none⟩) n c, .slice (some ⟨B, 0, none⟩) 1 1, .agg #[.int .i64 pn, .int .i64 (2 * pd)]] (.int .i64 0) W := fun B W h0 h1 h2 => by
                  have h := verify_calls _ n c l _ 1 1 _ pn (2 * pd) W h1 h2
                  rw [(hver h0).1] at h
                  exact h
                have hv2 : ∀ B W, 0 ≤ pn → ReadsC W (some ⟨b, off, none⟩) n l → Reads W (some ⟨B, 0, none⟩) 1 [(i : Int)] → Gives 19 #[.slice (some ⟨b, off, none⟩) n c, .slice (some ⟨B, 0, none⟩) 1 1, .agg #[.int .i64 (pn * 3 + 1), .int .i64 (2 * pd * 3)]] (.int .i64 14) W := fun B W h0 h1 h2 => by
                  have h := verify_calls _ n c l _ 1 1 _ (pn * 3 + 1) (2 * pd * 3) W h1 h2
                  rw [(hver h0).2] at h
                  exact h
                have H28 := Lib.hid h28
                have HV1 := Lib.hid hv1
                have HV2 := Lib.hid hv2
                have HLS := Lib.hid ht.less
                have HMN := Lib.hid ht.mx
                have HPK := Lib.hid ht.pick
                have hbd := ht.bd
                have u1 : IntKind.i64.wrap (2 * pd) = 2 * pd := i64_in (by omega) (by omega)
                have u2 : IntKind.i64.wrap (pn * 3) = pn * 3 := i64_in (by omega) (by omega)
                have u3 : IntKind.i64.wrap (pn * 3 + 1) = pn * 3 + 1 := i64_in (by omega) (by omega)
                have u4 : IntKind.i64.wrap (2 * pd * 3) = 2 * pd * 3 := i64_in (by omega) (by omega)
                clear h28 hv1 hv2 ht hver hcs hbd HMX
                go_upto_region 20 with fail
                have HR := Lib.hid (readsK1 (wr.alloc (.cells #[.int .i64 (i : Int), .int .i64 (i : Int), .int .i64 (i : Int)] 3)) (i : Int) 3)
                replace J := ((J.alloc (.cells #[.int .i64 (i : Int), .int .i64 (i : Int), .int .i64 (i : Int)] 3)).alloc (.cells #[.int .i64 (i : Int)] 3)).with (.reads HR.out)
                have hsz : (wr.alloc (.cells #[.int .i64 (i : Int), .int .i64 (i : Int), .int .i64 (i : Int)] 3)).heap.size = wr.heap.size + 1 := by simp
                rw [hsz] at J
                have hnb : ¬ w6.heap.size = wr.heap.size + 1 := by have := HWR.out.size; omega
                obtain ⟨B, hB⟩ : ∃ B, wr.heap.size + 1 = B := ⟨_, rfl⟩
                rw [hB] at J hnb ⊢
                have HNB := Lib.hid hnb
                generalize World.alloc _ _ = wa at J ⊢
                clear HR hB HWR hnb hsz
                go_upto_region 21 with (go_at_call 28; (with_reducible refine (Gives.c (H28.out _ _ J.now.1.1.1.1.1.2 J.now.2)).mono ?_); rintro e wb ⟨rfl, hb⟩; replace J := J.next hb; have z16 := J.now.1.2.lt; replace J := J.allocB [.int .i64 pn, .int .i64 pd] 24; clear hb)
                obtain ⟨B21, hB21⟩ : ∃ B, wb.heap.size = B := ⟨_, rfl⟩
                rw [hB21] at J z16 ⊢
                change Held (wb.alloc (.cells #[.int .i64 pn, .int .i64 pd] 24)) _ at J
                generalize World.alloc _ _ = wc at J ⊢
                have HZ := Lib.hid z16
                clear hB21 z16
                have q16 := J.now.1.1.2.two
                have q21 := J.now.2.two
                go_upto_if 82 with (go_at_call 29; (with_reducible refine (Gives.c (HLS.out _)).mono ?_); rintro e wd ⟨rfl, hb⟩; replace J := J.next hb; clear hb q16 q21; have q16 := J.now.1.1.2.two; have q21 := J.now.2.two; have f16 := J.now.1.1.2.free2; have z16 := J.now.1.1.2.lt)
                have HJ := Lib.hid J
                go_cut [21] (fun s21 wx => s21 = .pointer (some ⟨B21, 0, none⟩) ∧ Aside (Below w6.heap.size w6 wx) ∧ Aside (Blk wx w6.heap.size [.int .i64 a', .int .i64 d']) ∧ Aside (Reads wx (some ⟨B, 0, none⟩) 1 [(i : Int)]) ∧ Aside (Blk wx B21 [.int .i64 pn, .int .i64 pd]))
                case first =>
                  rcases HPK.out with ⟨hd, ha, hd2⟩ | ⟨hd, ha, hd2⟩
                  · subst hd ha hd2
                    clear J
                    go_wp2_with fail
                    go_meet
                    exact ⟨rfl, below2 HJ.out.now.1.1.1.2 (Nat.le_refl _) _ _, HJ.out.now.1.1.2.put2 _ _, ((HJ.out.now.1.2).set_other HNB.out 0 _).set_other HNB.out 1 _, HJ.out.now.2.other2 (by have := HZ.out; omega) _ _⟩
                  · subst hd ha hd2
                    clear J
                    go_wp2_with fail
                    go_meet
                    exact ⟨rfl, HJ.out.now.1.1.1.2, HJ.out.now.1.1.2, HJ.out.now.1.2, HJ.out.now.2⟩
                case rest =>
                  clear J HJ q16 q21 f16 z16 HLS HPK
                  obtain ⟨rfl, hb1, hb2, hb3, hb4⟩ := hcut
                  have J := (((I.next hb1.out).with (.blk hb2.out)).with (.reads hb3.out)).with (.blk hb4.out)
                  clear hb1 hb2 hb3 hb4
                  have q21 := J.now.2.two
                  go_upto_region 24 with (go_at_call 27; (with_reducible refine (Gives.c (part_calls _ _ _)).mono ?_); rintro e we ⟨rfl, hb⟩; replace J := (J.next hb).allocB [.int .i64 pn, .int .i64 (2 * pd)] 24; clear hb q21; have q21 := J.now.1.2.two; have q22 := J.now.2.two)
                  generalize World.alloc _ _ = wf at J q21 q22 ⊢
                  by_cases hp0 : 0 ≤ pn
                  · go_wp2_with (first
                      | (go_at_call 19; (with_reducible refine (Gives.c (HV1.out _ _ hp0 J.now.1.1.1.1.1.1.1.2 J.now.1.1.2)).mono ?_); rintro e wg ⟨rfl, hb⟩; replace J := J.next hb; clear hb q21 q22; have q21 := J.now.1.2.two; have q22 := J.now.2.two)
                      | (go_at_call 27; (with_reducible refine (Gives.c (part_calls _ _ _)).mono ?_); rintro e wh ⟨rfl, hb⟩; replace J := J.next hb; clear hb q21 q22)
                      | (go_at_call 19; (with_reducible refine (Gives.c (HV2.out _ _ hp0 J.now.1.1.1.1.1.1.1.2 J.now.1.1.2)).mono ?_); rintro e wi ⟨rfl, hb⟩; replace J := J.next hb; clear hb))
                    go_roundw
                    case rel => exact ⟨i + 1, a', d', by omega, by go_num, HMN.out, J.now.1.1.1.2, J.now.1.1.1.1.2⟩
                    case measure => simp [intOf]; omega
                  · go_wp2_with fail
                    go_roundw
                    case rel => exact ⟨i + 1, a', d', by omega, by go_num, HMN.out, J.now.1.1.1.2, J.now.1.1.1.1.2⟩
                    case measure => simp [intOf]; omega
              · by_cases hsk : i = j ∨ j = k
                · have HM1 := Lib.hid (HMX.out.weak (P' := seenB i j (k + 1)) (seenB_skip (fun h => by unfold TrioOk at h; dsimp only at h; omega)))
                  have eik : ((i : Int) == (k : Int)) = false := beq_eq_false_iff_ne.2 (by omega)
                  have eik' : ¬ (i : Int) = (k : Int) := by omega
                  have HK1 := Lib.hid (J.now.2)
                  rcases hsk with hsk | hsk
                  · obtain rfl : i = j := hsk
                    have eij : ((i : Int) == (i : Int)) = true := beq_self_eq_true _
                    clear HMX hik
                    go_wp2_with fail
                    go_roundw
                    case rel => exact ⟨k + 1, a, d, by omega, by go_num, HM1.out, HK1.out.alloc _, HWR.out.alloc HWR.out.size _⟩
                    case measure => simp [intOf]; omega
                  · obtain rfl : j = k := hsk
                    have eij : ((i : Int) == (j : Int)) = false := beq_eq_false_iff_ne.2 (by omega)
                    have ejk : ((j : Int) == (j : Int)) = true := beq_self_eq_true _
                    clear HMX hik
                    go_wp2_with fail
                    go_roundw
                    case rel => exact ⟨j + 1, a, d, by omega, by go_num, HM1.out, HK1.out.alloc _, HWR.out.alloc HWR.out.size _⟩
                    case measure => simp [intOf]; omega
                · have h1 : i < j := by omega
                  have h2 : j < k := by omega
                  have eik : ((i : Int) == (k : Int)) = false := beq_eq_false_iff_ne.2 (by omega)
                  have eij : ((i : Int) == (j : Int)) = false := beq_eq_false_iff_ne.2 (by omega)
                  have ejk : ((j : Int) == (k : Int)) = false := beq_eq_false_iff_ne.2 (by omega)
                  have eik' : ¬ (i : Int) = (k : Int) := by omega
                  have eij' : ¬ (i : Int) = (j : Int) := by omega
                  have ejk' : ¬ (j : Int) = (k : Int) := by omega
                  obtain ⟨pn, pd, a', d', dd, ht⟩ := tried HN.out (t := (i, j, k)) HMX.out ⟨by rw [HLN.out]; exact hkn, .inr ⟨h1, h2⟩⟩
                  have hver := fun h0 => ver_half HN.out (t := (i, j, k)) ⟨by rw [HLN.out]; exact hkn, .inr ⟨h1, h2⟩⟩ h0
                  have hcs : csOf (i, j, k) = [(i : Int), (j : Int), (k : Int)] := if_neg (by dsimp only; omega)
                  rw [hcs, ht.tw] at hver
                  dsimp only at hver
                  have h28 : ∀ B W, ReadsC W (some ⟨b, off, none⟩) n l → Reads W (some ⟨B, 0, none⟩) 3 [(i : Int), (j : Int), (k : Int)] → Gives 28 #[.slice (some ⟨b, off, none⟩) n c, .slice (some ⟨B, 0, none⟩) 3 3] (.agg #[.int .i64 pn, .int .i64 pd]) W := fun B W hr1 hr2 => by
                    have h := proof_three (c := c) (c2 := 3) W hr1 HN.out h1 h2 hkn rfl hr2
                    rw [ht.tw] at h
                    exact h
                  clear hsk h1 h2 hik
                  have hv1 : ∀ B W, 0 ≤ pn → ReadsC W (some ⟨b, off, none⟩) n l → Reads W (some ⟨B, 0, none⟩) 3 [(i : Int), (j : Int), (k : Int)] → Gives 19 #[.slice (some ⟨b, off, none⟩) n c, .slice (some ⟨B, 0, none⟩) 3 3, .agg #[.int .i64 pn, .int .i64 (2 * pd)]] (.int .i64 0) W := fun B W h0 h1 h2 => by
                    have h := verify_calls _ n c l _ 3 3 _ pn (2 * pd) W h1 h2
                    rw [(hver h0).1] at h
                    exact h
                  have hv2 : ∀ B W, 0 ≤ pn → ReadsC W (some ⟨b, off, none⟩) n l → Reads W (some ⟨B, 0, none⟩) 3 [(i : Int), (j : Int), (k : Int)] → Gives 19 #[.slice (some ⟨b, off, none⟩) n c, .slice (some ⟨B, 0, none⟩) 3 3, .agg #[.int .i64 (pn * 3 + 1), .int .i64 (2 * pd * 3)]] (.int .i64 14) W := fun B W h0 h1 h2 => by
                    have h := verify_calls _ n c l _ 3 3 _ (pn * 3 + 1) (2 * pd * 3) W h1 h2
                    rw [(hver h0).2] at h
                    exact h
                  have H28 := Lib.hid h28
                  have HV1 := Lib.hid hv1
                  have HV2 := Lib.hid hv2
                  have HLS := Lib.hid ht.less
                  have HMN := Lib.hid ht.mx
                  have HPK := Lib.hid ht.pick
                  have hbd := ht.bd
                  have u1 : IntKind.i64.wrap (2 * pd) = 2 * pd := i64_in (by omega) (by omega)
                  have u2 : IntKind.i64.wrap (pn * 3) = pn * 3 := i64_in (by omega) (by omega)
                  have u3 : IntKind.i64.wrap (pn * 3 + 1) = pn * 3 + 1 := i64_in (by omega) (by omega)
                  have u4 : IntKind.i64.wrap (2 * pd * 3) = 2 * pd * 3 := i64_in (by omega) (by omega)
                  clear h28 hv1 hv2 ht hver hcs hbd HMX
                  go_upto_region 20 with fail
                  have HR := Lib.hid (readsK3 wr (i : Int) (j : Int) (k : Int) 3)
                  have hnb : ¬ w6.heap.size = wr.heap.size := by have := J.now.2.lt; omega
                  replace J := (J.alloc (.cells #[.int .i64 (i : Int), .int .i64 (j : Int), .int .i64 (k : Int)] 3)).with (.reads HR.out)
                  obtain ⟨B, hB⟩ : ∃ B, wr.heap.size = B := ⟨_, rfl⟩
                  rw [hB] at J hnb ⊢
                  have HNB := Lib.hid hnb
                  generalize World.alloc _ _ = wa at J ⊢
                  clear HR hB HWR hnb
                  go_upto_region 21 with (go_at_call 28; (with_reducible refine (Gives.c (H28.out _ _ J.now.1.1.1.1.1.2 J.now.2)).mono ?_); rintro e wb ⟨rfl, hb⟩; replace J := J.next hb; have z16 := J.now.1.2.lt; replace J := J.allocB [.int .i64 pn, .int .i64 pd] 24; clear hb)
                  obtain ⟨B21, hB21⟩ : ∃ B, wb.heap.size = B := ⟨_, rfl⟩
                  rw [hB21] at J z16 ⊢
                  change Held (wb.alloc (.cells #[.int .i64 pn, .int .i64 pd] 24)) _ at J
                  generalize World.alloc _ _ = wc at J ⊢
                  have HZ := Lib.hid z16
                  clear hB21 z16
                  have q16 := J.now.1.1.2.two
                  have q21 := J.now.2.two
                  go_upto_if 82 with (go_at_call 29; (with_reducible refine (Gives.c (HLS.out _)).mono ?_); rintro e wd ⟨rfl, hb⟩; replace J := J.next hb; clear hb q16 q21; have q16 := J.now.1.1.2.two; have q21 := J.now.2.two; have f16 := J.now.1.1.2.free2; have z16 := J.now.1.1.2.lt)
                  have HJ := Lib.hid J
                  go_cut [21] (fun s21 wx => s21 = .pointer (some ⟨B21, 0, none⟩) ∧ Aside (Below w6.heap.size w6 wx) ∧ Aside (Blk wx w6.heap.size [.int .i64 a', .int .i64 d']) ∧ Aside (Reads wx (some ⟨B, 0, none⟩) 3 [(i : Int), (j : Int), (k : Int)]) ∧ Aside (Blk wx B21 [.int .i64 pn, .int .i64 pd]))
                  case first =>
                    rcases HPK.out with ⟨hd, ha, hd2⟩ | ⟨hd, ha, hd2⟩
                    · subst hd ha hd2
                      clear J
                      go_wp2_with fail
                      go_meet
                      exact ⟨rfl, below2 HJ.out.now.1.1.1.2 (Nat.le_refl _) _ _, HJ.out.now.1.1.2.put2 _ _, ((HJ.out.now.1.2).set_other HNB.out 0 _).set_other HNB.out 1 _, HJ.out.now.2.other2 (by have := HZ.out; omega) _ _⟩
                    · subst hd ha hd2
                      clear J
                      go_wp2_with fail
                      go_meet
                      exact ⟨rfl, HJ.out.now.1.1.1.2, HJ.out.now.1.1.2, HJ.out.now.1.2, HJ.out.now.2⟩
                  case rest =>
                    clear J HJ q16 q21 f16 z16 HLS HPK
                    obtain ⟨rfl, hb1, hb2, hb3, hb4⟩ := hcut
                    have J := (((I.next hb1.out).with (.blk hb2.out)).with (.reads hb3.out)).with (.blk hb4.out)
                    clear hb1 hb2 hb3 hb4
                    have q21 := J.now.2.two
                    go_upto_region 24 with (go_at_call 27; (with_reducible refine (Gives.c (part_calls _ _ _)).mono ?_); rintro e we ⟨rfl, hb⟩; replace J := (J.next hb).allocB [.int .i64 pn, .int .i64 (2 * pd)] 24; clear hb q21; have q21 := J.now.1.2.two; have q22 := J.now.2.two)
                    generalize World.alloc _ _ = wf at J q21 q22 ⊢
                    by_cases hp0 : 0 ≤ pn
                    · go_wp2_with (first
                        | (go_at_call 19; (with_reducible refine (Gives.c (HV1.out _ _ hp0 J.now.1.1.1.1.1.1.1.2 J.now.1.1.2)).mono ?_); rintro e wg ⟨rfl, hb⟩; replace J := J.next hb; clear hb q21 q22; have q21 := J.now.1.2.two; have q22 := J.now.2.two)
                        | (go_at_call 27; (with_reducible refine (Gives.c (part_calls _ _ _)).mono ?_); rintro e wh ⟨rfl, hb⟩; replace J := J.next hb; clear hb q21 q22)
                        | (go_at_call 19; (with_reducible refine (Gives.c (HV2.out _ _ hp0 J.now.1.1.1.1.1.1.1.2 J.now.1.1.2)).mono ?_); rintro e wi ⟨rfl, hb⟩; replace J := J.next hb; clear hb))
                      go_roundw
                      case rel => exact ⟨k + 1, a', d', by omega, by go_num, HMN.out, J.now.1.1.1.2, J.now.1.1.1.1.2⟩
                      case measure => simp [intOf]; omega
                    · go_wp2_with fail
                      go_roundw
                      case rel => exact ⟨k + 1, a', d', by omega, by go_num, HMN.out, J.now.1.1.1.2, J.now.1.1.1.1.2⟩
                      case measure => simp [intOf]; omega

section
variable {H : Type} {enc : TypeId × Value → H}
set_option maxRecDepth 100000 in
theorem bytes3_arg {W : World} {base : Nat} {v : Value} {d : DataW H} {p : List MemPlace} (h : Value.okWide Try.prog W .any base 53 v) (hd : DataW.Trod enc Try.prog W 0 (fun _ => true) true 53 v d p) :
    ∃ a b c : Int, v = .agg #[.int .u8 a, .int .u8 b, .int .u8 c] ∧ (0 ≤ a ∧ a ≤ 255) ∧ (0 ≤ b ∧ b ≤ 255) ∧ (0 ≤ c ∧ c ≤ 255) := by
  have h' : ∃ cs, v = .agg cs ∧ cs.size = Try.prog.cellsOf 53 ∧ Row.okWide Try.prog W .any base 53 cs := by
    unfold Value.okWide at h
    simpa only [Try.underlying53] using h
  obtain ⟨cs, rfl, hl, _⟩ := h'
  obtain ⟨fuel, hf⟩ := hd
  have h1 : Try.prog.cellsOf 5 = 1 := by kernel_rfl
  have h2 : Try.prog.cellsOf 53 = 3 := by kernel_rfl
  obtain ⟨ys, k, _, _, _, hy, ha⟩ := DataW.trod_array Try.underlying53 hf
  have a0 := ha 0 (by omega)
  have a1 := ha 1 (by omega)
  have a2 := ha 2 (by omega)
  rw [List.getElem?_eq_getElem (by omega)] at a0 a1 a2
  obtain ⟨x0, c0, r0⟩ := byte_of a0
  obtain ⟨x1, c1, r1⟩ := byte_of a1
  obtain ⟨x2, c2, r2⟩ := byte_of a2
  rw [h1] at c0 c1 c2
  rw [h2] at hl
  refine ⟨x0, x1, x2, ?_, r0, r1, r2⟩
  have hc : (Value.agg cs).cells.toList = cs.toList := rfl
  rw [hc] at c0 c1 c2
  have hl2 : cs.toList.length = 3 := by simpa using hl
  obtain ⟨l⟩ := cs
  match l, hl2 with
  | [z0, z1, z2], _ =>
    simp at c0 c1 c2
    subst c0 c1 c2
    rfl
end

theorem proved_own : ownKnob Try.prog.godebug = none := by kernel_rfl

set_option maxRecDepth 100000 in
theorem proved_lifted (os : Os) (started : os.Started) (H : Type) (enc : TypeId × Value → H) :
    ReturnsInHanded {} Try.checked os 6 .any (Rows.levelProvedSpec.pre6 enc Try.prog Try.f6 Rows.levelProvedRow.domain false) (Rows.levelProvedSpec.post enc Try.prog Try.f6 false true false false) := by
  refine returnsInHanded_of_change (C := Try.checked) proved_own started (by kernel_rfl) Try.func6
    (ChangeSpec.witness6 (enc := enc) (C := Try.checked) false ⟨#[], #[.slice none 0 0, .agg #[.int .u8 0, .int .u8 0, .int .u8 0], .agg #[.int .i8 0, .int .i8 0], .agg #[.int .i8 0, .int .i8 0], .agg #[.int .i8 0, .int .i8 0]], []⟩ 8 (by kernel_rfl) (by kernel_rfl) (by kernel_rfl) (by kernel_rfl)) ?_
  intro W base args ds gs before hval0 hW hcnd _
  have hval : ∀ (j : Nat) t v, Try.f6.params[j]? = some t → args[j]? = some v → Value.okWide Try.prog W .any base t v := hval0
  have hW' := hW
  obtain ⟨p, q, hA, hV, rfl, hfz, hnd⟩ := hW
  rw [Try.params6] at hA hval
  obtain ⟨v1, l1, d1, ds1, p1, q1, e1, rfl, rfl, h1, hA⟩ := trodAll_cons hA
  obtain ⟨v2, l2, d2, ds2, p2, q2, rfl, rfl, rfl, h2, hA⟩ := trodAll_cons hA
  obtain ⟨v3, l3, d3, ds3, p3, q3, rfl, rfl, rfl, h3, hA⟩ := trodAll_cons hA
  obtain ⟨v4, l4, d4, ds4, p4, q4, rfl, rfl, rfl, h4, hA⟩ := trodAll_cons hA
  obtain ⟨v5, l5, d5, ds5, p5, q5, rfl, rfl, rfl, h5, hA⟩ := trodAll_cons hA
  obtain ⟨rfl, rfl, rfl⟩ := trodAll_nil hA
  obtain ⟨rfl, rfl⟩ := trodVars_none hV
  obtain rfl : args = #[v1, v2, v3, v4, v5] := by cases args; simp_all
  obtain ⟨A, n, c, l, rfl, hl⟩ := scale_arg (hval 0 52 v1 rfl rfl) h1
  obtain ⟨x0, x1, x2, rfl, hx0, hx1, hx2⟩ := bytes3_arg (hval 1 53 v2 rfl rfl) h2
  obtain ⟨y0, y1, rfl, hy0, hy1⟩ := smalls_arg (hval 2 55 v3 rfl rfl) h3
  obtain ⟨z0, z1, rfl, hz0, hz1⟩ := smalls_arg (hval 3 55 v4 rfl rfl) h4
  obtain ⟨t0, t1, rfl, ht0, ht1⟩ := smalls_arg (hval 4 55 v5 rfl rfl) h5
  refine (Gives.c (proved_walk A n c l x0 x1 x2 y0 y1 z0 z1 t0 t1 W hl hx0 hx1 hx2 hy0 hy1 hz0 hz1 ht0 ht1)).mono fun e W' ⟨he, hb⟩ => ?_
  subst he
  exact ⟨_, rfl, post_true hW' rfl rfl rfl (by decide) hb⟩

theorem proved_over : Rows.levelProvedRow.holds Try.pinned (OpenSpec.ofChange Rows.levelProvedSpec) :=
  OpenClaim.holds_of_wide 6 Try.f6 rfl rfl rfl rfl rfl rfl rfl ⟨rfl, rfl, rfl, rfl, rfl⟩ rfl rfl rfl rfl rfl (by kernel_rfl) Try.func6 (by kernel_rfl)
    (of_decide_eq_true (by kernel_rfl)) (by unfold Func.isWrapper; first | (rw [if_pos (by decide +kernel)]; kernel_rfl) | (rw [if_neg (by decide +kernel)]; exact ⟨rfl, rfl⟩))
    (fun os started H enc _ => proved_lifted os started H enc)

/-- LevelProved returns true. -/
theorem levelProved_holds : Rows.LevelProvedSaid := proved_over
#print axioms levelProved_holds
end Go.Proofs.Ytjncoableanmpaa
