/- SpoolClashes: there is a clash just if no growth fits all measurements; whatever is accepted is a clash: the call returns true at every reel, error, list of triples and two numbers. -/
import Derived.Test.YtphbiaagmhhhbaaMU
import Derived.Test.YtphbiaagmhhhbaaRN
import Derived.Deep.CutRange
namespace Go.Proofs.Ytphbiaagmhhhbaa
open Go.ChangeShapes Go.WideShapes Go.ChangeAt Go.RowKit Go.Lib Go.Shelf

theorem g_calls {c t lo hi off a b e : Int} {A : Option Addr} {n cap : Nat} {l : List (Int × Int)} (h : growthsF c t lo hi off l = (a, b, e)) (w : World) (hl : ReadsM w A n l) :
    Gives 39 #[.agg #[.int .i64 c, .int .i64 t, .int .i64 lo, .int .i64 hi], .int .i64 off, .slice A n cap] (.tuple #[.agg #[.int .i64 a, .int .i64 b], .int .i64 e]) w := by
  have hh := Growths_calls c t lo hi off A n cap l w hl
  rw [h] at hh
  exact hh
theorem v_calls {c t lo hi off x : Int} {A B : Option Addr} {n cap m cap2 : Nat} {l : List (Int × Int)} {cl : List Int} (h : verifyF c t lo hi off l cl = x) (w : World) (hl : ReadsM w A n l) (hc : Reads w B m cl) :
    Gives 44 #[.agg #[.int .i64 c, .int .i64 t, .int .i64 lo, .int .i64 hi], .int .i64 off, .slice A n cap, .slice B m cap2] (.int .i64 x) w := by
  have hh := Verify_calls c t lo hi off A B n cap m cap2 l cl w hl hc
  rw [h] at hh
  exact hh

theorem measL_bd {c g d : Int} (hc0 : 1 ≤ c) (hc1 : c ≤ 99) (hg0 : 0 ≤ g) (hg1 : g ≤ 40) (hd0 : 0 ≤ d) (hd1 : d ≤ 19) {l : List Tri} (hb : ∀ i, Bytes (tAt l i)) (i : Nat) :
    (0 ≤ (mAt (measL c g d l) i).1 ∧ (mAt (measL c g d l) i).1 ≤ 24) ∧ (0 ≤ (mAt (measL c g d l) i).2 ∧ (mAt (measL c g d l) i).2 ≤ 1000000) := by
  by_cases hi : i < (measL c g d l).length
  · rw [measL_at hi]
    have hx := hb i
    have hl := len_bd (c := c) (g := g) (n := (tAt l i).1 % 25) (by omega) (by omega) hg0 (by omega) (by omega) (by omega)
    have h3 := mul_bd (a := g) (b := (tAt l i).1 % 25 * ((tAt l i).1 % 25 - 1) / 2) (A := 40) (B := 276) hg0 hg1 (by have := tri_bd (n := (tAt l i).1 % 25) (by omega) (by omega); omega) (by
      have h4 := mul_bd (a := (tAt l i).1 % 25) (b := 24 - (tAt l i).1 % 25) (A := 24) (B := 24) (by omega) (by omega) (by omega) (by omega)
      have h5 : (tAt l i).1 % 25 * ((tAt l i).1 % 25 - 1) ≤ 24 * 23 := by
        have h6 : (tAt l i).1 % 25 ≤ 24 := by omega
        have h7 : 0 ≤ (tAt l i).1 % 25 := by omega
        by_cases h8 : (tAt l i).1 % 25 = 0
        · rw [h8]; decide
        · exact Int.mul_le_mul h6 (by omega) (by omega) (by omega)
      omega)
    have h2 := mul_bd (a := (tAt l i).1 % 25) (b := c) (A := 24) (B := 99) (by omega) (by omega) (by omega) hc1
    have he0 : 0 ≤ (tAt l i).2.1 % (2 * d + 1) := Int.emod_nonneg _ (by omega)
    have he1 : (tAt l i).2.1 % (2 * d + 1) < 2 * d + 1 := Int.emod_lt_of_pos _ (by omega)
    have hl2 : len c g ((tAt l i).1 % 25) ≤ 13416 := by unfold len; omega
    have hx3 := hx.2.2
    unfold meas1
    simp only
    omega
  · have e : mAt (measL c g d l) i = (0, 0) := by
      unfold mAt
      rw [List.getElem?_eq_none (by omega)]
      rfl
    rw [e]
    exact ⟨⟨by decide, by decide⟩, ⟨by decide, by decide⟩⟩

theorem size_alloc (w : World) (o : Obj) : (w.alloc o).heap.size = w.heap.size + 1 := by simp

set_option maxRecDepth 1000000 in
set_option maxHeartbeats 8000000 in
theorem clashes_walk {r : Value} {c lo hi d : Int} {T fn n cap e0 e1 : Nat} {B : Option Addr} {l : List Tri} (hsm : Small c T lo hi) (hf : fn ≤ 255) (he0 : e0 ≤ 255) (he1 : e1 ≤ 255)
    (hd : (fn : Int) % 20 = d) {p0 p1 p2 p3 : Int} (hr : r = reel p0 p1 p2 p3) (hmade : ∀ W, Gives 45 #[r] (spl c T lo hi) W)
    (w : World) (hl : ReadsT w B n l) : Gives 15 #[r, .int .u8 (fn : Int), .slice B n cap, .agg #[.int .u8 (e0 : Int), .int .u8 (e1 : Int)]] (.bool true) w := by
  unfold Gives
  subst hr
  obtain ⟨i0, hi0, hz0, hz1, hz2⟩ := info_parts info3
  have I : Held w (fun W => Below w.heap.size w W) := .from (Below.refl _ _) (Nat.le_refl _)
  have hs := hsm.sound
  have hsm' := hsm
  obtain ⟨s1, s2, s3, s4, s5, s6, s7, s8⟩ := hsm'
  have hd1 : 0 ≤ d ∧ d ≤ 19 := by omega
  have hwf : IntKind.i64.wrap (fn : Int) = (fn : Int) := i64_in (by omega) (by omega)
  have hmf : (fn : Int).tmod 20 = d := by rw [Int.tmod_eq_emod_of_nonneg (by omega)]; exact hd
  have hln := hl.1
  have hml := measL_length c lo d l
  rw [hln] at hml
  have hm := measF_measL (dd := d) (d := d) (g := lo) hs s4 s5 (by omega) hd1.1 hd1.2 hd1.1 hd1.2 hl.2.2.1 0
  rw [List.drop_zero] at hm
  have hbd := measL_bd (c := c) (g := lo) (d := d) (by omega) s4 s5 (by omega) hd1.1 hd1.2 hl.2.2.1
  obtain ⟨X, Y, hXY, hAB⟩ := clashes_spec hm
  have h6 : six n ≤ 6 ∧ six n ≤ n := by unfold six; omega
  have HM := Lib.hid hmade
  have HL := Lib.hid hl
  generalize hMM : measL c lo d l = MM at hml hm hbd hXY hAB
  have HMM := Lib.hid hMM
  have HME := Lib.hid hm
  have HBD := Lib.hid hbd
  have HXY := Lib.hid hXY
  have HAB := Lib.hid hAB
  clear hmade hl hMM hm hbd hXY hAB hd hsm hs
  go_enter Try.func15, Try.ntmps15
  go_upto_region 3 with (go_at_call 45; (with_reducible refine (Gives.c (HM.out (World.alloc _ _))).mono ?_); rintro e w1 ⟨rfl, hb⟩; replace I := ((I.alloc _).allocB [.int .u8 (e0 : Int), .int .u8 (e1 : Int)] 24).next hb; clear hb)
  have I2 := (I.allocB [.int .i64 c, .int .i64 (T : Int), .int .i64 lo, .int .i64 hi] 28).allocB [.int .i64 d] 3
  clear I
  simp only [size_alloc] at I2
  generalize World.alloc _ _ = W0 at I2 ⊢
  have q0 := I2.now.1.2.four
  have q1 := I2.now.2.one
  go_wp2_with (go_at_call 47; (with_reducible refine (lmeasured_calls (g := lo) (by omega) s4 s5 (by omega) hd1.1 hd1.2 _ (HL.out.later I2.now.1.1.1)).mono ?_); intro e w4 hh; rw [HMM.out] at hh; obtain ⟨⟨M, cm, rfl, hr, hcm, hcm2⟩, hb⟩ := hh; replace I2 := (I2.next hb).with (.readsM hr); clear hr hb q0 q1; have q0 := I2.now.1.1.2.four)
  replace I2 := (Held.from (Below.refl w4.heap.size w4) (Nat.le_refl _)).with I2
  go_loopw [13, 14] (fun v g wr => ∃ k : Nat, lo + k ≤ hi + 1 ∧ g = .int .i64 (lo + k) ∧ Aside (wr.ownsRow w4.heap.size 3 1 v (many X Y lo k) (nums (runL X (many X Y lo k)))) ∧ Aside (Below w4.heap.size w4 wr)) (fun _ g _ => (hi + 1 - intOf g).toNat)
  case atStart =>
    have h0 : many X Y lo 0 = 0 := by
      unfold many
      rcases HAB.out with ⟨h1, h2, h3, _⟩ | ⟨h1, h2, _⟩ <;> omega
    exact ⟨0, by omega, by simp, by rw [h0]; exact World.ownsRow_nil _ _ _ _, Below.refl _ _⟩
  case round =>
    clear q0
    obtain ⟨k, hk, rfl, HO, HB⟩ := hrel
    have J := I2.next HB.out
    have q0 := J.now.2.1.1.2.four
    by_cases hlt : lo + (k : Int) ≤ hi
    · have hw1 : IntKind.i64.wrap (lo + (k : Int) + 1) = lo + (k : Int) + 1 := i64_in (by omega) (by omega)
      have hin := (HXY.out (lo + k) (by omega) hlt)
      have hmlt := hml
      unfold FitsAll at hin
      rw [hml, ← fitCs_iff] at hin
      have HIN := Lib.hid hin
      clear hin hmlt
      obtain ⟨wo, hwo⟩ : ∃ x, x = wr := ⟨_, rfl⟩
      subst hwo
      go_wp2_with fail
      go_loopw [15, 51] (fun v i wr => ∃ j : Nat, j ≤ six n ∧ i = .int .i64 j ∧ v = .bool (fitCs c d (lo + k) MM j) ∧ Aside (Below wo.heap.size wo wr)) (fun _ i _ => six n - (intOf i).toNat)
      case atStart => exact ⟨0, Nat.zero_le _, rfl, rfl, Below.refl _ _⟩
      case round =>
        obtain ⟨j, hj, rfl, rfl, HB2⟩ := hrel
        have K := J.next HB2.out
        by_cases hlj : j < six n
        · have hlj' : (j : Int) < ((six n : Nat) : Int) := by omega
          have hw2 : IntKind.i64.wrap ((j : Int) + 1) = (j : Int) + 1 := i64_in (by omega) (by omega)
          obtain ⟨b, o, rfl, hc⟩ := K.now.2.2.2.2 (by omega)
          obtain ⟨hc1, hc2⟩ := hc j hlj
          change wr.cell? _ = some (.int .i64 (mAt MM j).1) at hc1
          change wr.cell? _ = some (.int .i64 (mAt MM j).2) at hc2
          have hbx := HBD.out j
          have hfs : fitCs c d (lo + k) MM (j + 1) = (fitCs c d (lo + k) MM j && fitC c d (lo + k) (mAt MM j).1 (mAt MM j).2) := rfl
          generalize (mAt MM j).1 = x at hc1 hbx hfs
          generalize (mAt MM j).2 = y at hc2 hbx hfs
          have HFS := Lib.hid hfs
          clear hfs hc
          have K2 := K.allocB [.int .i64 x, .int .i64 y] 80
          have d1 := K2.now.1.2.1.1.2.cell 0 _ rfl
          have d2 := K2.now.1.2.1.2.cell 0 _ rfl
          cases hfb : fitCs c d (lo + k) MM j with
          | true =>
            have hfs := HFS.out
            rw [hfb, Bool.true_and] at hfs
            have HF2 := Lib.hid hfs
            clear hfs
            go_wp2_with (go_at_call 48; (with_reducible refine (Gives.c (fits_closure (c := c) (d := d) (by omega) s4 (by omega) (by omega) hbx.1 hbx.2 _ d1 d2)).mono ?_); rintro e w6 ⟨rfl, hb⟩)
            go_roundw
            case measure => simp [intOf]; omega
            case rel => exact ⟨j + 1, by omega, by go_num, by rw [HF2.out], ((HB2.out.alloc HB2.out.size _).trans (hb.mono (by simp; have := HB2.out.size; omega)))⟩
          | false =>
            have hfs := HFS.out
            rw [hfb, Bool.false_and] at hfs
            have HF2 := Lib.hid hfs
            clear hfs
            go_wp2
            go_roundw
            case measure => simp [intOf]; omega
            case rel => exact ⟨j + 1, by omega, by go_num, by rw [HF2.out], HB2.out.alloc HB2.out.size _⟩
        · obtain rfl : j = six n := by omega
          have hO := own_later HO.out HB2.out
          have HBB := Lib.hid (HB.out.trans (HB2.out.mono HB.out.size))
          have hsz := HBB.out.size
          have hiff := HIN.out
          generalize fitCs c d (lo + k) MM (six n) = fb at hiff
          cases fb with
          | true =>
            obtain ⟨h1, h2⟩ := hiff.1 rfl
            obtain ⟨m1, m2⟩ := many_yes (X := X) (Y := Y) (lo := lo) (k := k) h1 h2
            have hsn := runL_snoc X (many X Y lo k)
            rw [m2] at hsn
            have hmx : many X Y lo k ≤ 1000 := by
              unfold many
              rcases HAB.out with ⟨h1, h2, h3, _⟩ | ⟨h1, h2, _⟩ <;> omega
            have M1 := Lib.hid m1
            have HSN := Lib.hid hsn
            clear hiff m1 m2 hsn
            go_wp2_with (first
              | (at_builtin; refine wpList_append_own _ rfl _ _ 32 rfl w4.heap.size 3 i0 (.int .i64 0) 1 8 Try.underlying32 hi0 hz0 hz1 hz2 rfl (by decide) _ _ _ rfl (hO.alloc _) ⟨wr.heap.size, 0, none⟩ 1 1 [.int .i64 (lo + (k : Int))] rfl rfl (cell_one_new _ _ _) (by intro u hu; simp at hu; subst hu; rfl) ?c3 ?c4 ?c5 ?_))
            case c3 => unfold maxLen; omega
            case c4 => omega
            case c5 => simp; omega
            intro v' w7 hown' hgrow _
            have HO' := Lib.hid hown'
            have HB4 := Lib.hid ((HBB.out.alloc HBB.out.size _).grown hgrow (by simp; omega) (by intro j hj; exact own_base' hO j hj))
            clear hown' hgrow hO
            go_wp2
            go_roundw
            case measure => simp [intOf]; omega
            case rel => exact ⟨k + 1, by omega, by go_num, (show Aside _ from by rw [M1.out, HSN.out]; exact HO'.out), HB4.out⟩
          | false =>
            have m1 := many_no (X := X) (Y := Y) (lo := lo) (k := k) (fun h => by have := hiff.2 h; cases this)
            have M1 := Lib.hid m1
            have HO' := Lib.hid hO
            clear hiff m1 hO
            go_wp2
            go_roundw
            case measure => simp [intOf]; omega
            case rel => exact ⟨k + 1, by omega, by go_num, (show Aside _ from by rw [M1.out]; exact HO'.out), HBB.out⟩
    · have hkh : lo + (k : Int) = hi + 1 := by omega
      have hmn : many X Y lo k ≤ 1000 := by
        unfold many
        rcases HAB.out with ⟨h1, h2, h3, _⟩ | ⟨h1, h2, _⟩ <;> omega
      obtain ⟨A5, c5, rfl, hR5⟩ := own_reads HO.out (by omega)
      replace J := J.with (.reads hR5)
      have q1 := J.now.1.2.1.2.one
      clear hR5 HO
      rcases HAB.out with ⟨x1, x2, x3, x4, x5⟩ | ⟨x1, x2, x4, x5, x6⟩
      · obtain ⟨q, hq⟩ : ∃ q : Nat, many X Y lo k = q + 1 ∧ X + (q : Int) = Y := by
          refine ⟨(Y - X).toNat, ?_, by omega⟩
          unfold many
          omega
        obtain ⟨hq1, hq2⟩ := hq
        have HG := Lib.hid x4
        have HC := Lib.hid x5
        clear x4 x5
        have hpos : (0 : Int) < ((many X Y lo k : Nat) : Int) := by omega
        have hpos' : 0 < many X Y lo k := by omega
        go_upto_region 20 with (first
          | (go_at_call 39; (with_reducible refine (Gives.c (g_calls HG.out _ J.now.1.2.2)).mono ?_); rintro e w5 ⟨rfl, hb⟩; replace J := J.next hb; clear hb q0 q1; have q0 := J.now.1.2.1.1.2.four; have q1 := J.now.1.2.1.2.one; have z0 := J.now.1.2.1.1.2.lt; have z1 := J.now.1.2.1.2.lt)
          | (go_at_call 41; (with_reducible refine (Clash_calls _ _ _ _ _ _ _ _ _ _ (J.allocB [.int .i64 X, .int .i64 Y] 26).now.1.1.2.2).mono ?_); intro e w6 hh; obtain ⟨KK, mk, ck, rfl, hrK, hb⟩ := slc_of HC.out hh; replace J := ((J.allocB _ _).next hb).with hrK; clear hrK hb hh q0 q1 z0 z1))
        have hmk := J.now.2.1
        obtain rfl : mk = 0 := hmk.symm
        clear hmk
        have qx := J.now.1.2.two
        obtain ⟨b5, o5, rfl, hc5⟩ := J.now.1.1.2.2.2 hpos'
        have d5 := hc5 0 hpos'
        rw [runL_at hpos'] at d5
        have hqm : q < many X Y lo k := by omega
        have hqm' : (q : Int) < ((many X Y lo k : Nat) : Int) := by omega
        have d6 := hc5 q hqm
        rw [runL_at hqm, hq2] at d6
        simp only [Int.natCast_zero, Int.add_zero, Nat.add_zero] at d5
        have w1q : IntKind.i64.wrap (((many X Y lo k : Nat) : Int) - 1) = (q : Int) := by
          rw [show ((many X Y lo k : Nat) : Int) - 1 = (q : Int) by omega]
          exact i64_in (by omega) (by omega)
        have w2q : IntKind.i64.wrap (Y - X) = (q : Int) := by
          rw [show Y - X = (q : Int) by omega]
          exact i64_in (by omega) (by omega)
        have w3q : IntKind.i64.wrap ((q : Int) + 1) = ((many X Y lo k : Nat) : Int) := by rw [hq1]; push_cast; exact i64_in (by omega) (by omega)
        have hqe : ((q : Int) + 1 != ((many X Y lo k : Nat) : Int)) = false := bne_eq_false_iff_eq.2 (by omega)
        clear hc5 hq1 hq2
        go_quiet (fail)
        replace J := J.next (below_drewN' (Below.refl _ _) nq)
        generalize World.drewN _ _ = W9 at J ⊢
        clear qx d5 d6 w1q w2q w3q
        go_upto_region 24 with fail
        by_cases hn0 : six n = 0
        · have hz6 : (((six n : Nat) : Int) == 0) = true := by rw [hn0]; rfl
          clear hn0
          go_wp2_with (go_at_call 29; (with_reducible refine (Gives.c (works_calls _)).mono ?_); rintro e w' ⟨rfl, hb⟩; replace J := J.next hb)
          go_ret
          exact ⟨rfl, J.now.1.1.1.2.1.1.1.1⟩
        · have hz6 : (((six n : Nat) : Int) == 0) = false := beq_eq_false_iff_ne.2 (by omega)
          have hz7 : ¬ ((six n : Nat) : Int) = 0 := by omega
          have L : Held _ (fun V => ((((Below w.heap.size w V ∧ Blk V (w.heap.size + 1) [.int .u8 (e0 : Int), .int .u8 (e1 : Int)]) ∧ Blk V w1.heap.size [.int .i64 c, .int .i64 (T : Int), .int .i64 lo, .int .i64 hi]) ∧ Blk V (w1.heap.size + 1) [.int .i64 d]) ∧ ReadsM V M (six n) MM)) := fun V hV => (J V hV).1.1.1.2
          clear J
          have qt := L.now.1.1.1.2.two
          have we0 : IntKind.i64.wrap (e0 : Int) = (e0 : Int) := i64_in (by omega) (by omega)
          have we1 : IntKind.i64.wrap (e1 : Int) = (e1 : Int) := i64_in (by omega) (by omega)
          have m0 : (e0 : Int).tmod ((six n : Nat) : Int) = ((e0 % six n : Nat) : Int) := by rw [Int.tmod_eq_emod_of_nonneg (by omega)]; push_cast; rfl
          have m1 : (e1 : Int).tmod ((six n : Nat) : Int) = ((e1 % six n : Nat) : Int) := by rw [Int.tmod_eq_emod_of_nonneg (by omega)]; push_cast; rfl
          have hi6 := Nat.mod_lt e0 (show 0 < six n by omega)
          have hx6 := Nat.mod_lt e1 (show 0 < six n by omega)
          generalize e0 % six n = i at m0 hi6
          generalize e1 % six n = x at m1 hx6
          clear hn0
          go_upto_region 26 with fail
          go_quiet (fail)
          replace L := L.next (below_drewN' (Below.refl _ _) nq)
          clear qt
          generalize World.drewN _ _ = V0 at L ⊢
          by_cases hix : i < x
          · have hix' : (i : Int) < (x : Int) := by omega
            have hO := own_new V0 (.int .i64 (i : Int))
            go_wp2_with (first
              | (at_builtin; refine wpList_append_own _ rfl _ _ 32 rfl V0.heap.size 3 i0 (.int .i64 0) 1 8 Try.underlying32 hi0 hz0 hz1 hz2 rfl (by decide) _ _ _ rfl (hO.alloc _) ⟨V0.heap.size + 1, 0, none⟩ 1 1 [.int .i64 (x : Int)] rfl rfl (cells_new _ [.int .i64 (x : Int)] _ _ (by simp)) (by intro u hu; simp at hu; subst hu; rfl) ?c3 ?c4 ?c5 ?_))
            case c3 => unfold maxLen; omega
            case c4 => omega
            case c5 => simp; omega
            intro v' V1 hown' hgrow _
            have hbV := (((Below.refl V0.heap.size V0).alloc (Nat.le_refl _) _).alloc (by simp) _).grown hgrow (by simp; omega) (by intro j hj; exact own_base' hO j hj)
            obtain ⟨A6, c6, rfl, hr6⟩ := own_reads (xs := [(i : Int), (x : Int)]) hown' (by omega)
            replace L := (L.next hbV).with (.reads hr6)
            clear hO hown' hgrow hbV hr6
            have q0 := L.now.1.1.1.2.four
            have hve := verify_ends HME.out (i := i) (x := x) (by rw [hml]; omega) (by rw [hml]; omega) (cl := [(i : Int), (x : Int)]) (.inr ⟨rfl, hix⟩)
            have HVE := Lib.hid hve
            clear hve
            go_wp2
            go_loopw [25] (fun g wr => ∃ k : Nat, lo + k ≤ hi + 1 ∧ g = .int .i64 (lo + k) ∧ Aside (∀ j : Nat, j < k → ¬ (Fits c d (lo + j) (mAt MM i) ∧ Fits c d (lo + j) (mAt MM x))) ∧ Aside (Below V1.heap.size V1 wr)) (fun g _ => (hi + 1 - intOf g).toNat)
            case atStart => exact ⟨0, by omega, by simp, fun j hj => absurd hj (Nat.not_lt_zero _), Below.refl _ _⟩
            case round =>
              clear q0
              obtain ⟨k9, hk9, rfl, HN, HB9⟩ := hrel
              have K9 := L.next HB9.out
              have q0 := K9.now.1.1.1.2.four
              have q1 := K9.now.1.1.2.one
              by_cases hlt9 : lo + (k9 : Int) ≤ hi
              · have hw9 : IntKind.i64.wrap (lo + (k9 : Int) + 1) = lo + (k9 : Int) + 1 := i64_in (by omega) (by omega)
                obtain ⟨b8, o8, rfl, hc8⟩ := K9.now.1.2.2.2 (by omega)
                obtain ⟨a1, a2⟩ := hc8 i (by omega)
                obtain ⟨a3, a4⟩ := hc8 x (by omega)
                change wr.cell? _ = some (.int .i64 (mAt MM i).1) at a1
                change wr.cell? _ = some (.int .i64 (mAt MM i).2) at a2
                change wr.cell? _ = some (.int .i64 (mAt MM x).1) at a3
                change wr.cell? _ = some (.int .i64 (mAt MM x).2) at a4
                obtain ⟨b9, o9, hpp, hc9⟩ := K9.now.2.2.2 (by omega)
                cases hpp
                have a5 : wr.cell? ⟨b9, o9 + 1, none⟩ = some (.int .i64 (x : Int)) := hc9 1 (by omega)
                have hb1 := HBD.out i
                have hb2 := HBD.out x
                have f1 := fitC_iff (c := c) (d := d) (g := lo + (k9 : Int)) (m := mAt MM i)
                have f2 := fitC_iff (c := c) (d := d) (g := lo + (k9 : Int)) (m := mAt MM x)
                have p1 := K9.now.1.1.1.2.cell 0 _ rfl
                have p2 := K9.now.1.1.2.cell 0 _ rfl
                generalize (mAt MM i).1 = y1 at a1 hb1 f1
                generalize (mAt MM i).2 = y2 at a2 hb1 f1
                generalize (mAt MM x).1 = z1 at a3 hb2 f2
                generalize (mAt MM x).2 = z2 at a4 hb2 f2
                have hi6' : (i : Int) < ((six n : Nat) : Int) := by omega
                have hx6' : (x : Int) < ((six n : Nat) : Int) := by omega
                have HF1 := Lib.hid f1
                have HF2 := Lib.hid f2
                have hcells : ∀ W, Below wr.heap.size wr W → W.cell? ⟨b8, o8 + x * 2, none⟩ = some (.int .i64 z1) ∧ W.cell? ⟨b8, o8 + x * 2 + 1, none⟩ = some (.int .i64 z2) ∧ W.cell? ⟨b9, o9 + 1, none⟩ = some (.int .i64 (x : Int)) := fun W hW => ⟨(hW.cell (p := ⟨b8, o8 + x * 2, none⟩) (World.block_lt_of_cell? wr _ a3)).trans a3, (hW.cell (p := ⟨b8, o8 + x * 2 + 1, none⟩) (World.block_lt_of_cell? wr _ a4)).trans a4, (hW.cell (p := ⟨b9, o9 + 1, none⟩) (World.block_lt_of_cell? wr _ a5)).trans a5⟩
                have HCE := Lib.hid hcells
                clear hcells hc8 hc9 f1 f2 a3 a4 a5
                have next1 : ¬ (Fits c d (lo + k9) (mAt MM i) ∧ Fits c d (lo + k9) (mAt MM x)) → ∀ j : Nat, j < k9 + 1 → ¬ (Fits c d (lo + j) (mAt MM i) ∧ Fits c d (lo + j) (mAt MM x)) := fun h j hj => by
                  by_cases e : j = k9
                  · rw [e]; exact h
                  · exact HN.out j (by omega)
                have HNX := Lib.hid next1
                clear next1
                cases h1 : fitC c d (lo + k9) y1 y2 with
                | false =>
                  have hno := HNX.out (fun h => by have := HF1.out.2 h.1; rw [h1] at this; cases this)
                  have HNO := Lib.hid hno
                  clear hno
                  go_wp2_with (go_at_call 48; (with_reducible refine (Gives.c (fits_closure (c := c) (d := d) (by omega) s4 (by omega) (by omega) hb1.1 hb1.2 _ p1 p2)).mono ?_); rintro e w8 ⟨rfl, hb⟩; rw [h1])
                  go_roundw
                  case measure => simp [intOf]; omega
                  case rel => exact ⟨k9 + 1, by omega, by go_num, HNO.out, HB9.out.trans (hb.mono HB9.out.size)⟩
                | true =>
                  cases h2 : fitC c d (lo + k9) z1 z2 with
                  | false =>
                    have hno := HNX.out (fun h => by have := HF2.out.2 h.2; rw [h2] at this; cases this)
                    have HNO := Lib.hid hno
                    clear hno
                    go_wp2_with (first
                      | (go_at_call 48; (with_reducible refine (Gives.c (fits_closure (c := c) (d := d) (by omega) s4 (by omega) (by omega) hb1.1 hb1.2 wr p1 p2)).mono ?_); rintro e w8 ⟨rfl, hb⟩; rw [h1]; obtain ⟨a3, a4, a5⟩ := HCE.out _ hb; have K8 := K9.next hb; have p3 := K8.now.1.1.1.2.cell 0 _ rfl; have p4 := K8.now.1.1.2.cell 0 _ rfl)
                      | (go_at_call 48; (with_reducible refine (Gives.c (fits_closure (c := c) (d := d) (by omega) s4 (by omega) (by omega) hb2.1 hb2.2 w8 p3 p4)).mono ?_); rintro e w9 ⟨rfl, hb3⟩; rw [h2]))
                    go_roundw
                    case measure => simp [intOf]; omega
                    case rel => exact ⟨k9 + 1, by omega, by go_num, HNO.out, HB9.out.trans ((hb.trans (hb3.mono hb.size)).mono HB9.out.size)⟩
                  | true =>
                    have hve := HVE.out.1 ⟨lo + k9, by omega, hlt9, HF1.out.1 h1, HF2.out.1 h2⟩
                    have HV14 := Lib.hid hve
                    clear hve
                    go_wp2_with (first
                      | (go_at_call 48; (with_reducible refine (Gives.c (fits_closure (c := c) (d := d) (by omega) s4 (by omega) (by omega) hb1.1 hb1.2 wr p1 p2)).mono ?_); rintro e w8 ⟨rfl, hb⟩; rw [h1]; obtain ⟨a3, a4, a5⟩ := HCE.out _ hb; have K8 := K9.next hb; have p3 := K8.now.1.1.1.2.cell 0 _ rfl; have p4 := K8.now.1.1.2.cell 0 _ rfl)
                      | (go_at_call 48; (with_reducible refine (Gives.c (fits_closure (c := c) (d := d) (by omega) s4 (by omega) (by omega) hb2.1 hb2.2 w8 p3 p4)).mono ?_); rintro e w9 ⟨rfl, hb3⟩; rw [h2]; have K7 := K8.next hb3; clear q0 q1; have q0 := K7.now.1.1.1.2.four; have q1 := K7.now.1.1.2.one)
                      | (go_at_call 44; (with_reducible refine (Gives.c (v_calls HV14.out _ K7.now.1.2 K7.now.2)).mono ?_); rintro e w10 ⟨rfl, hb⟩; replace K7 := K7.next hb; clear hb q0 q1)
                      | (go_at_call 29; (with_reducible refine (Gives.c (works_calls _)).mono ?_); rintro e w' ⟨rfl, hb⟩; replace K7 := K7.next hb))
                    go_ret
                    exact ⟨rfl, K7.now.1.1.1.1.1⟩
              · have hve := HVE.out.2 (fun ⟨h, h0, h1, h2⟩ => HN.out (h - lo).toNat (by omega) (by rw [show lo + (((h - lo).toNat : Nat) : Int) = h by omega]; exact h2))
                have HV0 := Lib.hid hve
                clear hve
                go_wp2_with (first
                  | (go_at_call 44; (with_reducible refine (Gives.c (v_calls HV0.out _ K9.now.1.2 K9.now.2)).mono ?_); rintro e w10 ⟨rfl, hb⟩; replace K9 := K9.next hb; clear hb q0 q1)
                  | (go_at_call 29; (with_reducible refine (Gives.c (works_calls _)).mono ?_); rintro e w' ⟨rfl, hb⟩; replace K9 := K9.next hb))
                go_ret
                exact ⟨rfl, K9.now.1.1.1.1.1⟩
          · have hix' : ¬ (i : Int) < (x : Int) := by omega
            replace L := (L.alloc (.cells #[.int .i64 (i : Int)] 3)).with (.reads (reads1 V0 (i : Int) 3))
            go_upto_region 30 with fail
            generalize World.alloc _ _ = V1 at L ⊢
            generalize (some (⟨V0.heap.size, 0, none⟩ : Addr)) = A6 at L ⊢
            have q0 := L.now.1.1.1.2.four
            have hve := verify_ends HME.out (i := i) (x := i) (by rw [hml]; omega) (by rw [hml]; omega) (cl := [(i : Int)]) (.inl ⟨rfl, rfl⟩)
            have HVE := Lib.hid hve
            clear hve
            go_wp2
            go_loopw [25] (fun g wr => ∃ k : Nat, lo + k ≤ hi + 1 ∧ g = .int .i64 (lo + k) ∧ Aside (∀ j : Nat, j < k → ¬ (Fits c d (lo + j) (mAt MM i) ∧ Fits c d (lo + j) (mAt MM i))) ∧ Aside (Below V1.heap.size V1 wr)) (fun g _ => (hi + 1 - intOf g).toNat)
            case atStart => exact ⟨0, by omega, by simp, fun j hj => absurd hj (Nat.not_lt_zero _), Below.refl _ _⟩
            case round =>
              clear q0
              obtain ⟨k9, hk9, rfl, HN, HB9⟩ := hrel
              have K9 := L.next HB9.out
              have q0 := K9.now.1.1.1.2.four
              have q1 := K9.now.1.1.2.one
              by_cases hlt9 : lo + (k9 : Int) ≤ hi
              · have hw9 : IntKind.i64.wrap (lo + (k9 : Int) + 1) = lo + (k9 : Int) + 1 := i64_in (by omega) (by omega)
                obtain ⟨b8, o8, rfl, hc8⟩ := K9.now.1.2.2.2 (by omega)
                obtain ⟨a1, a2⟩ := hc8 i (by omega)
                obtain ⟨a3, a4⟩ := hc8 i (by omega)
                change wr.cell? _ = some (.int .i64 (mAt MM i).1) at a1
                change wr.cell? _ = some (.int .i64 (mAt MM i).2) at a2
                change wr.cell? _ = some (.int .i64 (mAt MM i).1) at a3
                change wr.cell? _ = some (.int .i64 (mAt MM i).2) at a4
                obtain ⟨b9, o9, hpp, hc9⟩ := K9.now.2.2.2 (by omega)
                cases hpp
                have a5 : wr.cell? ⟨b9, o9, none⟩ = some (.int .i64 (i : Int)) := hc9 0 (by omega)
                have hb1 := HBD.out i
                have hb2 := HBD.out i
                have f1 := fitC_iff (c := c) (d := d) (g := lo + (k9 : Int)) (m := mAt MM i)
                have f2 := fitC_iff (c := c) (d := d) (g := lo + (k9 : Int)) (m := mAt MM i)
                have p1 := K9.now.1.1.1.2.cell 0 _ rfl
                have p2 := K9.now.1.1.2.cell 0 _ rfl
                generalize (mAt MM i).1 = y1 at a1 hb1 f1
                generalize (mAt MM i).2 = y2 at a2 hb1 f1
                generalize (mAt MM i).1 = z1 at a3 hb2 f2
                generalize (mAt MM i).2 = z2 at a4 hb2 f2
                have hi6' : (i : Int) < ((six n : Nat) : Int) := by omega
                have hx6' : (i : Int) < ((six n : Nat) : Int) := by omega
                have HF1 := Lib.hid f1
                have HF2 := Lib.hid f2
                have hcells : ∀ W, Below wr.heap.size wr W → W.cell? ⟨b8, o8 + i * 2, none⟩ = some (.int .i64 z1) ∧ W.cell? ⟨b8, o8 + i * 2 + 1, none⟩ = some (.int .i64 z2) ∧ W.cell? ⟨b9, o9, none⟩ = some (.int .i64 (i : Int)) := fun W hW => ⟨(hW.cell (p := ⟨b8, o8 + i * 2, none⟩) (World.block_lt_of_cell? wr _ a3)).trans a3, (hW.cell (p := ⟨b8, o8 + i * 2 + 1, none⟩) (World.block_lt_of_cell? wr _ a4)).trans a4, (hW.cell (p := ⟨b9, o9, none⟩) (World.block_lt_of_cell? wr _ a5)).trans a5⟩
                have HCE := Lib.hid hcells
                clear hcells hc8 hc9 f1 f2 a3 a4 a5
                have next1 : ¬ (Fits c d (lo + k9) (mAt MM i) ∧ Fits c d (lo + k9) (mAt MM i)) → ∀ j : Nat, j < k9 + 1 → ¬ (Fits c d (lo + j) (mAt MM i) ∧ Fits c d (lo + j) (mAt MM i)) := fun h j hj => by
                  by_cases e : j = k9
                  · rw [e]; exact h
                  · exact HN.out j (by omega)
                have HNX := Lib.hid next1
                clear next1
                cases h1 : fitC c d (lo + k9) y1 y2 with
                | false =>
                  have hno := HNX.out (fun h => by have := HF1.out.2 h.1; rw [h1] at this; cases this)
                  have HNO := Lib.hid hno
                  clear hno
                  go_wp2_with (go_at_call 48; (with_reducible refine (Gives.c (fits_closure (c := c) (d := d) (by omega) s4 (by omega) (by omega) hb1.1 hb1.2 _ p1 p2)).mono ?_); rintro e w8 ⟨rfl, hb⟩; rw [h1])
                  go_roundw
                  case measure => simp [intOf]; omega
                  case rel => exact ⟨k9 + 1, by omega, by go_num, HNO.out, HB9.out.trans (hb.mono HB9.out.size)⟩
                | true =>
                  cases h2 : fitC c d (lo + k9) z1 z2 with
                  | false =>
                    have hno := HNX.out (fun h => by have := HF2.out.2 h.2; rw [h2] at this; cases this)
                    have HNO := Lib.hid hno
                    clear hno
                    go_wp2_with (first
                      | (go_at_call 48; (with_reducible refine (Gives.c (fits_closure (c := c) (d := d) (by omega) s4 (by omega) (by omega) hb1.1 hb1.2 wr p1 p2)).mono ?_); rintro e w8 ⟨rfl, hb⟩; rw [h1]; obtain ⟨a3, a4, a5⟩ := HCE.out _ hb; have K8 := K9.next hb; have p3 := K8.now.1.1.1.2.cell 0 _ rfl; have p4 := K8.now.1.1.2.cell 0 _ rfl)
                      | (go_at_call 48; (with_reducible refine (Gives.c (fits_closure (c := c) (d := d) (by omega) s4 (by omega) (by omega) hb2.1 hb2.2 w8 p3 p4)).mono ?_); rintro e w9 ⟨rfl, hb3⟩; rw [h2]))
                    go_roundw
                    case measure => simp [intOf]; omega
                    case rel => exact ⟨k9 + 1, by omega, by go_num, HNO.out, HB9.out.trans ((hb.trans (hb3.mono hb.size)).mono HB9.out.size)⟩
                  | true =>
                    have hve := HVE.out.1 ⟨lo + k9, by omega, hlt9, HF1.out.1 h1, HF2.out.1 h2⟩
                    have HV14 := Lib.hid hve
                    clear hve
                    go_wp2_with (first
                      | (go_at_call 48; (with_reducible refine (Gives.c (fits_closure (c := c) (d := d) (by omega) s4 (by omega) (by omega) hb1.1 hb1.2 wr p1 p2)).mono ?_); rintro e w8 ⟨rfl, hb⟩; rw [h1]; obtain ⟨a3, a4, a5⟩ := HCE.out _ hb; have K8 := K9.next hb; have p3 := K8.now.1.1.1.2.cell 0 _ rfl; have p4 := K8.now.1.1.2.cell 0 _ rfl)
                      | (go_at_call 48; (with_reducible refine (Gives.c (fits_closure (c := c) (d := d) (by omega) s4 (by omega) (by omega) hb2.1 hb2.2 w8 p3 p4)).mono ?_); rintro e w9 ⟨rfl, hb3⟩; rw [h2]; have K7 := K8.next hb3; clear q0 q1; have q0 := K7.now.1.1.1.2.four; have q1 := K7.now.1.1.2.one)
                      | (go_at_call 44; (with_reducible refine (Gives.c (v_calls HV14.out _ K7.now.1.2 K7.now.2)).mono ?_); rintro e w10 ⟨rfl, hb⟩; replace K7 := K7.next hb; clear hb q0 q1)
                      | (go_at_call 29; (with_reducible refine (Gives.c (works_calls _)).mono ?_); rintro e w' ⟨rfl, hb⟩; replace K7 := K7.next hb))
                    go_ret
                    exact ⟨rfl, K7.now.1.1.1.1.1⟩
              · have hve := HVE.out.2 (fun ⟨h, h0, h1, h2⟩ => HN.out (h - lo).toNat (by omega) (by rw [show lo + (((h - lo).toNat : Nat) : Int) = h by omega]; exact h2))
                have HV0 := Lib.hid hve
                clear hve
                go_wp2_with (first
                  | (go_at_call 44; (with_reducible refine (Gives.c (v_calls HV0.out _ K9.now.1.2 K9.now.2)).mono ?_); rintro e w10 ⟨rfl, hb⟩; replace K9 := K9.next hb; clear hb q0 q1)
                  | (go_at_call 29; (with_reducible refine (Gives.c (works_calls _)).mono ?_); rintro e w' ⟨rfl, hb⟩; replace K9 := K9.next hb))
                go_ret
                exact ⟨rfl, K9.now.1.1.1.1.1⟩
      · subst x1 x2
        have hzz : ¬ 0 < many (hi + 1) (lo - 1) lo k := by unfold many; omega
        generalize hKL : (clashF c T lo hi d MM).1 = KL at x6
        have hcl : clashF c T lo hi d MM = (KL, 0) := by rw [← hKL, ← x5]
        have HG := Lib.hid x4
        have HC := Lib.hid hcl
        have HV := Lib.hid x6
        clear x4 x5 x6 hKL hcl
        go_upto_region 24 with (first
          | (go_at_call 39; (with_reducible refine (Gives.c (g_calls HG.out _ J.now.1.2.2)).mono ?_); rintro e w5 ⟨rfl, hb⟩; replace J := J.next hb; clear hb q0 q1; have q0 := J.now.1.2.1.1.2.four; have q1 := J.now.1.2.1.2.one; have z0 := J.now.1.2.1.1.2.lt; have z1 := J.now.1.2.1.2.lt)
          | (go_at_call 41; (with_reducible refine (Clash_calls _ _ _ _ _ _ _ _ _ _ (J.allocB [.int .i64 0, .int .i64 0] 26).now.1.1.2.2).mono ?_); intro e w6 hh; obtain ⟨KK, mk, ck, rfl, hrK, hb⟩ := slc_of HC.out hh; replace J := ((J.allocB _ _).next hb).with hrK; clear hrK hb hh q0 q1 z0 z1; have q0 := J.now.1.1.1.2.1.1.2.four; have q1 := J.now.1.1.1.2.1.2.one)
          | (go_at_call 44; (with_reducible refine (Gives.c (v_calls HV.out _ J.now.1.1.1.2.2 J.now.2)).mono ?_); rintro e w7 ⟨rfl, hb⟩; replace J := J.next hb; clear hb q0 q1))
        by_cases hn0 : six n = 0
        · have hz6 : (((six n : Nat) : Int) == 0) = true := by rw [hn0]; rfl
          clear hn0
          go_wp2_with (go_at_call 29; (with_reducible refine (Gives.c (works_calls _)).mono ?_); rintro e w' ⟨rfl, hb⟩; replace J := J.next hb)
          go_ret
          exact ⟨rfl, J.now.1.1.1.2.1.1.1.1⟩
        · have hz6 : (((six n : Nat) : Int) == 0) = false := beq_eq_false_iff_ne.2 (by omega)
          have hz7 : ¬ ((six n : Nat) : Int) = 0 := by omega
          have L : Held _ (fun V => ((((Below w.heap.size w V ∧ Blk V (w.heap.size + 1) [.int .u8 (e0 : Int), .int .u8 (e1 : Int)]) ∧ Blk V w1.heap.size [.int .i64 c, .int .i64 (T : Int), .int .i64 lo, .int .i64 hi]) ∧ Blk V (w1.heap.size + 1) [.int .i64 d]) ∧ ReadsM V M (six n) MM)) := fun V hV => (J V hV).1.1.1.2
          clear J
          have qt := L.now.1.1.1.2.two
          have we0 : IntKind.i64.wrap (e0 : Int) = (e0 : Int) := i64_in (by omega) (by omega)
          have we1 : IntKind.i64.wrap (e1 : Int) = (e1 : Int) := i64_in (by omega) (by omega)
          have m0 : (e0 : Int).tmod ((six n : Nat) : Int) = ((e0 % six n : Nat) : Int) := by rw [Int.tmod_eq_emod_of_nonneg (by omega)]; push_cast; rfl
          have m1 : (e1 : Int).tmod ((six n : Nat) : Int) = ((e1 % six n : Nat) : Int) := by rw [Int.tmod_eq_emod_of_nonneg (by omega)]; push_cast; rfl
          have hi6 := Nat.mod_lt e0 (show 0 < six n by omega)
          have hx6 := Nat.mod_lt e1 (show 0 < six n by omega)
          generalize e0 % six n = i at m0 hi6
          generalize e1 % six n = x at m1 hx6
          clear hn0
          go_upto_region 26 with fail
          go_quiet (fail)
          replace L := L.next (below_drewN' (Below.refl _ _) nq)
          clear qt
          generalize World.drewN _ _ = V0 at L ⊢
          by_cases hix : i < x
          · have hix' : (i : Int) < (x : Int) := by omega
            have hO := own_new V0 (.int .i64 (i : Int))
            go_wp2_with (first
              | (at_builtin; refine wpList_append_own _ rfl _ _ 32 rfl V0.heap.size 3 i0 (.int .i64 0) 1 8 Try.underlying32 hi0 hz0 hz1 hz2 rfl (by decide) _ _ _ rfl (hO.alloc _) ⟨V0.heap.size + 1, 0, none⟩ 1 1 [.int .i64 (x : Int)] rfl rfl (cells_new _ [.int .i64 (x : Int)] _ _ (by simp)) (by intro u hu; simp at hu; subst hu; rfl) ?c3 ?c4 ?c5 ?_))
            case c3 => unfold maxLen; omega
            case c4 => omega
            case c5 => simp; omega
            intro v' V1 hown' hgrow _
            have hbV := (((Below.refl V0.heap.size V0).alloc (Nat.le_refl _) _).alloc (by simp) _).grown hgrow (by simp; omega) (by intro j hj; exact own_base' hO j hj)
            obtain ⟨A6, c6, rfl, hr6⟩ := own_reads (xs := [(i : Int), (x : Int)]) hown' (by omega)
            replace L := (L.next hbV).with (.reads hr6)
            clear hO hown' hgrow hbV hr6
            have q0 := L.now.1.1.1.2.four
            have hve := verify_ends HME.out (i := i) (x := x) (by rw [hml]; omega) (by rw [hml]; omega) (cl := [(i : Int), (x : Int)]) (.inr ⟨rfl, hix⟩)
            have HVE := Lib.hid hve
            clear hve
            go_wp2
            go_loopw [25] (fun g wr => ∃ k : Nat, lo + k ≤ hi + 1 ∧ g = .int .i64 (lo + k) ∧ Aside (∀ j : Nat, j < k → ¬ (Fits c d (lo + j) (mAt MM i) ∧ Fits c d (lo + j) (mAt MM x))) ∧ Aside (Below V1.heap.size V1 wr)) (fun g _ => (hi + 1 - intOf g).toNat)
            case atStart => exact ⟨0, by omega, by simp, fun j hj => absurd hj (Nat.not_lt_zero _), Below.refl _ _⟩
            case round =>
              clear q0
              obtain ⟨k9, hk9, rfl, HN, HB9⟩ := hrel
              have K9 := L.next HB9.out
              have q0 := K9.now.1.1.1.2.four
              have q1 := K9.now.1.1.2.one
              by_cases hlt9 : lo + (k9 : Int) ≤ hi
              · have hw9 : IntKind.i64.wrap (lo + (k9 : Int) + 1) = lo + (k9 : Int) + 1 := i64_in (by omega) (by omega)
                obtain ⟨b8, o8, rfl, hc8⟩ := K9.now.1.2.2.2 (by omega)
                obtain ⟨a1, a2⟩ := hc8 i (by omega)
                obtain ⟨a3, a4⟩ := hc8 x (by omega)
                change wr.cell? _ = some (.int .i64 (mAt MM i).1) at a1
                change wr.cell? _ = some (.int .i64 (mAt MM i).2) at a2
                change wr.cell? _ = some (.int .i64 (mAt MM x).1) at a3
                change wr.cell? _ = some (.int .i64 (mAt MM x).2) at a4
                obtain ⟨b9, o9, hpp, hc9⟩ := K9.now.2.2.2 (by omega)
                cases hpp
                have a5 : wr.cell? ⟨b9, o9 + 1, none⟩ = some (.int .i64 (x : Int)) := hc9 1 (by omega)
                have hb1 := HBD.out i
                have hb2 := HBD.out x
                have f1 := fitC_iff (c := c) (d := d) (g := lo + (k9 : Int)) (m := mAt MM i)
                have f2 := fitC_iff (c := c) (d := d) (g := lo + (k9 : Int)) (m := mAt MM x)
                have p1 := K9.now.1.1.1.2.cell 0 _ rfl
                have p2 := K9.now.1.1.2.cell 0 _ rfl
                generalize (mAt MM i).1 = y1 at a1 hb1 f1
                generalize (mAt MM i).2 = y2 at a2 hb1 f1
                generalize (mAt MM x).1 = z1 at a3 hb2 f2
                generalize (mAt MM x).2 = z2 at a4 hb2 f2
                have hi6' : (i : Int) < ((six n : Nat) : Int) := by omega
                have hx6' : (x : Int) < ((six n : Nat) : Int) := by omega
                have HF1 := Lib.hid f1
                have HF2 := Lib.hid f2
                have hcells : ∀ W, Below wr.heap.size wr W → W.cell? ⟨b8, o8 + x * 2, none⟩ = some (.int .i64 z1) ∧ W.cell? ⟨b8, o8 + x * 2 + 1, none⟩ = some (.int .i64 z2) ∧ W.cell? ⟨b9, o9 + 1, none⟩ = some (.int .i64 (x : Int)) := fun W hW => ⟨(hW.cell (p := ⟨b8, o8 + x * 2, none⟩) (World.block_lt_of_cell? wr _ a3)).trans a3, (hW.cell (p := ⟨b8, o8 + x * 2 + 1, none⟩) (World.block_lt_of_cell? wr _ a4)).trans a4, (hW.cell (p := ⟨b9, o9 + 1, none⟩) (World.block_lt_of_cell? wr _ a5)).trans a5⟩
                have HCE := Lib.hid hcells
                clear hcells hc8 hc9 f1 f2 a3 a4 a5
                have next1 : ¬ (Fits c d (lo + k9) (mAt MM i) ∧ Fits c d (lo + k9) (mAt MM x)) → ∀ j : Nat, j < k9 + 1 → ¬ (Fits c d (lo + j) (mAt MM i) ∧ Fits c d (lo + j) (mAt MM x)) := fun h j hj => by
                  by_cases e : j = k9
                  · rw [e]; exact h
                  · exact HN.out j (by omega)
                have HNX := Lib.hid next1
                clear next1
                cases h1 : fitC c d (lo + k9) y1 y2 with
                | false =>
                  have hno := HNX.out (fun h => by have := HF1.out.2 h.1; rw [h1] at this; cases this)
                  have HNO := Lib.hid hno
                  clear hno
                  go_wp2_with (go_at_call 48; (with_reducible refine (Gives.c (fits_closure (c := c) (d := d) (by omega) s4 (by omega) (by omega) hb1.1 hb1.2 _ p1 p2)).mono ?_); rintro e w8 ⟨rfl, hb⟩; rw [h1])
                  go_roundw
                  case measure => simp [intOf]; omega
                  case rel => exact ⟨k9 + 1, by omega, by go_num, HNO.out, HB9.out.trans (hb.mono HB9.out.size)⟩
                | true =>
                  cases h2 : fitC c d (lo + k9) z1 z2 with
                  | false =>
                    have hno := HNX.out (fun h => by have := HF2.out.2 h.2; rw [h2] at this; cases this)
                    have HNO := Lib.hid hno
                    clear hno
                    go_wp2_with (first
                      | (go_at_call 48; (with_reducible refine (Gives.c (fits_closure (c := c) (d := d) (by omega) s4 (by omega) (by omega) hb1.1 hb1.2 wr p1 p2)).mono ?_); rintro e w8 ⟨rfl, hb⟩; rw [h1]; obtain ⟨a3, a4, a5⟩ := HCE.out _ hb; have K8 := K9.next hb; have p3 := K8.now.1.1.1.2.cell 0 _ rfl; have p4 := K8.now.1.1.2.cell 0 _ rfl)
                      | (go_at_call 48; (with_reducible refine (Gives.c (fits_closure (c := c) (d := d) (by omega) s4 (by omega) (by omega) hb2.1 hb2.2 w8 p3 p4)).mono ?_); rintro e w9 ⟨rfl, hb3⟩; rw [h2]))
                    go_roundw
                    case measure => simp [intOf]; omega
                    case rel => exact ⟨k9 + 1, by omega, by go_num, HNO.out, HB9.out.trans ((hb.trans (hb3.mono hb.size)).mono HB9.out.size)⟩
                  | true =>
                    have hve := HVE.out.1 ⟨lo + k9, by omega, hlt9, HF1.out.1 h1, HF2.out.1 h2⟩
                    have HV14 := Lib.hid hve
                    clear hve
                    go_wp2_with (first
                      | (go_at_call 48; (with_reducible refine (Gives.c (fits_closure (c := c) (d := d) (by omega) s4 (by omega) (by omega) hb1.1 hb1.2 wr p1 p2)).mono ?_); rintro e w8 ⟨rfl, hb⟩; rw [h1]; obtain ⟨a3, a4, a5⟩ := HCE.out _ hb; have K8 := K9.next hb; have p3 := K8.now.1.1.1.2.cell 0 _ rfl; have p4 := K8.now.1.1.2.cell 0 _ rfl)
                      | (go_at_call 48; (with_reducible refine (Gives.c (fits_closure (c := c) (d := d) (by omega) s4 (by omega) (by omega) hb2.1 hb2.2 w8 p3 p4)).mono ?_); rintro e w9 ⟨rfl, hb3⟩; rw [h2]; have K7 := K8.next hb3; clear q0 q1; have q0 := K7.now.1.1.1.2.four; have q1 := K7.now.1.1.2.one)
                      | (go_at_call 44; (with_reducible refine (Gives.c (v_calls HV14.out _ K7.now.1.2 K7.now.2)).mono ?_); rintro e w10 ⟨rfl, hb⟩; replace K7 := K7.next hb; clear hb q0 q1)
                      | (go_at_call 29; (with_reducible refine (Gives.c (works_calls _)).mono ?_); rintro e w' ⟨rfl, hb⟩; replace K7 := K7.next hb))
                    go_ret
                    exact ⟨rfl, K7.now.1.1.1.1.1⟩
              · have hve := HVE.out.2 (fun ⟨h, h0, h1, h2⟩ => HN.out (h - lo).toNat (by omega) (by rw [show lo + (((h - lo).toNat : Nat) : Int) = h by omega]; exact h2))
                have HV0 := Lib.hid hve
                clear hve
                go_wp2_with (first
                  | (go_at_call 44; (with_reducible refine (Gives.c (v_calls HV0.out _ K9.now.1.2 K9.now.2)).mono ?_); rintro e w10 ⟨rfl, hb⟩; replace K9 := K9.next hb; clear hb q0 q1)
                  | (go_at_call 29; (with_reducible refine (Gives.c (works_calls _)).mono ?_); rintro e w' ⟨rfl, hb⟩; replace K9 := K9.next hb))
                go_ret
                exact ⟨rfl, K9.now.1.1.1.1.1⟩
          · have hix' : ¬ (i : Int) < (x : Int) := by omega
            replace L := (L.alloc (.cells #[.int .i64 (i : Int)] 3)).with (.reads (reads1 V0 (i : Int) 3))
            go_upto_region 30 with fail
            generalize World.alloc _ _ = V1 at L ⊢
            generalize (some (⟨V0.heap.size, 0, none⟩ : Addr)) = A6 at L ⊢
            have q0 := L.now.1.1.1.2.four
            have hve := verify_ends HME.out (i := i) (x := i) (by rw [hml]; omega) (by rw [hml]; omega) (cl := [(i : Int)]) (.inl ⟨rfl, rfl⟩)
            have HVE := Lib.hid hve
            clear hve
            go_wp2
            go_loopw [25] (fun g wr => ∃ k : Nat, lo + k ≤ hi + 1 ∧ g = .int .i64 (lo + k) ∧ Aside (∀ j : Nat, j < k → ¬ (Fits c d (lo + j) (mAt MM i) ∧ Fits c d (lo + j) (mAt MM i))) ∧ Aside (Below V1.heap.size V1 wr)) (fun g _ => (hi + 1 - intOf g).toNat)
            case atStart => exact ⟨0, by omega, by simp, fun j hj => absurd hj (Nat.not_lt_zero _), Below.refl _ _⟩
            case round =>
              clear q0
              obtain ⟨k9, hk9, rfl, HN, HB9⟩ := hrel
              have K9 := L.next HB9.out
              have q0 := K9.now.1.1.1.2.four
              have q1 := K9.now.1.1.2.one
              by_cases hlt9 : lo + (k9 : Int) ≤ hi
              · have hw9 : IntKind.i64.wrap (lo + (k9 : Int) + 1) = lo + (k9 : Int) + 1 := i64_in (by omega) (by omega)
                obtain ⟨b8, o8, rfl, hc8⟩ := K9.now.1.2.2.2 (by omega)
                obtain ⟨a1, a2⟩ := hc8 i (by omega)
                obtain ⟨a3, a4⟩ := hc8 i (by omega)
                change wr.cell? _ = some (.int .i64 (mAt MM i).1) at a1
                change wr.cell? _ = some (.int .i64 (mAt MM i).2) at a2
                change wr.cell? _ = some (.int .i64 (mAt MM i).1) at a3
                change wr.cell? _ = some (.int .i64 (mAt MM i).2) at a4
                obtain ⟨b9, o9, hpp, hc9⟩ := K9.now.2.2.2 (by omega)
                cases hpp
                have a5 : wr.cell? ⟨b9, o9, none⟩ = some (.int .i64 (i : Int)) := hc9 0 (by omega)
                have hb1 := HBD.out i
                have hb2 := HBD.out i
                have f1 := fitC_iff (c := c) (d := d) (g := lo + (k9 : Int)) (m := mAt MM i)
                have f2 := fitC_iff (c := c) (d := d) (g := lo + (k9 : Int)) (m := mAt MM i)
                have p1 := K9.now.1.1.1.2.cell 0 _ rfl
                have p2 := K9.now.1.1.2.cell 0 _ rfl
                generalize (mAt MM i).1 = y1 at a1 hb1 f1
                generalize (mAt MM i).2 = y2 at a2 hb1 f1
                generalize (mAt MM i).1 = z1 at a3 hb2 f2
                generalize (mAt MM i).2 = z2 at a4 hb2 f2
                have hi6' : (i : Int) < ((six n : Nat) : Int) := by omega
                have hx6' : (i : Int) < ((six n : Nat) : Int) := by omega
                have HF1 := Lib.hid f1
                have HF2 := Lib.hid f2
                have hcells : ∀ W, Below wr.heap.size wr W → W.cell? ⟨b8, o8 + i * 2, none⟩ = some (.int .i64 z1) ∧ W.cell? ⟨b8, o8 + i * 2 + 1, none⟩ = some (.int .i64 z2) ∧ W.cell? ⟨b9, o9, none⟩ = some (.int .i64 (i : Int)) := fun W hW => ⟨(hW.cell (p := ⟨b8, o8 + i * 2, none⟩) (World.block_lt_of_cell? wr _ a3)).trans a3, (hW.cell (p := ⟨b8, o8 + i * 2 + 1, none⟩) (World.block_lt_of_cell? wr _ a4)).trans a4, (hW.cell (p := ⟨b9, o9, none⟩) (World.block_lt_of_cell? wr _ a5)).trans a5⟩
                have HCE := Lib.hid hcells
                clear hcells hc8 hc9 f1 f2 a3 a4 a5
                have next1 : ¬ (Fits c d (lo + k9) (mAt MM i) ∧ Fits c d (lo + k9) (mAt MM i)) → ∀ j : Nat, j < k9 + 1 → ¬ (Fits c d (lo + j) (mAt MM i) ∧ Fits c d (lo + j) (mAt MM i)) := fun h j hj => by
                  by_cases e : j = k9
                  · rw [e]; exact h
                  · exact HN.out j (by omega)
                have HNX := Lib.hid next1
                clear next1
                cases h1 : fitC c d (lo + k9) y1 y2 with
                | false =>
                  have hno := HNX.out (fun h => by have := HF1.out.2 h.1; rw [h1] at this; cases this)
                  have HNO := Lib.hid hno
                  clear hno
                  go_wp2_with (go_at_call 48; (with_reducible refine (Gives.c (fits_closure (c := c) (d := d) (by omega) s4 (by omega) (by omega) hb1.1 hb1.2 _ p1 p2)).mono ?_); rintro e w8 ⟨rfl, hb⟩; rw [h1])
                  go_roundw
                  case measure => simp [intOf]; omega
                  case rel => exact ⟨k9 + 1, by omega, by go_num, HNO.out, HB9.out.trans (hb.mono HB9.out.size)⟩
                | true =>
                  cases h2 : fitC c d (lo + k9) z1 z2 with
                  | false =>
                    have hno := HNX.out (fun h => by have := HF2.out.2 h.2; rw [h2] at this; cases this)
                    have HNO := Lib.hid hno
                    clear hno
                    go_wp2_with (first
                      | (go_at_call 48; (with_reducible refine (Gives.c (fits_closure (c := c) (d := d) (by omega) s4 (by omega) (by omega) hb1.1 hb1.2 wr p1 p2)).mono ?_); rintro e w8 ⟨rfl, hb⟩; rw [h1]; obtain ⟨a3, a4, a5⟩ := HCE.out _ hb; have K8 := K9.next hb; have p3 := K8.now.1.1.1.2.cell 0 _ rfl; have p4 := K8.now.1.1.2.cell 0 _ rfl)
                      | (go_at_call 48; (with_reducible refine (Gives.c (fits_closure (c := c) (d := d) (by omega) s4 (by omega) (by omega) hb2.1 hb2.2 w8 p3 p4)).mono ?_); rintro e w9 ⟨rfl, hb3⟩; rw [h2]))
                    go_roundw
                    case measure => simp [intOf]; omega
                    case rel => exact ⟨k9 + 1, by omega, by go_num, HNO.out, HB9.out.trans ((hb.trans (hb3.mono hb.size)).mono HB9.out.size)⟩
                  | true =>
                    have hve := HVE.out.1 ⟨lo + k9, by omega, hlt9, HF1.out.1 h1, HF2.out.1 h2⟩
                    have HV14 := Lib.hid hve
                    clear hve
                    go_wp2_with (first
                      | (go_at_call 48; (with_reducible refine (Gives.c (fits_closure (c := c) (d := d) (by omega) s4 (by omega) (by omega) hb1.1 hb1.2 wr p1 p2)).mono ?_); rintro e w8 ⟨rfl, hb⟩; rw [h1]; obtain ⟨a3, a4, a5⟩ := HCE.out _ hb; have K8 := K9.next hb; have p3 := K8.now.1.1.1.2.cell 0 _ rfl; have p4 := K8.now.1.1.2.cell 0 _ rfl)
                      | (go_at_call 48; (with_reducible refine (Gives.c (fits_closure (c := c) (d := d) (by omega) s4 (by omega) (by omega) hb2.1 hb2.2 w8 p3 p4)).mono ?_); rintro e w9 ⟨rfl, hb3⟩; rw [h2]; have K7 := K8.next hb3; clear q0 q1; have q0 := K7.now.1.1.1.2.four; have q1 := K7.now.1.1.2.one)
                      | (go_at_call 44; (with_reducible refine (Gives.c (v_calls HV14.out _ K7.now.1.2 K7.now.2)).mono ?_); rintro e w10 ⟨rfl, hb⟩; replace K7 := K7.next hb; clear hb q0 q1)
                      | (go_at_call 29; (with_reducible refine (Gives.c (works_calls _)).mono ?_); rintro e w' ⟨rfl, hb⟩; replace K7 := K7.next hb))
                    go_ret
                    exact ⟨rfl, K7.now.1.1.1.1.1⟩
              · have hve := HVE.out.2 (fun ⟨h, h0, h1, h2⟩ => HN.out (h - lo).toNat (by omega) (by rw [show lo + (((h - lo).toNat : Nat) : Int) = h by omega]; exact h2))
                have HV0 := Lib.hid hve
                clear hve
                go_wp2_with (first
                  | (go_at_call 44; (with_reducible refine (Gives.c (v_calls HV0.out _ K9.now.1.2 K9.now.2)).mono ?_); rintro e w10 ⟨rfl, hb⟩; replace K9 := K9.next hb; clear hb q0 q1)
                  | (go_at_call 29; (with_reducible refine (Gives.c (works_calls _)).mono ?_); rintro e w' ⟨rfl, hb⟩; replace K9 := K9.next hb))
                go_ret
                exact ⟨rfl, K9.now.1.1.1.1.1⟩

section
variable {H : Type} {enc : TypeId × Value → H}
set_option maxRecDepth 100000 in
theorem two_arg {W : World} {base : Nat} {v : Value} {d : DataW H} {p : List MemPlace} (h : Value.okWide Try.prog W .any base 24 v) (hd : DataW.Trod enc Try.prog W 0 (fun _ => true) true 24 v d p) :
    ∃ a b : Nat, v = .agg #[.int .u8 (a : Int), .int .u8 (b : Int)] ∧ a ≤ 255 ∧ b ≤ 255 := by
  have h' : ∃ cs, v = .agg cs ∧ cs.size = Try.prog.cellsOf 24 ∧ Row.okWide Try.prog W .any base 24 cs := by
    unfold Value.okWide at h
    simpa only [Try.underlying24] using h
  obtain ⟨cs, rfl, hl, _⟩ := h'
  obtain ⟨fuel, hf⟩ := hd
  have h1 : Try.prog.cellsOf 5 = 1 := by kernel_rfl
  have h2 : Try.prog.cellsOf 24 = 2 := by kernel_rfl
  obtain ⟨ys, k, _, _, _, hy, ha⟩ := DataW.trod_array Try.underlying24 hf
  have a0 := ha 0 (by omega)
  have a1 := ha 1 (by omega)
  rw [List.getElem?_eq_getElem (by omega)] at a0 a1
  obtain ⟨x0, c0, r0⟩ := byte_of a0
  obtain ⟨x1, c1, r1⟩ := byte_of a1
  rw [h1] at c0 c1
  rw [h2] at hl
  obtain ⟨n0, rfl⟩ := Int.eq_ofNat_of_zero_le r0.1
  obtain ⟨n1, rfl⟩ := Int.eq_ofNat_of_zero_le r1.1
  refine ⟨n0, n1, ?_, by omega, by omega⟩
  have hc : (Value.agg cs).cells.toList = cs.toList := rfl
  rw [hc] at c0 c1
  have hl2 : cs.toList.length = 2 := by simpa using hl
  obtain ⟨l⟩ := cs
  match l, hl2 with
  | [z0, z1], _ =>
    simp at c0 c1
    subst c0 c1
    rfl
end

theorem clashes_law {a b p q : Int} (ha : 0 ≤ a ∧ a ≤ 255) (hb : 0 ≤ b ∧ b ≤ 255) (hp : 0 ≤ p ∧ p ≤ 255) (hq : 0 ≤ q ∧ q ≤ 255) {n m k z cap : Nat} (hn : n ≤ 255) (hm : m ≤ 255) (hk : k ≤ 255) {A : Option Addr} {l : List Tri} {w : World} (hl : ReadsT w A z l) :
    Gives 15 #[reel a b p q, .int .u8 (n : Int), .slice A z cap, .agg #[.int .u8 (m : Int), .int .u8 (k : Int)]] (.bool true) w := by
  obtain ⟨T, hT⟩ := Int.eq_ofNat_of_zero_le (show 0 ≤ 1 + b % 20 by omega)
  have hs := made_small (a := a) (b := b) (p := p) (q := q)
  have hmd := fun W => made_calls ha hb hp hq W
  rw [hT] at hs
  simp only [hT] at hmd
  exact clashes_walk hs hn hm hk rfl rfl hmd w hl

theorem clashes_own : ownKnob Try.prog.godebug = none := by kernel_rfl

set_option maxRecDepth 100000 in
theorem clashes_lifted (os : Os) (started : os.Started) (H : Type) (enc : TypeId × Value → H) :
    ReturnsInHanded {} Try.checked os 15 .any (Rows.spoolClashesSpec.pre6 enc Try.prog Try.f15 Rows.spoolClashesRow.domain false) (Rows.spoolClashesSpec.post enc Try.prog Try.f15 false true false false) := by
  refine returnsInHanded_of_change_sized (C := Try.checked) clashes_own started (by kernel_rfl) Try.func15
    (ChangeSpec.witness6 (enc := enc) (C := Try.checked) false ⟨#[], #[.agg #[.int .u8 0, .int .u8 0, .int .u8 0, .int .u8 0], .int .u8 0, .slice none 0 0, .agg #[.int .u8 0, .int .u8 0]], []⟩ 8 (by kernel_rfl) (by kernel_rfl) (by kernel_rfl) (by kernel_rfl)) ?_
  intro W base args ds gs before hval0 hW hcnd hsz _
  have hval : ∀ (j : Nat) t v, Try.f15.params[j]? = some t → args[j]? = some v → Value.okWide Try.prog W .any base t v := hval0
  have hW' := hW
  obtain ⟨p, q, hA, hV, rfl, hfz, hnd⟩ := hW
  rw [Try.params15] at hA hval
  obtain ⟨v1, l1, d1, ds1, p1, q1, e1, rfl, rfl, h1, hA⟩ := trodAll_cons hA
  obtain ⟨v2, l2, d2, ds2, p2, q2, rfl, rfl, rfl, h2, hA⟩ := trodAll_cons hA
  obtain ⟨v3, l3, d3, ds3, p3, q3, rfl, rfl, rfl, h3, hA⟩ := trodAll_cons hA
  obtain ⟨v4, l4, d4, ds4, p4, q4, rfl, rfl, rfl, h4, hA⟩ := trodAll_cons hA
  obtain ⟨rfl, rfl, rfl⟩ := trodAll_nil hA
  obtain ⟨rfl, rfl⟩ := trodVars_none hV
  obtain rfl : args = #[v1, v2, v3, v4] := by cases args; simp_all
  obtain ⟨b0, b1, b2, b3, rfl, hb0, hb1, hb2, hb3⟩ := reel_arg (hval 0 66 v1 rfl rfl) h1
  obtain ⟨n, rfl, hn⟩ := byte_arg (hval 1 5 v2 rfl rfl) h2
  obtain ⟨A, z, cap, l, rfl, hl⟩ := triples_arg (hval 2 75 v3 rfl rfl) h3 hsz (j := 2) rfl rfl
  obtain ⟨m, k, rfl, hm, hk⟩ := two_arg (hval 3 24 v4 rfl rfl) h4
  refine (Gives.c (clashes_law (cap := cap) hb0 hb1 hb2 hb3 hn hm hk hl)).mono fun e W' ⟨he, hb⟩ => ?_
  subst he
  exact ⟨_, rfl, post_true hW' rfl rfl rfl (by decide) hb⟩

theorem clashes_over : Rows.spoolClashesRow.holds Try.pinned (OpenSpec.ofChange Rows.spoolClashesSpec) :=
  OpenClaim.holds_of_wide 15 Try.f15 rfl rfl rfl rfl rfl rfl rfl ⟨rfl, rfl, rfl, rfl, rfl⟩ rfl rfl rfl rfl rfl (by kernel_rfl) Try.func15 (by kernel_rfl)
    (of_decide_eq_true (by kernel_rfl)) (by unfold Func.isWrapper; first | (rw [if_pos (by decide +kernel)]; kernel_rfl) | (rw [if_neg (by decide +kernel)]; exact ⟨rfl, rfl⟩))
    (fun os started H enc _ => clashes_lifted os started H enc)

/-- SpoolClashes returns true. -/
theorem spoolClashes_holds : Rows.SpoolClashesSaid := clashes_over
#print axioms spoolClashes_holds
end Go.Proofs.Ytphbiaagmhhhbaa
