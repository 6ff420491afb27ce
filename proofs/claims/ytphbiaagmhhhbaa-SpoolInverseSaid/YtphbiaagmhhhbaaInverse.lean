/- SpoolInverse: what is cut for times plays at these times; an arrival is the first tick at which the paper is there: the call returns true at every reel, growth, list of times and place. -/
import Derived.Test.YtphbiaagmhhhbaaOD
import Derived.Deep.CutRange
namespace Go.Proofs.Ytphbiaagmhhhbaa
open Go.ChangeShapes Go.WideShapes Go.ChangeAt Go.RowKit Go.Lib Go.Shelf

theorem take_nums (l : List Int) (k : Nat) (h : k < l.length) : nums (l.take (k + 1)) = nums (l.take k) ++ [Value.int .i64 (l[k]?.getD 0)] := by
  unfold nums
  rw [List.take_succ_eq_append_getElem h, List.map_append, List.getElem?_eq_getElem h]
  rfl

theorem reads_cell {w : World} {A : Option Addr} {n : Nat} {l : List Int} (h : Reads w A n l) {j : Nat} (hj : j < n) : ∃ b off, A = some ⟨b, off, none⟩ ∧ ∀ i, i < n → ∀ v, l[i]?.getD 0 = v → w.cell? ⟨b, off + i, none⟩ = some (.int .i64 v) := by
  obtain ⟨b, off, e, hc⟩ := h.2.2 (by omega)
  exact ⟨b, off, e, fun i hi v hv => by rw [← hv]; exact hc i hi⟩

/-- How many times are taken. -/
def few (n : Nat) : Nat := min n 20
set_option maxRecDepth 1000000 in
set_option maxHeartbeats 8000000 in
theorem inverse_walk {r : Value} {c lo hi g d : Int} {T xn yn n cap p : Nat} {B : Option Addr} {bl : List Int} (hsm : Small c T lo hi) (hx : xn ≤ 255) (hy : yn ≤ 65535) (hd : (xn : Int) % (hi - lo + 1) = d) (hg : lo + d = g)
    (hp : (yn : Int) % (plc c T lo 255 + 1) = p) {p0 p1 p2 p3 : Int} (hr : r = reel p0 p1 p2 p3) (hmade : ∀ W, Gives 45 #[r] (spl c T lo hi) W)
    (w : World) (hbl : ReadsB w B n bl) : Gives 10 #[r, .int .u8 (xn : Int), .slice B n cap, .int .u16 (yn : Int)] (.bool true) w := by
  unfold Gives
  subst hr
  have hgt := guard26
  have hst := stood26
  obtain ⟨i0, hi0, hz0, hz1, hz2⟩ := info_parts info3
  have I : Held w (fun W => Below w.heap.size w W) := .from (Below.refl _ _) (Nat.le_refl _)
  have hs := hsm.sound
  have hsm' := hsm
  obtain ⟨s1, s2, s3, s4, s5, s6, s7, s8⟩ := hsm'
  have hd0 : 0 ≤ d := by rw [← hd]; exact Int.emod_nonneg _ (by omega)
  have hd1 : d < hi - lo + 1 := by rw [← hd]; exact Int.emod_lt_of_pos _ (by omega)
  have hpl0 := plc_bd (c := c) (t := (T : Int)) (g := lo) (x := 255) s1 s3 (by omega) s5 (by omega) (by omega) (by omega)
  have hp1 : (p : Int) ≤ plc c T lo 255 := by have := Int.emod_lt_of_pos (yn : Int) (show 0 < plc c T lo 255 + 1 by omega); omega
  have hwx : IntKind.i64.wrap (xn : Int) = (xn : Int) := i64_in (by omega) (by omega)
  have hwy : IntKind.i64.wrap (yn : Int) = (yn : Int) := i64_in (by omega) (by omega)
  have hwd : IntKind.i64.wrap (hi - lo) = hi - lo := i64_in (by omega) (by omega)
  have hwd1 : IntKind.i64.wrap (hi - lo + 1) = hi - lo + 1 := i64_in (by omega) (by omega)
  have hmd : (xn : Int).tmod (hi - lo + 1) = d := by rw [Int.tmod_eq_emod_of_nonneg (by omega)]; exact hd
  have hwg : IntKind.i64.wrap (lo + d) = g := by rw [hg]; exact i64_in (by omega) (by omega)
  have hz1' : (hi - lo + 1 == 0) = false := beq_eq_false_iff_ne.2 (by omega)
  have hz3 : ¬ hi - lo + 1 = 0 := by omega
  have hwp : IntKind.i64.wrap (plc c T lo 255 + 1) = plc c T lo 255 + 1 := i64_in (by omega) (by omega)
  have hmp : (yn : Int).tmod (plc c T lo 255 + 1) = (p : Int) := by rw [Int.tmod_eq_emod_of_nonneg (by omega)]; exact hp
  have hzp : (plc c T lo 255 + 1 == 0) = false := beq_eq_false_iff_ne.2 (by omega)
  have hzp3 : ¬ plc c T lo 255 + 1 = 0 := by omega
  have hg0 : lo ≤ g := by omega
  have hg1 : g ≤ hi := by omega
  -- the place
  have hlen : ∀ h : Int, lo ≤ h → (p : Int) ≤ plc c T h 255 ∧ (p : Int) ≤ len c h 1000 := fun h h0 => by
    have a1 := plc_mono (c := c) (t := (T : Int)) (x := 255) s1 (by omega) h0
    have a2 := plc_incr (c := c) (t := (T : Int)) (g := h) (x := 255) (y := 1000 * T) s1 s3 (by omega) (by omega) (by omega)
    rw [plc_turn s1] at a2
    omega
  have hplay : ∀ h : Int, lo ≤ h → h ≤ hi → playF c T lo hi h [(p : Int)] = ([arr c T h p], 0) := fun h h0 h1 => playF_one hs h0 h1 (by omega) (hlen h h0).2
  have har : arrivalF c T lo hi p = (arr c T hi p, arr c T lo p, 0) := by
    have h1 := arr_mono (c := c) (t := (T : Int)) (g := lo) (k := hi) (p := (p : Int)) s1 s3 s5 s7 (hlen lo (Int.le_refl _)).2
    unfold arrivalF
    rw [if_pos ⟨hs, by omega⟩, Int.min_eq_right h1.1, Int.max_eq_left h1.1, if_neg (by omega)]
  have ham : ∀ a b : Int, lo ≤ a → a ≤ b → arr c T b p ≤ arr c T a p := fun a b h0 h => (arr_mono s1 s3 (by omega) h (hlen a h0).2).1
  have hab : ∀ h : Int, lo ≤ h → ∃ A : Nat, arr c T h p = (A : Int) ∧ A ≤ 255 ∧ (∀ j : Nat, j < A → plc c T h j < p) ∧ (p : Int) ≤ plc c T h A := fun h h0 => by
    obtain ⟨a1, a2, a3, a4⟩ := arr_of (c := c) (t := (T : Int)) (g := h) (p := (p : Int)) s1 s3 (by omega) (hlen h h0).2
    obtain ⟨A, hA⟩ := Int.eq_ofNat_of_zero_le a1
    rw [hA] at a3 a4
    refine ⟨A, hA, ?_, ?_, a3⟩
    · rcases a4 with h4 | h4
      · omega
      · by_cases hh : A ≤ 255
        · exact hh
        · have := plc_incr (c := c) (t := (T : Int)) (g := h) (x := 255) (y := (A : Int) - 1) s1 s3 (by omega) (by omega) (by omega)
          have := (hlen h h0).1
          omega
    · intro j hj
      rcases a4 with h4 | h4
      · omega
      · have := plc_incr (c := c) (t := (T : Int)) (g := h) (x := (j : Int)) (y := (A : Int) - 1) s1 s3 (by omega) (by omega) (by omega)
        omega
  -- the times
  have hln := hbl.1
  have hlm := hbl.2.1
  have htl : (bl.take (few n)).length = few n := by rw [List.length_take, hln]; unfold few; omega
  have hfew : few n ≤ n ∧ few n ≤ 20 := by unfold few; omega
  have htx : ∀ x ∈ bl.take (few n), 0 ≤ x ∧ x ≤ 255 := fun x hx => hbl.2.2.1 x (List.mem_of_mem_take hx)
  have hcut : cutF c T lo hi g (bl.take (few n)) = ((bl.take (few n)).map (plc c T g), 0) := cutF_all hs hg0 hg1 (by omega) (fun x h => by have := htx x h; omega)
  have hpla : playF c T lo hi g ((bl.take (few n)).map (plc c T g)) = (bl.take (few n), 0) := playF_all hs hg0 hg1 (by omega) (fun x h => by have := htx x h; omega)
  have hat : ∀ i : Nat, i < few n → ∃ x : Nat, (bl.take (few n))[i]?.getD 0 = (x : Int) ∧ x ≤ 255 ∧ ((bl.take (few n)).map (plc c T g))[i]?.getD 0 = plc c T g x := fun i hi' => by
    have hx := htx ((bl.take (few n))[i]'(by omega)) (List.getElem_mem _)
    obtain ⟨x, hxe⟩ := Int.eq_ofNat_of_zero_le hx.1
    refine ⟨x, ?_, by omega, ?_⟩
    · rw [List.getElem?_eq_getElem (by omega)]; exact hxe
    · rw [List.getElem?_map, List.getElem?_eq_getElem (by omega), ← hxe]; rfl
  have hpap := fun (h : Int) (h0 : lo ≤ h) (h1 : h ≤ hi) (N : Int) (hN0 : 0 ≤ N) (hN : N ≤ 300) W => paper_calls (c := c) (t := (T : Int)) (lo := lo) (hi := hi) (g := h) (N := N) s1 s2 s3 s4 (by omega) (by omega) hN0 hN W
  have HM := Lib.hid hmade
  have HPLAY := Lib.hid hplay
  have HAR := Lib.hid har
  have HAM := Lib.hid ham
  have HAB := Lib.hid hab
  have HCUT := Lib.hid hcut
  have HPLA := Lib.hid hpla
  have HAT := Lib.hid hat
  have HPAP := Lib.hid hpap
  have HBL := Lib.hid hbl
  clear hmade hplay har ham hab hcut hpla hat hpap htx hlen hd hg hp hp1 hsm hs hbl hpl0
  go_enter Try.func10, Try.ntmps10
  go_upto_region 2 with (go_at_call 45; (with_reducible refine (Gives.c (HM.out (World.alloc _ _))).mono ?_); rintro e w1 ⟨rfl, hb⟩; replace I := (I.alloc _).next hb; clear hb)
  have I2 := I.allocB [.int .i64 c, .int .i64 (T : Int), .int .i64 lo, .int .i64 hi] 28
  clear I
  generalize World.alloc _ _ = W0 at I2 ⊢
  have q0 := I2.now.2.four
  go_quiet (fail)
  replace I2 := I2.next (below_drewN' (Below.refl _ _) nq)
  clear q0
  generalize World.drewN _ _ = W3 at I2 ⊢
  replace I2 := (Held.from (Below.refl W3.heap.size W3) (Nat.le_refl _)).with I2
  go_wp2
  go_loopw [11, 12] (fun v i wr => ∃ k : Nat, k ≤ few n ∧ i = .int .i64 k ∧ Aside (wr.ownsRow W3.heap.size 3 1 v k (nums (bl.take k))) ∧ Aside (Below W3.heap.size W3 wr)) (fun _ i _ => few n - (intOf i).toNat)
  case atStart => exact ⟨0, Nat.zero_le _, rfl, World.ownsRow_nil _ _ _ _, Below.refl _ _⟩
  case round =>
    obtain ⟨k, hk, rfl, HO, HB⟩ := hrel
    have J := I2.next HB.out
    by_cases hlt : k < few n
    · have hkn : k < n := by omega
      have hkn' : (k : Int) < (n : Int) := by omega
      have hk20 : (k : Int) < 20 := by omega
      have hw1 : IntKind.i64.wrap ((k : Int) + 1) = (k : Int) + 1 := i64_in (by omega) (by omega)
      have rb := HBL.out.later J.now.2.1
      obtain ⟨b, o, rfl, hc⟩ := rb.2.2.2 (by omega)
      have hc1 := hc k hkn
      have hbd := rb.bd k
      have hsn := take_nums bl k (by omega)
      generalize bl[k]?.getD 0 = x at hc1 hbd hsn
      have hwx2 : IntKind.i64.wrap x = x := i64_in (by omega) (by omega)
      have HSN := Lib.hid hsn
      clear hsn hc rb
      have hsz := HB.out.size
      have hO := HO.out
      go_wp2_with (first
        | (at_builtin; refine wpList_append_own _ rfl _ _ 32 rfl W3.heap.size 3 i0 (.int .i64 0) 1 8 Try.underlying32 hi0 hz0 hz1 hz2 rfl (by decide) _ _ _ rfl (hO.alloc _) ⟨wr.heap.size, 0, none⟩ 1 1 [.int .i64 x] rfl rfl (cell_one_new _ _ _) (by intro u hu; simp at hu; subst hu; rfl) ?c3 ?c4 ?c5 ?_))
      case c3 => unfold maxLen; omega
      case c4 => omega
      case c5 => simp; omega
      intro v' w4 hown' hgrow _
      have HO' := Lib.hid hown'
      have HB4 := Lib.hid ((HB.out.alloc HB.out.size _).grown hgrow (by simp; omega) (by intro j hj; exact own_base' hO j hj))
      clear hown' hgrow hO
      go_wp2
      go_roundw
      case measure => simp [intOf]; omega
      case rel => exact ⟨k + 1, by omega, by go_num, (show Aside _ from by rw [HSN.out]; exact HO'.out), HB4.out⟩
    · obtain rfl : k = few n := by omega
      obtain ⟨A0, cap0, rfl, hR0⟩ := own_reads HO.out (by omega)
      replace J := J.with (.reads hR0)
      have q0 := J.now.1.2.2.four
      clear hR0 HO
      have hcase : (¬ ((few n : Nat) : Int) < (n : Int)) ∨ (((few n : Nat) : Int) < (n : Int) ∧ ¬ ((few n : Nat) : Int) < 20) := by unfold few; omega
      rcases hcase with a1 | ⟨a1, a2⟩
      all_goals (
        go_upto_region 10 with (first
          | (go_at_call 17; (with_reducible refine (cut_calls _ _ _ _ _ _ _ _ _ _ J.now.2).mono ?_); intro e w4 hh; obtain ⟨A1, m1, c1, rfl, hr, hb⟩ := slc_of HCUT.out hh; replace J := (J.next hb).with hr; clear hr hb hh q0; have q0 := J.now.1.1.2.2.four)
          | (go_at_call 18; (with_reducible refine (play_calls _ _ _ _ _ _ _ _ _ _ J.now.2).mono ?_); intro e w5 hh; obtain ⟨A2, m2, c2, rfl, hr, hb⟩ := slc_of HPLA.out hh; replace J := (J.next hb).with hr; clear hr hb hh q0))
        have hm1 := J.now.1.2.1
        rw [List.length_map, htl] at hm1
        subst hm1
        have hm2 := J.now.2.1
        rw [htl] at hm2
        subst hm2
        have q0 := J.now.1.1.1.2.2.four
        go_wp2_with (first
          | (go_at_call 35; (with_reducible refine (Gives.c (w_numbers A2 A0 _ _ c2 cap0 (bl.take (few n)) _ J.now.2 J.now.1.1.2)).mono ?_); rintro e w6 ⟨rfl, hb⟩; replace J := J.next hb; clear hb q0; have q0 := J.now.1.1.1.2.2.four)
          | (go_at_call 46; (with_reducible refine (HPAP.out g hg0 hg1 300 (by decide) (by decide) _).mono ?_); intro e w7 hh; obtain ⟨⟨A3, n3, c3, rfl, hr, hn3, hn4⟩, hb⟩ := hh; replace J := (J.next hb).with (.reads hr); clear hr hb q0))
        replace J := (Held.from (Below.refl w7.heap.size w7) (Nat.le_refl _)).with J
        go_loopw [102] (fun i wr => ∃ j : Nat, j ≤ few n ∧ i = .int .i64 j ∧ Aside (Below w7.heap.size w7 wr)) (fun i _ => few n - (intOf i).toNat)
        case atStart => exact ⟨0, Nat.zero_le _, rfl, Below.refl _ _⟩
        case round =>
          obtain ⟨j, hj, rfl, HB2⟩ := hrel
          have K := J.next HB2.out
          by_cases hjl : j < few n
          · have hjl' : (j : Int) < ((few n : Nat) : Int) := by omega
            have hw2 : IntKind.i64.wrap ((j : Int) + 1) = (j : Int) + 1 := i64_in (by omega) (by omega)
            obtain ⟨x, hx1, hx2, hx3⟩ := HAT.out j hjl
            obtain ⟨b0, o0, rfl, hc0⟩ := reads_cell K.now.2.1.1.1.2 hjl
            obtain ⟨b1, o1, rfl, hc1⟩ := reads_cell K.now.2.1.1.2 hjl
            have hxn : x < n3 := by omega
            have hxn' : (x : Int) < (n3 : Int) := by omega
            obtain ⟨b3, o3, rfl, hc3⟩ := reads_cell K.now.2.2 hxn
            have d0 := hc0 j hjl _ hx1
            have d1 := hc1 j hjl _ hx3
            have d3 := hc3 x hxn _ (papL_at c T g hxn)
            generalize plc c T g (x : Int) = P at d1 d3
            clear hc0 hc1 hc3 hx1 hx3
            go_wp2
            go_quiet (fail)
            go_wp2
            go_roundw
            case measure => simp [intOf]; omega
            case rel => exact ⟨j + 1, by omega, by go_num, below_drewN' HB2.out _⟩
          · obtain rfl : j = few n := by omega
            have q0 := K.now.2.1.1.1.1.2.2.four
            go_wp2_with (first
              | (go_at_call 46; (with_reducible refine (HPAP.out lo (Int.le_refl _) s7 260 (by decide) (by decide) _).mono ?_); intro e w8 hh; obtain ⟨⟨A4, n4, c4, rfl, hr, hn5, hn6⟩, hb⟩ := hh; have hj4 : 255 < n4 := (by omega); obtain ⟨b4, o4, rfl, hc4⟩ := reads_cell hr hj4; have hp255 : (papL c T lo n4)[255]?.getD 0 = plc c T lo 255 := (papL_at c T lo hj4); have hc5 := hc4 255 hj4 _ hp255; have hj5 : (255 : Int) < (n4 : Int) := (by omega); replace K := K.next hb; clear hr hb q0 hc4 hp255; have q0 := K.now.2.1.1.1.1.2.2.four)
              | (go_at_call 30; (with_reducible refine (Gives.c (Arrival_calls HAR.out _)).mono ?_); rintro e w9 ⟨rfl, hb⟩; replace K := K.next hb; clear hb q0 hc5; have q0 := K.now.2.1.1.1.1.2.2.four; have z0 := K.now.2.1.1.1.1.2.2.lt))
            replace K := K.allocB [.int .i64 (arr c T hi p), .int .i64 (arr c T lo p)] 26
            clear q0 z0
            generalize World.alloc _ _ = W10 at K ⊢
            replace K := (Held.from (Below.refl W10.heap.size W10) (Nat.le_refl _)).with K
            go_loopw [22, 23, 24] (fun v1 v2 h wr => ∃ k : Nat, lo + k ≤ hi + 1 ∧ h = .int .i64 (lo + k) ∧ v1 = .int .i64 (sinceD k 1000 (arr c T (lo + k - 1) p)) ∧ v2 = .int .i64 (sinceD k 0 (arr c T lo p)) ∧ Aside (Below W10.heap.size W10 wr))
              (fun _ _ h _ => (hi + 1 - intOf h).toNat)
            case atStart => exact ⟨0, by omega, by simp, rfl, rfl, Below.refl _ _⟩
            case round =>
              obtain ⟨k, hk, rfl, rfl, rfl, HB3⟩ := hrel
              have M := K.next HB3.out
              have q0 := M.now.2.1.2.1.1.1.1.2.2.four
              by_cases hlt : lo + (k : Int) ≤ hi
              · have hw3 : IntKind.i64.wrap (lo + (k : Int) + 1) = lo + (k : Int) + 1 := i64_in (by omega) (by omega)
                obtain ⟨Y, hY, hY1, hY2, hY3⟩ := HAB.out (lo + k) (by omega)
                have hmin : min (sinceD k 1000 (arr c T (lo + k - 1) p)) (arr c T (lo + k) p) = arr c T (lo + k) p := by
                  unfold sinceD
                  by_cases h : k = 0
                  · rw [if_pos h, Int.min_eq_right (by omega)]
                  · rw [if_neg h, Int.min_eq_right (HAM.out (lo + k - 1) (lo + k) (by omega) (by omega))]
                have hmax : max (sinceD k 0 (arr c T lo p)) (arr c T (lo + k) p) = arr c T lo p := by
                  unfold sinceD
                  by_cases h : k = 0
                  · rw [if_pos h]
                    subst h
                    simp only [Int.natCast_zero, Int.add_zero] at hY ⊢
                    rw [Int.max_eq_right (by omega)]
                  · rw [if_neg h, Int.max_eq_left (HAM.out lo (lo + k) (by omega) (by omega))]
                have hP := HPLAY.out (lo + k) (by omega) hlt
                have e1 : sinceD (k + 1) 1000 (arr c T (lo + ((k + 1 : Nat) : Int) - 1) p) = arr c T (lo + k) p := by rw [sinceD_succ]; congr 1; omega
                rw [hY] at hmin hmax hP e1
                have HP1 := Lib.hid hP
                have E1 := Lib.hid e1
                have HMIN := Lib.hid hmin
                have HMAX := Lib.hid hmax
                have HY2 := Lib.hid hY2
                clear hP e1 hmin hmax hY hY2
                go_wp2_with (go_at_call 46; (with_reducible refine (HPAP.out (lo + k) (by omega) hlt 260 (by decide) (by decide) _).mono ?_); intro e w11 hh; obtain ⟨⟨A5, n5, c5, rfl, hr, hn7, hn8⟩, hb⟩ := hh; replace M := (M.next hb).with (.reads hr); clear hr hb q0)
                go_loopw [25] (fun v wr => ∃ j : Nat, j ≤ Y ∧ v = .int .i64 j ∧ Aside (wr = w11)) (fun v _ => Y - (intOf v).toNat)
                case atStart => exact ⟨0, Nat.zero_le _, rfl, rfl⟩
                case round =>
                  obtain ⟨j2, hj2, rfl, HE⟩ := hrel
                  have he := HE.out
                  subst he
                  clear HE
                  have hjn : j2 < n5 := by omega
                  have hjn' : (j2 : Int) < (n5 : Int) := by omega
                  obtain ⟨b5, o5, rfl, hc5⟩ := reads_cell M.now.2 hjn
                  have d5 := hc5 j2 hjn _ (papL_at c T (lo + k) hjn)
                  by_cases hjY : j2 < Y
                  · have hcd := HY2.out j2 hjY
                    have hw4 : IntKind.i64.wrap ((j2 : Int) + 1) = (j2 : Int) + 1 := i64_in (by omega) (by omega)
                    generalize plc c T (lo + k) (j2 : Int) = P at d5 hcd
                    clear hc5
                    go_wp2
                    go_roundw
                    case measure => simp [intOf]; omega
                    case rel => exact ⟨j2 + 1, by omega, by go_num, trivial⟩
                  · obtain rfl : j2 = Y := by omega
                    have hcd : ¬ plc c T (lo + k) (j2 : Int) < p := by omega
                    generalize plc c T (lo + k) (j2 : Int) = P at d5 hcd
                    have q0 := M.now.1.2.1.2.1.1.1.1.2.2.four
                    clear hc5 hY3
                    go_upto_region 33 with (go_at_call 18; (with_reducible refine (play_calls _ _ _ _ _ _ _ _ _ _ (reads1_at _ (p : Int) _ _ (by first | rfl | simp))).mono ?_); intro e w12 hh; obtain ⟨A6, m6, c6, rfl, hr, hb⟩ := slc_of HP1.out hh; replace M := ((M.alloc _).next hb).with hr; clear hr hb hh q0)
                    obtain ⟨rfl, b6, o6, rfl, hc6⟩ := one_cell M.now.2
                    clear d5
                    go_wp2
                    go_roundw
                    case measure => simp [intOf]; omega
                    case rel =>
                      refine ⟨k + 1, by omega, by go_num, ?_, ?_, M.now.1.1.1⟩
                      · rw [E1.out, HMIN.out]
                      · rw [sinceD_succ, HMAX.out]
              · have hkh : lo + (k : Int) - 1 = hi := by omega
                have hk0 : k ≠ 0 := by omega
                rw [sinceD_pos hk0, sinceD_pos hk0, hkh]
                have q1 := M.now.2.2.two
                clear HAM HAB hkh
                go_wp2_with (go_at_call 29; (with_reducible refine (Gives.c (works_calls _)).mono ?_); rintro e w' ⟨rfl, hb⟩; replace M := M.next hb)
                go_ret
                exact ⟨rfl, M.now.2.1.2.1.1.1.1.2.1⟩)

theorem inverse_law {a b p q : Int} (ha : 0 ≤ a ∧ a ≤ 255) (hb : 0 ≤ b ∧ b ≤ 255) (hp : 0 ≤ p ∧ p ≤ 255) (hq : 0 ≤ q ∧ q ≤ 255) {n y m cap : Nat} (hn : n ≤ 255) (hy : y ≤ 65535) {A : Option Addr} {l : List Int} {w : World} (hl : ReadsB w A m l) :
    Gives 10 #[reel a b p q, .int .u8 (n : Int), .slice A m cap, .int .u16 (y : Int)] (.bool true) w := by
  obtain ⟨T, hT⟩ := Int.eq_ofNat_of_zero_le (show 0 ≤ 1 + b % 20 by omega)
  have hs := made_small (a := a) (b := b) (p := p) (q := q)
  have hmd := fun W => made_calls ha hb hp hq W
  rw [hT] at hs
  simp only [hT] at hmd
  have hb0 := (plc_bd (c := (T : Int) + a % 80) (t := (T : Int)) (g := p % 30) (x := 255) hs.t0 hs.c0 (by have := hs.c1; omega) hs.l0 (by omega) (by omega) (by have := hs.t0; omega)).1
  obtain ⟨P, hP⟩ := Int.eq_ofNat_of_zero_le (Int.emod_nonneg (y : Int) (show plc ((T : Int) + a % 80) T (p % 30) 255 + 1 ≠ 0 by omega))
  exact inverse_walk hs hn hy rfl rfl hP rfl hmd w hl

theorem inverse_own : ownKnob Try.prog.godebug = none := by kernel_rfl

set_option maxRecDepth 100000 in
theorem inverse_lifted (os : Os) (started : os.Started) (H : Type) (enc : TypeId × Value → H) :
    ReturnsInHanded {} Try.checked os 10 .any (Rows.spoolInverseSpec.pre6 enc Try.prog Try.f10 Rows.spoolInverseRow.domain false) (Rows.spoolInverseSpec.post enc Try.prog Try.f10 false true false false) := by
  refine returnsInHanded_of_change (C := Try.checked) inverse_own started (by kernel_rfl) Try.func10
    (ChangeSpec.witness6 (enc := enc) (C := Try.checked) false ⟨#[], #[.agg #[.int .u8 0, .int .u8 0, .int .u8 0, .int .u8 0], .int .u8 0, .slice none 0 0, .int .u16 0], []⟩ 8 (by kernel_rfl) (by kernel_rfl) (by kernel_rfl) (by kernel_rfl)) ?_
  intro W base args ds gs before hval0 hW hcnd _
  have hval : ∀ (j : Nat) t v, Try.f10.params[j]? = some t → args[j]? = some v → Value.okWide Try.prog W .any base t v := hval0
  have hW' := hW
  obtain ⟨p, q, hA, hV, rfl, hfz, hnd⟩ := hW
  rw [Try.params10] at hA hval
  obtain ⟨v1, l1, d1, ds1, p1, q1, e1, rfl, rfl, h1, hA⟩ := trodAll_cons hA
  obtain ⟨v2, l2, d2, ds2, p2, q2, rfl, rfl, rfl, h2, hA⟩ := trodAll_cons hA
  obtain ⟨v3, l3, d3, ds3, p3, q3, rfl, rfl, rfl, h3, hA⟩ := trodAll_cons hA
  obtain ⟨v4, l4, d4, ds4, p4, q4, rfl, rfl, rfl, h4, hA⟩ := trodAll_cons hA
  obtain ⟨rfl, rfl, rfl⟩ := trodAll_nil hA
  obtain ⟨rfl, rfl⟩ := trodVars_none hV
  obtain rfl : args = #[v1, v2, v3, v4] := by cases args; simp_all
  obtain ⟨b0, b1, b2, b3, rfl, hb0, hb1, hb2, hb3⟩ := reel_arg (hval 0 66 v1 rfl rfl) h1
  obtain ⟨n, rfl, hn⟩ := byte_arg (hval 1 5 v2 rfl rfl) h2
  obtain ⟨A, m, cap, l, rfl, hl⟩ := bytes_arg (hval 2 70 v3 rfl rfl) h3
  obtain ⟨y, rfl, hy⟩ := word_arg (hval 3 71 v4 rfl rfl) h4
  refine (Gives.c (inverse_law (cap := cap) hb0 hb1 hb2 hb3 hn hy hl)).mono fun e W' ⟨he, hb⟩ => ?_
  subst he
  exact ⟨_, rfl, post_true hW' rfl rfl rfl (by decide) hb⟩

theorem inverse_over : Rows.spoolInverseRow.holds Try.pinned (OpenSpec.ofChange Rows.spoolInverseSpec) :=
  OpenClaim.holds_of_wide 10 Try.f10 rfl rfl rfl rfl rfl rfl rfl ⟨rfl, rfl, rfl, rfl, rfl⟩ rfl rfl rfl rfl rfl (by kernel_rfl) Try.func10 (by kernel_rfl)
    (of_decide_eq_true (by kernel_rfl)) (by unfold Func.isWrapper; first | (rw [if_pos (by decide +kernel)]; kernel_rfl) | (rw [if_neg (by decide +kernel)]; exact ⟨rfl, rfl⟩))
    (fun os started H enc _ => inverse_lifted os started H enc)

/-- SpoolInverse returns true. -/
theorem spoolInverse_holds : Rows.SpoolInverseSaid := inverse_over
#print axioms spoolInverse_holds
end Go.Proofs.Ytphbiaagmhhhbaa
