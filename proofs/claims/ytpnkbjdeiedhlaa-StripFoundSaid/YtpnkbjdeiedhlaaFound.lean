/- StripFound: whoever plays the strips that are returned has found the fault after as many as are needed at the latest: the call returns true for every input. -/
import Derived.Test.YtpnkbjdeiedhlaaPF
namespace Go.Proofs.Ytpnkbjdeiedhlaa
open Go.ChangeShapes Go.WideShapes Go.ChangeAt Go.RowKit Go.Lib Go.Shelf
open St

set_option maxRecDepth 1000000 in
set_option maxHeartbeats 16000000 in
theorem found_law {N L T : Nat} (hN : N ≤ 255) (hL : L ≤ 255) (hT : T ≤ 255) {A : Option Addr} {n c : Nat} {LA : Option Addr} {ln_ lc : Nat} {ll : List Nat} (w : World) (hl : ReadsB w LA ln_ ll) : Gives 8 #[trial N L A n c, .int .u8 (T : Int), .slice LA ln_ lc] (.bool true) w := by
  unfold Gives
  obtain ⟨i0, hi0, hz0, hz1, hz2⟩ := info_parts info66
  have I0 := ((Held.from (w0 := w) (Below.refl w.heap.size w) (Nat.le_refl _)).with (.readsB hl)).alloc (.cells #[.int .u8 (N : Int), .int .u8 (L : Int), .slice none 0 0] 53)
  have h36 : ∀ W, Calls Try.prog 36 #[trial N L none 0 0, .int .i64 10] W _ := fun W => made_at (N := N) (L := L) hN hL (A := none) (n := 0) (c := 0) (l := []) 9 10 (by rfl) (by omega) W ⟨rfl, by omega, fun x hx => by simp at hx, fun h => absurd h (by omega)⟩
  have hM : 2 ≤ 2 + N % 9 ∧ 2 + N % 9 ≤ 16 := by omega
  have hM10 : 2 + N % 9 ≤ 10 := by omega
  have hK : L % 3 ≤ 2 := by omega
  have hts : madeL (2 + N % 9) [] = [] := rfl
  rw [hts] at h36
  generalize 2 + N % 9 = M at h36 hM hM10 hts
  generalize L % 3 = K at h36 hK
  clear hts
  obtain ⟨bl, hbl⟩ : ∃ bl, T % M = bl := ⟨_, rfl⟩
  have hbM : bl < M := by rw [← hbl]; exact Nat.mod_lt _ (by omega)
  have wT : IntKind.i64.wrap (T : Int) = (T : Int) := i64_in (by omega) (by omega)
  have mT2 : (T : Int) % (M : Int) = (bl : Int) := by rw [← hbl, Int.natCast_emod]
  have mT : (T : Int).tmod (M : Int) = (bl : Int) := by rw [Int.tmod_eq_emod_of_nonneg (by omega)]; exact mT2
  have hzM : ((M : Int) == 0) = false := beq_eq_false_iff_ne.2 (by omega)
  have hzM' : ¬ (M : Int) = 0 := by omega
  have hzM'' : ¬ M = 0 := by omega
  have H36 := Lib.hid h36
  have HL0 := Lib.hid hl
  clear hl h36 hbl
  obtain ⟨cs, hrw, hmk0⟩ := mk31 (n := K + 1) (by omega)
  have hmk : ∀ w : World, (Instr.makeSlice 31 (.int .i64 ((K : Int) + 1)) (.int .i64 ((K : Int) + 1))).run Try.prog w = .ok (.slice (some ⟨w.heap.size, 0, none⟩) (K + 1) (K + 1)) (w.alloc (.cells cs.toArray 3)) := fun w => by
    have := hmk0 w
    rwa [show ((K + 1 : Nat) : Int) = (K : Int) + 1 by omega] at this
  have HRW := Lib.hid hrw
  clear hmk0 hrw
  go_enter Try.func8, Try.ntmps8
  go_upto_region 2 with fail
  generalize hw0 : World.alloc _ _ = w0 at I0 ⊢
  have k0 : Blk w0 w.heap.size [.int .u8 (N : Int), .int .u8 (L : Int), .slice none 0 0] := by rw [← hw0]; exact Blk.new w [.int .u8 (N : Int), .int .u8 (L : Int), .slice none 0 0] 53
  clear hw0
  have q0 := k0.three
  go_upto_region 3 with (go_at_call 36; (with_reducible refine (H36.out _).mono ?_); rintro e w1 ⟨A1, k1, c1, rfl, ⟨hr, hkc, hk6, hnil⟩, hb⟩; have I := (I0.next hb); clear hb I0 q0 k0)
  obtain rfl : k1 = 0 := by have := hr.1; simpa using this.symm
  obtain ⟨rfl, rfl⟩ := hnil rfl
  clear hr hkc hk6 hnil H36
  have hBrw0 := I.now.1.size
  have k2 := Hp.new w1 [.int .i64 (M : Int), .int .i64 (K : Int), .slice none 0 0] 24
  have I2 := I.alloc (.cells #[.int .i64 (M : Int), .int .i64 (K : Int), .slice none 0 0] 24)
  clear I
  change Hp (w1.alloc (.cells #[.int .i64 (M : Int), .int .i64 (K : Int), .slice none 0 0] 24)) _ _ _ at k2
  obtain ⟨Br, hBr⟩ : ∃ Br, Br = w1.heap.size := ⟨_, rfl⟩
  rw [← hBr] at k2
  have hBrw : w.heap.size ≤ Br := by rw [hBr]; exact hBrw0
  clear hBrw0
  generalize hw2 : World.alloc _ _ = w2 at I2 k2 ⊢
  clear hw2
  rw [← hBr]
  clear hBr
  have hB5 : Br < w2.heap.size := k2.lt
  have q2 := k2.blk.three
  have hww : w.heap.size ≤ w2.heap.size := I2.now.1.size
  go_upto_region 5 with fail
  have k3 := HRW.out w2
  have k4 := k2.alloc (.cells cs.toArray 3)
  have I3 := I2.alloc (.cells cs.toArray 3)
  have hz3 : w2.heap.size ≤ (w2.alloc (.cells cs.toArray 3)).heap.size := by simp
  clear hmk wT mT mT2 hzM hzM' hzM'' q2 I2 k2
  generalize World.alloc _ _ = w3 at I3 k3 k4 hz3 ⊢
  have q2 := k4.blk.three
  have r0 := k3.cell 0 (by omega)
  have f0 := k3.free 0
  have z0 := k3.lt
  have k5 := k3.set (g := fun i => (((if i = 0 then M else 0 : Nat)) : Int)) (show 0 < K + 1 by omega) (v := (M : Int)) (fun i _ => by show ((if i = 0 then M else 0 : Nat) : Int) = if i = 0 then (M : Int) else 0; split <;> rfl)
  have k6 := k4.other (B' := w2.heap.size) (by omega) 0 (.int .i64 (M : Int))
  have b3 := I3.now.1.setCell (p := ⟨w2.heap.size, 0, none⟩) hww (.int .i64 (M : Int))
  have hz4 : w2.heap.size ≤ (w3.setCell ⟨w2.heap.size, 0, none⟩ (.int .i64 (M : Int))).heap.size := by simpa using hz3
  go_upto_region 6 with fail
  clear I3 k3 k4 r0 f0 z0 q2 hz3
  generalize World.setCell _ _ _ = w4 at k5 k6 b3 hz4 ⊢
  have hs := k5.reads (by omega)
  obtain ⟨g1, g2⟩ := one_ask (L := K) (N := M) hK hM.2
  have h28 : ∀ W, Reads W (some ⟨w2.heap.size, 0, none⟩) (K + 1) (ln (K + 1) (fun i => if i = 0 then M else 0)) → Gives 28 #[.slice (some ⟨w2.heap.size, 0, none⟩) (K + 1) (K + 1)] (.tuple #[.int .i64 (ndF (oneS K M) : Int), .int .i64 0]) W := fun W h => by
    have := Needed_calls _ (K + 1) (K + 1) _ W h
    rwa [g1, g2] at this
  have h26 : ∀ W, Reads W (some ⟨w2.heap.size, 0, none⟩) (K + 1) (ln (K + 1) (fun i => if i = 0 then M else 0)) → Gives 26 #[.slice (some ⟨w2.heap.size, 0, none⟩) (K + 1) (K + 1)] (.tuple #[.int .i64 (bndF (oneS K M) : Int), .int .i64 0]) W := fun W h => by
    have := Bound_calls _ (K + 1) (K + 1) _ W h
    rwa [g1, g2] at this
  have o1 := bndF_le_ndF (s := oneS K M) (by rw [oneS_tubes]; exact hM.2)
  have o2 := needed_one hK hM10
  have o3 : ndF (stK K [] M) + 0 ≤ ndF (oneS K M) := by rw [stK_nil hK]; exact Nat.le_refl _
  generalize ndF (oneS K M) = n0 at h28 o1 o2 o3
  generalize bndF (oneS K M) = b0 at h26 o1
  have H28 := Lib.hid h28
  have H26 := Lib.hid h26
  have t1 : decide (n0 < b0) = false := decide_eq_false (by omega)
  have t2 : decide ((25 : Int) < (n0 : Int)) = false := decide_eq_false (by omega)
  have J := ((Held.from (w0 := w) (b := w.heap.size) b3 b3.size).with (.reads hs)).with (.hp k6)
  clear h26 h28 g1 g2 hs k5 k6 b3
  have q2 := J.now.2.blk.three
  go_upto_region 10 with (first
    | (go_at_call 28; (with_reducible refine (Gives.c (H28.out _ J.now.1.2)).mono ?_); rintro e w5 ⟨rfl, hb⟩; have hz5 := hb.size; replace J := J.next hb; clear hb q2; have q2 := J.now.2.blk.three)
    | (go_at_call 26; (with_reducible refine (Gives.c (H26.out _ J.now.1.2)).mono ?_); rintro e w6 ⟨rfl, hb⟩; have hz6 := hb.size; replace J := J.next hb; clear hb q2; have q2 := J.now.2.blk.three))
  clear t1 t2 o1 H28 H26 HRW
  go_wp2_with fail
  obtain ⟨base, hbase⟩ : ∃ base, base = w2.heap.size := ⟨_, rfl⟩
  rw [← hbase] at hB5 hz4 hww
  have hz7 : base ≤ w6.heap.size := by omega
  clear hbase q2
  have HLR := Lib.hid (show ReadsB w LA ln_ ll from HL0.out)
  go_loopw [14, 15] (fun s14 s15 wr => ∃ (k left : Nat) (v : Value) (ts : List Tst), k ≤ n0 ∧ s15 = .int .i64 k ∧ s14 = .int .i64 left ∧ Aside (ts.length = k ∧ (∀ y ∈ ts, Valid M y.strip) ∧ left + mis ts bl = K ∧ ndF (stK K ts M) + k ≤ n0) ∧ Aside (RowA wr Br base (.int .i64 (M : Int)) (.int .i64 (K : Int)) v k ts) ∧ Aside (Below w.heap.size w wr) ∧ base ≤ wr.heap.size) (fun _ s15 _ => n0 - (intOf s15).toNat)
  case atStart => exact ⟨0, K, .slice none 0 0, [], Nat.zero_le _, rfl, rfl, ⟨rfl, fun y hy => by simp at hy, rfl, o3⟩, ⟨J.now.2, [], World.ownsRow_nil _ _ 66 2, CellsT.nil _ _ _⟩, J.now.1.1, hz7⟩
  case round =>
    obtain ⟨k, left, v, ts, hk, rfl, rfl, HP, HR, HB, hzr⟩ := hrel
    clear J
    obtain ⟨hlen, hv, hlm, hnd⟩ := HP.out
    have hra := HR.out
    obtain ⟨h5, cs2, ho, hc⟩ := hra
    obtain ⟨A, c, e, hrt, hcp⟩ := own_readsT ho hc hlen (by omega)
    subst e
    have J := ((Held.from (w0 := w) (b := w.heap.size) HB.out HB.out.size).with (.readsT hrt)).with (.blk h5.blk)
    have hms : mis ts bl ≤ K := by omega
    have hrc := rchk_valid (L := K) ⟨by omega, hM.2⟩ hK (by omega) hv
    have htb := stK_tubes K ts M
    obtain ⟨hbi, ht1⟩ := blocked_in hbM hms
    have hone := blocked_one hbM hms
    have HRC := Lib.hid hrc
    have hw1 : IntKind.i64.wrap ((k : Int) + 1) = (k : Int) + 1 := i64_in (by omega) (by omega)
    have hlb : left ≤ 2 := by omega
    by_cases hlt : k < n0
    · have hlt' : (k : Int) < (n0 : Int) := by omega
      by_cases hs1 : (stK K ts M).tubes ≤ 1
      · have HONE := Lib.hid (hone hs1)
        have h30 : ∀ W, ReadsT W A k ts → Gives 30 #[rec (M : Int) (K : Int) A k c] (.tuple #[.slice none 0 0, .int .i64 0, .int .i64 23]) W := fun W hW => by
          refine Next_err M K A k c ts W hW (stK K ts M) 23 (by decide) (fun X hX => ?_)
          have := open_good hM.2 hK A k c ts X hX hrc (by omega)
          unfold opE at this
          rwa [if_neg (by omega), if_pos (by omega)] at this
        have H30 := Lib.hid h30
        clear h30 HP HR hlen hv hlm hnd h5 ho hc hrt hrc hms htb hbi ht1 hone hs1
        have q1 := J.now.2.three
        go_upto_region 30 with (go_at_call 30; (with_reducible refine (Gives.c (H30.out _ J.now.1.2)).mono ?_); rintro e w7 ⟨rfl, hb⟩; replace J := J.next hb; clear hb q1)
        have h17f : ∀ W, ReadsT W A k ts → Calls Try.prog 17 #[rec (M : Int) (K : Int) A k c] W fun e w' => ∃ A' m c', e = .returned (.tuple #[.slice A' m c', .int .i64 0]) ∧ Reads w' A' m [(bl : Int)] ∧ Below W.heap.size W w' := fun W h => (Possible_good hM.2 hK A k c ts W h HRC.out (by omega)).mono fun e w' ⟨A', m, c', g1, g2, g3⟩ => ⟨A', m, c', g1, by rw [HONE.out] at g2; exact g2, g3⟩
        have H17F := Lib.hid h17f
        clear h17f
        have q1 := J.now.2.three
        go_upto_region 31 with (go_at_call 17; (with_reducible refine (H17F.out _ J.now.1.2).mono ?_); rintro e w8 ⟨fA, fm, fc, rfl, hr, hb⟩; replace J := (J.next hb).with (.reads hr); clear hb q1)
        obtain ⟨fb, fo, ef, hfc⟩ := hr.2.2 (by have h := hr.1; rw [List.length_singleton] at h; omega)
        have hfl : fm = 1 := by have h := hr.1; rw [List.length_singleton] at h; exact h.symm
        subst ef
        subst hfl
        have hf0 := J.now.2.2.2 (by omega)
        obtain ⟨fb2, fo2, ef2, hfc2⟩ := hf0
        cases ef2
        have qf := hfc2 0 (by omega)
        have qf2 : w8.cell? ⟨fb, fo, none⟩ = some (.int .i64 (bl : Int)) := by have h := qf; rw [Nat.add_zero] at h; exact h
        have gbl : ((bl : Int) == (bl : Int)) = true := by simp
        clear hfc hfc2 qf hr
        go_wp2_with (go_at_call 15; (with_reducible refine (Gives.c (works_calls _)).mono ?_); rintro e w9 ⟨rfl, hb⟩; replace J := J.next hb; clear hb)
        go_ret
        exact ⟨rfl, J.now.1.1.1⟩
      · have ht2 : 2 ≤ (stK K ts M).tubes := by omega
        have h30 : ∀ W, ReadsT W A k ts → Calls Try.prog 30 #[rec (M : Int) (K : Int) A k c] W fun e w' => ∃ (x : Sx (stK K ts M)) (A' : Option Addr) (m c' : Nat), e = .returned (.tuple #[.slice A' m c', .int .i64 ((ndF (stK K ts M) - 1 : Nat) : Int), .int .i64 0]) ∧ ((both (ndF (stK K ts M) - 1) (stK K ts M) x.1 = true ∧ Fresh W.heap.size A' m c') ∧ Reads w' A' m (chK K ts x.1 M).2) ∧ Below W.heap.size W w' := fun W hW => by
          have h66 : ∀ X, ReadsT X A k ts → Gives 66 #[rec (M : Int) (K : Int) A k c] (.tuple #[(stK K ts M).v, .int .i64 0]) X := fun X hX => by
            have := open_good hM.2 hK A k c ts X hX hrc (by omega)
            rwa [opE_ok ht2] at this
          refine (Next_good hM.2 hK A k c ts W hW (by omega) (stK K ts M) ⟨ht2, by omega⟩ h66).mono ?_
          rintro e w' ⟨x, A', m, c', ⟨⟨b1, b2⟩, b3⟩, b4, b5⟩
          rw [left_good ht2 x.2 b1] at b3
          exact ⟨x, A', m, c', b3, ⟨⟨b1, b2⟩, b4⟩, b5⟩
        have hnx := fun (x : Sx (stK K ts M)) (hb : both (ndF (stK K ts M) - 1) (stK K ts M) x.1 = true) (ans : Bool) => found_next (k := k) (n := n0) hK hv x.2 ht2 hb hnd ans
        have hnd0 : 1 ≤ ndF (stK K ts M) := by
          rcases Nat.eq_zero_or_pos (ndF (stK K ts M)) with e | e
          · have := (ndF_spec (stK K ts M)).1
            rw [e] at this
            exact absurd (show (stK K ts M).tubes ≤ 1 from this) hs1
          · exact e
        obtain ⟨m0, hm0⟩ : ∃ m0, m0 = ndF (stK K ts M) - 1 := ⟨_, rfl⟩
        rw [← hm0] at h30 hnx
        have hm1 : m0 + 1 + k ≤ n0 := by omega
        have H30 := Lib.hid h30
        have HNX := Lib.hid hnx
        have HC := Lib.hid hc
        have HO := Lib.hid ho
        have H5 := Lib.hid h5
        clear h30 hnx HP HR hrt hrc htb hone hm0 hnd0 hc ho h5 hbi ht1
        have q1 := J.now.2.three
        have t1 : decide ((n0 : Int) - (k : Int) ≤ (m0 : Int)) = false := decide_eq_false (by omega)
        go_upto_region 18 with (go_at_call 30; (with_reducible refine (H30.out _ J.now.1.2).mono ?_); rintro e w7 ⟨x, A3, m3, c3, rfl, ⟨⟨hbx, hfr⟩, hr3⟩, hb⟩; have HB7 := Lib.hid hb; replace J := (J.next hb).with (.reads hr3); clear hb hr3 q1)
        have hsp := HNX.out x hbx
        generalize (chK K ts x.1 M).2 = sp at J hsp
        obtain ⟨dd, hdd⟩ : ∃ dd, decide ((bl : Int) ∈ sp) = dd := ⟨_, rfl⟩
        have h43 : ∀ W, Reads W A3 m3 sp → Quiet 43 #[.slice A3 m3 c3, .int .i64 (bl : Int)] (.bool dd) W := fun W h => by rw [← hdd]; exact has_calls A3 m3 c3 sp bl W h
        have hmis : ∀ ans : Bool, mis (ts ++ [⟨sp, ans⟩]) bl = mis ts bl + (if dd != ans then 1 else 0) := fun ans => by
          rw [mis_snoc]
          unfold isM
          rw [hdd]
        have H43 := Lib.hid h43
        have HSP := Lib.hid hsp
        have HMS := Lib.hid hmis
        have HFR := Lib.hid hfr
        have HBX := Lib.hid hbx
        clear h43 hsp hmis hdd hfr hbx t1 H30 HNX
        go_upto_region 19 with (go_at_call 43; (with_reducible refine (Quiet.c (H43.out _ J.now.2)).mono ?_); rintro e wq ⟨rfl, rfl⟩)
        obtain ⟨gg, hgg⟩ : ∃ gg : Bool, gg = (decide (k < ln_) && (decide (ll[k]?.getD 0 % 3 = 0) && decide (0 < left))) := ⟨_, rfl⟩
        have hgl : gg = true → 0 < left := fun h => by
          rw [h] at hgg
          simp at hgg
          exact hgg.2.2
        have HGL := Lib.hid hgl
        clear hgl
        go_cut [108] (fun s108 wx => s108 = .bool gg ∧ wx = w7)
        case first =>
          clear hlm hms
          by_cases g1 : k < ln_
          · have g1' : (k : Int) < (ln_ : Int) := by omega
            have hll := HLR.out.later (HB.out.trans (HB7.out.mono HB.out.size))
            obtain ⟨lb, lo, le, hlc⟩ := hll.2.2.2 (by omega)
            subst le
            have q3 := hlc k g1
            have hby : ll[k]?.getD 0 ≤ 255 := by
              rw [List.getElem?_eq_getElem (by have := hll.1; omega)]
              exact hll.2.2.1 _ (List.getElem_mem _)
            clear hlc hll
            generalize ll[k]?.getD 0 = b at q3 hby hgg
            obtain ⟨r, hr⟩ : ∃ r, b % 3 = r := ⟨_, rfl⟩
            have mb : (b : Int).tmod 3 = (r : Int) := by rw [Int.tmod_eq_emod_of_nonneg (by omega)]; omega
            have hr3 : r ≤ 2 := by omega
            rw [hr] at hgg
            clear hr
            by_cases g2 : r = 0
            · have g2' : ((r : Int) == 0) = true := beq_iff_eq.2 (by omega)
              by_cases g3 : 0 < left
              · have g3' : (0 : Int) < (left : Int) := by omega
                have E := Lib.hid (show gg = true by rw [hgg]; simp [g1, g2, g3])
                clear hgg g2
                go_wp2_with fail
                go_meet
                exact ⟨by rw [E.out], rfl⟩
              · have g3' : ¬ (0 : Int) < (left : Int) := by omega
                have E := Lib.hid (show gg = false by rw [hgg]; simp [g1, g2, g3])
                clear hgg g2
                go_wp2_with fail
                go_meet
                exact ⟨by rw [E.out], rfl⟩
            · have g2' : ((r : Int) == 0) = false := beq_eq_false_iff_ne.2 (by omega)
              have E := Lib.hid (show gg = false by rw [hgg]; simp [g2])
              clear hgg g2
              go_wp2_with fail
              go_meet
              exact ⟨by rw [E.out], rfl⟩
          · have g1' : ¬ (k : Int) < (ln_ : Int) := by omega
            have E := Lib.hid (show gg = false by rw [hgg]; simp [g1])
            clear hgg
            go_wp2_with fail
            go_meet
            exact ⟨by rw [E.out], rfl⟩
        case rest =>
          obtain ⟨rfl, rfl⟩ := hcut
          clear hgg
          go_upto_if 108 with fail
          go_cut [14, 19] (fun s14 s19 wx => ∃ (left' : Nat) (ans : Bool), s14 = .int .i64 left' ∧ s19 = .bool ans ∧ wx = wc ∧ Aside (left' + mis (ts ++ [⟨sp, ans⟩]) bl = K))
          case first =>
            have hno : left + mis (ts ++ [⟨sp, dd⟩]) bl = K := by rw [HMS.out]; simp; omega
            have HNO := Lib.hid hno
            cases gg with
            | true =>
              have g3 := HGL.out rfl
              have hyes : (left - 1) + mis (ts ++ [⟨sp, !dd⟩]) bl = K := by
                rw [HMS.out] at hno ⊢
                cases dd <;> simp at hno ⊢ <;> omega
              have HYES := Lib.hid hyes
              clear hno hyes hlm hms
              go_wp2_with fail
              go_meet
              exact ⟨left - 1, !dd, by rw [show ((left - 1 : Nat) : Int) = (left : Int) - 1 by omega], rfl, rfl, HYES.out⟩
            | false =>
              clear hno hlm hms
              go_wp2_with fail
              go_meet
              exact ⟨left, dd, rfl, rfl, rfl, HNO.out⟩
          case rest =>
            obtain ⟨left2, ans, rfl, rfl, hwc, HM⟩ := hcut
            subst hwc
            clear hlm hms HLR
            obtain ⟨w9, hw9⟩ : ∃ x, x = wc := ⟨_, rfl⟩
            subst hw9
            have hx9 := HSP.out ans
            have HO9 := Lib.hid (own_later HO.out HB7.out)
            have HC9 := Lib.hid (HC.out.later HB7.out)
            have H59 := Lib.hid (H5.out.later HB7.out)
            have HST9 := Lib.hid (show StripAt w9 base (.slice A k c) A3 m3 c3 sp from ⟨J.now.2, HFR.out.2, fun p hp _ => ⟨Nat.le_trans hzr (HFR.out.1 p hp), fun e => by have h1 := own_lt HO.out _ e; have h2 := HFR.out.1 p hp; omega⟩⟩)
            have HB9 := Lib.hid (HB.out.trans (HB7.out.mono HB.out.size))
            have q1 := J.now.1.2.three
            have hz9 : base ≤ w9.heap.size := Nat.le_trans hzr HB7.out.size
            clear HO HC H5 HFR HB7 HSP HMS HB H43 HBX J HRC
            go_wp2_with (at_builtin; refine wpList_append_own_at _ rfl _ _ 22 rfl base 66 i0 (.agg #[.slice none 0 0, .bool false]) 2 32 Try.underlying22 hi0 hz0 hz1 hz2 rfl (by decide) _ _ _ rfl (own_alloc HO9.out _) ⟨w9.heap.size, 0, none⟩ 1 1 [.slice A3 m3 c3, .bool ans] rfl rfl (cells_new _ [.slice A3 m3 c3, .bool ans] _ _ rfl) (by intro u hu; simp at hu; rcases hu with rfl | rfl <;> rfl) ?c3 ?c4 ?c5 ?_)
            case c3 => unfold maxLen; omega
            case c4 => omega
            case c5 => simp; omega
            intro v3 w10 hown3 hgrow3 _ hblk3
            have hba : Below w9.heap.size w9 (w9.alloc (.cells #[.slice A3 m3 c3, .bool ans] 66)) := (Below.refl _ _).alloc (Nat.le_refl _) _
            have hrb := RowA.grow (x := ⟨sp, ans⟩) (H59.out.alloc _) (own_alloc HO9.out _) (HC9.out.later hba) hB5 (HST9.out.later hba) hown3 hgrow3 (by simpa using hblk3)
            have hbw : Below w.heap.size w w10 := (HB9.out.alloc HB9.out.size _).grown hgrow3 (by have := HB9.out.size; simp; omega) (by intro j hj; have := own_base' HO9.out j hj; omega)
            have hz10 : base ≤ w10.heap.size := by have := hgrow3.size; simp at this; omega
            obtain ⟨g3, cap3, e3⟩ := hrb.2.1
            subst e3
            have q5 := hrb.1.blk.three
            have f5 := hrb.1.free 2
            have z5 := hrb.1.lt
            have HRA := Lib.hid (hrb.store hB5)
            have HBW := Lib.hid (hbw.setCell (p := ⟨Br, 2, none⟩) (by show w.heap.size ≤ Br; omega) (.slice (some ⟨g3, 0, none⟩) (k + 1) cap3))
            have hz11 : base ≤ (w10.setCell ⟨Br, 2, none⟩ (.slice (some ⟨g3, 0, none⟩) (k + 1) cap3)).heap.size := by simpa using hz10
            clear hrb hown3 hgrow3 hblk3 hbw hba hz10 q1
            go_upto_region 23 with fail
            clear q5 f5 z5
            generalize World.setCell _ _ _ = w11 at HRA HBW hz11 ⊢
            clear HO9 HC9 H59 HST9 HB9
            have hlen2 : (ts ++ [(⟨sp, ans⟩ : Tst)]).length = k + 1 := by rw [List.length_append, hlen]; rfl
            generalize ts ++ [(⟨sp, ans⟩ : Tst)] = ts2 at HRA hlen2 hx9 HM
            obtain ⟨hv2, hnd2⟩ := hx9
            obtain ⟨h5b, cs3, ho3, hc3⟩ := HRA.out
            obtain ⟨A4, c4, e4, hrt4, _⟩ := own_readsT ho3 hc3 hlen2 (by omega)
            injection e4 with e5 _ e6
            subst e5 e6
            have hms2 : mis ts2 bl ≤ K := by have := HM.out; omega
            have hrc2 := rchk_valid (L := K) ⟨by omega, hM.2⟩ hK (by omega) hv2
            have htb2 := stK_tubes K ts2 M
            have hbi2 := (blocked_in hbM hms2).1
            obtain ⟨sa1, sa2⟩ := state_ask (N := M) hK hM.2 ts2
            have h17 : ∀ W, ReadsT W (some ⟨g3, 0, none⟩) (k + 1) ts2 → Calls Try.prog 17 #[rec (M : Int) (K : Int) (some ⟨g3, 0, none⟩) (k + 1) cap3] W fun e w' => ∃ A' m c', e = .returned (.tuple #[.slice A' m c', .int .i64 0]) ∧ Reads w' A' m (posK K ts2 M) ∧ Below W.heap.size W w' := fun W h => Possible_good hM.2 hK _ (k + 1) cap3 ts2 W h hrc2 (by omega)
            have h19 : ∀ W, ReadsT W (some ⟨g3, 0, none⟩) (k + 1) ts2 → Calls Try.prog 19 #[rec (M : Int) (K : Int) (some ⟨g3, 0, none⟩) (k + 1) cap3] W fun e w' => ∃ A' c', e = .returned (.tuple #[.slice A' (K + 1) c', .int .i64 0]) ∧ Reads w' A' (K + 1) (stL K (stK K ts2 M)) ∧ Below W.heap.size W w' := fun W h => State_good hM.2 hK _ (k + 1) cap3 ts2 W h hrc2 (by omega)
            have h43b : ∀ W A' m c', Reads W A' m (posK K ts2 M) → Quiet 43 #[.slice A' m c', .int .i64 (bl : Int)] (.bool true) W := fun W A' m c' h => by
              have := has_calls A' m c' _ bl W h
              rwa [decide_eq_true hbi2] at this
            have h26 : ∀ W A' c', Reads W A' (K + 1) (stL K (stK K ts2 M)) → Gives 26 #[.slice A' (K + 1) c'] (.tuple #[.int .i64 (bndF (stK K ts2 M) : Int), .int .i64 0]) W := fun W A' c' h => by
              have := Bound_calls A' (K + 1) c' _ W h
              rwa [sa1, sa2] at this
            have hbb := bndF_le_ndF (s := stK K ts2 M) (by omega)
            have hbb2 : bndF (stK K ts2 M) + (k + 1) ≤ n0 := by omega
            have HND := Lib.hid hnd2
            generalize bndF (stK K ts2 M) = bb at h26 hbb2
            have H17 := Lib.hid h17
            have H19 := Lib.hid h19
            have H43 := Lib.hid h43b
            have H26 := Lib.hid h26
            have HV2 := Lib.hid hv2
            have t3 : decide ((n0 : Int) - (k : Int) - 1 < (bb : Int)) = false := decide_eq_false (by omega)
            have J := ((((Held.from (w0 := w) (b := w.heap.size) HBW.out HBW.out.size)).with (Held.from (w0 := w11) (b := w11.heap.size) (Below.refl _ _) (Nat.le_refl _))).with (.readsT hrt4)).with (.blk h5b.blk)
            clear h17 h19 h43b h26 hnd2 hv2 hrc2 htb2 hbi2 sa1 sa2 ho3 hc3 hrt4 h5b hbb hms2 HBW
            have q1 := J.now.2.three
            go_upto_region 24 with (go_at_call 17; (with_reducible refine (H17.out _ J.now.1.2).mono ?_); rintro e w12 ⟨pA, pm, pc, rfl, hr, hb⟩; replace J := (J.next hb).with (.reads hr); clear hb hr q1; have q1 := J.now.1.2.three)
            go_upto_region 25 with (go_at_call 19; (with_reducible refine (H19.out _ J.now.1.1.2).mono ?_); rintro e w13 ⟨sA, sc, rfl, hr, hb⟩; replace J := (J.next hb).with (.reads hr); clear hb hr q1)
            go_wp2_with (first
              | (go_at_call 43; (with_reducible refine (Quiet.c (H43.out _ _ _ _ J.now.1.2)).mono ?_); rintro e wq ⟨rfl, rfl⟩)
              | (go_at_call 26; (with_reducible refine (Gives.c (H26.out _ _ _ J.now.2)).mono ?_); rintro e w14 ⟨rfl, hb⟩; replace J := J.next hb; clear hb))
            have HJ := Lib.hid J.now.1.1.1.1
            go_roundw
            case measure => simp [intOf]; omega
            case rel => exact ⟨k + 1, left2, _, ts2, by omega, by go_num, rfl, ⟨hlen2, HV2.out, HM.out, HND.out⟩, HRA.out.later HJ.out.2, HJ.out.1, Nat.le_trans hz11 HJ.out.2.size⟩
    · have hs1 : (stK K ts M).tubes ≤ 1 := by
        have h0 : ndF (stK K ts M) = 0 := by omega
        have := (ndF_spec (stK K ts M)).1
        rw [h0] at this
        exact this
      have HONE := Lib.hid (hone hs1)
      have hlt' : ¬ (k : Int) < (n0 : Int) := by omega
      clear HP HR hlen hv hlm hnd h5 ho hc hrt hrc hms htb hbi ht1 hone hs1
      go_upto_region 30 with fail
      have h17f : ∀ W, ReadsT W A k ts → Calls Try.prog 17 #[rec (M : Int) (K : Int) A k c] W fun e w' => ∃ A' m c', e = .returned (.tuple #[.slice A' m c', .int .i64 0]) ∧ Reads w' A' m [(bl : Int)] ∧ Below W.heap.size W w' := fun W h => (Possible_good hM.2 hK A k c ts W h HRC.out (by omega)).mono fun e w' ⟨A', m, c', g1, g2, g3⟩ => ⟨A', m, c', g1, by rw [HONE.out] at g2; exact g2, g3⟩
      have H17F := Lib.hid h17f
      clear h17f
      have q1 := J.now.2.three
      go_upto_region 31 with (go_at_call 17; (with_reducible refine (H17F.out _ J.now.1.2).mono ?_); rintro e w8 ⟨fA, fm, fc, rfl, hr, hb⟩; replace J := (J.next hb).with (.reads hr); clear hb q1)
      obtain ⟨fb, fo, ef, hfc⟩ := hr.2.2 (by have h := hr.1; rw [List.length_singleton] at h; omega)
      have hfl : fm = 1 := by have h := hr.1; rw [List.length_singleton] at h; exact h.symm
      subst ef
      subst hfl
      have hf0 := J.now.2.2.2 (by omega)
      obtain ⟨fb2, fo2, ef2, hfc2⟩ := hf0
      cases ef2
      have qf := hfc2 0 (by omega)
      have qf2 : w8.cell? ⟨fb, fo, none⟩ = some (.int .i64 (bl : Int)) := by have h := qf; rw [Nat.add_zero] at h; exact h
      have gbl : ((bl : Int) == (bl : Int)) = true := by simp
      clear hfc hfc2 qf hr
      go_wp2_with (go_at_call 15; (with_reducible refine (Gives.c (works_calls _)).mono ?_); rintro e w9 ⟨rfl, hb⟩; replace J := J.next hb; clear hb)
      go_ret
      exact ⟨rfl, J.now.1.1.1⟩

theorem stripFound_own : ownKnob Try.prog.godebug = none := by kernel_rfl

set_option maxRecDepth 100000 in
theorem stripFound_lifted (os : Os) (started : os.Started) (H : Type) (enc : TypeId × Value → H) :
    ReturnsInHanded {} Try.checked os 8 .any (Rows.stripFoundSpec.pre6 enc Try.prog Try.f8 Rows.stripFoundRow.domain false) (Rows.stripFoundSpec.post enc Try.prog Try.f8 false true false false) := by
  refine returnsInHanded_of_change (C := Try.checked) stripFound_own started (by kernel_rfl) Try.func8
    (ChangeSpec.witness6 (enc := enc) (C := Try.checked) false ⟨#[], #[.agg #[.int .u8 0, .int .u8 0, .slice none 0 0], .int .u8 0, .slice none 0 0], []⟩ 8 (by kernel_rfl) (by kernel_rfl) (by kernel_rfl) (by kernel_rfl)) ?_
  intro W base args ds gs before hval0 hW hcnd _
  have hval : ∀ (j : Nat) t v, Try.f8.params[j]? = some t → args[j]? = some v → Value.okWide Try.prog W .any base t v := hval0
  have hW' := hW
  obtain ⟨p, q, hA, hV, rfl, hfz, hnd⟩ := hW
  rw [Try.params8] at hA hval
  obtain ⟨v1, l1_, d1, ds1, p1, q1, e1, rfl, rfl, h1, hA⟩ := trodAll_cons hA
  obtain ⟨v2, l2_, d2, ds2, p2, q2, rfl, rfl, rfl, h2, hA⟩ := trodAll_cons hA
  obtain ⟨v3, l3_, d3, ds3, p3, q3, rfl, rfl, rfl, h3, hA⟩ := trodAll_cons hA
  obtain ⟨rfl, rfl, rfl⟩ := trodAll_nil hA
  obtain ⟨rfl, rfl⟩ := trodVars_none hV
  obtain rfl : args = #[v1, v2, v3] := by cases args; simp_all
  obtain ⟨N0, L0, A0, n0, c0, l0, rfl, hNL0, hl0⟩ := trial_arg (hval 0 53 v1 rfl rfl) h1
  obtain ⟨b1, rfl, hb1⟩ := byte_arg (hval 1 5 v2 rfl rfl) h2
  obtain ⟨A2, n2, c2, l2, rfl, hl2⟩ := bytes_arg (hval 2 51 v3 rfl rfl) h3
  refine (Gives.c (found_law hNL0.1 hNL0.2 hb1 W hl2)).mono fun e W' ⟨he, hb⟩ => ?_
  subst he
  exact ⟨_, rfl, post_true hW' rfl rfl rfl (by decide) hb⟩

theorem stripFound_over : Rows.stripFoundRow.holds Try.pinned (OpenSpec.ofChange Rows.stripFoundSpec) :=
  OpenClaim.holds_of_wide 8 Try.f8 rfl rfl rfl rfl rfl rfl rfl ⟨rfl, rfl, rfl, rfl, rfl⟩ rfl rfl rfl rfl rfl (by kernel_rfl) Try.func8 (by kernel_rfl)
    (of_decide_eq_true (by kernel_rfl)) (by unfold Func.isWrapper; first | (rw [if_pos (by decide +kernel)]; kernel_rfl) | (rw [if_neg (by decide +kernel)]; exact ⟨rfl, rfl⟩))
    (fun os started H enc _ => stripFound_lifted os started H enc)

/-- StripFound returns true. -/
theorem stripFound_holds : Rows.StripFoundSaid := stripFound_over
#print axioms stripFound_holds
end Go.Proofs.Ytpnkbjdeiedhlaa
