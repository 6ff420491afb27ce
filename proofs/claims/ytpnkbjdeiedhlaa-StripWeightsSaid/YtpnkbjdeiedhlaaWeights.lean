/- StripWeights: the weight is what is left of both answers to any strip, together: the call returns true for every input. -/
import Derived.Test.YtpnkbjdeiedhlaaPD
import Derived.Test.YtpnkbjdeiedhlaaAR
namespace Go.Proofs.Ytpnkbjdeiedhlaa
open Go.ChangeShapes Go.WideShapes Go.ChangeAt Go.RowKit Go.Lib Go.Shelf
open St

/-- One of three. -/
def pk (a b c : Nat) (m : Nat) : Nat := if m = 0 then a else if m = 1 then b else c
theorem Blk.pk3 {w : World} {B a b c : Nat} (h : Blk w B [.int .u8 (a : Int), .int .u8 (b : Int), .int .u8 (c : Int)]) {j : Nat} (hj : j < 3) : w.cell? ⟨B, j, none⟩ = some (.int .u8 (pk a b c j : Int)) := by
  have : j = 0 ∨ j = 1 ∨ j = 2 := by omega
  rcases this with rfl | rfl | rfl
  · exact h.cell 0 _ rfl
  · exact h.cell 1 _ rfl
  · exact h.cell 2 _ rfl
theorem pk_le {a b c n : Nat} (ha : a ≤ n) (hb : b ≤ n) (hc : c ≤ n) (m : Nat) : pk a b c m ≤ n := by
  unfold pk
  split
  · exact ha
  · split <;> assumption

set_option maxRecDepth 1000000 in
set_option maxHeartbeats 8000000 in
theorem weights_law {a b c d e f L M : Nat} (ha : a ≤ 255) (hb : b ≤ 255) (hc : c ≤ 255) (hd : d ≤ 255) (he : e ≤ 255) (hf : f ≤ 255) (hL : L ≤ 255) (hM : M ≤ 255) (w : World) : Gives 10 #[.agg #[.int .u8 (a : Int), .int .u8 (b : Int), .int .u8 (c : Int)], .agg #[.int .u8 (d : Int), .int .u8 (e : Int), .int .u8 (f : Int)], .int .u8 (L : Int), .int .u8 (M : Int)] (.bool true) w := by
  unfold Gives
  obtain ⟨i0, hi0, hz0, hz1, hz2⟩ := info_parts info3
  have I := ((Held.from (w0 := w) (Below.refl w.heap.size w) (Nat.le_refl _)).allocB [Value.int .u8 (a : Int), .int .u8 (b : Int), .int .u8 (c : Int)] 69).allocB [Value.int .u8 (d : Int), .int .u8 (e : Int), .int .u8 (f : Int)] 69
  simp only [World.size_alloc] at I
  obtain ⟨k, hk⟩ : ∃ k, 1 + L % 3 = k := ⟨_, rfl⟩
  have hk3 : 1 ≤ k ∧ k ≤ 3 := by omega
  obtain ⟨n, hn⟩ : ∃ n, 1 + M % 12 = n := ⟨_, rfl⟩
  have hn12 : 1 ≤ n ∧ n ≤ 12 := by omega
  have wL : IntKind.i64.wrap (L : Int) = (L : Int) := i64_in (by omega) (by omega)
  obtain ⟨k0, hk0⟩ : ∃ k0, L % 3 = k0 := ⟨_, rfl⟩
  have mL : (L : Int).tmod 3 = (k0 : Int) := by rw [Int.tmod_eq_emod_of_nonneg (by omega)]; omega
  have mL2 : IntKind.i64.wrap (1 + (k0 : Int)) = (k : Int) := by rw [i64_in (by omega) (by omega)]; omega
  have HKL := Lib.hid hk
  have HNM := Lib.hid hn
  -- the state and the strip
  obtain ⟨sF, hsF⟩ : ∃ sF : Nat → Nat, sF = fun m => pk a b c m % 5 := ⟨_, rfl⟩
  obtain ⟨iF, hiF⟩ : ∃ iF : Nat → Nat, iF = fun m => pk d e f m % (sF m + 1) := ⟨_, rfl⟩
  have hs4 : ∀ m, sF m ≤ 4 := fun m => by rw [hsF]; show pk a b c m % 5 ≤ 4; omega
  have his : ∀ m, iF m ≤ sF m := fun m => by rw [hiF]; exact Nat.le_of_lt_succ (Nat.mod_lt _ (Nat.succ_pos _))
  have hsm : ∀ m, pk a b c m % 5 = sF m := fun m => by rw [hsF]
  have him : ∀ m, pk d e f m % (sF m + 1) = iF m := fun m => by rw [hiF]
  have hp1 := fun m => pk_le ha hb hc m
  have hp2 := fun m => pk_le hd he hf m
  have HS4 := Lib.hid hs4
  have HIS := Lib.hid his
  have HSM := Lib.hid hsm
  have HIM := Lib.hid him
  have HP1 := Lib.hid hp1
  have HP2 := Lib.hid hp2
  obtain ⟨cs, hrw, hmk⟩ := mk31 (n := k) (by omega)
  have HRW := Lib.hid hrw
  clear hk0 hk hn hsF hiF hs4 his hsm him hp1 hp2 hrw
  go_enter Try.func10, Try.ntmps10
  go_upto_region 3 with fail
  change Held ((w.alloc (.cells #[.int .u8 (a : Int), .int .u8 (b : Int), .int .u8 (c : Int)] 69)).alloc (.cells #[.int .u8 (d : Int), .int .u8 (e : Int), .int .u8 (f : Int)] 69)) _ at I
  generalize World.alloc _ _ = w1 at I ⊢
  clear wL mL mL2
  go_wp2_with fail
  go_loopw [10, 13] (fun s10 s13 wr => ∃ j : Nat, j ≤ k ∧ s13 = .int .i64 j ∧ Aside (wr.ownsRow w1.heap.size 3 1 s10 j (nums (ln j sF))) ∧ Aside (Below w1.heap.size w1 wr)) (fun _ s13 _ => k - (intOf s13).toNat)
  case atStart => exact ⟨0, Nat.zero_le _, rfl, World.ownsRow_nil w1 _ 3 1, Below.refl _ _⟩
  case round =>
    obtain ⟨j, hj, rfl, HO, HB⟩ := hrel
    have J := I.next HB.out
    have hw1 : IntKind.i64.wrap ((j : Int) + 1) = (j : Int) + 1 := i64_in (by omega) (by omega)
    by_cases hlt : j < k
    · have hlt' : (j : Int) < (k : Int) := by omega
      have hj3 : (j : Int) < 3 := by omega
      have q0 := J.now.1.2.pk3 (j := j) (by omega)
      have h1 := HP1.out j
      have h2 := HSM.out j
      generalize pk a b c j = x at q0 h1 h2
      have wx : IntKind.i64.wrap (x : Int) = (x : Int) := i64_in (by omega) (by omega)
      have mx : (x : Int).tmod 5 = (sF j : Int) := by rw [Int.tmod_eq_emod_of_nonneg (by omega), ← h2]; omega
      have HS := Lib.hid (show nums (ln (j + 1) sF) = nums (ln j sF) ++ [.int .i64 (sF j : Int)] by unfold ln; rw [lst_snoc, nums_snoc])
      have hsz := HB.out.size
      clear h2
      go_wp2_with (at_builtin; refine wpList_append_own _ rfl _ _ 31 rfl w1.heap.size 3 i0 (.int .i64 0) 1 8 Try.underlying31 hi0 hz0 hz1 hz2 rfl (by decide) _ _ _ rfl (HO.out.alloc _) ⟨wr.heap.size, 0, none⟩ 1 1 [.int .i64 (sF j : Int)] rfl rfl (cells_new _ [.int .i64 (sF j : Int)] _ _ rfl) (by intro u hu; simp at hu; subst hu; rfl) ?c3 ?c4 ?c5 ?_)
      case c3 => unfold maxLen; omega
      case c4 => omega
      case c5 => simp; omega
      intro v' w4 hown' hgrow _
      have HO' := Lib.hid hown'
      have HB4 := Lib.hid ((HB.out.alloc HB.out.size _).grown hgrow (by simp; omega) (by intro j hj; exact own_base' HO.out j hj))
      clear hown' hgrow
      go_wp2
      go_roundw
      case measure => simp [intOf]; omega
      case rel => exact ⟨j + 1, by omega, by go_num, (show Aside _ from by rw [HS.out]; exact HO'.out), HB4.out⟩
    · obtain rfl : k = j := by omega
      obtain ⟨A', c', es, hr⟩ := own_reads HO.out (by omega)
      subst es
      replace I := J.with (.reads hr)
      clear J hr HO
      obtain ⟨w2, hw2⟩ : ∃ x, x = wr := ⟨_, rfl⟩
      subst hw2
      clear HB hw1 hlt
      go_upto_region 7 with fail
      go_cut [11, 12] (fun s11 s12 wx => ∃ B1 B2, s11 = .slice (some ⟨B1, 0, none⟩) k k ∧ s12 = .slice (some ⟨B2, 0, none⟩) k k ∧ Aside ((B1 ≠ B2 ∧ w2.heap.size ≤ B1 ∧ w2.heap.size ≤ B2) ∧ (Rw wx B1 k (fun _ => 0) ∧ Rw wx B2 k (fun _ => 0)) ∧ Below w2.heap.size w2 wx))
      case first =>
        go_region_with fail
        all_goals
          go_wp2_with fail
          have kb : Below w2.heap.size w2 ((w2.drew.alloc (.cells cs.toArray 3)).alloc (.cells cs.toArray 3)) := (((Below.refl w2.heap.size w2).drew.alloc (by simp) _).alloc (by simp) _)
          have k1 := (HRW.out w2.drew).later (Below.refl _ _ |>.alloc (Nat.le_refl _) (.cells cs.toArray 3))
          have k2 := HRW.out (w2.drew.alloc (.cells cs.toArray 3))
          simp only [World.size_alloc, World.size_drew] at k1 k2
          go_meet
          first
            | exact ⟨_, _, rfl, rfl, ⟨by omega, by omega, by omega⟩, ⟨k1, k2⟩, kb⟩
            | exact ⟨_, _, rfl, rfl, ⟨by omega, by omega, by omega⟩, ⟨k2, k1⟩, kb⟩
      case rest =>
        obtain ⟨B1, B2, rfl, rfl, HC⟩ := hcut
        obtain ⟨hne, hB1, hB2⟩ := HC.out.1
        have hw2 : w.heap.size ≤ w2.heap.size := I.now.1.1.1.size
        go_wp2_with fail
        go_loopw [56] (fun s56 wr => ∃ m : Nat, m ≤ k ∧ s56 = .int .i64 m ∧ Aside (Rw wr B1 k (fun q => (ysF sF iF m q : Int))) ∧ Aside (Rw wr B2 k (fun q => (noF sF iF m q : Int))) ∧ Aside (Below w2.heap.size w2 wr)) (fun s56 _ => k - (intOf s56).toNat)
        case atStart => exact ⟨0, Nat.zero_le _, rfl, HC.out.2.1.1.congr (fun q _ => by simp [ysF]), HC.out.2.1.2.congr (fun q _ => by simp [noF]), HC.out.2.2⟩
        case round =>
          obtain ⟨m, hm, rfl, HY, HZ, HB⟩ := hrel
          clear HC
          have hw1 : IntKind.i64.wrap ((m : Int) + 1) = (m : Int) + 1 := i64_in (by omega) (by omega)
          by_cases hlt : m < k
          · have hlt' : (m : Int) < (k : Int) := by omega
            have hm3 : (m : Int) < 3 := by omega
            have J := I.at HB.out
            obtain ⟨b', off, eA, hcell⟩ := J.2.at_lst (by omega)
            subst eA
            have q1 := hcell m hlt
            have q2 := J.1.2.pk3 (j := m) (by omega)
            have h1 := HP2.out m
            have h2 := HIM.out m
            have h3 := HS4.out m
            have h4 := HIS.out m
            have hst := ys_step sF iF (j := m) (k := k) HIS.out
            have hyb := ys_le sF iF HIS.out HS4.out m m
            have hyc := ys_le sF iF HIS.out HS4.out m (m + 1)
            have r1 := HY.out.cell m hlt
            have f1 := HY.out.free m
            have z1 := HY.out.lt
            have r2 := HZ.out.cell m hlt
            have f2 := HZ.out.free m
            have z2 := HZ.out.lt
            have HY1 := Lib.hid (HY.out.set (g := fun q => if q = m then (ysF sF iF m m : Int) + (iF m : Int) else (ysF sF iF m q : Int)) hlt (v := (ysF sF iF m m : Int) + (iF m : Int)) (fun q _ => rfl))
            have HZ1 := Lib.hid ((HZ.out.other hne 0 (.int .i64 0)))
            have HSTEP := Lib.hid hst
            clear hst hcell J HZ1
            generalize hq0 : ysF sF iF m m = y0 at r1 HY1 hyb
            generalize hn0 : sF m = n0 at q1 h2 h3 h4
            generalize hi0' : iF m = i0' at h2 h4 HY1
            generalize hx0 : pk d e f m = x0 at q2 h1 h2
            have wx : IntKind.i64.wrap (x0 : Int) = (x0 : Int) := i64_in (by omega) (by omega)
            have hz : ((n0 : Int) + 1 == 0) = false := beq_eq_false_iff_ne.2 (by omega)
            have hz' : ¬ ((n0 : Int) + 1 = 0) := by omega
            have mx2 : (x0 : Int) % ((n0 : Int) + 1) = (i0' : Int) := by rw [← h2, Int.natCast_emod]; rfl
            have mx : (x0 : Int).tmod ((n0 : Int) + 1) = (i0' : Int) := by rw [Int.tmod_eq_emod_of_nonneg (by omega)]; exact mx2
            have HQ := Lib.hid (And.intro hq0 (And.intro hn0 (And.intro hi0' hx0)))
            clear hq0 hn0 hi0' hx0 h2
            go_upto_region 13 with fail
            have HZ1 := Lib.hid (HZ.out.other hne m (.int .i64 ((y0 : Int) + (i0' : Int))))
            have HB1 := Lib.hid (HB.out.setCell (p := ⟨B1, m, none⟩) hB1 (.int .i64 ((y0 : Int) + (i0' : Int))))
            clear r1 f1 z1 r2 f2 z2 q1 q2 HY HZ HB hyb wx hz hz' mx mx2 h1
            generalize World.setCell _ _ _ = wa at HY1 HZ1 HB1 ⊢
            have r2 := HZ1.out.cell m hlt
            have f2 := HZ1.out.free m
            have z2 := HZ1.out.lt
            have HZ2 := Lib.hid (HZ1.out.set (g := fun q => if q = m then (noF sF iF m m : Int) + ((n0 : Int) - (i0' : Int)) else (noF sF iF m q : Int)) hlt (v := (noF sF iF m m : Int) + ((n0 : Int) - (i0' : Int))) (fun q _ => rfl))
            have hzb := (ys_le sF iF HIS.out HS4.out m m).2
            generalize hq1 : noF sF iF m m = y1 at r2 HZ2 hzb
            have HQ1 := Lib.hid hq1
            clear hq1
            go_upto_region 14 with fail
            have HY2 := Lib.hid (HY1.out.other (Ne.symm hne) m (.int .i64 ((y1 : Int) + ((n0 : Int) - (i0' : Int)))))
            have HB2 := Lib.hid (HB1.out.setCell (p := ⟨B2, m, none⟩) hB2 (.int .i64 ((y1 : Int) + ((n0 : Int) - (i0' : Int)))))
            clear r2 f2 z2 HY1 HZ1 HB1 hzb
            generalize World.setCell _ _ _ = wb at HY2 HZ2 HB2 ⊢
            by_cases hlt2 : m + 1 < k
            · have r1 := HY2.out.cell (m + 1) hlt2
              have f1 := HY2.out.free (m + 1)
              have z1 := HY2.out.lt
              simp only [if_neg (show ¬ m + 1 = m by omega)] at r1
              have HY3 := Lib.hid (HY2.out.set (g := fun q => (ysF sF iF (m + 1) q : Int)) hlt2 (v := (ysF sF iF m (m + 1) : Int) + ((n0 : Int) - (i0' : Int))) (fun q hq => by
                rw [HSTEP.out.1 q hq, HQ.out.1, HQ.out.2.1, HQ.out.2.2.1]))
              have hl3 : (m : Int) + 1 < (k : Int) := by omega
              have ht3 : ((m : Int) + 1).toNat = m + 1 := by omega
              have hyb := (ys_le sF iF HIS.out HS4.out m (m + 1)).1
              generalize ysF sF iF m (m + 1) = y2 at r1 HY3 hyb
              go_upto_region 16 with fail
              have HZ3 := Lib.hid (HZ2.out.other hne (m + 1) (.int .i64 ((y2 : Int) + ((n0 : Int) - (i0' : Int)))))
              have HB3 := Lib.hid (HB2.out.setCell (p := ⟨B1, m + 1, none⟩) hB1 (.int .i64 ((y2 : Int) + ((n0 : Int) - (i0' : Int)))))
              clear r1 f1 z1 HY2 HZ2 HB2 hyb
              generalize World.setCell _ _ _ = wc at HY3 HZ3 HB3 ⊢
              have r2 := HZ3.out.cell (m + 1) hlt2
              have f2 := HZ3.out.free (m + 1)
              have z2 := HZ3.out.lt
              simp only [if_neg (show ¬ m + 1 = m by omega)] at r2
              have HZ4 := Lib.hid (HZ3.out.set (g := fun q => (noF sF iF (m + 1) q : Int)) hlt2 (v := (noF sF iF m (m + 1) : Int) + (i0' : Int)) (fun q hq => by
                rw [HSTEP.out.2 q hq, HQ1.out, HQ.out.2.1, HQ.out.2.2.1]))
              have hyb := (ys_le sF iF HIS.out HS4.out m (m + 1)).2
              generalize noF sF iF m (m + 1) = y3 at r2 HZ4 hyb
              go_wp2_with fail
              have HY4 := Lib.hid (HY3.out.other (Ne.symm hne) (m + 1) (.int .i64 ((y3 : Int) + (i0' : Int))))
              have HB4 := Lib.hid (HB3.out.setCell (p := ⟨B2, m + 1, none⟩) hB2 (.int .i64 ((y3 : Int) + (i0' : Int))))
              clear r2 f2 z2 HY3 HZ3 HB3 hyb
              go_roundw
              case measure => simp [intOf]; omega
              case rel => exact ⟨m + 1, by omega, by go_num, HY4.out, HZ4.out, HB4.out⟩
            · have hl3 : ¬ (m : Int) + 1 < (k : Int) := by omega
              have HY3 := Lib.hid (HY2.out.congr (g := fun q => (ysF sF iF (m + 1) q : Int)) (fun q hq => by
                rw [HSTEP.out.1 q hq, HQ.out.1, HQ.out.2.2.1, if_neg (by omega)]))
              have HZ3 := Lib.hid (HZ2.out.congr (g := fun q => (noF sF iF (m + 1) q : Int)) (fun q hq => by
                rw [HSTEP.out.2 q hq, HQ1.out, HQ.out.2.1, HQ.out.2.2.1, if_neg (by omega)]))
              clear HY2 HZ2
              go_wp2_with fail
              go_roundw
              case measure => simp [intOf]; omega
              case rel => exact ⟨m + 1, by omega, by go_num, HY3.out, HZ3.out, HB2.out⟩
          · obtain rfl : k = m := by omega
            have R0 := I.at HB.out
            have J := (((Held.from (w0 := w) (b := w.heap.size) R0.1.1.1 R0.1.1.1.size).with (.reads R0.2)).with (.reads (HY.out.reads (by omega)))).with (.reads (HZ.out.reads (by omega)))
            clear R0 I HY HZ HB hlt hw1
            obtain ⟨w5, hw5⟩ : ∃ x, x = wr := ⟨_, rfl⟩
            subst hw5
            obtain ⟨n0, hn0⟩ : ∃ n0, M % 12 = n0 := ⟨_, rfl⟩
            have hnn := HNM.out
            have wM : IntKind.i64.wrap (M : Int) = (M : Int) := i64_in (by omega) (by omega)
            have mM : (M : Int).tmod 12 = (n0 : Int) := by rw [Int.tmod_eq_emod_of_nonneg (by omega)]; omega
            have mM2 : IntKind.i64.wrap (1 + (n0 : Int)) = (n : Int) := by rw [i64_in (by omega) (by omega)]; omega
            have hst := stF_tubes (k := k) HS4.out
            have hle := stF_le (k := k) (n := sF) (i := iF) HIS.out
            obtain ⟨ha1, ha2⟩ := aft_tubes hle
            obtain ⟨e1, e2⟩ := stF_ys hk3 (n := sF) (i := iF) HIS.out
            have hsum := wt_succ hle (n - 1)
            rw [show n - 1 + 1 = n by omega, ← e1, ← e2] at hsum
            rw [← e1] at ha1
            rw [← e2] at ha2
            have h24a : ∀ W, Reads W A' k (ln k sF) → Gives 24 #[.slice A' k c', .int .i64 (n : Int)] (.tuple #[.int .i64 ((stF k sF).wt n : Int), .int .i64 0]) W := fun W h => by
              have := Weight_calls A' k c' _ (n : Int) W h
              obtain ⟨g1, g2⟩ := ln_wt hk3 (f := sF) (by omega) (n := n) (by omega)
              rwa [g1, g2] at this
            have h24b : ∀ W, Reads W (some ⟨B1, 0, none⟩) k (ln k (ysF sF iF k)) → Gives 24 #[.slice (some ⟨B1, 0, none⟩) k k, .int .i64 ((n : Int) - 1)] (.tuple #[.int .i64 ((stF k (ysF sF iF k)).wt (n - 1) : Int), .int .i64 0]) W := fun W h => by
              have := Weight_calls (some ⟨B1, 0, none⟩) k k _ ((n - 1 : Nat) : Int) W h
              obtain ⟨g1, g2⟩ := ln_wt hk3 (f := ysF sF iF k) (by omega) (n := n - 1) (by omega)
              rwa [g1, g2, show ((n - 1 : Nat) : Int) = (n : Int) - 1 by omega] at this
            have h24c : ∀ W, Reads W (some ⟨B2, 0, none⟩) k (ln k (noF sF iF k)) → Gives 24 #[.slice (some ⟨B2, 0, none⟩) k k, .int .i64 ((n : Int) - 1)] (.tuple #[.int .i64 ((stF k (noF sF iF k)).wt (n - 1) : Int), .int .i64 0]) W := fun W h => by
              have := Weight_calls (some ⟨B2, 0, none⟩) k k _ ((n - 1 : Nat) : Int) W h
              obtain ⟨g1, g2⟩ := ln_wt hk3 (f := noF sF iF k) (by omega) (n := n - 1) (by omega)
              rwa [g1, g2, show ((n - 1 : Nat) : Int) = (n : Int) - 1 by omega] at this
            have hws := (smF_wt hk3 sF (n := n)).1
            have hwl := smF_small hk3.2 hn12.2 HS4.out k (n := n)
            rw [hws] at hwl
            have hwl2 : k * 49152 ≤ 3 * 49152 := Nat.mul_le_mul_right _ hk3.2
            generalize (stF k (ysF sF iF k)).wt (n - 1) = wa at h24b hsum
            generalize (stF k (noF sF iF k)).wt (n - 1) = wb at h24c hsum
            generalize hW0 : (stF k sF).wt n = w0 at h24a hsum hws hwl
            have hb0 : w0 ≤ 1000000 := by omega
            have wab : IntKind.i64.wrap ((wa : Int) + (wb : Int)) = (w0 : Int) := by rw [i64_in (by omega) (by omega)]; omega
            have ws1 : ((w0 : Int) != (w0 : Int)) = false := by simp
            have H24a := Lib.hid h24a
            have H24b := Lib.hid h24b
            have H24c := Lib.hid h24c
            have HWS := Lib.hid hws
            have HW0 := Lib.hid hW0
            clear h24a h24b h24c hws hW0 hsum hwl hwl2 hle ha1 ha2 e1 e2 hnn hn0 hne hB1 hB2
            go_upto_region 24 with (first
              | (go_at_call 24; (with_reducible refine (Gives.c (H24a.out _ J.now.1.1.2)).mono ?_); rintro e' w6 ⟨rfl, hb⟩; replace J := J.next hb; clear hb)
              | (go_at_call 24; (with_reducible refine (Gives.c (H24b.out _ J.now.1.2)).mono ?_); rintro e' w7 ⟨rfl, hb⟩; replace J := J.next hb; clear hb)
              | (go_at_call 24; (with_reducible refine (Gives.c (H24c.out _ J.now.2)).mono ?_); rintro e' w8 ⟨rfl, hb⟩; replace J := J.next hb; clear hb))
            clear wab ws1 mM mM2 wM H24b H24c
            have J2 := (Held.from (w0 := w) (b := w.heap.size) J.now.1.1.1 J.now.1.1.1.size).with (.reads J.now.1.1.2)
            clear J
            go_wp2_with fail
            go_loop [150, 24, 25] (fun s150 s24 s25 => ∃ j : Nat, j ≤ k ∧ s150 = .int .i64 j ∧ s24 = .int .i64 (smF k n sF j : Int) ∧ s25 = .int .i64 (ctF sF j : Int)) (fun s150 _ _ => k - (intOf s150).toNat)
            case atStart => exact ⟨0, Nat.zero_le _, rfl, rfl, rfl⟩
            case round =>
              obtain ⟨j, hj, rfl, rfl, rfl⟩ := hrel
              have hw1 : IntKind.i64.wrap ((j : Int) + 1) = (j : Int) + 1 := i64_in (by omega) (by omega)
              by_cases hlt : j < k
              · have hlt' : (j : Int) < (k : Int) := by omega
                obtain ⟨b', off, eA, hcell⟩ := J2.now.2.at_lst (by omega)
                subst eA
                have q1 := hcell j hlt
                have hn4 := HS4.out j
                have c1 := ctF_small HS4.out j
                have c2 := smF_small hk3.2 hn12.2 HS4.out j (n := n)
                have hjb : j * 49152 ≤ 3 * 49152 := Nat.mul_le_mul_right _ (by omega)
                have E1 := Lib.hid (show ctF sF (j + 1) = ctF sF j + sF j from rfl)
                have E2 := Lib.hid (show smF k n sF (j + 1) = smF k n sF j + sF j * wsum n (k - j) from rfl)
                generalize ctF sF j = ct at c1 E1 ⊢
                generalize smF k n sF j = sm at c2 E2 ⊢
                generalize sF j = n0 at q1 hn4 E1 E2
                have wct : IntKind.i64.wrap ((ct : Int) + (n0 : Int)) = (ct : Int) + (n0 : Int) := i64_in (by omega) (by omega)
                obtain ⟨kj, hkj⟩ : ∃ kj, kj = k - j := ⟨_, rfl⟩
                have wkj : IntKind.i64.wrap ((k : Int) - (j : Int)) = (kj : Int) := by rw [i64_in (by omega) (by omega)]; omega
                have hkj3 : kj ≤ 3 := by omega
                have hkjE : (k : Int) - (j : Int) = (kj : Int) := by omega
                rw [← hkj] at E2
                have HKJ := Lib.hid hkjE
                clear hcell hkj
                go_wp2_with fail
                go_loop [28, 24] (fun s28 s24 => ∃ i : Nat, i ≤ kj ∧ s28 = .int .i64 i ∧ s24 = .int .i64 ((sm + n0 * wsum n i : Nat) : Int)) (fun s28 _ => kj - (intOf s28).toNat)
                case atStart => exact ⟨0, Nat.zero_le _, rfl, by rw [show sm + n0 * wsum n 0 = sm from by simp [wsum]]⟩
                case round =>
                  obtain ⟨i, hi, rfl, rfl⟩ := hrel
                  have hw2 : IntKind.i64.wrap ((i : Int) + 1) = (i : Int) + 1 := i64_in (by omega) (by omega)
                  by_cases hlt2 : i < kj
                  · have hlt2' : (i : Int) < (k : Int) - (j : Int) := by rw [HKJ.out]; omega
                    have h44 : ∀ W, Quiet 44 #[.int .i64 (n : Int), .int .i64 (i : Int)] (.int .i64 (bin n i : Int)) W := fun W => ways_calls n (by omega) i (by omega) W
                    have hbn := bin_small (q := i) hn12.2
                    have hwn := wsum_small hn12.2 i (by omega)
                    have E3 := Lib.hid (show wsum n (i + 1) = wsum n i + bin n i from rfl)
                    have hmul : n0 * wsum n i ≤ 4 * (3 * 4096) := Nat.mul_le_mul hn4 (Nat.le_trans hwn (Nat.mul_le_mul_right _ (by omega)))
                    have hmul2 : n0 * bin n i ≤ 4 * 4096 := Nat.mul_le_mul hn4 hbn
                    have hp0 : n0 * (wsum n i + bin n i) = n0 * wsum n i + n0 * bin n i := Nat.mul_add ..
                    have hp1 : (n0 : Int) * (bin n i : Int) = ((n0 * bin n i : Nat) : Int) := (Int.natCast_mul ..).symm
                    have HP0 := Lib.hid hp0
                    have H44 := Lib.hid h44
                    obtain ⟨x, hx⟩ : ∃ x, x = sm + n0 * wsum n i := ⟨_, rfl⟩
                    obtain ⟨y, hy⟩ : ∃ y, y = n0 * bin n i := ⟨_, rfl⟩
                    rw [← hx]
                    rw [← hy] at hp1
                    have wy : IntKind.i64.wrap ((n0 : Int) * (bin n i : Int)) = (y : Int) := by rw [hp1]; exact i64_in (by omega) (by omega)
                    have wxy : IntKind.i64.wrap ((x : Int) + (y : Int)) = (x : Int) + (y : Int) := i64_in (by omega) (by omega)
                    have HXY := Lib.hid (show x + y = sm + n0 * wsum n (i + 1) by rw [E3.out, HP0.out, hx, hy]; omega)
                    have bx : x ≤ 1000000 ∧ y ≤ 1000000 := by omega
                    clear h44 hp0 hx hy hmul hmul2 hwn
                    generalize bin n i = bb at H44 hp1 wy hbn
                    clear E3 HP0
                    have HP1 := Lib.hid hp1
                    clear hp1 c1 c2 hjb
                    go_wp2_with (go_at_call 44; (with_reducible refine (Quiet.c (H44.out _)).mono ?_); rintro e' wq ⟨rfl, rfl⟩)
                    go_round
                    case measure => simp [intOf]; omega
                    case rel => exact ⟨i + 1, by omega, by go_num, by rw [← HXY.out]; go_num⟩
                  · obtain rfl : kj = i := by omega
                    have hlt2' : ¬ (kj : Int) < (k : Int) - (j : Int) := by rw [HKJ.out]; omega
                    rw [← E2.out]
                    clear c1 c2 hjb hkjE
                    go_wp2_with fail
                    go_round
                    case measure => simp [intOf]; omega
                    case rel => exact ⟨j + 1, by omega, by go_num, rfl, by rw [E1.out]; go_num⟩
              · obtain rfl : k = j := by omega
                have hct := (smF_wt hk3 sF (n := n)).2
                rw [HWS.out, hct]
                have hst16 : (stF k sF).tubes ≤ 16 := by omega
                obtain ⟨g1, g2⟩ := ln_ask hk3 (f := sF) hst16
                have h26 : ∀ W, Reads W A' k (ln k sF) → Gives 26 #[.slice A' k c'] (.tuple #[.int .i64 (bndF (stF k sF) : Int), .int .i64 0]) W := fun W h => by
                  have := Bound_calls A' k c' _ W h
                  rwa [g1, g2] at this
                have h28 : ∀ W, Reads W A' k (ln k sF) → Gives 28 #[.slice A' k c'] (.tuple #[.int .i64 (ndF (stF k sF) : Int), .int .i64 0]) W := fun W h => by
                  have := Needed_calls A' k c' _ W h
                  rwa [g1, g2] at this
                have h24w : ∀ (m : Nat) W, m ≤ 40 → Reads W A' k (ln k sF) → Gives 24 #[.slice A' k c', .int .i64 (m : Int)] (.tuple #[.int .i64 ((stF k sF).wt m : Int), .int .i64 0]) W := fun m W hm h => by
                  have := Weight_calls A' k c' _ (m : Int) W h
                  obtain ⟨x1, x2⟩ := ln_wt hk3 (f := sF) hst16 (n := m) hm
                  rwa [x1, x2] at this
                obtain ⟨o1, o2, o3⟩ := bndF_spec hst16
                have o4 := bndF_le_ndF hst16
                have o5 : (stF k sF).tubes ≤ 1 → ndF (stF k sF) = 0 := fun h => by
                  have := ndF_le (n := 0) (s := stF k sF) h
                  omega
                have o6 := ndF_pot (stF k sF)
                have o7 : pot (stF k sF) ≤ 48 := by unfold pot; unfold tubes at hst16; omega
                have o8 : (stF k sF).wt 0 = (stF k sF).tubes := by simp only [wt, tubes, tri]; simp
                generalize stF k sF = S at *
                generalize hT : S.tubes = T at *
                generalize hbd : bndF S = bb at *
                generalize hnd : ndF S = nn at *
                have t1 : ((w0 : Int) != (w0 : Int)) = false := by simp
                have t2 : decide ((bb : Int) < 0) = false := decide_eq_false (by omega)
                have t3 : decide ((20 : Int) < (bb : Int)) = false := decide_eq_false (by omega)
                have t4 : decide (nn < bb) = false := decide_eq_false (by omega)
                by_cases hT1 : T ≤ 1
                · have hnn0 : nn = 0 := o5 hT1
                  have hbb0 : bb = 0 := by omega
                  subst hbb0
                  subst hnn0
                  have H26 := Lib.hid h26
                  have H28 := Lib.hid h28
                  have t5 : (T : Int) ≤ 1 := by omega
                  clear h26 h28 h24w o1 o2 o3 o4 o5 o6 o7 o8 g1 g2 hct hbd hnd hT t4 t2 t3 hst16
                  go_wp2_with (first
                    | (go_at_call 26; (with_reducible refine (Gives.c (H26.out _ J2.now.2)).mono ?_); rintro e' w6 ⟨rfl, hb⟩; replace J2 := J2.next hb; clear hb)
                    | (go_at_call 28; (with_reducible refine (Gives.c (H28.out _ J2.now.2)).mono ?_); rintro e' w7 ⟨rfl, hb⟩; replace J2 := J2.next hb; clear hb)
                    | (go_at_call 15; (with_reducible refine (Gives.c (works_calls _)).mono ?_); rintro e' w8 ⟨rfl, hb⟩; replace J2 := J2.next hb; clear hb))
                  go_ret
                  exact ⟨rfl, J2.now.1⟩
                · have hbk : bOk S 0 = false := by
                    unfold bOk
                    rw [o8, hT]
                    simp
                    omega
                  have hb1 : bb ≠ 0 := fun h => by
                    rw [h, hbk] at o1
                    cases o1
                  obtain ⟨q, hq⟩ : ∃ q, bb = q + 1 := ⟨bb - 1, by omega⟩
                  have v1 : S.wt bb ≤ 2 ^ bb := by
                    unfold bOk at o1
                    rw [hT, decide_eq_false hT1, Bool.false_or, decide_eq_true_eq] at o1
                    exact o1
                  have v2 : 2 ^ q < S.wt q := by
                    have h := o2 q (by omega)
                    unfold bOk at h
                    rw [hT, decide_eq_false hT1, Bool.false_or, decide_eq_false_iff_not] at h
                    omega
                  have p1 : 2 ^ bb ≤ 2048 := Nat.le_trans (Nat.pow_le_pow_right (by omega) o3) (by decide)
                  have p2 : 2 ^ q ≤ 2048 := Nat.le_trans (Nat.pow_le_pow_right (by omega) (show q ≤ 11 by omega)) (by decide)
                  obtain ⟨P, hP⟩ : ∃ P, P = 2 ^ bb := ⟨_, rfl⟩
                  obtain ⟨P', hP'⟩ : ∃ P', P' = 2 ^ q := ⟨_, rfl⟩
                  rw [← hP] at v1 p1
                  rw [← hP'] at v2 p2
                  have wK : IntKind.i64.wrap ((2 : Int) ^ bb) = (P : Int) := by
                    rw [show ((2 : Int) ^ bb) = (P : Int) by rw [hP, Int.natCast_pow]; rfl]
                    exact i64_in (by omega) (by omega)
                  have wK' : IntKind.i64.wrap ((2 : Int) ^ q) = (P' : Int) := by
                    rw [show ((2 : Int) ^ q) = (P' : Int) by rw [hP', Int.natCast_pow]; rfl]
                    exact i64_in (by omega) (by omega)
                  have h24x := fun W => h24w bb W (by omega)
                  have h24y : ∀ W, Reads W A' k (ln k sF) → Gives 24 #[.slice A' k c', .int .i64 ((bb : Int) - 1)] (.tuple #[.int .i64 (S.wt q : Int), .int .i64 0]) W := fun W h => by
                    have := h24w q W (by omega) h
                    rwa [show (q : Int) = (bb : Int) - 1 by omega] at this
                  generalize S.wt bb = x1 at h24x v1
                  generalize S.wt q = x2 at h24y v2
                  have H26 := Lib.hid h26
                  have H28 := Lib.hid h28
                  have H24x := Lib.hid h24x
                  have H24y := Lib.hid h24y
                  have t5 : ¬ (T : Int) ≤ 1 := by omega
                  have t6 : decide (x1 ≤ P) = true := decide_eq_true v1
                  have t7 : decide (P' < x2) = true := decide_eq_true v2
                  have t8 : (bb : Int) ≤ 64 := by omega
                  have t9 : ((bb : Int) - 1).toNat = q := by omega
                  have t10 : (1 : Int) ≤ (bb : Int) := by omega
                  clear h26 h28 h24w h24x h24y o1 o2 o4 o5 o6 o7 o8 g1 g2 hct hbd hnd hT hst16 hbk hb1 hq v1 v2 p1 p2 hP hP' hT1
                  go_wp2_with (first
                    | (go_at_call 26; (with_reducible refine (Gives.c (H26.out _ J2.now.2)).mono ?_); rintro e' w6 ⟨rfl, hb⟩; replace J2 := J2.next hb; clear hb)
                    | (go_at_call 28; (with_reducible refine (Gives.c (H28.out _ J2.now.2)).mono ?_); rintro e' w7 ⟨rfl, hb⟩; replace J2 := J2.next hb; clear hb)
                    | (go_at_call 24; (with_reducible refine (Gives.c (H24x.out _ J2.now.2)).mono ?_); rintro e' w9 ⟨rfl, hb⟩; replace J2 := J2.next hb; clear hb)
                    | (go_at_call 24; (with_reducible refine (Gives.c (H24y.out _ J2.now.2)).mono ?_); rintro e' w10 ⟨rfl, hb⟩; replace J2 := J2.next hb; clear hb)
                    | (go_at_call 15; (with_reducible refine (Gives.c (works_calls _)).mono ?_); rintro e' w8 ⟨rfl, hb⟩; replace J2 := J2.next hb; clear hb))
                  go_ret
                  exact ⟨rfl, J2.now.1⟩

theorem stripWeights_own : ownKnob Try.prog.godebug = none := by kernel_rfl

set_option maxRecDepth 100000 in
theorem stripWeights_lifted (os : Os) (started : os.Started) (H : Type) (enc : TypeId × Value → H) :
    ReturnsInHanded {} Try.checked os 10 .any (Rows.stripWeightsSpec.pre6 enc Try.prog Try.f10 Rows.stripWeightsRow.domain false) (Rows.stripWeightsSpec.post enc Try.prog Try.f10 false true false false) := by
  refine returnsInHanded_of_change (C := Try.checked) stripWeights_own started (by kernel_rfl) Try.func10
    (ChangeSpec.witness6 (enc := enc) (C := Try.checked) false ⟨#[], #[.agg #[.int .u8 0, .int .u8 0, .int .u8 0], .agg #[.int .u8 0, .int .u8 0, .int .u8 0], .int .u8 0, .int .u8 0], []⟩ 8 (by kernel_rfl) (by kernel_rfl) (by kernel_rfl) (by kernel_rfl)) ?_
  intro W base args ds gs before hval0 hW hcnd _
  have hval : ∀ (j : Nat) t v, Try.f10.params[j]? = some t → args[j]? = some v → Value.okWide Try.prog W .any base t v := hval0
  have hW' := hW
  obtain ⟨p, q, hA, hV, rfl, hfz, hnd⟩ := hW
  rw [Try.params10] at hA hval
  obtain ⟨v1, l1_, d1, ds1, p1, q1, e1, rfl, rfl, h1, hA⟩ := trodAll_cons hA
  obtain ⟨v2, l2_, d2, ds2, p2, q2, rfl, rfl, rfl, h2, hA⟩ := trodAll_cons hA
  obtain ⟨v3, l3_, d3, ds3, p3, q3, rfl, rfl, rfl, h3, hA⟩ := trodAll_cons hA
  obtain ⟨v4, l4_, d4, ds4, p4, q4, rfl, rfl, rfl, h4, hA⟩ := trodAll_cons hA
  obtain ⟨rfl, rfl, rfl⟩ := trodAll_nil hA
  obtain ⟨rfl, rfl⟩ := trodVars_none hV
  obtain rfl : args = #[v1, v2, v3, v4] := by cases args; simp_all
  obtain ⟨x0, y0, z0, rfl, hx0, hy0, hz0⟩ := bytes3_arg (hval 0 69 v1 rfl rfl) h1
  obtain ⟨x1, y1, z1, rfl, hx1, hy1, hz1⟩ := bytes3_arg (hval 1 69 v2 rfl rfl) h2
  obtain ⟨b2, rfl, hb2⟩ := byte_arg (hval 2 5 v3 rfl rfl) h3
  obtain ⟨b3, rfl, hb3⟩ := byte_arg (hval 3 5 v4 rfl rfl) h4
  refine (Gives.c (weights_law hx0 hy0 hz0 hx1 hy1 hz1 hb2 hb3 W)).mono fun e W' ⟨he, hb⟩ => ?_
  subst he
  exact ⟨_, rfl, post_true hW' rfl rfl rfl (by decide) hb⟩

theorem stripWeights_over : Rows.stripWeightsRow.holds Try.pinned (OpenSpec.ofChange Rows.stripWeightsSpec) :=
  OpenClaim.holds_of_wide 10 Try.f10 rfl rfl rfl rfl rfl rfl rfl ⟨rfl, rfl, rfl, rfl, rfl⟩ rfl rfl rfl rfl rfl (by kernel_rfl) Try.func10 (by kernel_rfl)
    (of_decide_eq_true (by kernel_rfl)) (by unfold Func.isWrapper; first | (rw [if_pos (by decide +kernel)]; kernel_rfl) | (rw [if_neg (by decide +kernel)]; exact ⟨rfl, rfl⟩))
    (fun os started H enc _ => stripWeights_lifted os started H enc)

/-- StripWeights returns true. -/
theorem stripWeights_holds : Rows.StripWeightsSaid := stripWeights_over
#print axioms stripWeights_holds
end Go.Proofs.Ytpnkbjdeiedhlaa
