/- The contract of the reference's Verify. -/
import Derived.Test.YtphbiaagmhhhbaaRN
namespace Go.Proofs.Ytphbiaagmhhhbaa
open Go.RowKit Go.Lib Go.Shelf

set_option maxRecDepth 100000 in
set_option maxHeartbeats 8000000 in
theorem rVerify_go {c t lo hi off R : Int} {A B : Option Addr} {n cap m cap2 : Nat} {l : List (Int × Int)} {cl : List Int} (hz : measF c t lo hi off l = 0) (hR : verGo c lo hi off l cl (-1) lo hi = R) (h0 : 0 < m) (h2 : m ≤ 2) (w : World) (hl : ReadsM w A n l) (hr : Reads w B m cl) :
    Gives 43 #[.agg #[.int .i64 c, .int .i64 t, .int .i64 lo, .int .i64 hi], .int .i64 off, .slice A n cap, .slice B m cap2] (.int .i64 R) w := by
  unfold Gives
  obtain ⟨i0, hi0, hz0, hz1, hz2⟩ := info_parts info100
  obtain ⟨hs, _, hmax, hf⟩ := fine_at hz
  have hlen := hl.1
  have hlm := hr.1
  rw [hlen] at hmax
  have hv := VI.zero (c := c) (lo := lo) (hi := hi) (off := off) (l := l) (cl := cl)
  rw [hR] at hv
  have HL := Lib.hid hl
  have HRD := Lib.hid hr
  have HZ := Lib.hid hz
  have HS := Lib.hid hs
  have HF := Lib.hid hf
  have HV := Lib.hid hv
  have hm0 : ((m : Int) == 0) = false := beq_eq_false_iff_ne.2 (by omega)
  have hm2 : ¬ (2 : Int) < (m : Int) := by omega
  have hw0 : IntKind.i64.wrap ((n : Int) - 1) = (n : Int) - 1 := by rw [i64_w]; exact w64_in (by omega) (by omega)
  clear hz hl hs hf hR hv hr
  have I : Held (w.alloc (.cells [Value.int .i64 c, .int .i64 t, .int .i64 lo, .int .i64 hi].toArray 43)) (fun W => Below w.heap.size w W ∧ Blk W w.heap.size [.int .i64 c, .int .i64 t, .int .i64 lo, .int .i64 hi]) := .start (.from (Below.refl _ _) (Nat.le_refl _)) _ _
  go_enter Try.func43, Try.ntmps43
  go_wp2_with (go_at_call 72; (with_reducible refine (Gives.c (rmeasured_calls _ _ _ _ _ _ _ _ _ _ (HL.out.later I.now.1))).mono ?_); rintro e w1 ⟨rfl, hb⟩; rw [HZ.out]; replace I := I.next hb; clear hb)
  go_loopw [10, 11] (fun v i wr => ∃ k : Nat, k ≤ m ∧ i = .int .i64 k ∧ Aside (wr.ownsRow w1.heap.size 100 2 v k (cellsM (sel l cl k))) ∧ Aside (VI c lo hi off l cl R k) ∧ Aside (Below w1.heap.size w1 wr)) (fun _ i _ => m - (intOf i).toNat)
  case atStart => exact ⟨0, Nat.zero_le _, rfl, World.ownsRow_nil _ _ _ _, HV.out, Below.refl _ _⟩
  case round =>
    obtain ⟨k, hk, rfl, HO, HI, HB⟩ := hrel
    have J := I.next HB.out
    by_cases hlt : k < m
    · have hlt' : (k : Int) < (m : Int) := by omega
      have hw1 : IntKind.i64.wrap ((k : Int) + 1) = (k : Int) + 1 := by rw [i64_w]; exact w64_in (by omega) (by omega)
      have ra := HRD.out.later J.now.1
      obtain ⟨B, o, rfl, hc⟩ := ra.2.2 (by omega)
      have hc1 := hc k hlt
      generalize hx : cl[k]?.getD 0 = x at hc1
      have hst := HI.out.step (fun i => (HF.out i).1.1) (by omega) hx
      have hsn := sel_snoc (l := l) (cl := cl) (k := k) (by omega)
      rw [hx] at hsn
      rw [hlen] at hst
      by_cases hxn : 0 ≤ x ∧ x ≤ (n : Int) - 1
      · have hbt := btw_yes hxn
        obtain ⟨hs7, hsI⟩ := hst.2 hxn
        by_cases hk0 : 0 < k
        · have hk0' : (0 : Int) < (k : Int) := by omega
          have hkm : IntKind.i64.wrap ((k : Int) - 1) = ((k - 1 : Nat) : Int) := by rw [i64_w, w64_in (by omega) (by omega)]; omega
          have hkm' : ((k - 1 : Nat) : Int) < (m : Int) := by omega
          have hkm'' : (k - 1 : Nat) < m := by omega
          have hc0 := hc (k - 1) (by omega)
          generalize cl[k - 1]?.getD 0 = y at hc0 hs7 hsI
          generalize k - 1 = k1 at hc0 hkm hkm' hkm''
          by_cases hxy : x ≤ y
          · have hR7 := hs7 ⟨hk0, hxy⟩
            subst hR7
            clear hs7 hsI hst hsn hc ra
            go_wp2_with (go_at_call 62; (with_reducible refine (is_calls _ _ _ _).mono ?_); rintro e wr ⟨rfl, rfl⟩)
            go_quiet (fail)
            go_wp2
            go_ret
            exact ⟨rfl, below_drewN' J.now.1 _⟩
          · have HI2 := Lib.hid (hsI (fun h => hxy h.2))
            obtain ⟨j, rfl⟩ := Int.eq_ofNat_of_zero_le hxn.1
            have hjn : j < n := by omega
            have hjn' : (j : Int) < (n : Int) := by omega
            have rl := HL.out.later J.now.1
            obtain ⟨b, p, rfl, hcl⟩ := rl.2.2 (by omega)
            obtain ⟨d1, d2⟩ := hcl j hjn
            change wr.cell? _ = some (.int .i64 (mAt l j).1) at d1
            change wr.cell? _ = some (.int .i64 (mAt l j).2) at d2
            rw [Int.toNat_natCast] at hsn
            generalize (mAt l j).1 = z1 at d1 hsn
            generalize (mAt l j).2 = z2 at d2 hsn
            have HSN := Lib.hid hsn
            have HBB := Lib.hid HB.out
            clear hs7 hsI hst hsn hc ra rl hcl
            go_wp2_with (go_at_call 62; (with_reducible refine (is_calls _ _ _ _).mono ?_); rintro e wr ⟨rfl, rfl⟩)
            go_quiet (fail)
            have hO := own_later HO.out (below_drewN' (Below.refl wr.heap.size wr) nq)
            have hBq := below_drewN' HBB.out nq
            have hsz := HBB.out.size
            go_wp2_with (first
              | (at_builtin; refine wpList_append_own _ rfl _ _ 56 rfl w1.heap.size 100 i0 (.agg #[.int .i64 0, .int .i64 0]) 2 16 Try.underlying56 hi0 hz0 hz1 hz2 rfl (by decide) _ _ _ rfl (hO.alloc _) ⟨wr.heap.size, 0, none⟩ 1 1 [.int .i64 z1, .int .i64 z2] rfl rfl (cells_new _ [.int .i64 z1, .int .i64 z2] _ _ (by simp)) (by intro u hu; simp at hu; rcases hu with rfl | rfl <;> rfl) ?c3 ?c4 ?c5 ?_))
            case c3 => unfold maxLen; omega
            case c4 => omega
            case c5 => simp; omega
            intro v' w4 hown' hgrow _
            have HO' := Lib.hid hown'
            have HB4 := Lib.hid ((hBq.alloc hBq.size _).grown hgrow (by simp; omega) (by intro j hj; exact own_base' hO j hj))
            clear hown' hgrow hO hBq
            go_wp2
            go_roundw
            case measure => simp [intOf]; omega
            case rel => exact ⟨k + 1, by omega, by go_num, (show Aside _ from by rw [HSN.out]; exact HO'.out), HI2.out, HB4.out⟩
        · have hk0' : ¬ (0 : Int) < (k : Int) := by omega
          have HI2 := Lib.hid (hsI (fun h => hk0 h.1))
          obtain ⟨j, rfl⟩ := Int.eq_ofNat_of_zero_le hxn.1
          have hjn : j < n := by omega
          have hjn' : (j : Int) < (n : Int) := by omega
          have rl := HL.out.later J.now.1
          obtain ⟨b, p, rfl, hcl⟩ := rl.2.2 (by omega)
          obtain ⟨d1, d2⟩ := hcl j hjn
          change wr.cell? _ = some (.int .i64 (mAt l j).1) at d1
          change wr.cell? _ = some (.int .i64 (mAt l j).2) at d2
          rw [Int.toNat_natCast] at hsn
          generalize (mAt l j).1 = z1 at d1 hsn
          generalize (mAt l j).2 = z2 at d2 hsn
          have HSN := Lib.hid hsn
          have HBB := Lib.hid HB.out
          clear hs7 hsI hst hsn hc ra rl hcl
          go_wp2_with (go_at_call 62; (with_reducible refine (is_calls _ _ _ _).mono ?_); rintro e wr ⟨rfl, rfl⟩)
          go_quiet (fail)
          have hO := own_later HO.out (below_drewN' (Below.refl wr.heap.size wr) nq)
          have hBq := below_drewN' HBB.out nq
          have hsz := HBB.out.size
          go_wp2_with (first
            | (at_builtin; refine wpList_append_own _ rfl _ _ 56 rfl w1.heap.size 100 i0 (.agg #[.int .i64 0, .int .i64 0]) 2 16 Try.underlying56 hi0 hz0 hz1 hz2 rfl (by decide) _ _ _ rfl (hO.alloc _) ⟨wr.heap.size, 0, none⟩ 1 1 [.int .i64 z1, .int .i64 z2] rfl rfl (cells_new _ [.int .i64 z1, .int .i64 z2] _ _ (by simp)) (by intro u hu; simp at hu; rcases hu with rfl | rfl <;> rfl) ?c3 ?c4 ?c5 ?_))
          case c3 => unfold maxLen; omega
          case c4 => omega
          case c5 => simp; omega
          intro v' w4 hown' hgrow _
          have HO' := Lib.hid hown'
          have HB4 := Lib.hid ((hBq.alloc hBq.size _).grown hgrow (by simp; omega) (by intro j hj; exact own_base' hO j hj))
          clear hown' hgrow hO hBq
          go_wp2
          go_roundw
          case measure => simp [intOf]; omega
          case rel => exact ⟨k + 1, by omega, by go_num, (show Aside _ from by rw [HSN.out]; exact HO'.out), HI2.out, HB4.out⟩
      · have hbt := btw_no hxn
        have hR8 := hst.1 hxn
        subst hR8
        clear hst hsn hc ra
        go_wp2_with (go_at_call 62; (with_reducible refine (is_calls _ _ _ _).mono ?_); rintro e wr ⟨rfl, rfl⟩)
        go_ret
        exact ⟨rfl, J.now.1⟩
    · obtain rfl : k = m := by omega
      have hd := HI.out
      rw [← hlm] at hd
      have hR := hd.done HS.out.2.2.2.1
      rw [hlm] at hR
      obtain ⟨A', c', rfl, hrr, _⟩ := own_readsM HO.out (sel_length (by omega)) (by omega)
      have HRR := Lib.hid hrr
      clear hrr
      have hff : ∀ i, FineM off (mAt (sel l cl k) i).1 (mAt (sel l cl k) i).2 := by
        intro i
        by_cases hi : i < k
        · rw [sel_at (by omega) hi]; exact HF.out _
        · have e : mAt (sel l cl k) i = (0, 0) := by
            unfold mAt
            rw [List.getElem?_eq_none (by rw [sel_length (by omega)]; omega)]
            rfl
          rw [e]
          exact ⟨⟨by decide, by decide⟩, ⟨by decide, by decide⟩, (HF.out 0).2.2⟩
      have HFF := Lib.hid hff
      generalize hfit : fittingF c lo hi off (sel l cl k) = LH at hR
      obtain ⟨L, H⟩ := LH
      have HFIT := Lib.hid hfit
      have q := J.now.2.four
      clear hff hfit hd
      by_cases hLH : L ≤ H
      · rw [if_pos hLH] at hR
        subst hR
        go_wp2_with (go_at_call 73; (with_reducible refine (Gives.c (rfitting_calls HFIT.out _ HS.out HFF.out HRR.out)).mono ?_); rintro e w2 ⟨rfl, hb⟩; replace J := J.next hb; clear hb q)
        go_ret
        exact ⟨rfl, J.now.1.alloc J.now.1.size _⟩
      · rw [if_neg hLH] at hR
        subst hR
        go_wp2_with (go_at_call 73; (with_reducible refine (Gives.c (rfitting_calls HFIT.out _ HS.out HFF.out HRR.out)).mono ?_); rintro e w2 ⟨rfl, hb⟩; replace J := J.next hb; clear hb q)
        go_ret
        exact ⟨rfl, J.now.1.alloc J.now.1.size _⟩

theorem rVerify_calls (c t lo hi off : Int) (A B : Option Addr) (n cap m cap2 : Nat) (l : List (Int × Int)) (cl : List Int) (w : World) (hl : ReadsM w A n l) (hr : Reads w B m cl) :
    Gives 43 #[.agg #[.int .i64 c, .int .i64 t, .int .i64 lo, .int .i64 hi], .int .i64 off, .slice A n cap, .slice B m cap2] (.int .i64 (verifyF c t lo hi off l cl)) w := by
  unfold verifyF
  have hm := hr.1
  by_cases hz : measF c t lo hi off l = 0
  · rw [if_pos hz]
    by_cases h0 : cl.length = 0
    · rw [if_pos h0]
      have hm0 : ((m : Int) == 0) = true := by rw [← hm, h0]; rfl
      have HL := Lib.hid hl
      have HZ := Lib.hid hz
      have I : Held (w.alloc (.cells [Value.int .i64 c, .int .i64 t, .int .i64 lo, .int .i64 hi].toArray 43)) (fun W => Below w.heap.size w W) := (Held.from (Below.refl _ _) (Nat.le_refl _)).alloc _
      clear hl hz hr
      unfold Gives
      go_enter Try.func43, Try.ntmps43
      go_wp2_with (go_at_call 72; (with_reducible refine (Gives.c (rmeasured_calls _ _ _ _ _ _ _ _ _ _ (HL.out.later I.now))).mono ?_); rintro e w1 ⟨rfl, hb⟩; rw [HZ.out]; replace I := I.next hb; clear hb)
      go_ret
      exact ⟨rfl, I.now⟩
    · rw [if_neg h0]
      by_cases h2 : 2 < cl.length
      · rw [if_pos h2]
        have hm0 : ((m : Int) == 0) = false := beq_eq_false_iff_ne.2 (by omega)
        have hm2 : (2 : Int) < (m : Int) := by omega
        have HL := Lib.hid hl
        have HZ := Lib.hid hz
        have I : Held (w.alloc (.cells [Value.int .i64 c, .int .i64 t, .int .i64 lo, .int .i64 hi].toArray 43)) (fun W => Below w.heap.size w W) := (Held.from (Below.refl _ _) (Nat.le_refl _)).alloc _
        clear hl hz hr
        unfold Gives
        go_enter Try.func43, Try.ntmps43
        go_wp2_with (go_at_call 72; (with_reducible refine (Gives.c (rmeasured_calls _ _ _ _ _ _ _ _ _ _ (HL.out.later I.now))).mono ?_); rintro e w1 ⟨rfl, hb⟩; rw [HZ.out]; replace I := I.next hb; clear hb)
        go_ret
        exact ⟨rfl, I.now⟩
      · rw [if_neg h2]
        exact rVerify_go hz rfl (by omega) (by omega) w hl hr
  · rw [if_neg hz]
    generalize hmm : measF c t lo hi off l = z at hz
    have HL := Lib.hid hl
    have HZ := Lib.hid hmm
    have e0 : (z == 0) = false := beq_eq_false_iff_ne.2 hz
    have e1 : (z != 0) = true := bne_iff_ne.2 hz
    have I : Held (w.alloc (.cells [Value.int .i64 c, .int .i64 t, .int .i64 lo, .int .i64 hi].toArray 43)) (fun W => Below w.heap.size w W) := (Held.from (Below.refl _ _) (Nat.le_refl _)).alloc _
    clear hl hz hmm hr
    unfold Gives
    go_enter Try.func43, Try.ntmps43
    go_wp2_with (go_at_call 72; (with_reducible refine (Gives.c (rmeasured_calls _ _ _ _ _ _ _ _ _ _ (HL.out.later I.now))).mono ?_); rintro e w1 ⟨rfl, hb⟩; rw [HZ.out]; replace I := I.next hb; clear hb)
    go_ret
    exact ⟨rfl, I.now⟩
end Go.Proofs.Ytphbiaagmhhhbaa
