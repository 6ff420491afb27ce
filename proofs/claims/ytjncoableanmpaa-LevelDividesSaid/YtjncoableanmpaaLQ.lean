/- The contract of Verify. -/
import Derived.Test.YtjncoableanmpaaLO
import Derived.Test.YtjncoableanmpaaPG
namespace Go.Proofs.Ytjncoableanmpaa
open Go.RowKit Go.Lib Go.Shelf
attribute [local go_sem] field89_0 field89_2

theorem afterA (w : World) (o : Obj) : Below w.heap.size w (w.alloc o).drew := ((Below.refl _ _).alloc (Nat.le_refl _) _).drew
theorem lt_fr {n d : Int} (hd : 0 < d) (q : Rat) : q < fr n d ↔ q.num * d < n * (q.den : Int) := by
  have e := fr_mul (n := n) hd
  have f := fr_mul (n := q.num) (d := (q.den : Int)) (by have := q.den_pos; omega)
  rw [num_den] at f
  have hd1 := cast_lt hd
  have hd2 := cast_lt (show (0 : Int) < (q.den : Int) by have := q.den_pos; omega)
  have z : ((0 : Int) : Rat) = 0 := by simp
  rw [z] at hd1 hd2
  have c1 : ((n * (q.den : Int) : Int) : Rat) = fr n d * ((d : Rat) * ((q.den : Int) : Rat)) := by
    rw [Rat.intCast_mul, ← e]; grind
  have c2 : ((q.num * d : Int) : Rat) = q * ((d : Rat) * ((q.den : Int) : Rat)) := by
    rw [Rat.intCast_mul, ← f]; grind
  have hp : 0 < (d : Rat) * ((q.den : Int) : Rat) := Rat.mul_pos hd1 hd2
  constructor
  · intro h
    have h2 := mul_pos_lt h hp
    rw [← c1, ← c2] at h2
    exact_mod_cast h2
  · intro h
    rcases rat_cases q (fr n d) with h1 | h1
    · exact h1
    · have h2 := mul_pos_le h1 hp
      rw [← c1, ← c2] at h2
      have h3 : n * (q.den : Int) ≤ q.num * d := by exact_mod_cast h2
      omega

set_option maxRecDepth 100000 in
set_option maxHeartbeats 8000000 in
theorem verify_calls (A : Option Addr) (n c : Nat) (l : List Cd) (A2 : Option Addr) (m c2 : Nat) (cs : List Int) (bn bd : Int) (w : World) (hl : ReadsC w A n l) (hcs : Reads w A2 m cs) :
    Gives 19 #[.slice A n c, .slice A2 m c2, .agg #[.int .i64 bn, .int .i64 bd]] (.int .i64 (verV l cs bn bd)) w := by
  unfold Gives
  obtain ⟨V, hV⟩ : ∃ V, verV l cs bn bd = V := ⟨_, rfl⟩
  rw [hV]
  unfold verV at hV
  rw [hl.1, hcs.1] at hV
  have I : Held (w.alloc (.cells [Value.int .i64 bn, .int .i64 bd].toArray 24)) (fun W => ((Below w.heap.size w W ∧ ReadsC W A n l) ∧ Reads W A2 m cs) ∧ Blk W w.heap.size [Value.int .i64 bn, .int .i64 bd]) := fun W hW => by
    have h1 : Below w.heap.size w W := ((Below.refl _ _).alloc (Nat.le_refl _) _).trans (hW.mono (by simp))
    exact ⟨⟨⟨h1, hl.later h1⟩, hcs.later h1⟩, (Blk.new w _ 24).later hW⟩
  have C1 : ∀ W, ReadsC W A n l → Gives 15 #[.slice A n c] (.int .i64 (chk l)) W := fun W h => check_calls A n c l W h
  by_cases hk : chk l = 0
  · rw [if_neg (fun h => h hk)] at hV
    rw [hk] at C1
    have HC1 := Lib.hid C1
    have hg := chk_good hk
    have hlen := hl.1
    have hln2 := hcs.1
    have hm64 := hcs.2.1
    obtain ⟨b, off, rfl, _⟩ := hl.2.2 (by have := hg.pos; omega)
    clear hl hcs C1 hk
    by_cases hs : m = 1 ∨ m = 3
    · rw [if_neg (fun h => h hs)] at hV
      have hmp : 0 < m := by omega
      obtain ⟨b2, off2, rfl, _⟩ := I.now.1.2.2.2 hmp
      have hm3 : m ≤ 3 := by omega
      have hTR := trioOf_ok (n := n) (cs := cs) (by rw [hln2]; exact hs)
      rw [hln2] at hTR
      have HTR := Lib.hid hTR
      have C44 : ∀ W, Gives 44 #[.agg #[.int .i64 bn, .int .i64 bd]] (.bool (bndB bn bd)) W := bounded_calls bn bd
      have HC44 := Lib.hid C44
      have hB : ∀ lo n hi W, Quiet 42 #[.int .i64 lo, .int .i64 n, .int .i64 hi] (.bool (btw lo n hi)) W := between_calls
      have HBT := Lib.hid hB
      have hV' := hV
      obtain ⟨T, hT⟩ : ∃ T, cdL n (-1) cs = T := ⟨_, rfl⟩
      have hV0 : ¬ T = 0 → V = T := fun h => by rw [hT, if_pos h] at hV; exact hV.symm
      have hV1 : T = 0 → (if bdOk bn bd = false then (3 : Int) else if (clm l (trioOf cs)).off < fr bn bd then 14 else 0) = V := fun h => by rw [hT, if_neg (fun h1 => h1 h)] at hV; exact hV
      have HV0 := Lib.hid hV0
      have HV1 := Lib.hid hV1
      have HT := Lib.hid hT
      have HG := Lib.hid hg
      have wn1 : IntKind.i64.wrap ((n : Int) - 1) = (n : Int) - 1 := i64_in (by have := hg.few; omega) (by have := hg.few; omega)
      clear hV hV' hT hV0 hV1 hB C44 hTR hg
      rcases hs with rfl | rfl
      case inl =>
        go_enter Try.func19, Try.ntmps19
        go_wp2_with fail
        generalize World.alloc _ _ = w1 at I ⊢
        go_wp2_with (go_at_call 15; (with_reducible refine (Gives.c (HC1.out _ I.now.1.1.2)).mono ?_); rintro e w2 ⟨rfl, hb⟩; replace I := I.next hb; clear hb)
        go_loopw [8, 27] (fun v i wr => ∃ (k : Nat) (last : Int), k ≤ 1 ∧ i = .int .i64 k ∧ v = .int .i64 last ∧ Aside (cdL n last (cs.drop k) = T) ∧ Aside (0 < k → last = cs[k - 1]?.getD 0) ∧ Aside (Below w2.heap.size w2 wr)) (fun _ i _ => 1 - (intOf i).toNat)
        case atStart => exact ⟨0, -1, Nat.zero_le _, rfl, rfl, by rw [List.drop_zero]; exact HT.out, fun h => absurd h (by omega), Below.refl _ _⟩
        case round =>
          obtain ⟨k, last, hk, rfl, rfl, HC, HLA, HB⟩ := hrel
          have J := I.next HB.out
          by_cases hlt : k < 1
          · have hlt' : (k : Int) < ((1 : Nat) : Int) := by omega
            have hw1 : IntKind.i64.wrap ((k : Int) + 1) = (k : Int) + 1 := i64_in (by omega) (by omega)
            obtain ⟨b', o', e, hx⟩ := J.now.1.2.2.2 hmp
            cases e
            have hx1 := hx k hlt
            clear hx
            have hC := HC.out
            rw [cdL_at (by omega)] at hC
            have hnx : Aside (0 < k + 1 → cs[k]?.getD 0 = cs[k + 1 - 1]?.getD 0) := fun _ => rfl
            clear HC HLA
            generalize cs[k]?.getD 0 = x at hx1 hC hnx
            have HNX := Lib.hid hnx.out
            clear hnx
            by_cases c1 : 0 ≤ x ∧ x ≤ (n : Int) - 1
            · have d1 := btw_yes c1
              rw [if_neg (fun h => h c1)] at hC
              by_cases c4 : x ≤ last
              · rw [if_pos c4] at hC
                have hVV := HV0.out (by rw [← hC]; decide)
                rw [← hC] at hVV
                have HVV := Lib.hid hVV
                clear c1 hC hVV
                go_wp2_with (go_at_call 42; (with_reducible refine (Quiet.c (HBT.out _ _ _ _)).mono ?_); rintro e w1 ⟨rfl, rfl⟩)
                go_ret
                exact ⟨by rw [HVV.out]; rfl, J.now.1.1.1⟩
              · rw [if_neg c4] at hC
                have HC := Lib.hid hC
                clear hC c1
                go_wp2_with (go_at_call 42; (with_reducible refine (Quiet.c (HBT.out _ _ _ _)).mono ?_); rintro e w1 ⟨rfl, rfl⟩)
                go_roundw
                case rel => exact ⟨k + 1, x, hlt, by go_num, rfl, HC.out, HNX.out, HB.out⟩
                case measure => simp [intOf]; omega
            · have d1 := btw_no c1
              rw [if_pos c1] at hC
              have hVV := HV0.out (by rw [← hC]; decide)
              rw [← hC] at hVV
              have HVV := Lib.hid hVV
              clear c1 hC hVV
              go_wp2_with (go_at_call 42; (with_reducible refine (Quiet.c (HBT.out _ _ _ _)).mono ?_); rintro e w1 ⟨rfl, rfl⟩)
              go_ret
              exact ⟨by rw [HVV.out]; rfl, J.now.1.1.1⟩
          · obtain rfl : k = 1 := by omega
            have hC := HC.out
            rw [List.drop_eq_nil_of_le (by omega)] at hC
            have hC : (0 : Int) = T := hC
            have hla := HLA.out hmp
            have hVV := HV1.out hC.symm
            have htr := HTR.out (HT.out.trans hC.symm)
            subst hC
            rw [htr.2.2.2] at hla
            have hbb : bndB bn bd = bdOk bn bd := rfl
            have hgt := HG.out
            have C44 := HC44.out
            cases hq : bdOk bn bd with
            | false =>
              rw [if_pos hq] at hVV
              rw [hbb, hq] at C44
              have H44 := Lib.hid C44
              have HVV := Lib.hid hVV
              have q5 := J.now.2.two
              clear hVV htr hla C44 hbb hgt hq
              go_wp2_with (go_at_call 44; (with_reducible refine (Gives.c (H44.out _)).mono ?_); rintro e wd ⟨rfl, hb⟩; replace J := J.next hb; clear hb)
              go_ret
              exact ⟨by rw [← HVV.out]; rfl, J.now.1.1.1⟩
            | true =>
              rw [if_neg (by rw [hq]; decide)] at hVV
              rw [hbb, hq] at C44
              have H44 := Lib.hid C44
              have hbd : (0 ≤ bn ∧ bn ≤ 1000000) ∧ 1 ≤ bd ∧ bd ≤ 100000 := by
                unfold bdOk at hq
                simpa using hq
              have hbx := clm_bd hgt (t := trioOf cs) (by rw [hlen]; exact htr.1)
              have C52 : ∀ W, ReadsC W (some ⟨b, off, none⟩) n l → Gives 52 #[.agg #[.int .i64 ((trioOf cs).1 : Int), .int .i64 ((trioOf cs).2.1 : Int), .int .i64 ((trioOf cs).2.2 : Int)], .slice (some ⟨b, off, none⟩) n c] (clv (clm l (trioOf cs))) W := fun W h => claim_calls htr.1 W h hgt
              generalize clm l (trioOf cs) = x at hVV hbx C52
              have m1 := mul_ab (a := bn) (b := (x.off.den : Int)) (A := 1000000) (B := 40000) (by omega) (by omega)
              have m2 := mul_ab (a := x.off.num) (b := bd) (A := 400000000) (B := 100000) (by omega) (by omega)
              have C53 : ∀ W, Gives 53 #[.agg #[.int .i64 x.off.num, .int .i64 (x.off.den : Int)], .agg #[.int .i64 bn, .int .i64 bd]] (.bool (decide (x.off < fr bn bd))) W := fun W => by
                have h := less_raw (a := x.off.num) (b := (x.off.den : Int)) (c := bn) (d := bd) (i64_in (by omega) (by omega)) (i64_in (by omega) (by omega)) W
                rwa [decide_eq_decide.2 (lt_fr (n := bn) (d := bd) (by omega) x.off).symm] at h
              obtain ⟨dd, hdd⟩ : ∃ dd, decide (x.off < fr bn bd) = dd := ⟨_, rfl⟩
              rw [hdd] at C53
              have hVd : V = if dd = true then 14 else 0 := by
                rw [← hVV, ← hdd]
                by_cases h : x.off < fr bn bd
                · rw [if_pos h, if_pos (decide_eq_true h)]
                · rw [if_neg h, if_neg (by rw [decide_eq_false h]; decide)]
              have HVd := Lib.hid hVd
              have h0 := htr.2.1
              have h1 := htr.2.2.1
              generalize (trioOf cs).1 = i0 at h0 C52
              generalize (trioOf cs).2.1 = i1 at h1 C52
              generalize (trioOf cs).2.2 = i2 at hla C52
              unfold clv at C52
              have H52 := Lib.hid C52
              have H53 := Lib.hid C53
              subst hla
              have q5 := J.now.2.two
              clear hVV htr C44 hbb hgt hq hbd hbx C52 m1 m2 C53 hVd hdd
              go_upto_region 18 with (go_at_call 44; (with_reducible refine (Gives.c (H44.out _)).mono ?_); rintro e wd ⟨rfl, hb⟩; replace J := J.next hb; clear hb q5)
              have hee : cs[1 / 2]?.getD 0 = cs[0]?.getD 0 := rfl
              have hii : i1 = i0 := by omega
              subst hii
              have hS : ∀ W, Below wd.heap.size wd W → Below wd.heap.size wd W ∧ W.cell? ⟨b2, off2, none⟩ = some (.int .i64 (i1 : Int)) ∧ W.cell? ⟨b2, off2 + 0, none⟩ = some (.int .i64 (i1 : Int)) := fun W hW => by
                obtain ⟨b', o', e, hx⟩ := (J W hW).1.2.2.2 hmp
                cases e
                have hx0 := hx 0 (by omega)
                have hx1 := hx (1 / 2) (by omega)
                rw [h0] at hx0
                rw [h1] at hx1
                exact ⟨hW, hx0, hx1⟩
              have HS := Lib.hid hS
              have HJ := Lib.hid J
              clear hS h0 h1 J
              have w00 : IntKind.i64.wrap 0 = 0 := by decide
              have w01 : IntKind.i64.wrap 1 = 1 := by decide
              go_region_held3 (fun W => Below wd.heap.size wd W ∧ W.cell? ⟨b2, off2, none⟩ = some (.int .i64 (i1 : Int)) ∧ W.cell? ⟨b2, off2 + 0, none⟩ = some (.int .i64 (i1 : Int)))
                (first | exact HS.out _ (by go_grown) | fail)
                (fail)
              all_goals
                have K := (HJ.out.next (afterA wd (.cells #[.int .i64 (i1 : Int), .int .i64 (i1 : Int), .int .i64 (i2 : Int)] 87))).with (.blk (Blk.new wd [.int .i64 (i1 : Int), .int .i64 (i1 : Int), .int .i64 (i2 : Int)] 87).drew)
                clear HJ HS
                have hK : Held (wd.alloc (.cells #[.int .i64 (i1 : Int), .int .i64 (i1 : Int), .int .i64 (i2 : Int)] 87)).drew (fun W => (((Below w.heap.size w W ∧ ReadsC W (some ⟨b, off, none⟩) n l) ∧ Reads W (some ⟨b2, off2, none⟩) 1 cs) ∧ Blk W w.heap.size [Value.int .i64 bn, .int .i64 bd]) ∧ Blk W wd.heap.size [.int .i64 (i1 : Int), .int .i64 (i1 : Int), .int .i64 (i2 : Int)]) := K
                clear K
                generalize hB : wd.heap.size = B at hK ⊢
                generalize World.drew _ = wf at hK ⊢
                have hS : ∀ W, Below wf.heap.size wf W → Below w.heap.size w W ∧ (W.cell? ⟨B, 0, none⟩ = some (.int .i64 (i1 : Int)) ∧ W.cell? ⟨B, 1, none⟩ = some (.int .i64 (i1 : Int)) ∧ W.cell? ⟨B, 2, none⟩ = some (.int .i64 (i2 : Int))) ∧ (W.cell? ⟨w.heap.size, 0, none⟩ = some (.int .i64 bn) ∧ W.cell? ⟨w.heap.size, 1, none⟩ = some (.int .i64 bd)) := fun W hW => ⟨(hK W hW).1.1.1.1, (hK W hW).2.three, (hK W hW).1.2.two⟩
                have HS := Lib.hid hS
                have h52 : ∀ W, Below wf.heap.size wf W → Gives 52 #[.agg #[.int .i64 (i1 : Int), .int .i64 (i1 : Int), .int .i64 (i2 : Int)], .slice (some ⟨b, off, none⟩) n c] (.agg #[.int .i64 x.off.num, .int .i64 (x.off.den : Int), .bool x.up, .int .i64 (x.who.1 : Int), .int .i64 (x.who.2.1 : Int), .int .i64 (x.who.2.2 : Int)]) W := fun W hW => H52.out W (hK W hW).1.1.1.2
                have HK52 := Lib.hid h52
                have hV47 : ∀ a b W, Gives 47 #[.agg #[.int .i64 a, .int .i64 b]] (.agg #[.int .i64 a, .int .i64 b]) W := given_calls
                have HV47 := Lib.hid hV47
                clear hS hK h52 hV47 H52
                go_wp2_with fail
                go_region_held3 (fun W => Below w.heap.size w W ∧ (W.cell? ⟨B, 0, none⟩ = some (.int .i64 (i1 : Int)) ∧ W.cell? ⟨B, 1, none⟩ = some (.int .i64 (i1 : Int)) ∧ W.cell? ⟨B, 2, none⟩ = some (.int .i64 (i2 : Int))) ∧ (W.cell? ⟨w.heap.size, 0, none⟩ = some (.int .i64 bn) ∧ W.cell? ⟨w.heap.size, 1, none⟩ = some (.int .i64 bd)))
                  (first
                    | with_reducible exact HS.out _ (Below.refl _ _).drew
                    | with_reducible exact HS.out _ HB1.out
                    | with_reducible exact HS.out _ HB2.out
                    | with_reducible exact HS.out _ HB3.out
                    | fail)
                  (first
                    | (go_at_call 52; (first | (with_reducible refine (Gives.c (HK52.out _ HB1.out)).mono ?_) | (with_reducible refine (Gives.c (HK52.out _ (Below.refl _ _).drew)).mono ?_)); rintro e wa ⟨rfl, hb⟩; first | have HB2 := Lib.hid (HB1.out.trans (hb.mono HB1.out.size)) | have HB1 := Lib.hid ((Below.refl wf.heap.size wf).drew.trans hb))
                    | (go_at_call 47; (with_reducible refine (Gives.c (HV47.out _ _ _)).mono ?_); rintro e wb ⟨rfl, hb⟩; first | have HB2 := Lib.hid (HB1.out.trans (hb.mono HB1.out.size)) | have HB1 := Lib.hid ((Below.refl wf.heap.size wf).drew.trans hb))
                    | (go_at_call 53; (with_reducible refine (Gives.c (H53.out _)).mono ?_); rintro e wc ⟨rfl, hb⟩; have HB3 := Lib.hid (HB2.out.trans (hb.mono HB2.out.size)))
                    | fail)
                all_goals
                  have hend := (HS.out _ HB3.out).1
                  cases dd with
                  | true =>
                    go_wp2_with fail
                    go_ret
                    exact ⟨by rw [HVd.out]; rfl, hend⟩
                  | false =>
                    go_wp2_with fail
                    go_ret
                    exact ⟨by rw [HVd.out]; rfl, hend⟩
      case inr =>
        go_enter Try.func19, Try.ntmps19
        go_wp2_with fail
        generalize World.alloc _ _ = w1 at I ⊢
        go_wp2_with (go_at_call 15; (with_reducible refine (Gives.c (HC1.out _ I.now.1.1.2)).mono ?_); rintro e w2 ⟨rfl, hb⟩; replace I := I.next hb; clear hb)
        go_loopw [8, 27] (fun v i wr => ∃ (k : Nat) (last : Int), k ≤ 3 ∧ i = .int .i64 k ∧ v = .int .i64 last ∧ Aside (cdL n last (cs.drop k) = T) ∧ Aside (0 < k → last = cs[k - 1]?.getD 0) ∧ Aside (Below w2.heap.size w2 wr)) (fun _ i _ => 3 - (intOf i).toNat)
        case atStart => exact ⟨0, -1, Nat.zero_le _, rfl, rfl, by rw [List.drop_zero]; exact HT.out, fun h => absurd h (by omega), Below.refl _ _⟩
        case round =>
          obtain ⟨k, last, hk, rfl, rfl, HC, HLA, HB⟩ := hrel
          have J := I.next HB.out
          by_cases hlt : k < 3
          · have hlt' : (k : Int) < ((3 : Nat) : Int) := by omega
            have hw1 : IntKind.i64.wrap ((k : Int) + 1) = (k : Int) + 1 := i64_in (by omega) (by omega)
            obtain ⟨b', o', e, hx⟩ := J.now.1.2.2.2 hmp
            cases e
            have hx1 := hx k hlt
            clear hx
            have hC := HC.out
            rw [cdL_at (by omega)] at hC
            have hnx : Aside (0 < k + 1 → cs[k]?.getD 0 = cs[k + 1 - 1]?.getD 0) := fun _ => rfl
            clear HC HLA
            generalize cs[k]?.getD 0 = x at hx1 hC hnx
            have HNX := Lib.hid hnx.out
            clear hnx
            by_cases c1 : 0 ≤ x ∧ x ≤ (n : Int) - 1
            · have d1 := btw_yes c1
              rw [if_neg (fun h => h c1)] at hC
              by_cases c4 : x ≤ last
              · rw [if_pos c4] at hC
                have hVV := HV0.out (by rw [← hC]; decide)
                rw [← hC] at hVV
                have HVV := Lib.hid hVV
                clear c1 hC hVV
                go_wp2_with (go_at_call 42; (with_reducible refine (Quiet.c (HBT.out _ _ _ _)).mono ?_); rintro e w1 ⟨rfl, rfl⟩)
                go_ret
                exact ⟨by rw [HVV.out]; rfl, J.now.1.1.1⟩
              · rw [if_neg c4] at hC
                have HC := Lib.hid hC
                clear hC c1
                go_wp2_with (go_at_call 42; (with_reducible refine (Quiet.c (HBT.out _ _ _ _)).mono ?_); rintro e w1 ⟨rfl, rfl⟩)
                go_roundw
                case rel => exact ⟨k + 1, x, hlt, by go_num, rfl, HC.out, HNX.out, HB.out⟩
                case measure => simp [intOf]; omega
            · have d1 := btw_no c1
              rw [if_pos c1] at hC
              have hVV := HV0.out (by rw [← hC]; decide)
              rw [← hC] at hVV
              have HVV := Lib.hid hVV
              clear c1 hC hVV
              go_wp2_with (go_at_call 42; (with_reducible refine (Quiet.c (HBT.out _ _ _ _)).mono ?_); rintro e w1 ⟨rfl, rfl⟩)
              go_ret
              exact ⟨by rw [HVV.out]; rfl, J.now.1.1.1⟩
          · obtain rfl : k = 3 := by omega
            have hC := HC.out
            rw [List.drop_eq_nil_of_le (by omega)] at hC
            have hC : (0 : Int) = T := hC
            have hla := HLA.out hmp
            have hVV := HV1.out hC.symm
            have htr := HTR.out (HT.out.trans hC.symm)
            subst hC
            rw [htr.2.2.2] at hla
            have hbb : bndB bn bd = bdOk bn bd := rfl
            have hgt := HG.out
            have C44 := HC44.out
            cases hq : bdOk bn bd with
            | false =>
              rw [if_pos hq] at hVV
              rw [hbb, hq] at C44
              have H44 := Lib.hid C44
              have HVV := Lib.hid hVV
              have q5 := J.now.2.two
              clear hVV htr hla C44 hbb hgt hq
              go_wp2_with (go_at_call 44; (with_reducible refine (Gives.c (H44.out _)).mono ?_); rintro e wd ⟨rfl, hb⟩; replace J := J.next hb; clear hb)
              go_ret
              exact ⟨by rw [← HVV.out]; rfl, J.now.1.1.1⟩
            | true =>
              rw [if_neg (by rw [hq]; decide)] at hVV
              rw [hbb, hq] at C44
              have H44 := Lib.hid C44
              have hbd : (0 ≤ bn ∧ bn ≤ 1000000) ∧ 1 ≤ bd ∧ bd ≤ 100000 := by
                unfold bdOk at hq
                simpa using hq
              have hbx := clm_bd hgt (t := trioOf cs) (by rw [hlen]; exact htr.1)
              have C52 : ∀ W, ReadsC W (some ⟨b, off, none⟩) n l → Gives 52 #[.agg #[.int .i64 ((trioOf cs).1 : Int), .int .i64 ((trioOf cs).2.1 : Int), .int .i64 ((trioOf cs).2.2 : Int)], .slice (some ⟨b, off, none⟩) n c] (clv (clm l (trioOf cs))) W := fun W h => claim_calls htr.1 W h hgt
              generalize clm l (trioOf cs) = x at hVV hbx C52
              have m1 := mul_ab (a := bn) (b := (x.off.den : Int)) (A := 1000000) (B := 40000) (by omega) (by omega)
              have m2 := mul_ab (a := x.off.num) (b := bd) (A := 400000000) (B := 100000) (by omega) (by omega)
              have C53 : ∀ W, Gives 53 #[.agg #[.int .i64 x.off.num, .int .i64 (x.off.den : Int)], .agg #[.int .i64 bn, .int .i64 bd]] (.bool (decide (x.off < fr bn bd))) W := fun W => by
                have h := less_raw (a := x.off.num) (b := (x.off.den : Int)) (c := bn) (d := bd) (i64_in (by omega) (by omega)) (i64_in (by omega) (by omega)) W
                rwa [decide_eq_decide.2 (lt_fr (n := bn) (d := bd) (by omega) x.off).symm] at h
              obtain ⟨dd, hdd⟩ : ∃ dd, decide (x.off < fr bn bd) = dd := ⟨_, rfl⟩
              rw [hdd] at C53
              have hVd : V = if dd = true then 14 else 0 := by
                rw [← hVV, ← hdd]
                by_cases h : x.off < fr bn bd
                · rw [if_pos h, if_pos (decide_eq_true h)]
                · rw [if_neg h, if_neg (by rw [decide_eq_false h]; decide)]
              have HVd := Lib.hid hVd
              have h0 := htr.2.1
              have h1 := htr.2.2.1
              generalize (trioOf cs).1 = i0 at h0 C52
              generalize (trioOf cs).2.1 = i1 at h1 C52
              generalize (trioOf cs).2.2 = i2 at hla C52
              unfold clv at C52
              have H52 := Lib.hid C52
              have H53 := Lib.hid C53
              subst hla
              have q5 := J.now.2.two
              clear hVV htr C44 hbb hgt hq hbd hbx C52 m1 m2 C53 hVd hdd
              go_upto_region 18 with (go_at_call 44; (with_reducible refine (Gives.c (H44.out _)).mono ?_); rintro e wd ⟨rfl, hb⟩; replace J := J.next hb; clear hb q5)
              have hS : ∀ W, Below wd.heap.size wd W → Below wd.heap.size wd W ∧ W.cell? ⟨b2, off2, none⟩ = some (.int .i64 (i0 : Int)) ∧ W.cell? ⟨b2, off2 + 1, none⟩ = some (.int .i64 (i1 : Int)) := fun W hW => by
                obtain ⟨b', o', e, hx⟩ := (J W hW).1.2.2.2 hmp
                cases e
                have hx0 := hx 0 (by omega)
                have hx1 := hx (3 / 2) (by omega)
                rw [h0] at hx0
                rw [h1] at hx1
                exact ⟨hW, hx0, hx1⟩
              have HS := Lib.hid hS
              have HJ := Lib.hid J
              clear hS h0 h1 J
              have w00 : IntKind.i64.wrap 0 = 0 := by decide
              have w01 : IntKind.i64.wrap 1 = 1 := by decide
              go_region_held3 (fun W => Below wd.heap.size wd W ∧ W.cell? ⟨b2, off2, none⟩ = some (.int .i64 (i0 : Int)) ∧ W.cell? ⟨b2, off2 + 1, none⟩ = some (.int .i64 (i1 : Int)))
                (first | exact HS.out _ (by go_grown) | fail)
                (fail)
              all_goals
                have K := (HJ.out.next (afterA wd (.cells #[.int .i64 (i0 : Int), .int .i64 (i1 : Int), .int .i64 (i2 : Int)] 87))).with (.blk (Blk.new wd [.int .i64 (i0 : Int), .int .i64 (i1 : Int), .int .i64 (i2 : Int)] 87).drew)
                clear HJ HS
                have hK : Held (wd.alloc (.cells #[.int .i64 (i0 : Int), .int .i64 (i1 : Int), .int .i64 (i2 : Int)] 87)).drew (fun W => (((Below w.heap.size w W ∧ ReadsC W (some ⟨b, off, none⟩) n l) ∧ Reads W (some ⟨b2, off2, none⟩) 3 cs) ∧ Blk W w.heap.size [Value.int .i64 bn, .int .i64 bd]) ∧ Blk W wd.heap.size [.int .i64 (i0 : Int), .int .i64 (i1 : Int), .int .i64 (i2 : Int)]) := K
                clear K
                generalize hB : wd.heap.size = B at hK ⊢
                generalize World.drew _ = wf at hK ⊢
                have hS : ∀ W, Below wf.heap.size wf W → Below w.heap.size w W ∧ (W.cell? ⟨B, 0, none⟩ = some (.int .i64 (i0 : Int)) ∧ W.cell? ⟨B, 1, none⟩ = some (.int .i64 (i1 : Int)) ∧ W.cell? ⟨B, 2, none⟩ = some (.int .i64 (i2 : Int))) ∧ (W.cell? ⟨w.heap.size, 0, none⟩ = some (.int .i64 bn) ∧ W.cell? ⟨w.heap.size, 1, none⟩ = some (.int .i64 bd)) := fun W hW => ⟨(hK W hW).1.1.1.1, (hK W hW).2.three, (hK W hW).1.2.two⟩
                have HS := Lib.hid hS
                have h52 : ∀ W, Below wf.heap.size wf W → Gives 52 #[.agg #[.int .i64 (i0 : Int), .int .i64 (i1 : Int), .int .i64 (i2 : Int)], .slice (some ⟨b, off, none⟩) n c] (.agg #[.int .i64 x.off.num, .int .i64 (x.off.den : Int), .bool x.up, .int .i64 (x.who.1 : Int), .int .i64 (x.who.2.1 : Int), .int .i64 (x.who.2.2 : Int)]) W := fun W hW => H52.out W (hK W hW).1.1.1.2
                have HK52 := Lib.hid h52
                have hV47 : ∀ a b W, Gives 47 #[.agg #[.int .i64 a, .int .i64 b]] (.agg #[.int .i64 a, .int .i64 b]) W := given_calls
                have HV47 := Lib.hid hV47
                clear hS hK h52 hV47 H52
                go_wp2_with fail
                go_region_held3 (fun W => Below w.heap.size w W ∧ (W.cell? ⟨B, 0, none⟩ = some (.int .i64 (i0 : Int)) ∧ W.cell? ⟨B, 1, none⟩ = some (.int .i64 (i1 : Int)) ∧ W.cell? ⟨B, 2, none⟩ = some (.int .i64 (i2 : Int))) ∧ (W.cell? ⟨w.heap.size, 0, none⟩ = some (.int .i64 bn) ∧ W.cell? ⟨w.heap.size, 1, none⟩ = some (.int .i64 bd)))
                  (first
                    | with_reducible exact HS.out _ (Below.refl _ _).drew
                    | with_reducible exact HS.out _ HB1.out
                    | with_reducible exact HS.out _ HB2.out
                    | with_reducible exact HS.out _ HB3.out
                    | fail)
                  (first
                    | (go_at_call 52; (first | (with_reducible refine (Gives.c (HK52.out _ HB1.out)).mono ?_) | (with_reducible refine (Gives.c (HK52.out _ (Below.refl _ _).drew)).mono ?_)); rintro e wa ⟨rfl, hb⟩; first | have HB2 := Lib.hid (HB1.out.trans (hb.mono HB1.out.size)) | have HB1 := Lib.hid ((Below.refl wf.heap.size wf).drew.trans hb))
                    | (go_at_call 47; (with_reducible refine (Gives.c (HV47.out _ _ _)).mono ?_); rintro e wb ⟨rfl, hb⟩; first | have HB2 := Lib.hid (HB1.out.trans (hb.mono HB1.out.size)) | have HB1 := Lib.hid ((Below.refl wf.heap.size wf).drew.trans hb))
                    | (go_at_call 53; (with_reducible refine (Gives.c (H53.out _)).mono ?_); rintro e wc ⟨rfl, hb⟩; have HB3 := Lib.hid (HB2.out.trans (hb.mono HB2.out.size)))
                    | fail)
                all_goals
                  have hend := (HS.out _ HB3.out).1
                  cases dd with
                  | true =>
                    go_wp2_with fail
                    go_ret
                    exact ⟨by rw [HVd.out]; rfl, hend⟩
                  | false =>
                    go_wp2_with fail
                    go_ret
                    exact ⟨by rw [HVd.out]; rfl, hend⟩
    · rw [if_pos hs] at hV
      subst hV
      have e1 : ((m : Int) != 1) = true := bne_iff_ne.2 (by omega)
      have e3 : ((m : Int) != 3) = true := bne_iff_ne.2 (by omega)
      have e1' : ¬ (m : Int) = 1 := by omega
      have e3' : ¬ (m : Int) = 3 := by omega
      clear hs hg
      go_enter Try.func19, Try.ntmps19
      go_wp2_with fail
      generalize World.alloc _ _ = w1 at I ⊢
      go_wp2_with (go_at_call 15; (with_reducible refine (Gives.c (HC1.out _ I.now.1.1.2)).mono ?_); rintro e w2 ⟨rfl, hb⟩; replace I := I.next hb; clear hb)
      go_ret
      exact ⟨rfl, I.now.1.1.1⟩
  · rw [if_pos hk] at hV
    subst hV
    have hne : (chk l == 0) = false := beq_eq_false_iff_ne.2 hk
    have HC1 := Lib.hid C1
    generalize chk l = e at hne HC1 hk
    clear hl hcs C1
    go_enter Try.func19, Try.ntmps19
    go_wp2_with fail
    generalize World.alloc _ _ = w1 at I ⊢
    go_wp2_with (go_at_call 15; (with_reducible refine (Gives.c (HC1.out _ I.now.1.1.2)).mono ?_); rintro e' w2 ⟨rfl, hb⟩; replace I := I.next hb; clear hb)
    go_ret
    exact ⟨rfl, I.now.1.1.1⟩
end Go.Proofs.Ytjncoableanmpaa
