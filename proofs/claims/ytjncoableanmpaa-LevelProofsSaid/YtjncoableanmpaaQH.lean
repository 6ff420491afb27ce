/- The reference: Verify. -/
import Derived.Test.YtjncoableanmpaaQF
namespace Go.Proofs.Ytjncoableanmpaa
open Go.RowKit Go.Lib Go.Shelf

theorem Reads.at {w : World} {b off n : Nat} {l : List Int} (h : Reads w (some ⟨b, off, none⟩) n l) {j : Nat} (hj : j < n) : w.cell? ⟨b, off + j, none⟩ = some (.int .i64 (l[j]?.getD 0)) := by
  obtain ⟨b', off', e, hc⟩ := h.2.2 (by omega)
  cases e
  exact hc j hj

/-- Three codes that grow make a trio that grows. -/
theorem trio_three {n : Nat} {cs : List Int} (hl : cs.length = 3) (h : cdL n (-1) cs = 0) : (trioOf cs).1 < (trioOf cs).2.1 ∧ (trioOf cs).2.1 < (trioOf cs).2.2 := by
  obtain ⟨a, b, c, rfl⟩ : ∃ a b c, cs = [a, b, c] := by
    match cs, hl with
    | [a, b, c], _ => exact ⟨a, b, c, rfl⟩
  simp only [cdL] at h
  split at h
  · cases h
  · rename_i h1
    have h1 := Decidable.not_not.1 h1
    split at h
    · cases h
    · rename_i g1
      split at h
      · cases h
      · rename_i h2
        have h2 := Decidable.not_not.1 h2
        split at h
        · cases h
        · rename_i g2
          split at h
          · cases h
          · rename_i h3
            have h3 := Decidable.not_not.1 h3
            split at h
            · cases h
            · rename_i g3
              have e : trioOf [a, b, c] = (a.toNat, b.toNat, c.toNat) := by simp [trioOf]
              rw [e]
              exact ⟨by show a.toNat < b.toNat; omega, by show b.toNat < c.toNat; omega⟩

set_option maxRecDepth 100000 in
set_option maxHeartbeats 8000000 in
theorem rverify_1 {A : Option Addr} {n c : Nat} {l : List Cd} {A2 : Option Addr} {m c2 : Nat} {cs : List Int} {bn bd : Int} (w : World) (hl : ReadsC w A n l) (hcs : Reads w A2 m cs) (hcap : n ≤ c) (hk : chk l = 0) (hm : m = 1) :
    Gives 20 #[.slice A n c, .slice A2 m c2, .agg #[.int .i64 bn, .int .i64 bd]] (.int .i64 (verV l cs bn bd)) w := by
  unfold Gives
  obtain ⟨V, hV⟩ : ∃ V, verV l cs bn bd = V := ⟨_, rfl⟩
  rw [hV]
  unfold verV at hV
  rw [hl.1, hcs.1] at hV
  have I : Held (w.alloc (.cells [Value.int .i64 bn, .int .i64 bd].toArray 24)) (fun W => ((Below w.heap.size w W ∧ ReadsC W A n l) ∧ Reads W A2 m cs) ∧ Blk W w.heap.size [Value.int .i64 bn, .int .i64 bd]) := fun W hW => by
    have h1 : Below w.heap.size w W := ((Below.refl _ _).alloc (Nat.le_refl _) _).trans (hW.mono (by simp))
    exact ⟨⟨⟨h1, hl.later h1⟩, hcs.later h1⟩, (Blk.new w _ 24).later hW⟩
  have C1 : ∀ W, ReadsC W A n l → Gives 16 #[.slice A n c] (.int .i64 (chk l)) W := fun W h => rcheck_calls A n c l W h hcap
  rw [if_neg (fun h => h hk)] at hV
  rw [hk] at C1
  have HC1 := Lib.hid C1
  have hg := chk_good hk
  have hlen := hl.1
  have hln2 := hcs.1
  have hm64 := hcs.2.1
  obtain ⟨b, off, rfl, _⟩ := hl.2.2 (by have := hg.pos; omega)
  clear C1 hk
  rw [if_neg (fun h => h (by omega))] at hV
  have hmp : 0 < m := by omega
  obtain ⟨b2, off2, rfl, _⟩ := hcs.2.2 hmp
  have hTR := trioOf_ok (n := n) (cs := cs) (by rw [hln2]; omega)
  rw [hln2, hm] at hTR
  have HTR := Lib.hid hTR
  have C49 : ∀ W, Gives 49 #[.agg #[.int .i64 bn, .int .i64 bd]] (.bool (bndB bn bd)) W := rbounded_calls bn bd
  have HC49 := Lib.hid C49
  have hB : ∀ n lo hi W, Quiet 43 #[.int .i64 n, .int .i64 lo, .int .i64 hi] (.bool (btw lo n hi)) W := is_calls
  have HBT := Lib.hid hB
  obtain ⟨T, hT⟩ : ∃ T, cdL n (-1) cs = T := ⟨_, rfl⟩
  have hV0 : ¬ T = 0 → V = T := fun h => by rw [hT, if_pos h] at hV; exact hV.symm
  have hV1 : T = 0 → (if bdOk bn bd = false then (3 : Int) else if (clm l (trioOf cs)).off < fr bn bd then 14 else 0) = V := fun h => by rw [hT, if_neg (fun h1 => h1 h)] at hV; exact hV
  have HV0 := Lib.hid hV0
  have HV1 := Lib.hid hV1
  have HT := Lib.hid hT
  have HG := Lib.hid hg
  have HLN := Lib.hid hlen
  have hn24 : n ≤ 24 := by have := hg.few; omega
  have wn1 : IntKind.i64.wrap ((n : Int) - 1) = (n : Int) - 1 := i64_in (by omega) (by omega)
  have n1 : ((m : Int) != 1) = false := by rw [show (m : Int) = 1 by omega]; rfl
  have e1 : ((m : Int) == 1) = true := beq_iff_eq.2 (by omega)
  have e3 : ((m : Int) == 3) = false := beq_eq_false_iff_ne.2 (by omega)
  have e3' : ¬ (m : Int) = 3 := by omega
  have hm3 : m ≤ 3 := by omega
  have HLM := Lib.hid hln2
  have HM := Lib.hid hm
  clear hV hT hV0 hV1 hB C49 hTR hg hl hcs hlen hln2 hm64 hm hcap
  go_enter Try.func20, Try.ntmps20
  go_wp2_with fail
  generalize World.alloc _ _ = w1 at I ⊢
  go_wp2_with (go_at_call 16; (with_reducible refine (Gives.c (HC1.out _ I.now.1.1.2)).mono ?_); rintro e w2 ⟨rfl, hb⟩; replace I := I.next hb; clear hb)
  go_loopw [8] (fun i wr => ∃ (k : Nat) (last : Int), k ≤ m ∧ i = .int .i64 k ∧ Aside (cdL n last (cs.drop k) = T) ∧ Aside (k = 0 → last = -1) ∧ Aside (∀ j, j + 1 = k → last = cs[j]?.getD 0) ∧ Aside (Below w2.heap.size w2 wr)) (fun i _ => m - (intOf i).toNat)
  case atStart => exact ⟨0, -1, Nat.zero_le _, rfl, by rw [List.drop_zero]; exact HT.out, fun _ => rfl, fun j h => absurd h (by omega), Below.refl _ _⟩
  case round =>
    obtain ⟨k, last, hk, rfl, HC, HK0, HK1, HB⟩ := hrel
    have J := I.next HB.out
    by_cases hlt : k < m
    · have hlt' : (k : Int) < (m : Int) := by omega
      have hw1 : IntKind.i64.wrap ((k : Int) + 1) = (k : Int) + 1 := i64_in (by omega) (by omega)
      have hx1 := J.now.1.2.at hlt
      have hC := HC.out
      rw [cdL_at (by have := HLM.out; omega)] at hC
      have hnx : ∀ j, j + 1 = k + 1 → cs[k]?.getD 0 = cs[j]?.getD 0 := fun j hj => by rw [show j = k by omega]
      generalize cs[k]?.getD 0 = x at hx1 hC hnx
      have HNX := Lib.hid hnx
      clear hnx HC
      by_cases c1 : 0 ≤ x ∧ x ≤ (n : Int) - 1
      · have d1 := btw_yes c1
        rw [if_neg (fun h => h c1)] at hC
        rcases Nat.eq_zero_or_pos k with hk0 | hk0
        · have hl0 := HK0.out hk0
          rw [if_neg (by omega)] at hC
          have k0 : ¬ (0 : Int) < (k : Int) := by omega
          have k0' : ¬ 0 < k := by omega
          have HC := Lib.hid hC
          clear hC c1 HK0 HK1 hl0 hk0
          go_wp2_with (go_at_call 43; (with_reducible refine (Quiet.c (HBT.out _ _ _ _)).mono ?_); rintro e w1 ⟨rfl, rfl⟩)
          go_quiet (fail)
          go_wp2
          go_roundw
          case rel => exact ⟨k + 1, x, hlt, by go_num, HC.out, fun h => absurd h (by omega), HNX.out, below_drewN' HB.out _⟩
          case measure => simp [intOf]; omega
        · obtain ⟨k', hk'⟩ : ∃ k', k' = k - 1 := ⟨k - 1, rfl⟩
          have hl1 := HK1.out k' (by omega)
          have hxp := J.now.1.2.at (j := k') (by omega)
          rw [← hl1] at hxp
          have wk : IntKind.i64.wrap ((k : Int) - 1) = (k' : Int) := by rw [i64_in (by omega) (by omega)]; omega
          have k1 : (0 : Int) < (k : Int) := by omega
          have k2 : (k' : Int) < (m : Int) := by omega
          clear hk'
          by_cases c4 : x ≤ last
          · rw [if_pos c4] at hC
            have hVV := HV0.out (by rw [← hC]; decide)
            rw [← hC] at hVV
            have HVV := Lib.hid hVV
            clear c1 hC hVV HK0 HK1 hl1
            go_wp2_with (go_at_call 43; (with_reducible refine (Quiet.c (HBT.out _ _ _ _)).mono ?_); rintro e w1 ⟨rfl, rfl⟩)
            go_quiet (fail)
            go_wp2
            go_ret
            exact ⟨by rw [HVV.out]; rfl, below_drewN' J.now.1.1.1 _⟩
          · rw [if_neg c4] at hC
            have HC := Lib.hid hC
            clear hC c1 HK0 HK1 hl1
            go_wp2_with (go_at_call 43; (with_reducible refine (Quiet.c (HBT.out _ _ _ _)).mono ?_); rintro e w1 ⟨rfl, rfl⟩)
            go_quiet (fail)
            go_wp2
            go_roundw
            case rel => exact ⟨k + 1, x, hlt, by go_num, HC.out, fun h => absurd h (by omega), HNX.out, below_drewN' HB.out _⟩
            case measure => simp [intOf]; omega
      · have d1 := btw_no c1
        rw [if_pos c1] at hC
        have hVV := HV0.out (by rw [← hC]; decide)
        rw [← hC] at hVV
        have HVV := Lib.hid hVV
        clear c1 hC hVV HK0 HK1
        go_wp2_with (go_at_call 43; (with_reducible refine (Quiet.c (HBT.out _ _ _ _)).mono ?_); rintro e w1 ⟨rfl, rfl⟩)
        go_ret
        exact ⟨by rw [HVV.out]; rfl, J.now.1.1.1⟩
    · obtain rfl : k = m := by omega
      have hC := HC.out
      rw [List.drop_eq_nil_of_le (by have := HLM.out; omega)] at hC
      have hC : (0 : Int) = T := hC
      have hVV := HV1.out hC.symm
      have htr := HTR.out (HT.out.trans hC.symm)
      subst hC
      have C49 := HC49.out
      have hbb : bndB bn bd = bdOk bn bd := rfl
      clear HK0 HK1 HC HT HV0 HV1 HTR HC49
      cases hq : bdOk bn bd with
      | false =>
        rw [if_pos hq] at hVV
        rw [hbb, hq] at C49
        have H49 := Lib.hid C49
        have HVV := Lib.hid hVV
        have q5 := J.now.2.two
        clear hVV htr C49 hbb hq
        go_wp2_with (go_at_call 49; (with_reducible refine (Gives.c (H49.out _)).mono ?_); rintro e wd ⟨rfl, hb⟩; replace J := J.next hb; clear hb)
        go_ret
        exact ⟨by rw [← HVV.out]; rfl, J.now.1.1.1⟩
      | true =>
        rw [if_neg (by rw [hq]; decide)] at hVV
        rw [hbb, hq] at C49
        have H49 := Lib.hid C49
        have hbd : (0 ≤ bn ∧ bn ≤ 1000000) ∧ 1 ≤ bd ∧ bd ≤ 100000 := by
          unfold bdOk at hq
          simpa using hq
        have hgt := HG.out
        have hbx := clm_bd hgt (t := trioOf cs) (by rw [HLN.out]; exact htr.1)
        have C51 : ∀ W, Gives 51 #[.agg #[.int .i64 (clm l (trioOf cs)).off.num, .int .i64 ((clm l (trioOf cs)).off.den : Int)], .agg #[.int .i64 bn, .int .i64 bd]] (.bool (decide ((clm l (trioOf cs)).off < fr bn bd))) W := fun W => by
          have m1 := mul_ab (a := bn) (b := ((clm l (trioOf cs)).off.den : Int)) (A := 1000000) (B := 40000) (by omega) (by omega)
          have m2 := mul_ab (a := (clm l (trioOf cs)).off.num) (b := bd) (A := 400000000) (B := 100000) (by omega) (by omega)
          have h := rless_raw (a := (clm l (trioOf cs)).off.num) (b := ((clm l (trioOf cs)).off.den : Int)) (c := bn) (d := bd) (i64_in (by omega) (by omega)) (i64_in (by omega) (by omega)) W
          rwa [decide_eq_decide.2 (lt_fr (n := bn) (d := bd) (by omega) (clm l (trioOf cs)).off).symm] at h
        have g0 := htr.2.1
        have g1 := htr.2.2.1
        have g2 := htr.2.2.2
        have hok := htr.1
        have C54 : ∀ i, i < n → ∀ W, Gives 54 #[.agg #[.int .i64 (cAt l i).1, .int .i64 (cAt l i).2.1, .int .i64 (cAt l i).2.2]] (rv (clm l (i, i, i)).off) W := fun i hi W => by
          rw [clm_one]
          exact proved_calls _ (hgt.tame i (by have := HLN.out; omega)) W
        unfold rv at C54
        generalize hTT : trioOf cs = t at *
        obtain ⟨i0, i1, i2⟩ := t
        dsimp only at g0 g1 g2
        have g1 : cs[0]?.getD 0 = (i1 : Int) := g1
        have g2 : cs[0]?.getD 0 = (i2 : Int) := g2
        obtain rfl : i1 = i0 := by omega
        obtain rfl : i2 = i1 := by omega
        have hi0 : i2 < n := hok.1
        replace C54 := C54 i2 hi0
        generalize (clm l (i2, i2, i2)).off = x at C51 C54 hVV
        obtain ⟨y, hy⟩ : ∃ y, y = x := ⟨_, rfl⟩
        rw [← hy] at C54
        have HY := Lib.hid hy
        clear g1 g2 htr hTT hok hy
        obtain ⟨dd, hdd⟩ : ∃ dd, decide (x < fr bn bd) = dd := ⟨_, rfl⟩
        rw [hdd] at C51
        have hVd : V = if dd = true then 14 else 0 := by
          rw [← hVV, ← hdd]
          by_cases h : x < fr bn bd
          · rw [if_pos h, if_pos (decide_eq_true h)]
          · rw [if_neg h, if_neg (by rw [decide_eq_false h]; decide)]
        have HVd := Lib.hid hVd
        have H51 := Lib.hid C51
        have H54 := Lib.hid C54
        have q5 := J.now.2.two
        have hx0 := J.now.1.2.at (j := 0) (by omega)
        rw [Nat.add_zero, g0] at hx0
        have hy0 := J.now.1.1.2.at hi0
        clear hVV hbb hbx hgt hq hbd C51 C54 hVd hdd C49
        go_upto_region 15 with (go_at_call 49; (with_reducible refine (Gives.c (H49.out _)).mono ?_); rintro e wd ⟨rfl, hb⟩; replace J := J.next hb; clear hb hx0 hy0 q5; have hx0 := J.now.1.2.at (j := 0) (by omega); rw [Nat.add_zero, g0] at hx0; have hy0 := J.now.1.1.2.at hi0)
        have G0 := Lib.hid g0
        clear g0
        go_upto_region 16 with (go_at_call 54; (with_reducible refine (Gives.c (H54.out _)).mono ?_); rintro e we ⟨rfl, hb⟩; replace J := J.next hb; clear hb hx0 hy0)
        have K := J.allocB [.int .i64 y.num, .int .i64 (y.den : Int)] 24
        change Held (we.alloc (.cells #[.int .i64 y.num, .int .i64 (y.den : Int)] 24)) _ at K
        have z9 := J.now.2.lt
        clear J
        generalize hB9 : we.heap.size = B9 at K z9 ⊢
        generalize World.alloc _ _ = w3 at K ⊢
        clear hB9
        have q5 := K.now.1.2.two
        have q9 := K.now.2.two
        rw [HY.out] at q9
        go_upto_if 86 with (go_at_call 51; (with_reducible refine (Gives.c (H51.out _)).mono ?_); rintro e wf ⟨rfl, hb⟩; replace K := K.next hb; clear hb q5 q9)
        cases dd with
        | true =>
          go_wp2_with fail
          go_ret
          exact ⟨by rw [HVd.out]; rfl, K.now.1.1.1.1⟩
        | false =>
          go_wp2_with fail
          go_ret
          exact ⟨by rw [HVd.out]; rfl, K.now.1.1.1.1⟩

set_option maxRecDepth 100000 in
set_option maxHeartbeats 8000000 in
theorem rverify_3 {A : Option Addr} {n c : Nat} {l : List Cd} {A2 : Option Addr} {m c2 : Nat} {cs : List Int} {bn bd : Int} (w : World) (hl : ReadsC w A n l) (hcs : Reads w A2 m cs) (hcap : n ≤ c) (hk : chk l = 0) (hm : m = 3) :
    Gives 20 #[.slice A n c, .slice A2 m c2, .agg #[.int .i64 bn, .int .i64 bd]] (.int .i64 (verV l cs bn bd)) w := by
  unfold Gives
  obtain ⟨V, hV⟩ : ∃ V, verV l cs bn bd = V := ⟨_, rfl⟩
  rw [hV]
  unfold verV at hV
  rw [hl.1, hcs.1] at hV
  have I : Held (w.alloc (.cells [Value.int .i64 bn, .int .i64 bd].toArray 24)) (fun W => ((Below w.heap.size w W ∧ ReadsC W A n l) ∧ Reads W A2 m cs) ∧ Blk W w.heap.size [Value.int .i64 bn, .int .i64 bd]) := fun W hW => by
    have h1 : Below w.heap.size w W := ((Below.refl _ _).alloc (Nat.le_refl _) _).trans (hW.mono (by simp))
    exact ⟨⟨⟨h1, hl.later h1⟩, hcs.later h1⟩, (Blk.new w _ 24).later hW⟩
  have C1 : ∀ W, ReadsC W A n l → Gives 16 #[.slice A n c] (.int .i64 (chk l)) W := fun W h => rcheck_calls A n c l W h hcap
  rw [if_neg (fun h => h hk)] at hV
  rw [hk] at C1
  have HC1 := Lib.hid C1
  have hg := chk_good hk
  have hlen := hl.1
  have hln2 := hcs.1
  have hm64 := hcs.2.1
  obtain ⟨b, off, rfl, _⟩ := hl.2.2 (by have := hg.pos; omega)
  clear C1 hk
  rw [if_neg (fun h => h (by omega))] at hV
  have hmp : 0 < m := by omega
  obtain ⟨b2, off2, rfl, _⟩ := hcs.2.2 hmp
  have hTR := trioOf_ok (n := n) (cs := cs) (by rw [hln2]; omega)
  rw [hln2, hm] at hTR
  have HTR := Lib.hid hTR
  have C49 : ∀ W, Gives 49 #[.agg #[.int .i64 bn, .int .i64 bd]] (.bool (bndB bn bd)) W := rbounded_calls bn bd
  have HC49 := Lib.hid C49
  have hB : ∀ n lo hi W, Quiet 43 #[.int .i64 n, .int .i64 lo, .int .i64 hi] (.bool (btw lo n hi)) W := is_calls
  have HBT := Lib.hid hB
  obtain ⟨T, hT⟩ : ∃ T, cdL n (-1) cs = T := ⟨_, rfl⟩
  have hV0 : ¬ T = 0 → V = T := fun h => by rw [hT, if_pos h] at hV; exact hV.symm
  have hV1 : T = 0 → (if bdOk bn bd = false then (3 : Int) else if (clm l (trioOf cs)).off < fr bn bd then 14 else 0) = V := fun h => by rw [hT, if_neg (fun h1 => h1 h)] at hV; exact hV
  have HV0 := Lib.hid hV0
  have HV1 := Lib.hid hV1
  have HT := Lib.hid hT
  have HG := Lib.hid hg
  have HLN := Lib.hid hlen
  have hn24 : n ≤ 24 := by have := hg.few; omega
  have wn1 : IntKind.i64.wrap ((n : Int) - 1) = (n : Int) - 1 := i64_in (by omega) (by omega)
  have n1 : ((m : Int) != 1) = true := bne_iff_ne.2 (by omega)
  have n3 : ((m : Int) != 3) = false := by rw [show (m : Int) = 3 by omega]; rfl
  have e1 : ((m : Int) == 1) = false := beq_eq_false_iff_ne.2 (by omega)
  have e1' : ¬ (m : Int) = 1 := by omega
  have e3 : ((m : Int) == 3) = true := beq_iff_eq.2 (by omega)
  have hm3 : m ≤ 3 := by omega
  have HLM := Lib.hid hln2
  have HM := Lib.hid hm
  clear hV hT hV0 hV1 hB C49 hTR hg hl hcs hlen hln2 hm64 hm hcap
  go_enter Try.func20, Try.ntmps20
  go_wp2_with fail
  generalize World.alloc _ _ = w1 at I ⊢
  go_wp2_with (go_at_call 16; (with_reducible refine (Gives.c (HC1.out _ I.now.1.1.2)).mono ?_); rintro e w2 ⟨rfl, hb⟩; replace I := I.next hb; clear hb)
  go_loopw [8] (fun i wr => ∃ (k : Nat) (last : Int), k ≤ m ∧ i = .int .i64 k ∧ Aside (cdL n last (cs.drop k) = T) ∧ Aside (k = 0 → last = -1) ∧ Aside (∀ j, j + 1 = k → last = cs[j]?.getD 0) ∧ Aside (Below w2.heap.size w2 wr)) (fun i _ => m - (intOf i).toNat)
  case atStart => exact ⟨0, -1, Nat.zero_le _, rfl, by rw [List.drop_zero]; exact HT.out, fun _ => rfl, fun j h => absurd h (by omega), Below.refl _ _⟩
  case round =>
    obtain ⟨k, last, hk, rfl, HC, HK0, HK1, HB⟩ := hrel
    have J := I.next HB.out
    by_cases hlt : k < m
    · have hlt' : (k : Int) < (m : Int) := by omega
      have hw1 : IntKind.i64.wrap ((k : Int) + 1) = (k : Int) + 1 := i64_in (by omega) (by omega)
      have hx1 := J.now.1.2.at hlt
      have hC := HC.out
      rw [cdL_at (by have := HLM.out; omega)] at hC
      have hnx : ∀ j, j + 1 = k + 1 → cs[k]?.getD 0 = cs[j]?.getD 0 := fun j hj => by rw [show j = k by omega]
      generalize cs[k]?.getD 0 = x at hx1 hC hnx
      have HNX := Lib.hid hnx
      clear hnx HC
      by_cases c1 : 0 ≤ x ∧ x ≤ (n : Int) - 1
      · have d1 := btw_yes c1
        rw [if_neg (fun h => h c1)] at hC
        rcases Nat.eq_zero_or_pos k with hk0 | hk0
        · have hl0 := HK0.out hk0
          rw [if_neg (by omega)] at hC
          have k0 : ¬ (0 : Int) < (k : Int) := by omega
          have k0' : ¬ 0 < k := by omega
          have HC := Lib.hid hC
          clear hC c1 HK0 HK1 hl0 hk0
          go_wp2_with (go_at_call 43; (with_reducible refine (Quiet.c (HBT.out _ _ _ _)).mono ?_); rintro e w1 ⟨rfl, rfl⟩)
          go_quiet (fail)
          go_wp2
          go_roundw
          case rel => exact ⟨k + 1, x, hlt, by go_num, HC.out, fun h => absurd h (by omega), HNX.out, below_drewN' HB.out _⟩
          case measure => simp [intOf]; omega
        · obtain ⟨k', hk'⟩ : ∃ k', k' = k - 1 := ⟨k - 1, rfl⟩
          have hl1 := HK1.out k' (by omega)
          have hxp := J.now.1.2.at (j := k') (by omega)
          rw [← hl1] at hxp
          have wk : IntKind.i64.wrap ((k : Int) - 1) = (k' : Int) := by rw [i64_in (by omega) (by omega)]; omega
          have k1 : (0 : Int) < (k : Int) := by omega
          have k2 : (k' : Int) < (m : Int) := by omega
          clear hk'
          by_cases c4 : x ≤ last
          · rw [if_pos c4] at hC
            have hVV := HV0.out (by rw [← hC]; decide)
            rw [← hC] at hVV
            have HVV := Lib.hid hVV
            clear c1 hC hVV HK0 HK1 hl1
            go_wp2_with (go_at_call 43; (with_reducible refine (Quiet.c (HBT.out _ _ _ _)).mono ?_); rintro e w1 ⟨rfl, rfl⟩)
            go_quiet (fail)
            go_wp2
            go_ret
            exact ⟨by rw [HVV.out]; rfl, below_drewN' J.now.1.1.1 _⟩
          · rw [if_neg c4] at hC
            have HC := Lib.hid hC
            clear hC c1 HK0 HK1 hl1
            go_wp2_with (go_at_call 43; (with_reducible refine (Quiet.c (HBT.out _ _ _ _)).mono ?_); rintro e w1 ⟨rfl, rfl⟩)
            go_quiet (fail)
            go_wp2
            go_roundw
            case rel => exact ⟨k + 1, x, hlt, by go_num, HC.out, fun h => absurd h (by omega), HNX.out, below_drewN' HB.out _⟩
            case measure => simp [intOf]; omega
      · have d1 := btw_no c1
        rw [if_pos c1] at hC
        have hVV := HV0.out (by rw [← hC]; decide)
        rw [← hC] at hVV
        have HVV := Lib.hid hVV
        clear c1 hC hVV HK0 HK1
        go_wp2_with (go_at_call 43; (with_reducible refine (Quiet.c (HBT.out _ _ _ _)).mono ?_); rintro e w1 ⟨rfl, rfl⟩)
        go_ret
        exact ⟨by rw [HVV.out]; rfl, J.now.1.1.1⟩
    · obtain rfl : k = m := by omega
      have hC := HC.out
      rw [List.drop_eq_nil_of_le (by have := HLM.out; omega)] at hC
      have hC : (0 : Int) = T := hC
      have hVV := HV1.out hC.symm
      have htr0 := HT.out.trans hC.symm
      have htr := HTR.out htr0
      subst hC
      have C49 := HC49.out
      have hbb : bndB bn bd = bdOk bn bd := rfl
      clear HK0 HK1 HC HT HV0 HV1 HTR HC49
      cases hq : bdOk bn bd with
      | false =>
        rw [if_pos hq] at hVV
        rw [hbb, hq] at C49
        have H49 := Lib.hid C49
        have HVV := Lib.hid hVV
        have q5 := J.now.2.two
        clear hVV htr htr0 C49 hbb hq
        go_wp2_with (go_at_call 49; (with_reducible refine (Gives.c (H49.out _)).mono ?_); rintro e wd ⟨rfl, hb⟩; replace J := J.next hb; clear hb)
        go_ret
        exact ⟨by rw [← HVV.out]; rfl, J.now.1.1.1⟩
      | true =>
        rw [if_neg (by rw [hq]; decide)] at hVV
        rw [hbb, hq] at C49
        have H49 := Lib.hid C49
        have hbd : (0 ≤ bn ∧ bn ≤ 1000000) ∧ 1 ≤ bd ∧ bd ≤ 100000 := by
          unfold bdOk at hq
          simpa using hq
        have hgt := HG.out
        have hbx := clm_bd hgt (t := trioOf cs) (by rw [HLN.out]; exact htr.1)
        have C51 : ∀ W, Gives 51 #[.agg #[.int .i64 (clm l (trioOf cs)).off.num, .int .i64 ((clm l (trioOf cs)).off.den : Int)], .agg #[.int .i64 bn, .int .i64 bd]] (.bool (decide ((clm l (trioOf cs)).off < fr bn bd))) W := fun W => by
          have m1 := mul_ab (a := bn) (b := ((clm l (trioOf cs)).off.den : Int)) (A := 1000000) (B := 40000) (by omega) (by omega)
          have m2 := mul_ab (a := (clm l (trioOf cs)).off.num) (b := bd) (A := 400000000) (B := 100000) (by omega) (by omega)
          have h := rless_raw (a := (clm l (trioOf cs)).off.num) (b := ((clm l (trioOf cs)).off.den : Int)) (c := bn) (d := bd) (i64_in (by omega) (by omega)) (i64_in (by omega) (by omega)) W
          rwa [decide_eq_decide.2 (lt_fr (n := bn) (d := bd) (by omega) (clm l (trioOf cs)).off).symm] at h
        have g0 := htr.2.1
        have g1 := htr.2.2.1
        have g2 := htr.2.2.2
        have hok := htr.1
        have C54 : ∀ i, i < n → ∀ W, Gives 54 #[.agg #[.int .i64 (cAt l i).1, .int .i64 (cAt l i).2.1, .int .i64 (cAt l i).2.2]] (rv (clm l (i, i, i)).off) W := fun i hi W => by
          rw [clm_one]
          exact proved_calls _ (hgt.tame i (by have := HLN.out; omega)) W
        unfold rv at C54
        have C55 : ∀ i j k, i < j → j < k → k < n → ∀ W, Gives 55 #[.agg #[.int .i64 (cAt l i).1, .int .i64 (cAt l i).2.1, .int .i64 (cAt l i).2.2], .agg #[.int .i64 (cAt l j).1, .int .i64 (cAt l j).2.1, .int .i64 (cAt l j).2.2], .agg #[.int .i64 (cAt l k).1, .int .i64 (cAt l k).2.1, .int .i64 (cAt l k).2.2]] (rv (clm l (i, j, k)).off) W := fun i j k h1 h2 h3 W => by
          have hl := HLN.out
          rw [clm_three l h1 h2]
          exact proved3_calls _ _ _ (hgt.tame i (by omega)) (hgt.tame j (by omega)) (hgt.tame k (by omega)) (hgt.inc i j h1 (by omega)) (hgt.inc j k h2 (by omega)) W
        unfold rv at C55
        have hne := trio_three (n := n) (cs := cs) (by have := HLM.out; have := HM.out; omega) htr0
        generalize hTT : trioOf cs = t at *
        obtain ⟨i0, i1, i2⟩ := t
        dsimp only at g0 g1 g2 hne
        have g1 : cs[1]?.getD 0 = (i1 : Int) := g1
        have g2 : cs[2]?.getD 0 = (i2 : Int) := g2
        have hi2 : i2 < n := hok.1
        have hi1 : i1 < n := by omega
        have hi0 : i0 < n := by omega
        replace C54 := C54 i0 hi0
        replace C55 := C55 i0 i1 i2 hne.1 hne.2 hi2
        generalize (clm l (i0, i1, i2)).off = x at C51 C55 hVV
        generalize (clm l (i0, i0, i0)).off = y at C54
        have H55 := Lib.hid C55
        have HI1 := Lib.hid hi1
        have HI2 := Lib.hid hi2
        have G1 := Lib.hid g1
        have G2 := Lib.hid g2
        clear htr htr0 hTT hok C55 hne hi1 hi2 g1 g2
        obtain ⟨dd, hdd⟩ : ∃ dd, decide (x < fr bn bd) = dd := ⟨_, rfl⟩
        rw [hdd] at C51
        have hVd : V = if dd = true then 14 else 0 := by
          rw [← hVV, ← hdd]
          by_cases h : x < fr bn bd
          · rw [if_pos h, if_pos (decide_eq_true h)]
          · rw [if_neg h, if_neg (by rw [decide_eq_false h]; decide)]
        have HVd := Lib.hid hVd
        have H51 := Lib.hid C51
        have H54 := Lib.hid C54
        have q5 := J.now.2.two
        have hx0 := J.now.1.2.at (j := 0) (by omega)
        rw [Nat.add_zero, g0] at hx0
        have hy0 := J.now.1.1.2.at hi0
        clear hVV hbb hbx hgt hq hbd C51 C54 hVd hdd C49
        go_upto_region 15 with (go_at_call 49; (with_reducible refine (Gives.c (H49.out _)).mono ?_); rintro e wd ⟨rfl, hb⟩; replace J := J.next hb; clear hb hx0 hy0 q5; have hx0 := J.now.1.2.at (j := 0) (by omega); rw [Nat.add_zero, g0] at hx0; have hy0 := J.now.1.1.2.at hi0)
        have G0 := Lib.hid g0
        clear g0
        go_upto_region 16 with (go_at_call 54; (with_reducible refine (Gives.c (H54.out _)).mono ?_); rintro e we ⟨rfl, hb⟩; replace J := J.next hb; clear hb hx0 hy0)
        have K := J.allocB [.int .i64 y.num, .int .i64 (y.den : Int)] 24
        change Held (we.alloc (.cells #[.int .i64 y.num, .int .i64 (y.den : Int)] 24)) _ at K
        have z9 := J.now.2.lt
        clear J
        generalize hB9 : we.heap.size = B9 at K z9 ⊢
        generalize World.alloc _ _ = w3 at K ⊢
        clear hB9
        have a0 := K.now.1.1.2.at (j := 0) (by omega)
        rw [Nat.add_zero, G0.out] at a0
        have a1 := K.now.1.1.2.at (j := 1) (by have := HM.out; omega)
        rw [G1.out] at a1
        have a2 := K.now.1.1.2.at (j := 2) (by have := HM.out; omega)
        rw [G2.out] at a2
        have b0 := K.now.1.1.1.2.at hi0
        have b1 := K.now.1.1.1.2.at HI1.out
        have b2 := K.now.1.1.1.2.at HI2.out
        have i0' : (i0 : Int) < (n : Int) := by omega
        have i1' : (i1 : Int) < (n : Int) := by have := HI1.out; omega
        have i2' : (i2 : Int) < (n : Int) := by have := HI2.out; omega
        have m1' : (1 : Int) < (k : Int) := by have := HM.out; omega
        have m2' : (2 : Int) < (k : Int) := by have := HM.out; omega
        go_upto_region 17 with fail
        go_still_tail 18, (by kernel_rfl)
        replace K := K.next (Below.refl w3.heap.size w3).drew
        change wpList _ _ _ _ _ w3.drew
        generalize World.drew _ = w4 at K ⊢
        clear a0 a1 a2 b0 b1 b2 i0' i1' i2' m1' m2'
        go_upto_region 18 with (go_at_call 55; (with_reducible refine (Gives.c (H55.out _)).mono ?_); rintro e wf ⟨rfl, hb⟩; replace K := K.next hb; clear hb; have q9 := K.now.2.two; have f9 := K.now.2.free2)
        have KB := K.now.2.put2 (.int .i64 x.num) (.int .i64 (x.den : Int))
        have K5 := K.now.1.2.other2 (B' := B9) (by omega) (.int .i64 x.num) (.int .i64 (x.den : Int))
        have KL := below2 K.now.1.1.1.1 (show w.heap.size ≤ B9 by omega) (.int .i64 x.num) (.int .i64 (x.den : Int))
        clear q9 f9 K
        generalize World.setCell _ _ _ = w5 at KB K5 KL ⊢
        have K : Held w5 (fun W => (((Below w.heap.size w W ∧ True) ∧ True) ∧ Blk W w.heap.size [.int .i64 bn, .int .i64 bd]) ∧ Blk W B9 [.int .i64 x.num, .int .i64 (x.den : Int)]) := fun W hW => ⟨⟨⟨⟨KL.trans (hW.mono KL.size), trivial⟩, trivial⟩, K5.later hW⟩, KB.later hW⟩
        have q5 := K5.two
        have q9 := KB.two
        clear KB K5 KL
        go_upto_if 86 with (go_at_call 51; (with_reducible refine (Gives.c (H51.out _)).mono ?_); rintro e wg ⟨rfl, hb⟩; replace K := K.next hb; clear hb q5 q9)
        cases dd with
        | true =>
          go_wp2_with fail
          go_ret
          exact ⟨by rw [HVd.out]; rfl, K.now.1.1.1.1⟩
        | false =>
          go_wp2_with fail
          go_ret
          exact ⟨by rw [HVd.out]; rfl, K.now.1.1.1.1⟩

set_option maxRecDepth 100000 in
set_option maxHeartbeats 8000000 in
theorem rverify_calls (A : Option Addr) (n c : Nat) (l : List Cd) (A2 : Option Addr) (m c2 : Nat) (cs : List Int) (bn bd : Int) (w : World) (hl : ReadsC w A n l) (hcs : Reads w A2 m cs) (hcap : n ≤ c) :
    Gives 20 #[.slice A n c, .slice A2 m c2, .agg #[.int .i64 bn, .int .i64 bd]] (.int .i64 (verV l cs bn bd)) w := by
  by_cases hk : chk l = 0
  · by_cases h1 : m = 1
    · exact rverify_1 w hl hcs hcap hk h1
    · by_cases h3 : m = 3
      · exact rverify_3 w hl hcs hcap hk h3
      · unfold Gives verV
        rw [if_neg (fun h => h hk), hcs.1, if_pos (by omega)]
        have n1 : ((m : Int) != 1) = true := bne_iff_ne.2 (by omega)
        have n3 : ((m : Int) != 3) = true := bne_iff_ne.2 (by omega)
        have e1 : ((m : Int) == 1) = false := beq_eq_false_iff_ne.2 (by omega)
        have e1' : ¬ (m : Int) = 1 := by omega
        have e3 : ((m : Int) == 3) = false := beq_eq_false_iff_ne.2 (by omega)
        have e3' : ¬ (m : Int) = 3 := by omega
        have C1 : ∀ W, ReadsC W A n l → Gives 16 #[.slice A n c] (.int .i64 (chk l)) W := fun W h => rcheck_calls A n c l W h hcap
        rw [hk] at C1
        have I : Held w (fun W => Below w.heap.size w W ∧ ReadsC W A n l) := (Held.from (Below.refl _ _) (Nat.le_refl _)).with (.readsC hl)
        have HC1 := Lib.hid C1
        clear C1 hk hl hcs hcap h1 h3
        go_enter Try.func20, Try.ntmps20
        go_wp2_with (go_at_call 16; (with_reducible refine (Gives.c (HC1.out (World.alloc _ _) (I.alloc _).now.2)).mono ?_); rintro e w2 ⟨rfl, hb⟩; replace I := (I.alloc _).next hb; clear hb)
        go_ret
        exact ⟨rfl, I.now.1⟩
  · unfold Gives verV
    rw [if_pos hk]
    have hne : (chk l == 0) = false := beq_eq_false_iff_ne.2 hk
    have C1 : ∀ W, ReadsC W A n l → Gives 16 #[.slice A n c] (.int .i64 (chk l)) W := fun W h => rcheck_calls A n c l W h hcap
    have I : Held w (fun W => Below w.heap.size w W ∧ ReadsC W A n l) := (Held.from (Below.refl _ _) (Nat.le_refl _)).with (.readsC hl)
    have HC1 := Lib.hid C1
    generalize chk l = e at hne HC1 hk
    clear C1 hl hcs hcap
    go_enter Try.func20, Try.ntmps20
    go_wp2_with (go_at_call 16; (with_reducible refine (Gives.c (HC1.out (World.alloc _ _) (I.alloc _).now.2)).mono ?_); rintro e' w2 ⟨rfl, hb⟩; replace I := (I.alloc _).next hb; clear hb)
    go_ret
    exact ⟨rfl, I.now.1⟩
end Go.Proofs.Ytjncoableanmpaa
