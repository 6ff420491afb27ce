/- The reference: Worst. -/
import Derived.Test.YtjncoableanmpaaQF
import Derived.Test.YtjncoableanmpaaLZ
import Derived.Test.YtjncoableanmpaaPL
import Derived.Deep.DeepCutAuto
namespace Go.Proofs.Ytjncoableanmpaa
open Go.RowKit Go.Lib Go.Shelf

theorem Reads.at0 {w : World} {b off n : Nat} {l : List Int} (h : Reads w (some ⟨b, off, none⟩) n l) {j : Nat} (hj : j < n) : w.cell? ⟨b, off + j, none⟩ = some (.int .i64 (l[j]?.getD 0)) := by
  obtain ⟨b', off', e, hc⟩ := h.2.2 (by omega)
  cases e
  exact hc j hj
/-- The starts of a division grow from 0. -/
theorem dv_asc {l : List Cd} {n e : Nat} {s : List Int} {q : Rat} (h : Dv l n e s q) : Asc s (e - 1) := by
  induction n generalizing e s q with
  | zero =>
    obtain ⟨he, rfl, _⟩ := h
    refine ⟨rfl, fun i hi => ?_, fun i hi => ?_⟩
    · have : i + 1 < 1 := hi
      omega
    · have : i < 1 := hi
      obtain rfl : i = 0 := by omega
      show 0 ≤ (0 : Int) ∧ (0 : Int) ≤ ((e - 1 : Nat) : Int)
      omega
  | succ n ih =>
    obtain ⟨a, s', q', h1, h2, h3, rfl, _⟩ := h
    have hA := ih h1
    have hl := dv_len h1
    refine ⟨?_, fun i hi => ?_, fun i hi => ?_⟩
    · rw [List.getElem?_append_left (by omega)]
      exact hA.head
    · rw [List.length_append] at hi
      have hi : i + 1 < s'.length + 1 := hi
      by_cases he : i + 1 < s'.length
      · rw [List.getElem?_append_left (by omega), List.getElem?_append_left he]
        exact hA.inc i he
      · rw [List.getElem?_append_left (by omega), List.getElem?_append_right (by omega), show i + 1 - s'.length = 0 by omega]
        have := (hA.bd i (by omega)).2
        show _ < ((a : Nat) : Int)
        omega
    · rw [List.length_append] at hi
      have hi : i < s'.length + 1 := hi
      by_cases he : i < s'.length
      · rw [List.getElem?_append_left he]
        have := hA.bd i he
        omega
      · rw [List.getElem?_append_right (by omega), show i - s'.length = 0 by omega]
        show 0 ≤ ((a : Nat) : Int) ∧ ((a : Nat) : Int) ≤ ((e - 1 : Nat) : Int)
        omega
theorem dv_sml {l : List Cd} (hg : Good l) {n e : Nat} {s : List Int} {q : Rat} (he : e ≤ l.length) (hd : Dv l n e s q) : Sml q := by
  induction n generalizing e s q with
  | zero =>
    obtain ⟨h1, _, rfl⟩ := hd
    exact alo_sml hg h1 he
  | succ n ih =>
    obtain ⟨a, s', q', h1, h2, h3, rfl, rfl⟩ := hd
    rcases maxR_or q' (alo l a e) with k | k
    · rw [k]; exact ih (by omega) h1
    · rw [k]; exact alo_sml hg h3 he
theorem maxR_if (q y : Rat) : maxR q y = if q < y then y else q := by
  unfold maxR
  split
  · rename_i h; rw [if_neg (Rat.not_lt.2 (Rat.le_of_lt h))]
  · rename_i h
    split
    · rfl
    · rename_i h2; exact Rat.le_antisymm (Rat.not_lt.1 h2) (Rat.not_lt.1 h)
theorem sml_nonneg {q : Rat} (h : Sml q) : 0 ≤ q := by
  have h1 := h.1
  have h2 : (0 : Rat) ≤ q := by
    rw [Rat.le_iff]
    show (0 : Int) * (q.den : Int) ≤ q.num * ((1 : Nat) : Int)
    omega
  exact h2

set_option maxRecDepth 100000 in
set_option maxHeartbeats 8000000 in
theorem rworst_calls {b off n c sb so sc m : Nat} {l : List Cd} {s : List Int} {x : Rat} (w : World) (hl : ReadsC w (some ⟨b, off, none⟩) n l) (hg : Good l) (hcap : n ≤ c) (hs : Reads w (some ⟨sb, so, none⟩) (m + 1) s) (hd : Dv l m n s x) :
    Gives 23 #[.slice (some ⟨b, off, none⟩) n c, .slice (some ⟨sb, so, none⟩) (m + 1) sc, .int .i64 ((m + 1 : Nat) : Int)] (.tuple #[rv x, .bool true]) w := by
  unfold Gives
  have hlen := hl.1
  have hn24 : n ≤ 24 := by have := hg.few; omega
  have hasc := dv_asc hd
  have hsl := dv_len hd
  have hbig := dv_big hd
  obtain ⟨p, hp⟩ : ∃ p, m + 1 = p := ⟨_, rfl⟩
  rw [hp] at hs hsl ⊢
  have hpn : p ≤ n := by omega
  have hp1 : 1 ≤ p := by omega
  have HSL := Lib.hid hsl
  have HASC := Lib.hid hasc
  have HG := Lib.hid hg
  have HLN := Lib.hid hlen
  have HD := Lib.hid hd
  have HP := Lib.hid hp
  have HL := Lib.hid hl
  have HSR := Lib.hid hs
  have q0 := hs.at0 (j := 0) (by omega)
  have h00 : s[0]?.getD 0 = 0 := by rw [hasc.head]; rfl
  rw [Nat.add_zero, h00] at q0
  have z0 : sb < w.heap.size := World.block_lt_of_cell? w _ q0
  have I0 := ((Held.from (w0 := w) (Below.refl w.heap.size w) (Nat.le_refl _)).with (.readsC hl)).with (.reads hs)
  have I := I0.allocB2 [Value.int .i64 0, .int .i64 0] 24 [Value.int .i64 0, .int .i64 1] 24
  have hp0 : (0 : Int) < (p : Int) := by omega
  have hpe : ((p : Int) == 0) = false := beq_eq_false_iff_ne.2 (by omega)
  have hpe' : ¬ (p : Int) = 0 := by omega
  have hpe2 : ¬ p = 0 := by omega
  have hmon : ∀ i, i < p → ∀ e, endOf s n i = e → ∀ fj : Nat, s[i]?.getD 0 = (fj : Int) → fj < e ∧ e ≤ n := fun i hi e he fj hfj => by
    unfold endOf at he
    split at he
    · rename_i h2
      have h3 := hasc.inc i h2
      have h4 := hasc.bd (i + 1) h2
      rw [hfj] at h3
      omega
    · have h4 := hasc.bd i (by omega)
      rw [hfj] at h4
      omega
  have HMON := Lib.hid hmon
  clear hl hg hlen hasc hsl hbig hs hd hp h00 I0 hmon
  go_enter Try.func23, Try.ntmps23
  go_wp2_with fail
  have HB0 := Lib.hid (I.now.2)
  generalize World.alloc _ _ = w1 at I HB0 ⊢
  go_loopw [9] (fun s9 wr => ∃ (j : Nat) (q : Rat), j ≤ p ∧ s9 = .int .i64 j ∧ Aside (j = 0 → q = 0) ∧ Aside (Sml q) ∧ Aside (∀ i, i + 1 = j → Dv l i (endOf s n i) (s.take (i + 1)) q) ∧ Aside (Blk wr (w.heap.size + 1) [.int .i64 q.num, .int .i64 (q.den : Int)]) ∧ Aside (Below w.heap.size w wr ∧ Blk wr w.heap.size [.int .i64 0, .int .i64 0])) (fun s9 _ => p - (intOf s9).toNat)
  case atStart => exact ⟨0, 0, Nat.zero_le _, rfl, fun _ => rfl, ⟨by decide, by decide, by decide⟩, fun i h => absurd h (by omega), HB0.out, I.now.1.1.1.1, I.now.1.2⟩
  case round =>
    obtain ⟨j, q, hj, rfl, HQ0, HQS, HQD, HBK, HKR⟩ := hrel
    clear I HB0
    obtain ⟨w9, hw9⟩ : ∃ x, x = wr := ⟨_, rfl⟩
    subst hw9
    have hK : ∀ X, Below w9.heap.size w9 X → ((Below w.heap.size w X ∧ ReadsC X (some ⟨b, off, none⟩) n l) ∧ Reads X (some ⟨sb, so, none⟩) p s) ∧ Blk X w.heap.size [.int .i64 0, .int .i64 0] := fun X hX => by
      have hb := HKR.out.1.trans (hX.mono HKR.out.1.size)
      exact ⟨⟨⟨hb, HL.out.later hb⟩, HSR.out.later hb⟩, HKR.out.2.later hX⟩
    have HK := Lib.hid hK
    clear hK HKR
    by_cases hjp : p ≤ j
    · obtain rfl : j = p := by omega
      have hdv : Dv l m n s q := dv_full HASC.out (by have := HP.out; have := HSL.out; omega) (HQD.out m (by have := HP.out; omega))
      obtain rfl := dv_one hdv HD.out
      have q8 := HBK.out.two
      have q6 := (HK.out w9 (Below.refl _ _)).2.two
      have f6 := (HK.out w9 (Below.refl _ _)).2.free2
      have z6 := (HK.out w9 (Below.refl _ _)).2.lt
      clear hdv HQ0 HQS HQD
      go_wp2_with fail
      have k2 := ((HK.out w9 (Below.refl _ _)).2.put2 (.int .i64 q.num) (.int .i64 (q.den : Int))).two
      have kb := below2 (HK.out w9 (Below.refl _ _)).1.1.1 (Nat.le_refl w.heap.size) (.int .i64 q.num) (.int .i64 (q.den : Int))
      generalize World.setCell _ _ _ = wf at k2 kb ⊢
      refine bodyPost_ret (v := .tuple #[rv q, .bool true]) (by simp [results, Try.results23, go_sem, k2, rv]) rfl ⟨rfl, kb⟩
    · replace hjp : j < p := by omega
      have hjp' : (j : Int) < (p : Int) := by omega
      have hw3 : IntKind.i64.wrap ((j : Int) + 1) = (j : Int) + 1 := i64_in (by omega) (by omega)
      have hbd := HASC.out.bd j (by have := HSL.out; omega)
      have K := HK.out w9 (Below.refl _ _)
      have qs := K.1.2.at0 hjp
      obtain ⟨fj, hfj⟩ : ∃ fj : Nat, s[j]?.getD 0 = (fj : Int) := ⟨_, (Int.toNat_of_nonneg hbd.1).symm⟩
      obtain ⟨e, he⟩ : ∃ e, endOf s n j = e := ⟨_, rfl⟩
      have hfe := HMON.out j hjp e he fj hfj
      have hsl := HSL.out
      have he1 : j + 1 < p → s[j + 1]?.getD 0 = (e : Int) := fun h => by
        have hb := HASC.out.bd (j + 1) (by omega)
        rw [← he]
        unfold endOf
        rw [if_pos (by omega), Int.toNat_of_nonneg hb.1]
      have he2 : ¬ j + 1 < p → e = n := fun h => by
        rw [← he]
        unfold endOf
        rw [if_neg (by omega)]
      have hya := alo_sml HG.out hfe.1 (by have := HLN.out; omega)
      have hdv2 : Sml (maxR q (alo l fj e)) ∧ ∀ i, i + 1 = j + 1 → Dv l i (endOf s n i) (s.take (i + 1)) (maxR q (alo l fj e)) := by
        have key : Dv l j (endOf s n j) (s.take (j + 1)) (maxR q (alo l fj e)) := by
          rcases Nat.eq_zero_or_pos j with h0 | h0
          · subst h0
            have hf0 : fj = 0 := by
              have h := HASC.out.head
              rw [h] at hfj
              have : (0 : Int) = (fj : Int) := hfj
              omega
            have hm : maxR q (alo l fj e) = alo l 0 (endOf s n 0) := by
              rw [HQ0.out rfl, hf0, he]
              rw [hf0] at hya
              unfold maxR
              split
              · rename_i hlt
                exact absurd hlt (Rat.not_lt.2 (sml_nonneg hya))
              · rfl
            rw [hm]
            exact dv_first HASC.out (by omega) (by omega)
          · obtain ⟨j', rfl⟩ : ∃ j', j = j' + 1 := ⟨j - 1, by omega⟩
            have hp := dv_parts HASC.out (show n - 1 < n by omega) (k := j') (by omega) (HQD.out j' rfl)
            rw [hfj, Int.toNat_natCast, he] at hp
            rw [he]
            exact hp
        refine ⟨?_, fun i hi => ?_⟩
        · exact dv_sml HG.out (by rw [he]; have := HLN.out; omega) key
        · obtain rfl : i = j := by omega
          exact key
      rw [maxR_if] at hdv2
      have hqs := HQS.out
      have h51 : ∀ W, Gives 51 #[.agg #[.int .i64 q.num, .int .i64 (q.den : Int)], .agg #[.int .i64 (alo l fj e).num, .int .i64 ((alo l fj e).den : Int)]] (.bool (decide (q < alo l fj e))) W := fun W => by
        unfold Sml at hqs hya
        exact rless_calls (by omega) (by omega) (by omega) (by omega) W
      have h50 : ∀ W, ReadsC W (some ⟨b, off, none⟩) n l → Calls Try.prog 50 #[.slice (some ⟨b, off + fj * 3, none⟩) (e - fj) (c - fj)] W fun e' w' => ∃ v, e' = .returned (.tuple #[.agg #[.int .i64 (alo l fj e).num, .int .i64 ((alo l fj e).den : Int)], v]) ∧ Below W.heap.size W w' := fun W h =>
        rbest_calls W (reads_sub h hfe.1 hfe.2) (sub_good HG.out hfe.1 (by have := HLN.out; omega))
      generalize alo l fj e = y at hdv2 h51 h50
      obtain ⟨dd, hdd⟩ : ∃ dd, decide (q < y) = dd := ⟨_, rfl⟩
      rw [hdd] at h51
      have H51 := Lib.hid h51
      have H50 := Lib.hid h50
      have HDV := Lib.hid hdv2
      have HDD := Lib.hid hdd
      rw [hfj] at qs
      have hB : ∀ n lo hi W, Quiet 43 #[.int .i64 n, .int .i64 lo, .int .i64 hi] (.bool (btw lo n hi)) W := is_calls
      have HBT := Lib.hid hB
      have wf1 : IntKind.i64.wrap ((fj : Int) + 1) = (fj : Int) + 1 := i64_in (by omega) (by omega)
      have d1 : btw ((fj : Int) + 1) (e : Int) (n : Int) = true := btw_yes ⟨by omega, by omega⟩
      have i1 : (fj : Int) ≤ (e : Int) := by omega
      have i2 : (e : Int) ≤ (c : Int) := by omega
      have i4 : ¬ c - fj = 0 := by omega
      have i5 : ¬ c = fj := by omega
      have HE1 := Lib.hid he1
      have HE2 := Lib.hid he2
      clear hbd hfj he hfe hsl he1 he2 hya hdv2 hqs h51 h50 hdd hB HQ0 HQS HQD K
      go_upto_if 42 with fail
      go_cut [10] (fun s10 wx => s10 = .int .i64 (e : Int) ∧ wx = w9)
      case first =>
        by_cases h1 : j + 1 < p
        · have h1' : (j : Int) + 1 < (p : Int) := by omega
          have qs2 := (HK.out w9 (Below.refl _ _)).1.2.at0 h1
          rw [HE1.out h1] at qs2
          have gs1 : (0 : Int) ≤ (j : Int) + 1 := by omega
          have gs3 : ((j : Int) + 1).toNat = j + 1 := by omega
          go_wp2_with fail
          go_meet
          exact ⟨rfl, rfl⟩
        · have h1' : ¬ (j : Int) + 1 < (p : Int) := by omega
          have hen := HE2.out h1
          go_wp2_with fail
          go_meet
          exact ⟨by rw [hen], rfl⟩
      case rest =>
        obtain ⟨rfl, rfl⟩ := hcut
        have K : Held wc (fun X => (((Below w.heap.size w X ∧ ReadsC X (some ⟨b, off, none⟩) n l) ∧ Reads X (some ⟨sb, so, none⟩) p s) ∧ Blk X w.heap.size [.int .i64 0, .int .i64 0]) ∧ Blk X (w.heap.size + 1) [.int .i64 q.num, .int .i64 (q.den : Int)]) := fun X hX => ⟨HK.out X hX, HBK.out.later hX⟩
        go_upto_if 57 with (go_at_call 43; (with_reducible refine (Quiet.c (HBT.out _ _ _ _)).mono ?_); rintro e' wq ⟨rfl, rfl⟩)
        go_upto_region 13 with (go_at_call 50; (with_reducible refine (H50.out _ K.now.1.1.1.2).mono ?_); rintro e' wa ⟨v, rfl, hb⟩; replace K := K.next hb; have zA := K.now.2.lt; replace K := K.allocB [.int .i64 y.num, .int .i64 (y.den : Int)] 24; clear hb qs)
        generalize World.alloc _ _ = wb at K ⊢
        have q8 := K.now.1.2.two
        have q11 := K.now.2.two
        go_upto_if 72 with (go_at_call 51; (with_reducible refine (Gives.c (H51.out _)).mono ?_); rintro e' wd ⟨rfl, hb⟩; replace K := K.next hb; clear hb q8 q11; have q8 := K.now.1.2.two; have q11 := K.now.2.two; have f8 := K.now.1.2.free2; have z8 := K.now.1.2.lt)
        have hdv := HDV.out
        have HK2 := Lib.hid K
        clear K HK HBK HDV H50 H51 i1 i2 i4 i5 wf1 d1
        cases dd with
        | true =>
          rw [if_pos (of_decide_eq_true HDD.out)] at hdv
          have HDV := Lib.hid hdv
          clear hdv
          go_wp2_with fail
          go_roundw
          case rel => exact ⟨j + 1, y, by omega, by go_num, fun h => absurd h (by omega), HDV.out.1, HDV.out.2, HK2.out.now.1.2.put2 _ _, below2 HK2.out.now.1.1.1.1.1 (by omega) _ _, HK2.out.now.1.1.2.other2 (by omega) _ _⟩
          case measure => simp [intOf]; omega
        | false =>
          rw [if_neg (of_decide_eq_false HDD.out)] at hdv
          have HDV := Lib.hid hdv
          clear hdv
          go_wp2_with fail
          go_roundw
          case rel => exact ⟨j + 1, q, by omega, by go_num, fun h => absurd h (by omega), HDV.out.1, HDV.out.2, HK2.out.now.1.2, HK2.out.now.1.1.1.1.1, HK2.out.now.1.1.2⟩
          case measure => simp [intOf]; omega
end Go.Proofs.Ytjncoableanmpaa
