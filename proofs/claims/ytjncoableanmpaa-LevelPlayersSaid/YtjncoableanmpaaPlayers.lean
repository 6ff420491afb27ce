/- LevelPlayers: no division among as many players has a smaller error: all are tried: the call returns true at every coding and number of players by numbers. -/
import Derived.Test.YtjncoableanmpaaQP
import Derived.Test.YtjncoableanmpaaQN
import Derived.Deep.DeepCutAuto
namespace Go.Proofs.Ytjncoableanmpaa
open Go.ChangeShapes Go.WideShapes Go.ChangeAt Go.RowKit Go.Lib Go.Shelf

theorem half_widest {l : List Cd} (h : Nice l) {q : Rat} {s : List Int} {n : Nat} (hn : n + 1 = l.length) (hd : Dv l n (n + 1) s q) : 2 * q.num = maxG (fun c => c.2.2 - c.2.1) 0 l * (q.den : Int) := by
  obtain ⟨h1, i, hi, he⟩ := dv_each (by omega) hd
  have hp := q.den_pos
  generalize hW : maxG (fun c => c.2.2 - c.2.1) 0 l = W
  have hle := (maxG_le (f := fun c => c.2.2 - c.2.1) (l := l) (m := 0) (X := W)).1 (by omega)
  have hq : q = fr W 2 := by
    refine Rat.le_antisymm ?_ ?_
    · rw [he]
      unfold one1
      rw [fr_le (by omega) (by omega)]
      have := hle.2 i (by omega)
      omega
    · have key : maxG (fun c => c.2.2 - c.2.1) 0 l ≤ 2 * q.num / (q.den : Int) := by
        rw [maxG_le]
        have e := num_den q
        refine ⟨?_, fun j hj => ?_⟩
        · have := (dv_tin h (by omega) hd).1
          exact Int.ediv_nonneg (by omega) (by omega)
        · have := h1 j (by omega)
          rw [← e] at this
          unfold one1 at this
          rw [fr_le (by omega) (by omega)] at this
          exact (Int.le_ediv_iff_mul_le (by omega)).2 (by omega)
      rw [hW] at key
      have key2 := (Int.le_ediv_iff_mul_le (by omega)).1 key
      have := (fr_le (a := W) (d := 2) (x := q.num) (y := (q.den : Int)) (by omega) (by omega)).2 (by omega)
      rwa [num_den] at this
  have e1 := fr_mul (n := W) (d := 2) (by omega)
  have e2 := fr_mul (n := q.num) (d := (q.den : Int)) (by omega)
  rw [num_den] at e2
  rw [← hq] at e1
  have : ((2 * q.num : Int) : Rat) = ((W * (q.den : Int) : Int) : Rat) := by
    simp only [Rat.intCast_mul]
    rw [← e1, ← e2]
    grind
  exact_mod_cast this

theorem Reads.set_other2 {w : World} {b off n B : Nat} {l : List Int} (h : Reads w (some ⟨b, off, none⟩) n l) (hne : ¬ B = b) (i : Nat) (v : Value) : Reads (w.setCell ⟨B, i, none⟩ v) (some ⟨b, off, none⟩) n l := by
  refine ⟨h.1, h.2.1, fun h0 => ⟨b, off, rfl, fun j hj => ?_⟩⟩
  rw [World.cell?_setCell_other _ _ _ _ (by intro e; cases e; exact hne rfl)]
  exact h.cell hj

set_option maxRecDepth 1000000 in
set_option maxHeartbeats 16000000 in
theorem players_walk (A : Option Addr) (n0 c0 : Nat) (tl : List Tri) (g : Int) (w : World) (hs : ReadsS w A n0 tl) (hg : 0 ≤ g ∧ g ≤ 255) :
    Gives 9 #[.slice A n0 c0, .int .u8 g] (.bool true) w := by
  unfold Gives
  obtain ⟨i0, hi0, hz0, hz1, hz2⟩ := info_parts info3
  have hN := madeC_nice tl
  generalize hM : madeC tl = l at hN
  obtain ⟨n, hn⟩ : ∃ n, l.length = n := ⟨_, rfl⟩
  have HN := Lib.hid hN
  have hn1 : 1 ≤ n := by have := hN.pos; omega
  have hn5 : n ≤ 5 := by have := hN.few; omega
  have HLN := Lib.hid hn
  have hMK : ∀ W, ReadsS W A n0 tl → Calls Try.prog 24 #[.slice A n0 c0] W fun e w' => ∃ b o c, e = .returned (.slice (some ⟨b, o, none⟩) n c) ∧ (ReadsC w' (some ⟨b, o, none⟩) n l ∧ n ≤ c) ∧ Below W.heap.size W w' := fun W h => by
    have k := made_calls A n0 c0 tl W h
    rw [hM, hn] at k
    exact k
  have HMK := Lib.hid hMK
  obtain ⟨m, hm⟩ : ∃ m : Nat, g % (n : Int) = (m : Int) := ⟨(g % (n : Int)).toNat, (Int.toNat_of_nonneg (Int.emod_nonneg _ (by omega))).symm⟩
  have hmn : m < n := by have := Int.emod_lt_of_pos g (show 0 < (n : Int) by omega); omega
  have ug : g.tmod (n : Int) = (m : Int) := by rw [Int.tmod_eq_emod_of_nonneg hg.1, hm]
  have cg : IntKind.i64.wrap g = g := i64_in (by omega) (by omega)
  have cm : IntKind.i64.wrap (m : Int) = (m : Int) := i64_in (by omega) (by omega)
  obtain ⟨p, hp⟩ : ∃ p, p = m + 1 := ⟨_, rfl⟩
  have pm : IntKind.i64.wrap (1 + (m : Int)) = (p : Int) := by rw [i64_in (by omega) (by omega)]; omega
  have hp1 : 1 ≤ p := by omega
  have hpn : p ≤ n := by omega
  have HP := Lib.hid hp
  have hn0 : ¬ n = 0 := by omega
  have hn0' : ¬ (n : Int) = 0 := by omega
  have hdiv : ∀ (k : Nat) b o c W, 1 ≤ k → k ≤ n → n ≤ c → ReadsC W (some ⟨b, o, none⟩) n l → Calls Try.prog 21 #[.slice (some ⟨b, o, none⟩) n c, .int .i64 (k : Int)] W fun e w' => ∃ sb so sc, e = .returned (.tuple #[.slice (some ⟨sb, so, none⟩) k sc, .agg #[.int .i64 (dF l (k - 1) n).1.num, .int .i64 ((dF l (k - 1) n).1.den : Int)], .int .i64 0]) ∧ Reads w' (some ⟨sb, so, none⟩) k (dF l (k - 1) n).2 ∧ Below W.heap.size W w' := fun k b o c W h1 h2 hc hr => by
    refine (divide_calls (p := k) W hr (good_chk HN.out.good) ⟨h1, h2⟩ hc).mono fun e w' ⟨⟨s, he, hrd⟩, hb⟩ => ?_
    have hl := dv_len (dF_dv (l := l) (n := k - 1) (e := n) (by omega))
    have hsm : s.m = k := by rw [← hrd.1.1, hl]; omega
    refine ⟨s.b, s.o, s.c, ?_, ?_, hb⟩
    · rw [he, ← hsm]
    · rw [← hsm]
      exact hsm ▸ hrd.1
  have HDIV := Lib.hid hdiv
  have htin : Tin (dF l m n).1 := dv_tin HN.out (by omega) (dF_dv (l := l) (n := m) (e := n) (by omega))
  have hsx : ∀ W, Gives 26 #[.agg #[.int .i64 (dF l m n).1.num, .int .i64 ((dF l m n).1.den : Int)]] (.bool true) W := fun W => small_calls _ _ (by unfold Tin at htin; omega) W
  have HSX := Lib.hid hsx
  have HTIN := Lib.hid htin
  have I : Held w (fun W => Below w.heap.size w W ∧ ReadsS W A n0 tl) := (Held.from (Below.refl _ _) (Nat.le_refl _)).with (.readsS hs)
  have hgt := guard24
  have hst := stood24
  obtain ⟨n1, hn1'⟩ : ∃ n1, n1 = n - 1 := ⟨_, rfl⟩
  have wn1 : IntKind.i64.wrap ((n : Int) - 1) = (n1 : Int) := by rw [i64_in (by omega) (by omega)]; omega
  have hn64 : (n1 : Int) ≤ 64 := by omega
  obtain ⟨K, hK⟩ : ∃ K, K = 2 ^ n1 := ⟨_, rfl⟩
  have hK16 : K ≤ 16 := by rw [hK]; exact Nat.le_trans (Nat.pow_le_pow_right (by omega) (show n1 ≤ 4 by omega)) (by decide)
  have wK : IntKind.i64.wrap ((2 : Int) ^ n1) = (K : Int) := by
    have e : ((2 : Int) ^ n1) = (K : Int) := by rw [hK, Int.natCast_pow]; rfl
    rw [e]
    exact i64_in (by omega) (by omega)
  have HNN := Lib.hid hn1'
  have HKK := Lib.hid hK
  clear hs hM hn hMK hN hm hp hdiv htin hsx hn1' hK
  go_enter Try.func9, Try.ntmps9
  go_upto_region 3 with (go_at_call 24; (with_reducible refine (HMK.out _ I.now.2).mono ?_); rintro e w2 ⟨b, off, c, rfl, ⟨hr, hc⟩, hb⟩; replace I := (I.next hb).with (.readsC hr); clear hb hr)
  clear HMK
  have hD := HDIV.out p b off c
  rw [show p - 1 = m by have := HP.out; omega] at hD
  have HD := Lib.hid hD
  clear hD
  go_upto_region 4 with (go_at_call 21; (with_reducible refine (HD.out _ hp1 hpn hc I.now.2).mono ?_); rintro e w3 ⟨sb, so, sc, rfl, hr, hb⟩; replace I := ((I.next hb).with (.reads hr)).allocB [.int .i64 (dF l m n).1.num, .int .i64 ((dF l m n).1.den : Int)] 24; clear hb hr)
  change Held (w3.alloc (.cells #[.int .i64 (dF l m n).1.num, .int .i64 ((dF l m n).1.den : Int)] 24)) _ at I
  generalize World.alloc _ _ = w4 at I ⊢
  have q8 := I.now.2.two
  go_upto_region 7 with (first
    | (go_at_call 26; (with_reducible refine (Gives.c (HSX.out _)).mono ?_); rintro e w5 ⟨rfl, hb⟩; replace I := I.next hb; clear hb q8)
    | (go_at_call 27; (with_reducible refine (Gives.c (part_calls _ _ _)).mono ?_); rintro e w6 ⟨rfl, hb⟩; replace I := I.next hb; clear hb))
  have HS0 := Lib.hid (Tries.start l m n (dF l m n).2 0)
  have HB10 := Lib.hid ((Blk.new w6 [.int .i64 1000000, .int .i64 1] 24).alloc (.cells [Value.int .i64 0, .int .i64 1].toArray 24))
  have HB11 := Lib.hid (show Blk ((w6.alloc (.cells [Value.int .i64 1000000, .int .i64 1].toArray 24)).alloc (.cells [Value.int .i64 0, .int .i64 1].toArray 24)) (w6.heap.size + 1) [.int .i64 0, .int .i64 1] by simpa using Blk.new (w6.alloc (.cells [Value.int .i64 1000000, .int .i64 1].toArray 24)) [.int .i64 0, .int .i64 1] 24)
  have HBL := Lib.hid (show Below w6.heap.size w6 ((w6.alloc (.cells [Value.int .i64 1000000, .int .i64 1].toArray 24)).alloc (.cells [Value.int .i64 0, .int .i64 1].toArray 24)) from ((Below.refl _ _).alloc (Nat.le_refl _) _).alloc (by simp) _)
  replace I := I.with (Held.from (Below.refl w6.heap.size w6) (Nat.le_refl _))
  go_wp2_with fail
  go_loopw [12, 13] (fun s12 s13 wr => ∃ (t : Nat) (f : Bool) (Bq Oq : Rat), t ≤ K ∧ s12 = .bool f ∧ s13 = .int .i64 t ∧ Aside (Tries l m n (dF l m n).2 t Bq Oq f) ∧ Aside (Blk wr w6.heap.size [.int .i64 Bq.num, .int .i64 (Bq.den : Int)]) ∧ Aside (Blk wr (w6.heap.size + 1) [.int .i64 Oq.num, .int .i64 (Oq.den : Int)]) ∧ Aside (Below w6.heap.size w6 wr)) (fun _ s13 _ => K - (intOf s13).toNat)
  case atStart => exact ⟨0, false, 1000000, 0, Nat.zero_le _, rfl, rfl, HS0.out, HB10.out, HB11.out, HBL.out⟩
  case round =>
    obtain ⟨t, f, Bq, Oq, ht, rfl, rfl, HT, H10, H11, HW⟩ := hrel
    clear HS0 HB10 HB11 HBL
    by_cases hge : K ≤ t
    · obtain rfl : t = K := by omega
      have hT := HT.out
      rw [HKK.out, HNN.out] at hT
      obtain ⟨hf, hO, hB⟩ := hT.done HN.out HLN.out (by have := HP.out; omega)
      subst hf
      have h10 := H10.out
      have h11 := H11.out
      rw [hB] at h10
      rw [hO] at h11
      have J := ((I.next HW.out).with (.blk h10)).with (.blk h11)
      clear hT hO hB h10 h11 HT H10 H11 HW I HKK HNN
      have q8 := J.now.1.1.1.2.two
      have q10 := J.now.1.2.two
      have q11 := J.now.2.two
      go_upto_region 36 with fail
      clear q10 q11 wK wn1 hn64
      by_cases hpn2 : p < n
      · have hlt' : (p : Int) < (n : Int) := by omega
        obtain ⟨p2, hp2⟩ : ∃ p2, p2 = p + 1 := ⟨_, rfl⟩
        have wp2 : IntKind.i64.wrap ((p : Int) + 1) = (p2 : Int) := by rw [i64_in (by omega) (by omega)]; omega
        have hD := HDIV.out p2 b off c
        rw [show p2 - 1 = m + 1 by have := HP.out; omega] at hD
        have hD2 := fun W => hD W (by omega) (by omega) hc
        have ht2 : Tin (dF l (m + 1) n).1 := dv_tin HN.out (by have := HLN.out; omega) (dF_dv (l := l) (n := m + 1) (e := n) (by have := HP.out; omega))
        have hs2 : ∀ W, Gives 26 #[.agg #[.int .i64 (dF l (m + 1) n).1.num, .int .i64 ((dF l (m + 1) n).1.den : Int)]] (.bool true) W := fun W => small_calls _ _ (by unfold Tin at ht2; omega) W
        have hl2 : ∀ W, Gives 29 #[.agg #[.int .i64 (dF l m n).1.num, .int .i64 ((dF l m n).1.den : Int)], .agg #[.int .i64 (dF l (m + 1) n).1.num, .int .i64 ((dF l (m + 1) n).1.den : Int)]] (.bool false) W := fun W => by
          have h := tin_less (.inl ht2) HTIN.out W
          rwa [decide_eq_false (Rat.not_lt.2 (dF_more HN.out.good (by have := HLN.out; omega) (by have := HP.out; omega)))] at h
        have HD2 := Lib.hid hD2
        have HS2 := Lib.hid hs2
        have HL2 := Lib.hid hl2
        clear hD hD2 ht2 hs2 hl2 hp2 hpn2
        go_upto_region 38 with (go_at_call 21; (with_reducible refine (HD2.out _ J.now.1.1.1.1.1.2).mono ?_); rintro e wa ⟨ua, uo, uc, rfl, _, hb⟩; replace J := (J.next hb).allocB [.int .i64 (dF l (m + 1) n).1.num, .int .i64 ((dF l (m + 1) n).1.den : Int)] 24; clear hb q8)
        change Held (wa.alloc (.cells #[.int .i64 (dF l (m + 1) n).1.num, .int .i64 ((dF l (m + 1) n).1.den : Int)] 24)) _ at J
        generalize World.alloc _ _ = wb at J ⊢
        have q8 := J.now.1.1.1.1.2.two
        have q24 := J.now.2.two
        go_wp2_with (first
          | (go_at_call 26; (with_reducible refine (Gives.c (HS2.out _)).mono ?_); rintro e wd ⟨rfl, hb⟩; replace J := J.next hb; clear hb q8 q24; have q8 := J.now.1.1.1.1.2.two; have q24 := J.now.2.two)
          | (go_at_call 29; (with_reducible refine (Gives.c (HL2.out _)).mono ?_); rintro e we ⟨rfl, hb⟩; replace J := J.next hb; clear hb q8 q24)
          | (go_at_call 11; (with_reducible refine (Gives.c (works_calls _)).mono ?_); rintro e wf ⟨rfl, hb⟩; replace J := J.next hb; clear hb))
        go_ret
        exact ⟨rfl, J.now.1.1.1.1.1.1.1.1⟩
      · have hlt' : ¬ (p : Int) < (n : Int) := by omega
        obtain ⟨TW, hTW⟩ : ∃ T, maxG (fun c => c.2.2 - c.2.1) 0 l = T := ⟨_, rfl⟩
        have hhalf : 2 * (dF l m n).1.num = TW * ((dF l m n).1.den : Int) := by
          have hnm : n = m + 1 := by have := HP.out; omega
          have hd := dF_dv (l := l) (n := m) (e := n) (by omega)
          rw [← hTW]
          rw [hnm] at hd ⊢
          exact half_widest HN.out (by have := HLN.out; omega) hd
        have HTW := Lib.hid hTW
        have HHF := Lib.hid hhalf
        clear hTW hhalf
        go_wp2_with fail
        go_loopw [26, 177] (fun s26 s177 wr2 => ∃ (k : Nat) (W : Int), k ≤ n ∧ s26 = .int .i64 W ∧ s177 = .int .i64 k ∧ (0 ≤ W ∧ W ≤ 50) ∧ Aside (maxG (fun c => c.2.2 - c.2.1) W (l.drop k) = TW) ∧ Aside (Below wr.heap.size wr wr2)) (fun _ s177 _ => n - (intOf s177).toNat)
        case atStart => exact ⟨0, 0, Nat.zero_le _, rfl, rfl, by omega, by rw [List.drop_zero]; exact HTW.out, Below.refl _ _⟩
        case round =>
          obtain ⟨k, W, hk, rfl, rfl, hW, HMW, HBW⟩ := hrel
          have K2 := J.next HBW.out
          clear q8
          by_cases hkn : n ≤ k
          · obtain rfl : k = n := by omega
            have hmw := HMW.out
            rw [List.drop_eq_nil_of_le (by rw [HLN.out]; omega)] at hmw
            have hmw : W = TW := hmw
            subst hmw
            have q8 := K2.now.1.1.1.2.two
            have hh := HHF.out
            have htin := HTIN.out
            unfold Tin at htin
            have mb := mul_bd (a := W) (b := ((dF l m k).1.den : Int)) (A := 50) (B := 32) (by omega) (by omega) (by omega) (by omega)
            obtain ⟨E, hE⟩ : ∃ E, W * ((dF l m k).1.den : Int) = E := ⟨_, rfl⟩
            have u1 : IntKind.i64.wrap (W * ((dF l m k).1.den : Int)) = E := by rw [i64_in (by omega) (by omega)]; exact hE
            have u2 : IntKind.i64.wrap (2 * (dF l m k).1.num) = E := by rw [hh, i64_in (by omega) (by omega)]; exact hE
            clear hh htin mb hE HMW
            go_wp2_with (go_at_call 11; (with_reducible refine (Gives.c (works_calls _)).mono ?_); rintro e wf ⟨rfl, hb⟩; replace K2 := K2.next hb; clear hb)
            go_ret
            exact ⟨rfl, K2.now.1.1.1.1.1.1.1⟩
          · replace hkn : k < n := by omega
            have hkn' : (k : Int) < (n : Int) := by omega
            have hw2 : IntKind.i64.wrap ((k : Int) + 1) = (k : Int) + 1 := i64_in (by omega) (by omega)
            have hx := K2.now.1.1.1.1.1.2.at hkn
            have hmw := HMW.out
            rw [maxG_at (by rw [HLN.out]; exact hkn)] at hmw
            have hwt := HN.out.want k (by rw [HLN.out]; exact hkn)
            generalize hmx : max W ((cAt l k).2.2 - (cAt l k).2.1) = W2 at hmw
            generalize cAt l k = cc at hx hmx hwt
            obtain ⟨s, lo, hi⟩ := cc
            dsimp only at hx hmx hwt
            have v1 : IntKind.i64.wrap (hi - lo) = hi - lo := i64_in (by omega) (by omega)
            have hW2 : 0 ≤ W2 ∧ W2 ≤ 50 := by omega
            have HMW2 := Lib.hid hmw
            have HBN := Lib.hid (HBW.out.alloc HBW.out.size (.cells #[.int .i64 s, .int .i64 lo, .int .i64 hi] 68))
            clear hmw hwt HMW
            go_wp2_with fail
            go_roundw
            case rel => exact ⟨k + 1, W2, by omega, by go_num, by go_num, hW2, HMW2.out, HBN.out⟩
            case measure => simp [intOf]; omega
    · replace hge : t < K := by omega
      have hge' : (t : Int) < (K : Int) := by omega
      obtain ⟨wo, hwo⟩ : ∃ x, x = wr := ⟨_, rfl⟩
      subst hwo
      have J := ((I.next HW.out).with (.blk H10.out)).with (.blk H11.out)
      have HWo := Lib.hid HW.out
      clear HW H10 H11
      have hw1 : IntKind.i64.wrap ((t : Int) + 1) = (t : Int) + 1 := i64_in (by omega) (by omega)
      have o0 := Lib.hid (show (wo.alloc (.cells #[.int .i64 0] 3)).ownsRow wo.heap.size 3 1 (.slice (some ⟨wo.heap.size, 0, none⟩) 1 1) (pre t 0).length (nums (pre t 0)) from World.ownsRow_lit wo #[.int .i64 0] 1 (Nat.le_refl _) (by decide) rfl)
      go_wp2_with fail
      go_loopw [14, 15] (fun s14 s15 wr => ∃ k : Nat, k + 1 ≤ n ∧ s15 = .int .i64 ((k : Int) + 1) ∧ Aside (wr.ownsRow wo.heap.size 3 1 s14 (pre t k).length (nums (pre t k))) ∧ Aside (Below wo.heap.size wo wr)) (fun _ s15 _ => n - (intOf s15).toNat)
      case atStart => exact ⟨0, by omega, by simp, o0.out, (Below.refl _ _).alloc (Nat.le_refl _) _⟩
      case round =>
        obtain ⟨k, hk, rfl, HO, HB⟩ := hrel
        clear o0 hw1
        have hpl := pre_len t k
        by_cases hend : k + 1 < n
        · have hlt' : (k : Int) + 1 < (n : Int) := by omega
          have wk : IntKind.i64.wrap ((k : Int) + 1 - 1) = (k : Int) := by rw [i64_in (by omega) (by omega)]; omega
          have wk2 : IntKind.i64.wrap (k : Int) = (k : Int) := i64_in (by omega) (by omega)
          have hk64 : (k : Int) ≤ 64 := by omega
          have hw2 : IntKind.i64.wrap ((k : Int) + 1 + 1) = (k : Int) + 1 + 1 := i64_in (by omega) (by omega)
          have hbit := set_bit (t := t) (j := k) (by omega)
          cases hb : t.testBit k with
          | true =>
            rw [hb, if_pos rfl] at hbit
            have hs : nums (pre t (k + 1)) = nums (pre t k) ++ [.int .i64 ((k : Int) + 1)] := by
              show nums (pre t k ++ (if t.testBit k = true then _ else [])) = _
              rw [hb, if_pos rfl]
              simp [nums]
            have hl : (pre t (k + 1)).length = (pre t k).length + 1 := by
              show (pre t k ++ (if t.testBit k = true then _ else [])).length = _
              rw [hb, if_pos rfl]
              simp
            have HS := Lib.hid hs
            have HL := Lib.hid hl
            have hO := HO.out
            have HO1 := Lib.hid hO
            have HPL := Lib.hid hpl
            have hsz := HB.out.size
            clear hs hl hb hpl hO
            generalize (pre t k).length = len at HO1 HPL HL
            go_wp2_with (at_builtin; refine wpList_append_own _ rfl _ _ 38 rfl wo.heap.size 3 i0 (.int .i64 0) 1 8 Try.underlying38 hi0 hz0 hz1 hz2 rfl (by decide) _ _ _ rfl (HO1.out.alloc _) ⟨wr.heap.size, 0, none⟩ 1 1 [.int .i64 ((k : Int) + 1)] rfl rfl (cells_new _ [.int .i64 ((k : Int) + 1)] _ _ rfl) (by intro u hu; simp at hu; subst hu; rfl) ?c3 ?c4 ?c5 ?_)
            case c3 => have := HPL.out; unfold maxLen; omega
            case c4 => have := HPL.out; omega
            case c5 => simp; omega
            intro v' w4 hown' hgrow _
            have HO' := Lib.hid hown'
            have HB4 := Lib.hid ((HB.out.alloc HB.out.size _).grown hgrow (by simp; omega) (by intro j hj; exact own_base' HO1.out j hj))
            clear hown' hgrow HO
            go_wp2
            go_roundw
            case measure => simp [intOf]; omega
            case rel => exact ⟨k + 1, by omega, by go_num, (show Aside _ from by rw [HL.out, HS.out]; exact HO'.out), HB4.out⟩
          | false =>
            rw [hb, if_neg (by decide)] at hbit
            have hs : pre t (k + 1) = pre t k := by
              show pre t k ++ (if t.testBit k = true then _ else []) = _
              rw [hb, if_neg (by decide), List.append_nil]
            have HS := Lib.hid hs
            have HO1 := Lib.hid HO.out
            clear hs hb hpl
            go_wp2_with fail
            go_roundw
            case measure => simp [intOf]; omega
            case rel => exact ⟨k + 1, by omega, by go_num, (show Aside _ from by rw [HS.out]; exact HO1.out), HB.out⟩
        · have hlt' : ¬ (k : Int) + 1 < (n : Int) := by omega
          obtain rfl : k = n1 := by have := HNN.out; omega
          have hkn : k = n - 1 := HNN.out
          have hob := own_base' HO.out
          obtain ⟨A14, c14, rfl, hr14⟩ := own_reads HO.out (by omega)
          have hw1 : IntKind.i64.wrap ((t : Int) + 1) = (t : Int) + 1 := i64_in (by omega) (by omega)
          by_cases hlp : (pre t k).length = p
          · obtain ⟨s, hs⟩ : ∃ s, pre t k = s := ⟨_, rfl⟩
            have hasc : Asc s k := hs ▸ pre_asc t k
            rw [hs] at hlp hr14 ⊢
            rw [hlp] at hr14 ⊢
            obtain ⟨b14, o14, rfl, _⟩ := hr14.2.2 (by omega)
            have hzw : w6.heap.size + 1 < b14 := by
              have h1 := hob b14 (by simp [Value.ownBlock])
              have h2 := J.now.2.lt
              omega
            have HZW := Lib.hid hzw
            have J2 := (J.next HB.out).with (.reads hr14)
            have HS := Lib.hid hs
            have HASC := Lib.hid hasc
            have HLP := Lib.hid hlp
            have HKN := Lib.hid hkn
            clear J HB HO hr14 hs hasc hlp hkn hpl hend HWo hzw hob
            go_wp2_with (go_at_call 27; (with_reducible refine (Gives.c (part_calls _ _ _)).mono ?_); rintro e wV ⟨rfl, hb⟩; replace J2 := J2.next hb; have zV := J2.now.1.2.lt; have zV2 := J2.now.2; clear hb)
            have zb14 : b14 < wV.heap.size := World.block_lt_of_cell? wV _ (zV2.cell (j := 0) (by omega))
            clear zV2
            have HZV := Lib.hid zV
            have HZB := Lib.hid zb14
            clear zV zb14
            have H16 := Lib.hid (Blk.new wV [.int .i64 0, .int .i64 1] 24)
            have htin0 : Tin 0 := ⟨by decide, by decide, by decide, by decide⟩
            have HT0 := Lib.hid htin0
            clear htin0
            go_loopw [91] (fun s91 wr3 => ∃ (j : Nat) (q : Rat), j ≤ p ∧ s91 = .int .i64 j ∧ Aside (j = 0 → q = 0) ∧ Aside (Tin q) ∧ Aside (∀ i, i + 1 = j → Dv l i (endOf s n i) (s.take (i + 1)) q) ∧ Aside (Blk wr3 wV.heap.size [.int .i64 q.num, .int .i64 (q.den : Int)]) ∧ Aside (Below wV.heap.size wV wr3)) (fun s91 _ => p - (intOf s91).toNat)
            case atStart => exact ⟨0, 0, Nat.zero_le _, rfl, fun _ => rfl, HT0.out, fun i h => absurd h (by omega), H16.out, (Below.refl _ _).alloc (Nat.le_refl _) _⟩
            case round =>
              obtain ⟨j, q, hj, rfl, HQ0, HQT, HQD, HBK, HB3⟩ := hrel
              obtain ⟨w9, hw9⟩ : ∃ x, x = wr := ⟨_, rfl⟩
              subst hw9
              clear H16 HT0
              have K := J2.next HB3.out
              by_cases hjp : p ≤ j
              · obtain rfl : j = p := by omega
                have hdv : Dv l m n s q := dv_full HASC.out (by have := HP.out; have := HLP.out; omega) (HQD.out m (by have := HP.out; omega))
                have hst2 := HT.out.step (q := q) (by rw [← HKN.out, HS.out]; exact hdv)
                rw [← HKN.out, HS.out] at hst2
                have hB : Tin Bq ∨ Bq = 1000000 := by
                  rcases HT.out.2.1 with h | ⟨s2, h⟩
                  · exact .inr h
                  · exact .inl (dv_tin HN.out (by have := HLN.out; omega) h)
                have h29 := fun W => tin_less hB HQT.out W
                obtain ⟨dB, hdB⟩ : ∃ d, decide (q < Bq) = d := ⟨_, rfl⟩
                rw [hdB] at h29
                obtain ⟨dS, hdS⟩ : ∃ d, decide (s = (dF l m n).2) = d := ⟨_, rfl⟩
                have h32 : ∀ W, Reads W (some ⟨b14, o14, none⟩) j s → Reads W (some ⟨sb, so, none⟩) j (dF l m n).2 → Gives 32 #[.slice (some ⟨b14, o14, none⟩) j c14, .slice (some ⟨sb, so, none⟩) j sc] (.bool dS) W := fun W k1 k2 => by
                  have h := numbers_calls _ _ j j c14 sc _ _ W k1 k2
                  rw [hdS] at h
                  exact h
                have H29 := Lib.hid h29
                have H32 := Lib.hid h32
                have HST := Lib.hid hst2
                have HDB := Lib.hid hdB
                have HDS := Lib.hid hdS
                clear HQ0 HQT HQD hdv hst2 hB h29 h32 hdB hdS HT
                have q16 := HBK.out.two
                have q10 := K.now.1.1.2.two
                go_upto_if 130 with (go_at_call 29; (with_reducible refine (Gives.c (H29.out _)).mono ?_); rintro e wX ⟨rfl, hb⟩; replace K := K.next hb; have K16 := HBK.out.later hb; clear hb q16 q10; have q16 := K16.two; have q10 := K.now.1.1.2.two; have f10 := K.now.1.1.2.free2; have z10 := K.now.1.1.2.lt; have HK16 := Lib.hid K16; clear K16)
                have HK := Lib.hid K
                have hzv := HZV.out
                obtain ⟨B2, hB2⟩ : ∃ x, (if q < Bq then q else Bq) = x := ⟨_, rfl⟩
                have hst9 := HST.out
                rw [hB2] at hst9
                have HST := Lib.hid hst9
                have HB2 := Lib.hid hB2
                clear hst9 hB2
                go_cut [12] (fun s12 wx => s12 = .bool f ∧ Aside (Below w6.heap.size w6 wx) ∧ Aside (Blk wx w6.heap.size [.int .i64 B2.num, .int .i64 (B2.den : Int)]) ∧ Aside (Blk wx (w6.heap.size + 1) [.int .i64 Oq.num, .int .i64 (Oq.den : Int)]) ∧ Aside (Reads wx (some ⟨b14, o14, none⟩) j s) ∧ Aside (Blk wx wV.heap.size [.int .i64 q.num, .int .i64 (q.den : Int)]))
                case first =>
                  cases dB with
                  | true =>
                    have eB := HB2.out
                    rw [if_pos (of_decide_eq_true HDB.out)] at eB
                    subst eB
                    clear K
                    go_wp2_with fail
                    go_meet
                    exact ⟨rfl, below2 HK.out.now.1.1.1.2 (Nat.le_refl _) _ _, HK.out.now.1.1.2.put2 _ _, HK.out.now.1.2.other2 (by omega) _ _, ((HK.out.now.2).set_other2 (by have := HZW.out; omega) 0 _).set_other2 (by have := HZW.out; omega) 1 _, HK16.out.other2 (by omega) _ _⟩
                  | false =>
                    have eB := HB2.out
                    rw [if_neg (of_decide_eq_false HDB.out)] at eB
                    subst eB
                    clear K
                    go_wp2_with fail
                    go_meet
                    exact ⟨rfl, HK.out.now.1.1.1.2, HK.out.now.1.1.2, HK.out.now.1.2, HK.out.now.2, HK16.out⟩
                case rest =>
                  clear K HK HK16 q16 q10 f10 z10 HBK HB3 H29 HDB
                  obtain ⟨rfl, k1, k2, k3, k4, k5⟩ := hcut
                  have K := ((((I.next k1.out).with (.blk k2.out)).with (.blk k3.out)).with (.reads k4.out)).with (.blk k5.out)
                  clear k1 k2 k3 k4 k5
                  go_upto_if 134 with (go_at_call 32; (with_reducible refine (Gives.c (H32.out _ K.now.1.2 K.now.1.1.1.1.1.1.2)).mono ?_); rintro e wY ⟨rfl, hb⟩; replace K := K.next hb; clear hb; have q16 := K.now.2.two; have q11 := K.now.1.1.2.two; have f11 := K.now.1.1.2.free2; have z11 := K.now.1.1.2.lt)
                  cases dS with
                  | true =>
                    have hst3 := HST.out
                    rw [if_pos (of_decide_eq_true HDS.out), if_pos (of_decide_eq_true HDS.out)] at hst3
                    have HST3 := Lib.hid hst3
                    have HK := Lib.hid K
                    clear hst3 HST K
                    go_wp2_with fail
                    go_roundw
                    case rel => exact ⟨t + 1, true, B2, q, by omega, rfl, by go_num, HST3.out, HK.out.now.1.1.1.2.other2 (by omega) _ _, HK.out.now.1.1.2.put2 _ _, below2 HK.out.now.1.1.1.1.2 (by omega) _ _⟩
                    case measure => simp [intOf]; omega
                  | false =>
                    have hst3 := HST.out
                    rw [if_neg (of_decide_eq_false HDS.out), if_neg (of_decide_eq_false HDS.out)] at hst3
                    have HST3 := Lib.hid hst3
                    clear hst3 HST
                    go_wp2_with fail
                    go_roundw
                    case rel => exact ⟨t + 1, f, B2, Oq, by omega, rfl, by go_num, HST3.out, K.now.1.1.1.2, K.now.1.1.2, K.now.1.1.1.1.2⟩
                    case measure => simp [intOf]; omega
              · replace hjp : j < p := by omega
                have hjp' : (j : Int) < (p : Int) := by omega
                have hw3 : IntKind.i64.wrap ((j : Int) + 1) = (j : Int) + 1 := i64_in (by omega) (by omega)
                have hsl := HLP.out
                have hbd := HASC.out.bd j (by omega)
                have qs := K.now.2.cell hjp
                obtain ⟨fj, hfj⟩ : ∃ fj : Nat, s[j]?.getD 0 = (fj : Int) := ⟨_, (Int.toNat_of_nonneg hbd.1).symm⟩
                obtain ⟨e, he⟩ : ∃ e, endOf s n j = e := ⟨_, rfl⟩
                have he1 : j + 1 < p → s[j + 1]?.getD 0 = (e : Int) := fun h => by
                  have hb := HASC.out.bd (j + 1) (by omega)
                  rw [← he]
                  unfold endOf
                  rw [if_pos (by omega), Int.toNat_of_nonneg hb.1]
                have he2 : ¬ j + 1 < p → e = n := fun h => by
                  rw [← he]
                  unfold endOf
                  rw [if_neg (by omega)]
                have hfe : fj < e ∧ e ≤ n := by
                  by_cases h : j + 1 < p
                  · have h1 := HASC.out.inc j (by omega)
                    have h2 := HASC.out.bd (j + 1) (by omega)
                    rw [he1 h, hfj] at h1
                    rw [he1 h] at h2
                    have := HKN.out
                    omega
                  · have := he2 h
                    have := HKN.out
                    omega
                have hdv2 : Tin (maxR q (alo l fj e)) ∧ ∀ i, i + 1 = j + 1 → Dv l i (endOf s n i) (s.take (i + 1)) (maxR q (alo l fj e)) := by
                  have ha := alo_tin HN.out hfe.1 (by have := HLN.out; omega)
                  have key : Dv l j (endOf s n j) (s.take (j + 1)) (maxR q (alo l fj e)) := by
                    rcases Nat.eq_zero_or_pos j with h0 | h0
                    · subst h0
                      have hf0 : fj = 0 := by
                        have h := HASC.out.head
                        rw [h] at hfj
                        have : (0 : Int) = (fj : Int) := hfj
                        omega
                      have hm : maxR q (alo l fj e) = alo l 0 (endOf s n 0) := by
                        rw [HQ0.out rfl, hf0, he]
                        rw [hf0] at ha
                        unfold maxR
                        split
                        · rename_i hlt
                          exfalso
                          have h0 : 0 ≤ alo l 0 e := by
                            have h1 := ha.1
                            have h2 := (fr_le (a := 0) (d := 1) (x := (alo l 0 e).num) (y := ((alo l 0 e).den : Int)) (by omega) ha.2.2.1).2 (by omega)
                            have z : fr 0 1 = 0 := by simp [fr]
                            rwa [z, num_den] at h2
                          exact absurd hlt (Rat.not_lt.2 h0)
                        · rfl
                      rw [hm]
                      exact dv_first HASC.out (by have := HKN.out; omega) (by omega)
                    · obtain ⟨j', rfl⟩ : ∃ j', j = j' + 1 := ⟨j - 1, by omega⟩
                      have hp := dv_parts HASC.out (by have := HKN.out; omega) (k := j') (by omega) (HQD.out j' rfl)
                      rw [hfj, Int.toNat_natCast, he] at hp
                      rw [he]
                      exact hp
                  refine ⟨?_, fun i hi => ?_⟩
                  · exact dv_tin HN.out (by rw [he]; have := HLN.out; omega) key
                  · obtain rfl : i = j := by omega
                    exact key
                have htq := HQT.out
                have hta := alo_tin HN.out hfe.1 (by have := HLN.out; omega)
                have h29 := fun W => tin_less (.inl hta) htq W
                obtain ⟨x1, x2, x3, x4, hbest⟩ := part_best (b := b) (off := off) HN.out hc hfe.1 hfe.2 HLN.out
                have hsy : ∀ W, Gives 26 #[.agg #[.int .i64 (alo l fj e).num, .int .i64 ((alo l fj e).den : Int)]] (.bool true) W := fun W => small_calls _ _ (by unfold Tin at hta; omega) W
                have hmx : maxR q (alo l fj e) = if q < alo l fj e then alo l fj e else q := by
                  unfold maxR
                  split
                  · rename_i h; rw [if_neg (Rat.not_lt.2 (Rat.le_of_lt h))]
                  · rename_i h
                    split
                    · rfl
                    · rename_i h2; exact Rat.le_antisymm (Rat.not_lt.1 h2) (Rat.not_lt.1 h)
                rw [hmx] at hdv2
                generalize alo l fj e = y at hdv2 h29 hbest hsy
                obtain ⟨dd, hdd⟩ : ∃ dd, decide (q < y) = dd := ⟨_, rfl⟩
                rw [hdd] at h29
                have H29 := Lib.hid h29
                have HBE := Lib.hid hbest
                have HSY := Lib.hid hsy
                have HDV := Lib.hid hdv2
                have HDD := Lib.hid hdd
                rw [hfj] at qs
                have i1 : (fj : Int) ≤ (e : Int) := by omega
                have i2 : (e : Int) ≤ (c : Int) := by omega
                have i4 : ¬ c - fj = 0 := by omega
                have i5 : ¬ c = fj := by omega
                have HE1 := Lib.hid he1
                have HE2 := Lib.hid he2
                have HFE := Lib.hid hfe
                have HK := Lib.hid K
                have HBJ := Lib.hid HBK.out
                clear hsl hbd hfj he he1 he2 hfe hdv2 htq hta h29 hbest hsy hmx hdd HQ0 HQT HQD HBK
                go_upto_if 101 with fail
                clear qs
                go_cut [19] (fun s19 wx => s19 = .int .i64 (e : Int) ∧ wx = w9)
                case first =>
                  by_cases h1 : j + 1 < p
                  · have h1' : (j : Int) + 1 < (p : Int) := by omega
                    have qs := K.now.2.cell h1
                    rw [HE1.out h1] at qs
                    have gs1 : (0 : Int) ≤ (j : Int) + 1 := by omega
                    have gs3 : ((j : Int) + 1).toNat = j + 1 := by omega
                    clear K
                    go_wp2_with fail
                    go_meet
                    exact ⟨rfl, rfl⟩
                  · have h1' : ¬ (j : Int) + 1 < (p : Int) := by omega
                    have hen := HE2.out h1
                    clear K
                    go_wp2_with fail
                    go_meet
                    exact ⟨by rw [hen], rfl⟩
                case rest =>
                  obtain ⟨rfl, rfl⟩ := hcut
                  clear K
                  have K := ((HK.out).with (.blk HBJ.out)).with (Held.from HB3.out HB3.out.size)
                  clear HK HBJ
                  go_upto_region 25 with (go_at_call 25; (with_reducible refine (Gives.c (HBE.out _ K.now.1.1.1.1.1.1.1.1.2)).mono ?_); rintro e wc1 ⟨rfl, hb⟩; replace K := (K.next hb).allocB2 [.int .i64 x1, .int .i64 x2, .int .i64 x3, .int .i64 x4] 26 [.int .i64 y.num, .int .i64 (y.den : Int)] 24; clear hb)
                  generalize World.alloc _ _ = wc2 at K ⊢
                  have q21 := K.now.2.two
                  go_upto_region 27 with (go_at_call 26; (with_reducible refine (Gives.c (HSY.out _)).mono ?_); rintro e wc3 ⟨rfl, hb⟩; replace K := K.next hb; clear hb q21; have q21 := K.now.2.two; have q16 := K.now.1.1.1.2.two)
                  go_upto_if 125 with (go_at_call 29; (with_reducible refine (Gives.c (H29.out _)).mono ?_); rintro e wc4 ⟨rfl, hb⟩; replace K := K.next hb; clear hb q21 q16; have q21 := K.now.2.two; have q16 := K.now.1.1.1.2.two; have f16 := K.now.1.1.1.2.free2; have z16 := K.now.1.1.1.2.lt)
                  have hdv := HDV.out
                  have HK := Lib.hid K
                  clear K HDV HSY H29 HBE i1 i2 i4 i5
                  cases dd with
                  | true =>
                    rw [if_pos (of_decide_eq_true HDD.out)] at hdv
                    have HDV := Lib.hid hdv
                    clear hdv
                    go_wp2_with fail
                    go_roundw
                    case rel => exact ⟨j + 1, y, by omega, by go_num, fun h => absurd h (by omega), HDV.out.1, HDV.out.2, HK.out.now.1.1.1.2.put2 _ _, below2 HK.out.now.1.1.2 (Nat.le_refl _) _ _⟩
                    case measure => simp [intOf]; omega
                  | false =>
                    rw [if_neg (of_decide_eq_false HDD.out)] at hdv
                    have HDV := Lib.hid hdv
                    clear hdv
                    go_wp2_with fail
                    go_roundw
                    case rel => exact ⟨j + 1, q, by omega, by go_num, fun h => absurd h (by omega), HDV.out.1, HDV.out.2, HK.out.now.1.1.1.2, HK.out.now.1.1.2⟩
                    case measure => simp [intOf]; omega
          · have hne : (((pre t k).length : Int) != (p : Int)) = true := bne_iff_ne.2 (by omega)
            have hne' : ¬ ((pre t k).length : Int) = (p : Int) := by omega
            have HT2 := Lib.hid (HT.out.skip (by rw [dv_len (dF_dv (l := l) (n := m) (e := n) (by have := HP.out; omega))]) (by rw [← hkn]; have := HP.out; omega))
            have K2 := J.next HB.out
            have HBF := Lib.hid (HWo.out.trans (HB.out.mono HWo.out.size))
            clear HT hr14 HO hpl hkn hlp hob
            generalize (pre t k).length = len at hne hne'
            go_wp2_with fail
            go_roundw
            case rel => exact ⟨t + 1, f, Bq, Oq, by omega, rfl, by go_num, HT2.out, K2.now.1.2, K2.now.2, HBF.out⟩
            case measure => simp [intOf]; omega

theorem players_own : ownKnob Try.prog.godebug = none := by kernel_rfl

set_option maxRecDepth 100000 in
theorem players_lifted (os : Os) (started : os.Started) (H : Type) (enc : TypeId × Value → H) :
    ReturnsInHanded {} Try.checked os 9 .any (Rows.levelPlayersSpec.pre6 enc Try.prog Try.f9 Rows.levelPlayersRow.domain false) (Rows.levelPlayersSpec.post enc Try.prog Try.f9 false true false false) := by
  refine returnsInHanded_of_change (C := Try.checked) players_own started (by kernel_rfl) Try.func9
    (ChangeSpec.witness6 (enc := enc) (C := Try.checked) false ⟨#[], #[.slice none 0 0, .int .u8 0], []⟩ 8 (by kernel_rfl) (by kernel_rfl) (by kernel_rfl) (by kernel_rfl)) ?_
  intro W base args ds gs before hval0 hW hcnd _
  have hval : ∀ (j : Nat) t v, Try.f9.params[j]? = some t → args[j]? = some v → Value.okWide Try.prog W .any base t v := hval0
  have hW' := hW
  obtain ⟨p, q, hA, hV, rfl, hfz, hnd⟩ := hW
  rw [Try.params9] at hA hval
  obtain ⟨v1, l1, d1, ds1, p1, q1, e1, rfl, rfl, h1, hA⟩ := trodAll_cons hA
  obtain ⟨v2, l2, d2, ds2, p2, q2, rfl, rfl, rfl, h2, hA⟩ := trodAll_cons hA
  obtain ⟨rfl, rfl, rfl⟩ := trodAll_nil hA
  obtain ⟨rfl, rfl⟩ := trodVars_none hV
  obtain rfl : args = #[v1, v2] := by cases args; simp_all
  obtain ⟨A, n, c, l, rfl, hl⟩ := scale_arg (hval 0 52 v1 rfl rfl) h1
  obtain ⟨g, rfl, hg⟩ := byte_arg (hval 1 5 v2 rfl rfl) h2
  refine (Gives.c (players_walk A n c l g W hl hg)).mono fun e W' ⟨he, hb⟩ => ?_
  subst he
  exact ⟨_, rfl, post_true hW' rfl rfl rfl (by decide) hb⟩

theorem players_over : Rows.levelPlayersRow.holds Try.pinned (OpenSpec.ofChange Rows.levelPlayersSpec) :=
  OpenClaim.holds_of_wide 9 Try.f9 rfl rfl rfl rfl rfl rfl rfl ⟨rfl, rfl, rfl, rfl, rfl⟩ rfl rfl rfl rfl rfl (by kernel_rfl) Try.func9 (by kernel_rfl)
    (of_decide_eq_true (by kernel_rfl)) (by unfold Func.isWrapper; first | (rw [if_pos (by decide +kernel)]; kernel_rfl) | (rw [if_neg (by decide +kernel)]; exact ⟨rfl, rfl⟩))
    (fun os started H enc _ => players_lifted os started H enc)

/-- LevelPlayers returns true. -/
theorem levelPlayers_holds : Rows.LevelPlayersSaid := players_over
#print axioms levelPlayers_holds
end Go.Proofs.Ytjncoableanmpaa
