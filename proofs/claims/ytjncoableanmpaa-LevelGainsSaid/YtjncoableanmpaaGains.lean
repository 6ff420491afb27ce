/- LevelGains: with each gain from the least to the greatest one there is an offset that keeps the bound, and with no other one: the call returns true at every coding, bound and gain by numbers. -/
import Derived.Test.YtjncoableanmpaaQM
import Derived.Deep.DeepCutAuto
namespace Go.Proofs.Ytjncoableanmpaa
open Go.ChangeShapes Go.WideShapes Go.ChangeAt Go.RowKit Go.Lib Go.Shelf

set_option maxRecDepth 1000000 in
set_option maxHeartbeats 16000000 in
theorem gains_walk (A : Option Addr) (n0 c0 : Nat) (tl : List Tri) (x0 x1 y0 y1 : Int) (w : World) (hs : ReadsS w A n0 tl) (hx0 : 0 ≤ x0 ∧ x0 ≤ 255) (hx1 : 0 ≤ x1 ∧ x1 ≤ 255) (hy0 : -128 ≤ y0 ∧ y0 ≤ 127) (hy1 : -128 ≤ y1 ∧ y1 ≤ 127) :
    Gives 8 #[.slice A n0 c0, .agg #[.int .u8 x0, .int .u8 x1], .agg #[.int .i8 y0, .int .i8 y1]] (.bool true) w := by
  unfold Gives
  have hN := madeC_nice tl
  generalize hM : madeC tl = l at hN
  obtain ⟨n, hn⟩ : ∃ n, l.length = n := ⟨_, rfl⟩
  have HN := Lib.hid hN
  have hn1 : 1 ≤ n := by have := hN.pos; omega
  have hn5 : n ≤ 5 := by have := hN.few; omega
  have HLN := Lib.hid hn
  have hMK : ∀ W, ReadsS W A n0 tl → Calls Try.prog 24 #[.slice A n0 c0] W fun e w' => ∃ b o c, e = .returned (.slice (some ⟨b, o, none⟩) n c) ∧ (ReadsC w' (some ⟨b, o, none⟩) n l ∧ n ≤ c) ∧ Below W.heap.size W w' := fun W h => by
    have k := made_calls A n0 c0 tl W h
    rw [hM, hn] at k
    exact k
  have HMK := Lib.hid hMK
  have I : Held ((w.alloc (.cells [Value.int .u8 x0, .int .u8 x1].toArray 71)).alloc (.cells [Value.int .i8 y0, .int .i8 y1].toArray 55)) (fun W => ((Below w.heap.size w W ∧ ReadsS W A n0 tl) ∧ Blk W w.heap.size [Value.int .u8 x0, .int .u8 x1]) ∧ Blk W (w.heap.size + 1) [Value.int .i8 y0, .int .i8 y1]) :=
    ((Held.from (Below.refl _ _) (Nat.le_refl _)).with (.readsS hs)).allocB2 [Value.int .u8 x0, .int .u8 x1] 71 [Value.int .i8 y0, .int .i8 y1] 55
  clear hs hM hn hMK hN
  have hgt := guard24
  have hst := stood24
  by_cases h1 : n = 1
  · have e1 : ((n : Int) == 1) = true := beq_iff_eq.2 (by omega)
    have hG : ∀ b o c W, ReadsC W (some ⟨b, o, none⟩) n l → n ≤ c → Gives 17 #[.slice (some ⟨b, o, none⟩) n c, .agg #[.int .i64 1, .int .i64 1]] (.tuple #[.agg #[.int .i64 0, .int .i64 0], .agg #[.int .i64 0, .int .i64 0], .int .i64 13]) W := fun b o c W h hc => by
      rw [← gains_one HN.out.good (bn := 1) (bd := 1) (by omega) (by omega) (by rw [HLN.out]; exact h1)]
      exact Gains_calls _ n c l 1 1 W h hc
    have HG := Lib.hid hG
    clear hG h1 HN HLN hx0 hx1 hy0 hy1
    go_enter Try.func8, Try.ntmps8
    go_wp2_with fail
    generalize World.alloc _ _ = w1 at I ⊢
    go_wp2_with (first
      | (go_at_call 24; (with_reducible refine (HMK.out _ I.now.1.1.2).mono ?_); rintro e w2 ⟨b, off, c, rfl, ⟨hr, hc⟩, hb⟩; replace I := (I.next hb).with (.readsC hr); clear hb hr)
      | (go_at_call 27; (with_reducible refine (Gives.c (part_calls _ _ _)).mono ?_); rintro e w3 ⟨rfl, hb⟩; replace I := I.next hb; clear hb)
      | (go_at_call 17; (with_reducible refine (Gives.c (HG.out _ _ _ _ I.now.2 hc)).mono ?_); rintro e w4 ⟨rfl, hb⟩; replace I := (I.next hb).allocB2 [.int .i64 0, .int .i64 0] 24 [.int .i64 0, .int .i64 0] 24; clear hb)
      | (go_at_call 11; (with_reducible refine (Gives.c (works_calls _)).mono ?_); rintro e w5 ⟨rfl, hb⟩; replace I := I.next hb; clear hb))
    go_ret
    exact ⟨rfl, I.now.1.1.1.1.1.1⟩
  · have e1 : ((n : Int) == 1) = false := beq_eq_false_iff_ne.2 (by omega)
    have e1' : ¬ (n : Int) = 1 := by omega
    have h2 : 2 ≤ n := by omega
    have u0 : x0.tmod 60 = x0 % 60 := Int.tmod_eq_emod_of_nonneg hx0.1
    have u1 : x1.tmod 4 = x1 % 4 := Int.tmod_eq_emod_of_nonneg hx1.1
    have cx0 : IntKind.i64.wrap x0 = x0 := i64_in (by omega) (by omega)
    have cx1 : IntKind.i64.wrap x1 = x1 := i64_in (by omega) (by omega)
    have mx0 : IntKind.i64.wrap (x0 % 60) = x0 % 60 := i64_in (by omega) (by omega)
    have mx1 : IntKind.i64.wrap (x1 % 4) = x1 % 4 := i64_in (by omega) (by omega)
    have hbn : 0 ≤ x0 % 60 ∧ x0 % 60 ≤ 59 := by omega
    have hbd' : 0 ≤ x1 % 4 ∧ x1 % 4 ≤ 3 := by omega
    generalize x0 % 60 = bn at *
    generalize x1 % 4 = x4 at *
    have mb : ∃ bd, IntKind.i64.wrap (1 + x4) = bd ∧ 1 + x4 = bd := ⟨_, i64_in (by omega) (by omega), rfl⟩
    obtain ⟨bd, mb, hbd⟩ := mb
    have hbd1 : 1 ≤ bd ∧ bd ≤ 4 := by omega
    clear hbd hbd'
    have cy0 : IntKind.i64.wrap y0 = y0 := i64_in (by omega) (by omega)
    have cy1 : IntKind.i64.wrap y1 = y1 := i64_in (by omega) (by omega)
    have h7 := and7 hy1
    generalize hay : bits .and .i64 y1 7 = y7 at h7
    have md : ∃ yd, IntKind.i64.wrap (1 + y7) = yd ∧ 1 + y7 = yd := ⟨_, i64_in (by omega) (by omega), rfl⟩
    obtain ⟨yd, md, hyd⟩ := md
    have HGY := Lib.hid (show GB y0 yd from ⟨by omega, by omega⟩)
    clear hyd h7
    have hq := nice_off HN.out
    have hG : ∀ b o c W, ReadsC W (some ⟨b, o, none⟩) n l → n ≤ c → Gives 17 #[.slice (some ⟨b, o, none⟩) n c, .agg #[.int .i64 bn, .int .i64 bd]] (gainsV l bn bd) W := fun b o c W h hc => Gains_calls _ n c l bn bd W h hc
    have hX : ∀ b o c, n ≤ c → ∃ z1 z2 z3 z4 : Int, ∀ W : World, ReadsC W (some ⟨b, o, none⟩) n l → Gives 25 #[.slice (some ⟨b, o, none⟩) n c] (.tuple #[.agg #[.int .i64 z1, .int .i64 z2, .int .i64 z3, .int .i64 z4], .agg #[.int .i64 (bestC l).off.num, .int .i64 ((bestC l).off.den : Int)], .int .i64 0]) W := fun b o c hc => best_nice HN.out.good hc
    have hL : ∀ W, Gives 29 #[.agg #[.int .i64 bn, .int .i64 bd], .agg #[.int .i64 (bestC l).off.num, .int .i64 ((bestC l).off.den : Int)]] (.bool (decide (fr bn bd < (bestC l).off))) W := fun W => by
      rw [decide_eq_decide.2 (fr_lt (n := bn) (d := bd) (by omega) (bestC l).off)]
      exact lawless (by omega) (by omega) (by omega) (by omega) W
    have hsm : ∀ W, Gives 26 #[.agg #[.int .i64 (bestC l).off.num, .int .i64 ((bestC l).off.den : Int)]] (.bool true) W := fun W => small_calls _ _ (by omega) W
    by_cases hlt : fr bn bd < (bestC l).off
    · rw [decide_eq_true hlt] at hL
      rw [gains_over HN.out.good (by omega) (by omega) (by rw [HLN.out]; exact h2) hlt] at hG
      clear hq hlt h2 h1
      generalize (bestC l).off.num = qn at *
      generalize ((bestC l).off.den : Int) = qd at *
      have HG := Lib.hid hG
      have HX := Lib.hid hX
      have HL := Lib.hid hL
      have HSM := Lib.hid hsm
      clear hG hX hL hsm HN HLN HGY hbn hbd1 hx0 hx1 hy0 hy1
      go_enter Try.func8, Try.ntmps8
      go_wp2_with fail
      generalize World.alloc _ _ = w1 at I ⊢
      have q4 := I.now.1.2.two
      go_upto_region 6 with (first
        | (go_at_call 24; (with_reducible refine (HMK.out _ I.now.1.1.2).mono ?_); rintro e w2 ⟨b, off, c, rfl, ⟨hr, hc⟩, hb⟩; replace I := (I.next hb).with (.readsC hr); clear hb hr q4; have q4 := I.now.1.1.2.two)
        | (go_at_call 27; (with_reducible refine (Gives.c (part_calls _ _ _)).mono ?_); rintro e w3 ⟨rfl, hb⟩; replace I := (I.next hb).allocB [.int .i64 bn, .int .i64 bd] 24; clear hb q4; have q11 := I.now.2.two))
      obtain ⟨z1, z2, z3, z4, hX⟩ := HX.out b off c hc
      have HX2 := Lib.hid hX
      clear hX
      generalize World.alloc _ _ = w4 at I q11 ⊢
      go_upto_region 8 with (first
        | (go_at_call 17; (with_reducible refine (Gives.c (HG.out _ _ _ _ I.now.1.2 hc)).mono ?_); rintro e w5 ⟨rfl, hb⟩; replace I := (I.next hb).allocB2 [.int .i64 0, .int .i64 0] 24 [.int .i64 0, .int .i64 0] 24; clear hb q11)
        | (go_at_call 25; (with_reducible refine (Gives.c (HX2.out (World.alloc (World.alloc w5 _) _) I.now.1.1.1.2)).mono ?_); rintro e w6 ⟨rfl, hb⟩; replace I := (I.next hb).allocB2 [.int .i64 z1, .int .i64 z2, .int .i64 z3, .int .i64 z4] 26 [.int .i64 qn, .int .i64 qd] 24; clear hb))
      generalize World.alloc _ _ = w7 at I ⊢
      have q16 := I.now.2.two
      go_upto_region 10 with (go_at_call 26; (with_reducible refine (Gives.c (HSM.out _)).mono ?_); rintro e w8 ⟨rfl, hb⟩; replace I := I.next hb; clear hb q16; have q16 := I.now.2.two; have q11 := I.now.1.1.1.1.2.two)
      go_wp2_with (first
        | (go_at_call 29; (with_reducible refine (Gives.c (HL.out _)).mono ?_); rintro e w9 ⟨rfl, hb⟩; replace I := I.next hb; clear hb q11 q16; have q12 := I.now.1.1.1.2.two; have q13 := I.now.1.1.2.two)
        | (go_at_call 11; (with_reducible refine (Gives.c (works_calls _)).mono ?_); rintro e w10 ⟨rfl, hb⟩; replace I := I.next hb; clear hb))
      go_ret
      exact ⟨rfl, I.now.1.1.1.1.1.1.1.1.1⟩
    · obtain ⟨p1, p2, q1, q2, r1, r2, s1, s2, hg1, hg2, ⟨gp, gq⟩, k1, k2, k3, klaw⟩ := gains_pack HN.out (by rw [HLN.out]; exact h2) (bn := bn) (bd := bd) (by omega) (by omega) hlt
      rw [decide_eq_false hlt] at hL
      rw [hg1] at hG
      have hG2 : ∀ b o c W, ReadsC W (some ⟨b, o, none⟩) n l → n ≤ c → Gives 17 #[.slice (some ⟨b, o, none⟩) n c, .agg #[.int .i64 (bn + 1), .int .i64 bd]] (.tuple #[.agg #[.int .i64 r1, .int .i64 r2], .agg #[.int .i64 s1, .int .i64 s2], .int .i64 0]) W := fun b o c W h hc => by
        rw [← hg2]
        exact Gains_calls _ n c l (bn + 1) bd W h hc
      have hs2 : ∀ W, Gives 26 #[.agg #[.int .i64 p1, .int .i64 p2]] (.bool true) W := fun W => small_calls _ _ (by unfold GB at gp; omega) W
      have hs3 : ∀ W, Gives 26 #[.agg #[.int .i64 q1, .int .i64 q2]] (.bool true) W := fun W => small_calls _ _ (by unfold GB at gq; omega) W
      have vb : IntKind.i64.wrap (bn + 1) = bn + 1 := i64_in (by omega) (by omega)
      clear hq hlt h2 h1 hg1 hg2
      generalize (bestC l).off.num = qn at *
      generalize ((bestC l).off.den : Int) = qd at *
      have HG := Lib.hid hG
      have HG2 := Lib.hid hG2
      have HX := Lib.hid hX
      have HL := Lib.hid hL
      have HSM := Lib.hid hsm
      have HS2 := Lib.hid hs2
      have HS3 := Lib.hid hs3
      have HGP := Lib.hid gp
      have HGQ := Lib.hid gq
      have HK1 := Lib.hid k1
      have HK2 := Lib.hid k2
      have HK3 := Lib.hid k3
      have HLAW := Lib.hid klaw
      have HBN := Lib.hid hbn
      have HBD := Lib.hid hbd1
      clear hG hG2 hX hL hsm hs2 hs3 gp gq k1 k2 k3 klaw hbn hbd1 hx0 hx1 hy0 hy1
      go_enter Try.func8, Try.ntmps8
      go_wp2_with fail
      generalize World.alloc _ _ = w1 at I ⊢
      have q4 := I.now.1.2.two
      go_upto_region 6 with (first
        | (go_at_call 24; (with_reducible refine (HMK.out _ I.now.1.1.2).mono ?_); rintro e w2 ⟨b, off, c, rfl, ⟨hr, hc⟩, hb⟩; replace I := (I.next hb).with (.readsC hr); clear hb hr q4; have q4 := I.now.1.1.2.two)
        | (go_at_call 27; (with_reducible refine (Gives.c (part_calls _ _ _)).mono ?_); rintro e w3 ⟨rfl, hb⟩; replace I := (I.next hb).allocB [.int .i64 bn, .int .i64 bd] 24; clear hb q4; have q11 := I.now.2.two))
      obtain ⟨z1, z2, z3, z4, hX⟩ := HX.out b off c hc
      have HX2 := Lib.hid hX
      clear hX
      generalize World.alloc _ _ = w4 at I q11 ⊢
      go_upto_region 8 with (first
        | (go_at_call 17; (with_reducible refine (Gives.c (HG.out _ _ _ _ I.now.1.2 hc)).mono ?_); rintro e w5 ⟨rfl, hb⟩; replace I := (I.next hb).allocB2 [.int .i64 p1, .int .i64 p2] 24 [.int .i64 q1, .int .i64 q2] 24; clear hb q11)
        | (go_at_call 25; (with_reducible refine (Gives.c (HX2.out (World.alloc (World.alloc w5 _) _) I.now.1.1.1.2)).mono ?_); rintro e w6 ⟨rfl, hb⟩; replace I := (I.next hb).allocB2 [.int .i64 z1, .int .i64 z2, .int .i64 z3, .int .i64 z4] 26 [.int .i64 qn, .int .i64 qd] 24; clear hb))
      generalize World.alloc _ _ = w7 at I ⊢
      have q16 := I.now.2.two
      go_upto_region 10 with (go_at_call 26; (with_reducible refine (Gives.c (HSM.out _)).mono ?_); rintro e w8 ⟨rfl, hb⟩; replace I := I.next hb; clear hb q16; have q16 := I.now.2.two; have q11 := I.now.1.1.1.1.2.two)
      go_upto_region 14 with (first
        | (go_at_call 29; (with_reducible refine (Gives.c (HL.out _)).mono ?_); rintro e w9 ⟨rfl, hb⟩; replace I := I.next hb; clear hb q11 q16; have q12 := I.now.1.1.1.2.two; have q13 := I.now.1.1.2.two)
        | (go_at_call 26; (with_reducible refine (Gives.c (HS2.out _)).mono ?_); rintro e w10 ⟨rfl, hb⟩; replace I := I.next hb; clear hb q12 q13; have q12 := I.now.1.1.1.2.two; have q13 := I.now.1.1.2.two)
        | (go_at_call 26; (with_reducible refine (Gives.c (HS3.out _)).mono ?_); rintro e w11 ⟨rfl, hb⟩; replace I := I.next hb; clear hb q12 q13; have q12 := I.now.1.1.1.2.two; have q13 := I.now.1.1.2.two)
        | (go_at_call 29; (with_reducible refine (Gives.c (HK1.out _)).mono ?_); rintro e wl ⟨rfl, hb⟩; replace I := I.next hb; clear hb q12 q13; have q11 := I.now.1.1.1.1.2.two; have q12 := I.now.1.1.1.2.two; have q13 := I.now.1.1.2.two))
      have hS1 : ∀ X, Below wl.heap.size wl X → Below wl.heap.size wl X ∧ (X.cell? ⟨w5.heap.size, 0, none⟩ = some (.int .i64 p1) ∧ X.cell? ⟨w5.heap.size, 1, none⟩ = some (.int .i64 p2)) ∧ (X.cell? ⟨w5.heap.size + 1, 0, none⟩ = some (.int .i64 q1) ∧ X.cell? ⟨w5.heap.size + 1, 1, none⟩ = some (.int .i64 q2)) ∧ (X.cell? ⟨w.heap.size + 1, 0, none⟩ = some (.int .i8 y0) ∧ X.cell? ⟨w.heap.size + 1, 1, none⟩ = some (.int .i8 y1)) := fun X hX => ⟨hX, (I X hX).1.1.1.2.two, (I X hX).1.1.2.two, (I X hX).1.1.1.1.1.1.2.two⟩
      have HS1 := Lib.hid hS1
      have HI := Lib.hid I
      clear hS1 I q11 q12 q13
      go_cut [121, 122, 123] (fun s121 s122 s123 wx => ∃ B o, s121 = .slice (some ⟨B, o, none⟩) 3 3 ∧ s122 = .int .i64 3 ∧ s123 = .int .i64 0 ∧ Aside (Rd3 wx B o (three (p1, p2) (q1, q2) (y0, yd))) ∧ Aside (Below wl.heap.size wl wx))
      case first =>
        go_region_held3 (fun X => Below wl.heap.size wl X ∧ (X.cell? ⟨w5.heap.size, 0, none⟩ = some (.int .i64 p1) ∧ X.cell? ⟨w5.heap.size, 1, none⟩ = some (.int .i64 p2)) ∧ (X.cell? ⟨w5.heap.size + 1, 0, none⟩ = some (.int .i64 q1) ∧ X.cell? ⟨w5.heap.size + 1, 1, none⟩ = some (.int .i64 q2)) ∧ (X.cell? ⟨w.heap.size + 1, 0, none⟩ = some (.int .i8 y0) ∧ X.cell? ⟨w.heap.size + 1, 1, none⟩ = some (.int .i8 y1)))
          (first
            | with_reducible exact HS1.out _ (Below.refl _ _).drew
            | with_reducible exact HS1.out _ HB.out
            | with_reducible exact HS1.out _ (HB.out.alloc HB.out.size _)
            | fail)
          (first
            | (go_at_call 27; (with_reducible refine (Gives.c (part_calls _ _ _)).mono ?_); rintro e' wy ⟨rfl, hb⟩; have HB := Lib.hid ((Below.refl wl.heap.size wl).drew.trans hb))
            | fail)
        all_goals
          go_wp2_with fail
          go_meet
          exact ⟨_, 0, rfl, rfl, rfl, rd3_new (Blk.new wy [.int .i64 p1, .int .i64 p2, .int .i64 q1, .int .i64 q2, .int .i64 y0, .int .i64 yd] 24), HB.out.alloc HB.out.size _⟩
      case rest =>
        obtain ⟨B, o, rfl, rfl, rfl, HR3, HBC⟩ := hcut
        have I := HI.out.next HBC.out
        have I := I.with (fun X hX => HR3.out.later hX)
        clear HI HS1 HR3 HBC cy0 cy1 hay md
        go_wp2_with fail
        go_loopw [123] (fun s123 wr => ∃ jj : Nat, jj ≤ 3 ∧ s123 = .int .i64 jj ∧ Aside (Below wc.heap.size wc wr)) (fun s123 _ => 3 - (intOf s123).toNat)
        case atStart => exact ⟨0, by omega, rfl, Below.refl _ _⟩
        case round =>
          obtain ⟨jj, hj, rfl, HB⟩ := hrel
          have J := I.next HB.out
          by_cases hge : 3 ≤ jj
          · obtain rfl : jj = 3 := by omega
            clear I HLAW
            have q11 := J.now.1.1.1.1.1.2.two
            go_upto_region 30 with (first
              | (go_at_call 27; (with_reducible refine (Gives.c (part_calls _ _ _)).mono ?_); rintro e w20 ⟨rfl, hb⟩; replace J := J.next hb; clear hb q11)
              | (go_at_call 17; (with_reducible refine (Gives.c (HG2.out _ _ _ _ J.now.1.1.1.1.1.1.2 hc)).mono ?_); rintro e w21 ⟨rfl, hb⟩; replace J := (J.next hb).allocB2 [.int .i64 r1, .int .i64 r2] 24 [.int .i64 s1, .int .i64 s2] 24; clear hb))
            generalize World.alloc _ _ = w22 at J ⊢
            have q12 := J.now.1.1.1.1.1.1.2.two
            have q13 := J.now.1.1.1.1.1.2.two
            have q26 := J.now.1.2.two
            have q27 := J.now.2.two
            go_wp2_with (first
              | (go_at_call 29; (with_reducible refine (Gives.c (HK2.out _)).mono ?_); rintro e w23 ⟨rfl, hb⟩; replace J := J.next hb; clear hb q12 q13 q26 q27; have q13 := J.now.1.1.1.1.1.2.two; have q27 := J.now.2.two)
              | (go_at_call 29; (with_reducible refine (Gives.c (HK3.out _)).mono ?_); rintro e w24 ⟨rfl, hb⟩; replace J := J.next hb; clear hb q13 q27)
              | (go_at_call 11; (with_reducible refine (Gives.c (works_calls _)).mono ?_); rintro e w25 ⟨rfl, hb⟩; replace J := J.next hb))
            go_ret
            exact ⟨rfl, J.now.1.1.1.1.1.1.1.1.1.1.1.1⟩
          · replace hge : jj < 3 := by omega
            have hge' : (jj : Int) < 3 := by omega
            have hw1 : IntKind.i64.wrap ((jj : Int) + 1) = (jj : Int) + 1 := i64_in (by omega) (by omega)
            have hg3 := J.now.2 jj hge
            have hgb : GB (three (p1, p2) (q1, q2) (y0, yd) jj).1 (three (p1, p2) (q1, q2) (y0, yd) jj).2 := by
              unfold three
              split
              · exact HGP.out
              · split
                · exact HGQ.out
                · exact HGY.out
            generalize three (p1, p2) (q1, q2) (y0, yd) jj = ad at hg3 hgb
            obtain ⟨a, d⟩ := ad
            dsimp only at hg3 hgb
            obtain ⟨x, y, hX1, hY1, hXY⟩ := HLAW.out a d hgb
            have HX1 := Lib.hid hX1
            have HY1 := Lib.hid hY1
            have HXY := Lib.hid hXY
            have vd : ∃ dn, IntKind.i64.wrap (d * bd) = dn ∧ d * bd = dn := ⟨_, i64_in (by have := mul_bd (a := d) (b := bd) (A := 512) (B := 4) (by unfold GB at hgb; omega) (by unfold GB at hgb; omega) (by have := HBD.out; omega) (by have := HBD.out; omega); omega) (by have := mul_bd (a := d) (b := bd) (A := 512) (B := 4) (by unfold GB at hgb; omega) (by unfold GB at hgb; omega) (by have := HBD.out; omega) (by have := HBD.out; omega); omega), rfl⟩
            obtain ⟨dn, vd, hdn⟩ := vd
            have HDN := Lib.hid hdn
            have HGB := Lib.hid hgb
            clear hX1 hY1 hXY hdn hgb
            have q11 := J.now.1.1.1.1.1.2.two
            go_upto_region 17 with fail
            replace J := J.allocB [.int .i64 a, .int .i64 d] 24
            change Held (wr.alloc (.cells #[.int .i64 a, .int .i64 d] 24)) _ at J
            have z19 := (HB.out).size
            have HBA := Lib.hid (HB.out.alloc HB.out.size (.cells #[.int .i64 a, .int .i64 d] 24))
            clear q11 hg3
            obtain ⟨B19, hB19⟩ : ∃ B, B = wr.heap.size := ⟨_, rfl⟩
            rw [← hB19] at J ⊢
            generalize World.alloc _ _ = wo at J HBA ⊢
            clear hB19 z19
            have q11 := J.now.1.1.1.1.1.1.2.two
            have q19 := J.now.2.two
            go_wp2_with fail
            obtain ⟨TD, hTD⟩ : ∃ T, maxG (dnG a d bn bd) (-1152921504606846976) l = T := ⟨_, rfl⟩
            obtain ⟨TU, hTU⟩ : ∃ T, minG (uvG a d bn bd) 1152921504606846976 l = T := ⟨_, rfl⟩
            have hxy := HXY.out
            rw [hTD, hTU] at hxy
            have HTD := Lib.hid hTD
            have HTU := Lib.hid hTU
            have HXY2 := Lib.hid hxy
            clear hTD hTU hxy HXY
            go_loopw [21, 22, 134] (fun s21 s22 s134 wr2 => ∃ (k : Nat) (D U : Int), k ≤ n ∧ s21 = .int .i64 D ∧ s22 = .int .i64 U ∧ s134 = .int .i64 k ∧ Aside (maxG (dnG a d bn bd) D (l.drop k) = TD) ∧ Aside (minG (uvG a d bn bd) U (l.drop k) = TU) ∧ Aside (Below wo.heap.size wo wr2)) (fun _ _ s134 _ => n - (intOf s134).toNat)
            case atStart => exact ⟨0, _, _, Nat.zero_le _, rfl, rfl, rfl, by rw [List.drop_zero]; exact HTD.out, by rw [List.drop_zero]; exact HTU.out, Below.refl _ _⟩
            case round =>
              obtain ⟨k, D, U, hk, rfl, rfl, rfl, HMD, HMU, HBR⟩ := hrel
              have K := J.next HBR.out
              clear q11 q19
              by_cases hkn : n ≤ k
              · obtain rfl : k = n := by omega
                have hmd := HMD.out
                have hmu := HMU.out
                rw [List.drop_eq_nil_of_le (by rw [HLN.out]; omega)] at hmd hmu
                have hmd : D = TD := hmd
                have hmu : U = TU := hmu
                subst hmd
                subst hmu
                have q12 := K.now.1.1.1.1.1.2.two
                have q13 := K.now.1.1.1.1.2.two
                have q19 := K.now.2.two
                have HBF := Lib.hid (HBA.out.trans (HBR.out.mono HBA.out.size))
                have hxy := HXY2.out
                clear HMD HMU HTD HTU HXY2 HLAW
                cases x with
                | true =>
                  cases y with
                  | true =>
                    have hdu : ¬ D ≤ U := fun h => by have := hxy.1 h; simp at this
                    clear hxy
                    go_wp2_with (first
                      | (go_at_call 29; (with_reducible refine (Gives.c (HX1.out _)).mono ?_); rintro e w30 ⟨rfl, hb⟩; replace K := K.next hb; have HBG := Lib.hid (HBF.out.trans (hb.mono HBF.out.size)); clear hb q12 q13 q19; have q13 := K.now.1.1.1.1.2.two; have q19 := K.now.2.two)
                      | (go_at_call 29; (with_reducible refine (Gives.c (HY1.out _)).mono ?_); rintro e w31 ⟨rfl, hb⟩; have HBG2 := Lib.hid (HBG.out.trans (hb.mono HBG.out.size)); clear hb q13 q19))
                    go_roundw
                    case rel => exact ⟨jj + 1, by omega, by go_num, HBG.out⟩
                    case measure => simp [intOf]; omega
                  | false =>
                    have hdu : ¬ D ≤ U := fun h => by have := hxy.1 h; simp at this
                    clear hxy
                    go_wp2_with (first
                      | (go_at_call 29; (with_reducible refine (Gives.c (HX1.out _)).mono ?_); rintro e w30 ⟨rfl, hb⟩; replace K := K.next hb; have HBG := Lib.hid (HBF.out.trans (hb.mono HBF.out.size)); clear hb q12 q13 q19; have q13 := K.now.1.1.1.1.2.two; have q19 := K.now.2.two)
                      | (go_at_call 29; (with_reducible refine (Gives.c (HY1.out _)).mono ?_); rintro e w31 ⟨rfl, hb⟩; have HBG2 := Lib.hid (HBG.out.trans (hb.mono HBG.out.size)); clear hb q13 q19))
                    go_roundw
                    case rel => exact ⟨jj + 1, by omega, by go_num, HBG.out⟩
                    case measure => simp [intOf]; omega
                | false =>
                  cases y with
                  | true =>
                    have hdu : ¬ D ≤ U := fun h => by have := hxy.1 h; simp at this
                    clear hxy
                    go_wp2_with (first
                      | (go_at_call 29; (with_reducible refine (Gives.c (HX1.out _)).mono ?_); rintro e w30 ⟨rfl, hb⟩; replace K := K.next hb; have HBG := Lib.hid (HBF.out.trans (hb.mono HBF.out.size)); clear hb q12 q13 q19; have q13 := K.now.1.1.1.1.2.two; have q19 := K.now.2.two)
                      | (go_at_call 29; (with_reducible refine (Gives.c (HY1.out _)).mono ?_); rintro e w31 ⟨rfl, hb⟩; have HBG2 := Lib.hid (HBG.out.trans (hb.mono HBG.out.size)); clear hb q13 q19))
                    go_roundw
                    case rel => exact ⟨jj + 1, by omega, by go_num, HBG2.out⟩
                    case measure => simp [intOf]; omega
                  | false =>
                    have hdu : D ≤ U := hxy.2 ⟨rfl, rfl⟩
                    clear hxy
                    go_wp2_with (first
                      | (go_at_call 29; (with_reducible refine (Gives.c (HX1.out _)).mono ?_); rintro e w30 ⟨rfl, hb⟩; replace K := K.next hb; have HBG := Lib.hid (HBF.out.trans (hb.mono HBF.out.size)); clear hb q12 q13 q19; have q13 := K.now.1.1.1.1.2.two; have q19 := K.now.2.two)
                      | (go_at_call 29; (with_reducible refine (Gives.c (HY1.out _)).mono ?_); rintro e w31 ⟨rfl, hb⟩; have HBG2 := Lib.hid (HBG.out.trans (hb.mono HBG.out.size)); clear hb q13 q19))
                    go_roundw
                    case rel => exact ⟨jj + 1, by omega, by go_num, HBG2.out⟩
                    case measure => simp [intOf]; omega
              · replace hkn : k < n := by omega
                have hkn' : (k : Int) < (n : Int) := by omega
                have hw2 : IntKind.i64.wrap ((k : Int) + 1) = (k : Int) + 1 := i64_in (by omega) (by omega)
                have hx := K.now.1.1.1.1.1.1.1.2.at hkn
                have q11 := K.now.1.1.1.1.1.1.2.two
                have q19 := K.now.2.two
                have hmd := HMD.out
                have hmu := HMU.out
                rw [maxG_at (by rw [HLN.out]; exact hkn)] at hmd
                rw [minG_at (by rw [HLN.out]; exact hkn)] at hmu
                have hgb := HGB.out
                unfold GB at hgb
                have hbb := dn_bd hgb.1 hgb.2 (bn := bn) (bd := bd) (by have := HBN.out; omega) (by have := HBD.out; omega) (HN.out.set k (by rw [HLN.out]; exact hkn)) (HN.out.want k (by rw [HLN.out]; exact hkn))
                generalize hmx : max D (dnG a d bn bd (cAt l k)) = D2 at hmd
                generalize hmn : min U (uvG a d bn bd (cAt l k)) = U2 at hmu
                unfold dnG at hmx hbb
                unfold uvG at hmn hbb
                rw [HDN.out] at hmx hmn hbb
                generalize cAt l k = cc at hx hmx hmn hbb
                obtain ⟨s, lo, hi⟩ := cc
                dsimp only at hx hmx hmn hbb
                have v1 : IntKind.i64.wrap (a * s) = a * s := i64_in (by omega) (by omega)
                have v2 : IntKind.i64.wrap (a * s * bd) = a * s * bd := i64_in (by omega) (by omega)
                have v3 : IntKind.i64.wrap (hi * dn) = hi * dn := i64_in (by omega) (by omega)
                have v4 : IntKind.i64.wrap (bn * d) = bn * d := i64_in (by omega) (by omega)
                have v5 : IntKind.i64.wrap (hi * dn - bn * d) = hi * dn - bn * d := i64_in (by omega) (by omega)
                have v6 : IntKind.i64.wrap (hi * dn - bn * d - a * s * bd) = hi * dn - bn * d - a * s * bd := i64_in (by omega) (by omega)
                have v7 : IntKind.i64.wrap (lo * dn) = lo * dn := i64_in (by omega) (by omega)
                have v8 : IntKind.i64.wrap (lo * dn + bn * d) = lo * dn + bn * d := i64_in (by omega) (by omega)
                have v9 : IntKind.i64.wrap (lo * dn + bn * d - a * s * bd) = lo * dn + bn * d - a * s * bd := i64_in (by omega) (by omega)
                have HMD2 := Lib.hid hmd
                have HMU2 := Lib.hid hmu
                have HBN2 := Lib.hid (HBR.out.alloc HBR.out.size (.cells #[.int .i64 s, .int .i64 lo, .int .i64 hi] 68))
                have zz := K.now.2.lt
                have zz2 := K.now.1.1.1.1.1.1.2.lt
                clear hmd hmu hgb hbb HMD HMU
                go_wp2_with fail
                go_roundw
                case rel => exact ⟨k + 1, D2, U2, by omega, by go_num, by go_num, by go_num, HMD2.out, HMU2.out, HBN2.out⟩
                case measure => simp [intOf]; omega

theorem gains_own : ownKnob Try.prog.godebug = none := by kernel_rfl

set_option maxRecDepth 100000 in
theorem gains_lifted (os : Os) (started : os.Started) (H : Type) (enc : TypeId × Value → H) :
    ReturnsInHanded {} Try.checked os 8 .any (Rows.levelGainsSpec.pre6 enc Try.prog Try.f8 Rows.levelGainsRow.domain false) (Rows.levelGainsSpec.post enc Try.prog Try.f8 false true false false) := by
  refine returnsInHanded_of_change (C := Try.checked) gains_own started (by kernel_rfl) Try.func8
    (ChangeSpec.witness6 (enc := enc) (C := Try.checked) false ⟨#[], #[.slice none 0 0, .agg #[.int .u8 0, .int .u8 0], .agg #[.int .i8 0, .int .i8 0]], []⟩ 8 (by kernel_rfl) (by kernel_rfl) (by kernel_rfl) (by kernel_rfl)) ?_
  intro W base args ds gs before hval0 hW hcnd _
  have hval : ∀ (j : Nat) t v, Try.f8.params[j]? = some t → args[j]? = some v → Value.okWide Try.prog W .any base t v := hval0
  have hW' := hW
  obtain ⟨p, q, hA, hV, rfl, hfz, hnd⟩ := hW
  rw [Try.params8] at hA hval
  obtain ⟨v1, l1, d1, ds1, p1, q1, e1, rfl, rfl, h1, hA⟩ := trodAll_cons hA
  obtain ⟨v2, l2, d2, ds2, p2, q2, rfl, rfl, rfl, h2, hA⟩ := trodAll_cons hA
  obtain ⟨v3, l3, d3, ds3, p3, q3, rfl, rfl, rfl, h3, hA⟩ := trodAll_cons hA
  obtain ⟨rfl, rfl, rfl⟩ := trodAll_nil hA
  obtain ⟨rfl, rfl⟩ := trodVars_none hV
  obtain rfl : args = #[v1, v2, v3] := by cases args; simp_all
  obtain ⟨A, n, c, l, rfl, hl⟩ := scale_arg (hval 0 52 v1 rfl rfl) h1
  obtain ⟨x0, x1, rfl, hx0, hx1⟩ := bytes2_arg (hval 1 71 v2 rfl rfl) h2
  obtain ⟨y0, y1, rfl, hy0, hy1⟩ := smalls_arg (hval 2 55 v3 rfl rfl) h3
  refine (Gives.c (gains_walk A n c l x0 x1 y0 y1 W hl hx0 hx1 hy0 hy1)).mono fun e W' ⟨he, hb⟩ => ?_
  subst he
  exact ⟨_, rfl, post_true hW' rfl rfl rfl (by decide) hb⟩

theorem gains_over2 : Rows.levelGainsRow.holds Try.pinned (OpenSpec.ofChange Rows.levelGainsSpec) :=
  OpenClaim.holds_of_wide 8 Try.f8 rfl rfl rfl rfl rfl rfl rfl ⟨rfl, rfl, rfl, rfl, rfl⟩ rfl rfl rfl rfl rfl (by kernel_rfl) Try.func8 (by kernel_rfl)
    (of_decide_eq_true (by kernel_rfl)) (by unfold Func.isWrapper; first | (rw [if_pos (by decide +kernel)]; kernel_rfl) | (rw [if_neg (by decide +kernel)]; exact ⟨rfl, rfl⟩))
    (fun os started H enc _ => gains_lifted os started H enc)

/-- LevelGains returns true. -/
theorem levelGains_holds : Rows.LevelGainsSaid := gains_over2
#print axioms levelGains_holds
end Go.Proofs.Ytjncoableanmpaa
