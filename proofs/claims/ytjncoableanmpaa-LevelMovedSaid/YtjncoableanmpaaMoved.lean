/- LevelMoved: a line is added, or the coding is turned around: the best error remains, and the gains move by as much: the call returns true at every coding by numbers, gain and bound. -/
import Derived.Test.YtjncoableanmpaaQK
namespace Go.Proofs.Ytjncoableanmpaa
open Go.ChangeShapes Go.WideShapes Go.ChangeAt Go.RowKit Go.Lib Go.Shelf

theorem Apart.grow2 {w : World} {base n size : Nat} {e : TypeId} {v v' u : Value} {xs : List Value} (ha : Apart v u) (h : w.ownsRow base e size u n xs) (hv : v'.ownBlock = v.ownBlock ∨ v'.ownBlock = some (w.heap.size + 1)) : Apart v' u := by
  intro j hj hu
  rcases hv with hv | hv
  · exact ha j (hv ▸ hj) hu
  · rw [hv] at hj
    have := own_lt h hu
    cases hj
    omega

set_option maxRecDepth 1000000 in
set_option maxHeartbeats 16000000 in
theorem moved_law (A : Option Addr) (n0 c0 : Nat) (tl : List Tri) (g bb : Int) (w : World) (hs : ReadsS w A n0 tl) (hg : 0 ≤ g ∧ g ≤ 255) (hbb : 0 ≤ bb ∧ bb ≤ 255) :
    Gives 7 #[.slice A n0 c0, .int .u8 g, .int .u8 bb] (.bool true) w := by
  unfold Gives
  obtain ⟨i0, hi0, hz0, hz1, hz2⟩ := info_parts info68
  have HS := Lib.hid hs
  have hN := madeC_nice tl
  generalize hM : madeC tl = l at hN
  have HMD := Lib.hid hM
  obtain ⟨n, hn⟩ : ∃ n, l.length = n := ⟨_, rfl⟩
  have HN := Lib.hid hN
  have hn1 : 1 ≤ n := by have := hN.pos; omega
  have hn5 : n ≤ 5 := by have := hN.few; omega
  have HLN := Lib.hid hn
  have ug : g.tmod 9 = g % 9 := Int.tmod_eq_emod_of_nonneg hg.1
  have cg : IntKind.i64.wrap g = g := i64_in (by omega) (by omega)
  have mg : IntKind.i64.wrap (g % 9) = g % 9 := i64_in (by omega) (by omega)
  have cb : IntKind.i64.wrap bb = bb := i64_in (by omega) (by omega)
  have hm8 : 0 ≤ g % 9 ∧ g % 9 ≤ 8 := by omega
  generalize g % 9 = m at ug mg hm8
  have hMK : ∀ W, ReadsS W A n0 tl → Calls Try.prog 24 #[.slice A n0 c0] W fun e w' => ∃ b o c, e = .returned (.slice (some ⟨b, o, none⟩) n c) ∧ (ReadsC w' (some ⟨b, o, none⟩) n l ∧ n ≤ c) ∧ Below W.heap.size W w' := fun W h => by
    have k := made_calls A n0 c0 tl W h
    rw [hM, hn] at k
    exact k
  have HMK := Lib.hid hMK
  have I0 : Held w (fun W => Below w.heap.size w W) := .from (Below.refl _ _) (Nat.le_refl _)
  clear hs hM hn hMK hN hg
  have wn1 : IntKind.i64.wrap ((n : Int) - 1) = (n : Int) - 1 := i64_in (by omega) (by omega)
  go_enter Try.func7, Try.ntmps7
  go_wp2_with (go_at_call 24; (with_reducible refine (HMK.out _ HS.out).mono ?_); rintro e w1 ⟨b, off, c, rfl, ⟨hr, hc⟩, hb⟩; have I := (I0.next hb).with (.readsC hr); clear hb hr)
  clear HMK HS I0
  have hbw : b < w1.heap.size := World.block_lt_of_cell? w1 _ (I.now.2.at (show 0 < n by omega)).1
  go_loopw [9, 10, 38] (fun v9 v10 v38 wr => ∃ k : Nat, k ≤ n ∧ v38 = .int .i64 k ∧ Aside (wr.ownsRow w1.heap.size 68 3 v9 k (cellsC ((movL m l).take k))) ∧ Aside (wr.ownsRow w1.heap.size 68 3 v10 k (cellsC ((turL l).take k))) ∧ Aside (Apart v9 v10) ∧ Aside (Below w1.heap.size w1 wr)) (fun _ _ v38 _ => n - (intOf v38).toNat)
  case atStart => exact ⟨0, Nat.zero_le _, rfl, World.ownsRow_nil _ _ _ _, World.ownsRow_nil _ _ _ _, Apart.nil _, Below.refl _ _⟩
  case round =>
    obtain ⟨k, hk, rfl, HO9, HO10, HAP, HB⟩ := hrel
    by_cases hge : n ≤ k
    · obtain rfl : k = n := by omega
      have hlm := movL_len m l
      have hlt := turL_len l
      rw [HLN.out] at hlm hlt
      have o9 := HO9.out
      rw [List.take_of_length_le (by omega)] at o9
      have o10 := HO10.out
      rw [List.take_of_length_le (by omega)] at o10
      obtain ⟨A9, c9, rfl, hR9, _⟩ := own_readsC o9 hlm (by omega)
      obtain ⟨A10, c10, rfl, hR10, _⟩ := own_readsC o10 hlt (by omega)
      obtain ⟨b9, f9, rfl, _⟩ := hR9.2.2 (by omega)
      obtain ⟨b10, f10, rfl, _⟩ := hR10.2.2 (by omega)
      have cp9 := (own_cap o9).1
      have cp10 := (own_cap o10).1
      replace I := ((I.next HB.out).with (.readsC hR9)).with (.readsC hR10)
      obtain ⟨x1, x2, x3, x4, hX⟩ := best_nice (b := b) (off := off) (n := k) (c := c) HN.out.good hc
      obtain ⟨y1, y2, y3, y4, hY⟩ := best_nice (b := b9) (off := f9) (n := k) (c := c9) (movL_good hm8.1 hm8.2 HN.out) cp9
      obtain ⟨z1, z2, z3, z4, hZ⟩ := best_nice (b := b10) (off := f10) (n := k) (c := c10) (turL_good HN.out) cp10
      rw [mov_off hm8.1 hm8.2 HN.out] at hY
      rw [tur_off HN.out] at hZ
      have hq := nice_off HN.out
      have hnu := not_under (bestC l).off hbb.1
      have hmo := mov_off hm8.1 hm8.2 HN.out
      have hto := tur_off HN.out
      have hG1 : ∀ W, ReadsC W (some ⟨b, off, none⟩) k l → Gives 17 #[.slice (some ⟨b, off, none⟩) k c, .agg #[.int .i64 ((bestC l).off.num + bb), .int .i64 ((bestC l).off.den : Int)]] (gainsV l ((bestC l).off.num + bb) (bestC l).off.den) W := fun W h => Gains_calls _ k c l _ _ W h hc
      have hG2 : ∀ W, ReadsC W (some ⟨b9, f9, none⟩) k (movL m l) → Gives 17 #[.slice (some ⟨b9, f9, none⟩) k c9, .agg #[.int .i64 ((bestC l).off.num + bb), .int .i64 ((bestC l).off.den : Int)]] (gainsV (movL m l) ((bestC l).off.num + bb) (bestC l).off.den) W := fun W h => Gains_calls _ k c9 _ _ _ W h cp9
      have hG3 : ∀ W, ReadsC W (some ⟨b10, f10, none⟩) k (turL l) → Gives 17 #[.slice (some ⟨b10, f10, none⟩) k c10, .agg #[.int .i64 ((bestC l).off.num + bb), .int .i64 ((bestC l).off.den : Int)]] (gainsV (turL l) ((bestC l).off.num + bb) (bestC l).off.den) W := fun W h => Gains_calls _ k c10 _ _ _ W h cp10
      have hsm : ∀ W, Gives 26 #[.agg #[.int .i64 (bestC l).off.num, .int .i64 ((bestC l).off.den : Int)]] (.bool true) W := fun W => small_calls _ _ (by omega) W
      have vb : IntKind.i64.wrap ((bestC l).off.num + bb) = (bestC l).off.num + bb := i64_in (by omega) (by omega)
      have hD : (0 ≤ (bestC l).off.num + bb ∧ (bestC l).off.num + bb ≤ 2000) ∧ (1 ≤ ((bestC l).off.den : Int) ∧ ((bestC l).off.den : Int) ≤ 32) := by omega
      have hgt := guard24
      have hst := stood24
      have HX := Lib.hid hX
      have HY := Lib.hid hY
      have HZ := Lib.hid hZ
      have HSM := Lib.hid hsm
      have HNU := Lib.hid hnu
      have HMO := Lib.hid hmo
      have HTO := Lib.hid hto
      have HD := Lib.hid hD
      have HM8 := Lib.hid hm8
      clear hX hY hZ hsm hnu hmo hto hq hD o9 o10 hR9 hR10 hlm hlt HO9 HO10 HAP HB hm8 hbw
      by_cases h1 : k = 1
      · have e1 : ((k : Int) == 1) = true := beq_iff_eq.2 (by omega)
        have hlm := movL_len m l
        have hlt := turL_len l
        rw [HLN.out] at hlm hlt
        rw [gains_one HN.out.good (by have := HD.out; omega) (by have := HD.out; omega) (by rw [HLN.out]; exact h1)] at hG1
        rw [gains_one (movL_good HM8.out.1 HM8.out.2 HN.out) (by have := HD.out; omega) (by have := HD.out; omega) (by omega)] at hG2
        rw [gains_one (turL_good HN.out) (by have := HD.out; omega) (by have := HD.out; omega) (by omega)] at hG3
        have HG1 := Lib.hid hG1
        have HG2 := Lib.hid hG2
        have HG3 := Lib.hid hG3
        clear hG1 hG2 hG3 hlm hlt h1 HNU HMO HTO HD HM8 HN HMD
        generalize (bestC l).off.num = qn at *
        generalize ((bestC l).off.den : Int) = qd at *
        go_upto_region 15 with (first
          | (go_at_call 25; (with_reducible refine (Gives.c (HX.out _ I.now.1.1.2)).mono ?_); rintro e wa ⟨rfl, hb⟩; replace I := (I.next hb).allocB2 [.int .i64 x1, .int .i64 x2, .int .i64 x3, .int .i64 x4] 26 [.int .i64 qn, .int .i64 qd] 24; clear hb)
          | (go_at_call 25; (with_reducible refine (Gives.c (HY.out (World.alloc (World.alloc wa _) _) I.now.1.1.1.2)).mono ?_); rintro e wb ⟨rfl, hb⟩; replace I := (I.next hb).allocB2 [.int .i64 y1, .int .i64 y2, .int .i64 y3, .int .i64 y4] 26 [.int .i64 qn, .int .i64 qd] 24; clear hb)
          | (go_at_call 25; (with_reducible refine (Gives.c (HZ.out (World.alloc (World.alloc wb _) _) I.now.1.1.1.1.2)).mono ?_); rintro e wd ⟨rfl, hb⟩; replace I := (I.next hb).allocB2 [.int .i64 z1, .int .i64 z2, .int .i64 z3, .int .i64 z4] 26 [.int .i64 qn, .int .i64 qd] 24; clear hb))
        generalize World.alloc _ _ = wz at I ⊢
        have q16 := I.now.1.1.1.1.2.two
        have q19 := I.now.1.1.2.two
        have q22 := I.now.2.two
        go_upto_region 17 with (go_at_call 26; (with_reducible refine (Gives.c (HSM.out _)).mono ?_); rintro e we ⟨rfl, hb⟩; replace I := I.next hb; clear hb q16 q19 q22; have q16 := I.now.1.1.1.1.2.two)
        go_upto_region 21 with (first
          | (go_at_call 27; (with_reducible refine (Gives.c (part_calls _ _ _)).mono ?_); rintro e wf ⟨rfl, hb⟩; replace I := (I.next hb).allocB [.int .i64 (qn + bb), .int .i64 qd] 24; clear hb q16; have q24 := I.now.2.two)
          | (go_at_call 17; (with_reducible refine (Gives.c (HG1.out _ I.now.1.1.1.1.1.1.1.1.1.2)).mono ?_); rintro e wg ⟨rfl, hb⟩; replace I := (I.next hb).allocB2 [.int .i64 0, .int .i64 0] 24 [.int .i64 0, .int .i64 0] 24; clear hb q24; have q24 := I.now.1.1.2.two)
          | (go_at_call 17; (with_reducible refine (Gives.c (HG2.out (World.alloc (World.alloc wg _) _) I.now.1.1.1.1.1.1.1.1.1.1.2)).mono ?_); rintro e wh ⟨rfl, hb⟩; replace I := (I.next hb).allocB2 [.int .i64 0, .int .i64 0] 24 [.int .i64 0, .int .i64 0] 24; clear hb q24; have q24 := I.now.1.1.1.1.2.two)
          | (go_at_call 17; (with_reducible refine (Gives.c (HG3.out (World.alloc (World.alloc wh _) _) I.now.1.1.1.1.1.1.1.1.1.1.1.2)).mono ?_); rintro e wi ⟨rfl, hb⟩; replace I := (I.next hb).allocB2 [.int .i64 0, .int .i64 0] 24 [.int .i64 0, .int .i64 0] 24; clear hb q24))
        generalize World.alloc _ _ = wz at I ⊢
        go_wp2_with (go_at_call 11; (with_reducible refine (Gives.c (works_calls _)).mono ?_); rintro e wj ⟨rfl, hb⟩; replace I := I.next hb)
        go_ret
        exact ⟨rfl, I.now.1.1.1.1.1.1.1.1.1.1.1.1.1.1.1.1⟩
      · have e1 : ((k : Int) == 1) = false := beq_eq_false_iff_ne.2 (by omega)
        have e1' : ¬ (k : Int) = 1 := by omega
        have h2 : 2 ≤ k := by omega
        have hlm := movL_len m l
        have hlt := turL_len l
        rw [HLN.out] at hlm hlt
        rw [gains_many HN.out.good (by have := HD.out; omega) (by have := HD.out; omega) (by rw [HLN.out]; exact h2) HNU.out] at hG1
        rw [gains_many (movL_good HM8.out.1 HM8.out.2 HN.out) (by have := HD.out; omega) (by have := HD.out; omega) (by omega) (by rw [HMO.out]; exact HNU.out)] at hG2
        rw [gains_many (turL_good HN.out) (by have := HD.out; omega) (by have := HD.out; omega) (by omega) (by rw [HTO.out]; exact HNU.out), tur_gF (by rw [HLN.out]; exact h2)] at hG3
        have hmg := mov_gF (n := m) (bn := (bestC l).off.num + bb) (bd := ((bestC l).off.den : Int)) (by have := HD.out; omega) HN.out (by rw [HLN.out]; exact h2)
        rw [hmg.1, hmg.2] at hG2
        unfold rv at hG1 hG2 hG3
        rw [(add_int _ _).1, (add_int _ _).2, (add_int _ _).1, (add_int _ _).2] at hG2
        have hbdg := nice_gF HN.out HD.out.1 HD.out.2 (by rw [HLN.out]; exact h2)
        have pd1 := (gF ((bestC l).off.num + bb) ((bestC l).off.den : Int) l).1.den_pos
        have pd2 := (gF ((bestC l).off.num + bb) ((bestC l).off.den : Int) l).2.den_pos
        have hs2 : ∀ W, Gives 26 #[.agg #[.int .i64 (gF ((bestC l).off.num + bb) ((bestC l).off.den : Int) l).1.num, .int .i64 ((gF ((bestC l).off.num + bb) ((bestC l).off.den : Int) l).1.den : Int)]] (.bool true) W := fun W => small_calls _ _ (by omega) W
        have hs3 : ∀ W, Gives 26 #[.agg #[.int .i64 (gF ((bestC l).off.num + bb) ((bestC l).off.den : Int) l).2.num, .int .i64 ((gF ((bestC l).off.num + bb) ((bestC l).off.den : Int) l).2.den : Int)]] (.bool true) W := fun W => small_calls _ _ (by omega) W
        have hbdg : (((gF ((bestC l).off.num + bb) ((bestC l).off.den : Int) l).1.num.natAbs ≤ 6000 ∧ ((gF ((bestC l).off.num + bb) ((bestC l).off.den : Int) l).1.den : Int) ≤ 512) ∧ ((gF ((bestC l).off.num + bb) ((bestC l).off.den : Int) l).2.num.natAbs ≤ 6000 ∧ ((gF ((bestC l).off.num + bb) ((bestC l).off.den : Int) l).2.den : Int) ≤ 512)) ∧ 0 ≤ ((gF ((bestC l).off.num + bb) ((bestC l).off.den : Int) l).1.den : Int) ∧ 0 ≤ ((gF ((bestC l).off.num + bb) ((bestC l).off.den : Int) l).2.den : Int) := ⟨hbdg, by omega, by omega⟩
        have hm8 := HM8.out
        generalize (gF ((bestC l).off.num + bb) ((bestC l).off.den : Int) l).1.num = p1 at hG1 hG2 hG3 hbdg hs2
        generalize ((gF ((bestC l).off.num + bb) ((bestC l).off.den : Int) l).1.den : Int) = p2 at hG1 hG2 hG3 hbdg hs2
        generalize (gF ((bestC l).off.num + bb) ((bestC l).off.den : Int) l).2.num = q1 at hG1 hG2 hG3 hbdg hs3
        generalize ((gF ((bestC l).off.num + bb) ((bestC l).off.den : Int) l).2.den : Int) = q2 at hG1 hG2 hG3 hbdg hs3
        have HG1 := Lib.hid hG1
        have HG2 := Lib.hid hG2
        have HG3 := Lib.hid hG3
        have HS2 := Lib.hid hs2
        have HS3 := Lib.hid hs3
        have HBG := Lib.hid hbdg
        clear hG1 hG2 hG3 hlm hlt h1 h2 HNU HMO HTO HD HN HMD hs2 hs3 hmg hbdg pd1 pd2 hm8
        generalize (bestC l).off.num = qn at *
        generalize ((bestC l).off.den : Int) = qd at *
        go_upto_region 15 with (first
          | (go_at_call 25; (with_reducible refine (Gives.c (HX.out _ I.now.1.1.2)).mono ?_); rintro e wa ⟨rfl, hb⟩; replace I := (I.next hb).allocB2 [.int .i64 x1, .int .i64 x2, .int .i64 x3, .int .i64 x4] 26 [.int .i64 qn, .int .i64 qd] 24; clear hb)
          | (go_at_call 25; (with_reducible refine (Gives.c (HY.out (World.alloc (World.alloc wa _) _) I.now.1.1.1.2)).mono ?_); rintro e wb ⟨rfl, hb⟩; replace I := (I.next hb).allocB2 [.int .i64 y1, .int .i64 y2, .int .i64 y3, .int .i64 y4] 26 [.int .i64 qn, .int .i64 qd] 24; clear hb)
          | (go_at_call 25; (with_reducible refine (Gives.c (HZ.out (World.alloc (World.alloc wb _) _) I.now.1.1.1.1.2)).mono ?_); rintro e wd ⟨rfl, hb⟩; replace I := (I.next hb).allocB2 [.int .i64 z1, .int .i64 z2, .int .i64 z3, .int .i64 z4] 26 [.int .i64 qn, .int .i64 qd] 24; clear hb))
        generalize World.alloc _ _ = wz at I ⊢
        have q16 := I.now.1.1.1.1.2.two
        have q19 := I.now.1.1.2.two
        have q22 := I.now.2.two
        go_upto_region 17 with (go_at_call 26; (with_reducible refine (Gives.c (HSM.out _)).mono ?_); rintro e we ⟨rfl, hb⟩; replace I := I.next hb; clear hb q16 q19 q22; have q16 := I.now.1.1.1.1.2.two)
        go_upto_region 21 with (first
          | (go_at_call 27; (with_reducible refine (Gives.c (part_calls _ _ _)).mono ?_); rintro e wf ⟨rfl, hb⟩; replace I := (I.next hb).allocB [.int .i64 (qn + bb), .int .i64 qd] 24; clear hb q16; have q24 := I.now.2.two)
          | (go_at_call 17; (with_reducible refine (Gives.c (HG1.out _ I.now.1.1.1.1.1.1.1.1.1.2)).mono ?_); rintro e wg ⟨rfl, hb⟩; replace I := (I.next hb).allocB2 [.int .i64 p1, .int .i64 p2] 24 [.int .i64 q1, .int .i64 q2] 24; clear hb q24; have q24 := I.now.1.1.2.two)
          | (go_at_call 17; (with_reducible refine (Gives.c (HG2.out (World.alloc (World.alloc wg _) _) I.now.1.1.1.1.1.1.1.1.1.1.2)).mono ?_); rintro e wh ⟨rfl, hb⟩; replace I := (I.next hb).allocB2 [.int .i64 (p1 + m * p2), .int .i64 p2] 24 [.int .i64 (q1 + m * q2), .int .i64 q2] 24; clear hb q24; have q24 := I.now.1.1.1.1.2.two)
          | (go_at_call 17; (with_reducible refine (Gives.c (HG3.out (World.alloc (World.alloc wh _) _) I.now.1.1.1.1.1.1.1.1.1.1.1.2)).mono ?_); rintro e wi ⟨rfl, hb⟩; replace I := (I.next hb).allocB2 [.int .i64 p1, .int .i64 p2] 24 [.int .i64 q1, .int .i64 q2] 24; clear hb q24))
        generalize World.alloc _ _ = wz at I ⊢
        have q25 := I.now.1.1.1.1.1.2.two
        have q26 := I.now.1.1.1.1.2.two
        go_upto_region 25 with (first
          | (go_at_call 26; (with_reducible refine (Gives.c (HS2.out _)).mono ?_); rintro e wj ⟨rfl, hb⟩; replace I := I.next hb; clear hb q25 q26; have q26 := I.now.1.1.1.1.2.two)
          | (go_at_call 26; (with_reducible refine (Gives.c (HS3.out _)).mono ?_); rintro e wk ⟨rfl, hb⟩; replace I := I.next hb; clear hb q26))
        have hS1 : ∀ X, Below wk.heap.size wk X → Below wk.heap.size wk X ∧ (X.cell? ⟨wg.heap.size, 0, none⟩ = some (.int .i64 p1) ∧ X.cell? ⟨wg.heap.size, 1, none⟩ = some (.int .i64 p2)) ∧ (X.cell? ⟨wg.heap.size + 1, 0, none⟩ = some (.int .i64 q1) ∧ X.cell? ⟨wg.heap.size + 1, 1, none⟩ = some (.int .i64 q2)) ∧ (X.cell? ⟨wh.heap.size, 0, none⟩ = some (.int .i64 (p1 + m * p2)) ∧ X.cell? ⟨wh.heap.size, 1, none⟩ = some (.int .i64 p2)) ∧ (X.cell? ⟨wh.heap.size + 1, 0, none⟩ = some (.int .i64 (q1 + m * q2)) ∧ X.cell? ⟨wh.heap.size + 1, 1, none⟩ = some (.int .i64 q2)) ∧ (X.cell? ⟨wi.heap.size, 0, none⟩ = some (.int .i64 p1) ∧ X.cell? ⟨wi.heap.size, 1, none⟩ = some (.int .i64 p2)) ∧ (X.cell? ⟨wi.heap.size + 1, 0, none⟩ = some (.int .i64 q1) ∧ X.cell? ⟨wi.heap.size + 1, 1, none⟩ = some (.int .i64 q2)) := fun X hX => ⟨hX, (I X hX).1.1.1.1.1.2.two, (I X hX).1.1.1.1.2.two, (I X hX).1.1.1.2.two, (I X hX).1.1.2.two, (I X hX).1.2.two, (I X hX).2.two⟩
        have h0 : ∀ X, Below wk.heap.size wk X → Below w.heap.size w X := fun X hX => (I X hX).1.1.1.1.1.1.1.1.1.1.1.1.1.1.1.1
        have HS1 := Lib.hid hS1
        have H0 := Lib.hid h0
        have hbdg := HBG.out
        have hm8 := HM8.out
        have mb1 := mul_bd (a := m) (b := p2) (A := 8) (B := 512) (by omega) (by omega) (by omega) (by omega)
        have mb2 := mul_bd (a := m) (b := q2) (A := 8) (B := 512) (by omega) (by omega) (by omega) (by omega)
        have v1 : IntKind.i64.wrap (m * p2) = m * p2 := i64_in (by omega) (by omega)
        have v2 : IntKind.i64.wrap (p1 + m * p2) = p1 + m * p2 := i64_in (by omega) (by omega)
        have v3 : IntKind.i64.wrap (m * q2) = m * q2 := i64_in (by omega) (by omega)
        have v4 : IntKind.i64.wrap (q1 + m * q2) = q1 + m * q2 := i64_in (by omega) (by omega)
        clear I hS1 h0 hbdg hm8 mb1 mb2 HX HY HZ HG1 HG2 HG3 HS2 HS3 HSM HBG HM8
        go_region_held3 (fun X => Below wk.heap.size wk X ∧ (X.cell? ⟨wg.heap.size, 0, none⟩ = some (.int .i64 p1) ∧ X.cell? ⟨wg.heap.size, 1, none⟩ = some (.int .i64 p2)) ∧ (X.cell? ⟨wg.heap.size + 1, 0, none⟩ = some (.int .i64 q1) ∧ X.cell? ⟨wg.heap.size + 1, 1, none⟩ = some (.int .i64 q2)) ∧ (X.cell? ⟨wh.heap.size, 0, none⟩ = some (.int .i64 (p1 + m * p2)) ∧ X.cell? ⟨wh.heap.size, 1, none⟩ = some (.int .i64 p2)) ∧ (X.cell? ⟨wh.heap.size + 1, 0, none⟩ = some (.int .i64 (q1 + m * q2)) ∧ X.cell? ⟨wh.heap.size + 1, 1, none⟩ = some (.int .i64 q2)) ∧ (X.cell? ⟨wi.heap.size, 0, none⟩ = some (.int .i64 p1) ∧ X.cell? ⟨wi.heap.size, 1, none⟩ = some (.int .i64 p2)) ∧ (X.cell? ⟨wi.heap.size + 1, 0, none⟩ = some (.int .i64 q1) ∧ X.cell? ⟨wi.heap.size + 1, 1, none⟩ = some (.int .i64 q2)))
          (first
            | with_reducible exact HS1.out _ (Below.refl _ _).drew
            | with_reducible exact HS1.out _ HB.out
            | fail)
          (first
            | (go_at_call 27; (with_reducible refine (Gives.c (part_calls _ _ _)).mono ?_); rintro e' wy ⟨rfl, hb⟩; first | have HB := Lib.hid (HB.out.trans (hb.mono HB.out.size)) | have HB := Lib.hid ((Below.refl wk.heap.size wk).drew.trans hb))
            | (go_at_call 11; (with_reducible refine (Gives.c (works_calls _)).mono ?_); rintro e' wy ⟨rfl, hb⟩; have HB := Lib.hid (HB.out.trans (hb.mono HB.out.size)))
            | fail)
        all_goals
          go_wp2_with fail
          go_ret
          exact ⟨rfl, H0.out _ HB.out⟩
    · replace hge : k < n := by omega
      have hlt' : (k : Int) < (n : Int) := by omega
      have hw1 : IntKind.i64.wrap ((k : Int) + 1) = (k : Int) + 1 := i64_in (by omega) (by omega)
      have J := I.next HB.out
      have hx := J.now.2.at hge
      have hset := HN.out.set k (by have := HLN.out; omega)
      have hwant := HN.out.want k (by have := HLN.out; omega)
      have hs9 := cellsC_snoc (movL m l) k (by rw [movL_len]; have := HLN.out; omega)
      rw [movL_at (by have := HLN.out; omega)] at hs9
      have hs10 := cellsC_snoc (turL l) k (by rw [turL_len]; have := HLN.out; omega)
      rw [turL_at (by have := HLN.out; omega), HLN.out] at hs10
      obtain ⟨r, hr⟩ : ∃ r, r = n - 1 - k := ⟨_, rfl⟩
      rw [← hr] at hs10
      have hrn : r < n := by omega
      have hr' : (r : Int) < (n : Int) := by omega
      have wr1 : IntKind.i64.wrap ((n : Int) - 1 - (k : Int)) = (r : Int) := by rw [i64_in (by omega) (by omega)]; omega
      have hset2 := HN.out.set r (by have := HLN.out; omega)
      have hwant2 := HN.out.want r (by have := HLN.out; omega)
      have hR : ∀ W, Below w1.heap.size w1 W → W.cell? ⟨b, off + r * 3, none⟩ = some (.int .i64 (cAt l r).1) ∧ W.cell? ⟨b, off + r * 3 + 1, none⟩ = some (.int .i64 (cAt l r).2.1) ∧ W.cell? ⟨b, off + r * 3 + 2, none⟩ = some (.int .i64 (cAt l r).2.2) := fun W hW => (I W hW).2.at hrn
      generalize cAt l k = a at hx hset hwant hs9
      generalize cAt l r = d at hR hset2 hwant2 hs10
      obtain ⟨s, lo, hi⟩ := a
      obtain ⟨s2, lo2, hi2⟩ := d
      unfold movC at hs9
      unfold turC at hs10
      dsimp only at hx hset hwant hs9 hR hset2 hwant2 hs10
      have mb := mul_bd (a := m) (b := s + 10) (A := 8) (B := 23) (by omega) (by omega) (by omega) (by omega)
      have v1 : IntKind.i64.wrap (s + 10) = s + 10 := i64_in (by omega) (by omega)
      have v2 : IntKind.i64.wrap (m * (s + 10)) = m * (s + 10) := i64_in (by omega) (by omega)
      have v3 : ∃ x, IntKind.i64.wrap (m * (s + 10) + 7) = x ∧ m * (s + 10) + 7 = x := ⟨_, i64_in (by omega) (by omega), rfl⟩
      obtain ⟨x, v3, hxx⟩ := v3
      rw [hxx] at hs9
      have v4 : IntKind.i64.wrap (lo + x) = lo + x := i64_in (by omega) (by omega)
      have v5 : IntKind.i64.wrap (hi + x) = hi + x := i64_in (by omega) (by omega)
      have v6 : IntKind.i64.wrap (-s2) = -s2 := i64_in (by omega) (by omega)
      have v7 : IntKind.i64.wrap (100 - hi2) = 100 - hi2 := i64_in (by omega) (by omega)
      have v8 : IntKind.i64.wrap (100 - lo2) = 100 - lo2 := i64_in (by omega) (by omega)
      have HS9 := Lib.hid hs9
      have HS10 := Lib.hid hs10
      have HR := Lib.hid hR
      have HBW := Lib.hid hbw
      clear hs9 hs10 hR mb hxx hset hwant hset2 hwant2 hr J hbw hrn
      go_wp2_with (first
        | (go_at_call 31; (with_reducible refine (Gives.c (code_calls _ _ _ _)).mono ?_); rintro e w2 ⟨rfl, hb⟩; have HA := Lib.hid (((Below.refl wr.heap.size wr).alloc (Nat.le_refl _) _).trans (hb.mono (by simp))); clear hb hx; have hO := own_later HO9.out HA.out)
        | (at_builtin; refine wpList_append_two _ rfl _ _ 22 rfl w1.heap.size 68 i0 (.agg #[.int .i64 0, .int .i64 0, .int .i64 0]) 3 24 Try.underlying22 hi0 hz0 hz1 hz2 rfl (by decide) _ _ _ rfl (hO.alloc _) ⟨w2.heap.size, 0, none⟩ 1 1 [.int .i64 s, .int .i64 (lo + x), .int .i64 (hi + x)] rfl rfl (cells_new _ [.int .i64 s, .int .i64 (lo + x), .int .i64 (hi + x)] _ _ rfl) (by intro u hu; simp at hu; rcases hu with rfl | rfl | rfl <;> rfl) (by decide) ?c3 ?c4 ?c5 ?_))
      case c3 => unfold maxLen; omega
      case c4 => omega
      case c5 => have := HB.out.size; have := HA.out.size; simp; omega
      intro v' w4 hown' hgrow hblk
      have hO10 := own_later HO10.out HA.out
      have HO9' := Lib.hid hown'
      have HO10' := Lib.hid (HAP.out.kept (hO10.alloc _) hgrow)
      have HAP' := Lib.hid (HAP.out.grow2 hO10 hblk)
      have HB4 := Lib.hid (((HB.out.trans (HA.out.mono HB.out.size)).alloc (by have := HB.out.size; have := HA.out.size; omega) _).grown hgrow (by have := HB.out.size; have := HA.out.size; simp; omega) (by intro j hj; exact own_base' hO j hj))
      clear hown' hgrow hblk hO hO10 HA HO9 HO10 HAP v1 v2 v3 v4 v5
      have hx := HR.out _ HB4.out
      go_wp2_with (first
        | (go_at_call 31; (with_reducible refine (Gives.c (code_calls _ _ _ _)).mono ?_); rintro e w5 ⟨rfl, hb⟩; have HA := Lib.hid (((Below.refl w4.heap.size w4).alloc (Nat.le_refl _) _).trans (hb.mono (by simp))); clear hb hx; have hO := own_later HO10'.out HA.out)
        | (at_builtin; refine wpList_append_two _ rfl _ _ 22 rfl w1.heap.size 68 i0 (.agg #[.int .i64 0, .int .i64 0, .int .i64 0]) 3 24 Try.underlying22 hi0 hz0 hz1 hz2 rfl (by decide) _ _ _ rfl (hO.alloc _) ⟨w5.heap.size, 0, none⟩ 1 1 [.int .i64 (-s2), .int .i64 (100 - hi2), .int .i64 (100 - lo2)] rfl rfl (cells_new _ [.int .i64 (-s2), .int .i64 (100 - hi2), .int .i64 (100 - lo2)] _ _ rfl) (by intro u hu; simp at hu; rcases hu with rfl | rfl | rfl <;> rfl) (by decide) ?c3 ?c4 ?c5 ?_))
      case c3 => unfold maxLen; omega
      case c4 => omega
      case c5 => have := HB4.out.size; have := HA.out.size; simp; omega
      intro v2' w6 hown' hgrow hblk
      have hO9 := own_later HO9'.out HA.out
      have HO10 := Lib.hid hown'
      have HO9 := Lib.hid (HAP'.out.symm.kept (hO9.alloc _) hgrow)
      have HAP := Lib.hid (HAP'.out.symm.grow2 hO9 hblk).symm
      have HB6 := Lib.hid (((HB4.out.trans (HA.out.mono HB4.out.size)).alloc (by have := HB4.out.size; have := HA.out.size; omega) _).grown hgrow (by have := HB4.out.size; have := HA.out.size; simp; omega) (by intro j hj; exact own_base' hO j hj))
      clear hown' hgrow hblk hO hO9 HA
      go_wp2
      go_roundw
      case measure => simp [intOf]; omega
      case rel => exact ⟨k + 1, by omega, by go_num, (show Aside _ from by rw [HS9.out]; exact HO9.out), (show Aside _ from by rw [HS10.out]; exact HO10.out), HAP.out, HB6.out⟩

theorem moved_own : ownKnob Try.prog.godebug = none := by kernel_rfl

set_option maxRecDepth 100000 in
theorem moved_lifted (os : Os) (started : os.Started) (H : Type) (enc : TypeId × Value → H) :
    ReturnsInHanded {} Try.checked os 7 .any (Rows.levelMovedSpec.pre6 enc Try.prog Try.f7 Rows.levelMovedRow.domain false) (Rows.levelMovedSpec.post enc Try.prog Try.f7 false true false false) := by
  refine returnsInHanded_of_change (C := Try.checked) moved_own started (by kernel_rfl) Try.func7
    (ChangeSpec.witness6 (enc := enc) (C := Try.checked) false ⟨#[], #[.slice none 0 0, .int .u8 0, .int .u8 0], []⟩ 8 (by kernel_rfl) (by kernel_rfl) (by kernel_rfl) (by kernel_rfl)) ?_
  intro W base args ds gs before hval0 hW hcnd _
  have hval : ∀ (j : Nat) t v, Try.f7.params[j]? = some t → args[j]? = some v → Value.okWide Try.prog W .any base t v := hval0
  have hW' := hW
  obtain ⟨p, q, hA, hV, rfl, hfz, hnd⟩ := hW
  rw [Try.params7] at hA hval
  obtain ⟨v1, l1, d1, ds1, p1, q1, e1, rfl, rfl, h1, hA⟩ := trodAll_cons hA
  obtain ⟨v2, l2, d2, ds2, p2, q2, rfl, rfl, rfl, h2, hA⟩ := trodAll_cons hA
  obtain ⟨v3, l3, d3, ds3, p3, q3, rfl, rfl, rfl, h3, hA⟩ := trodAll_cons hA
  obtain ⟨rfl, rfl, rfl⟩ := trodAll_nil hA
  obtain ⟨rfl, rfl⟩ := trodVars_none hV
  obtain rfl : args = #[v1, v2, v3] := by cases args; simp_all
  obtain ⟨A, n, c, l, rfl, hl⟩ := scale_arg (hval 0 52 v1 rfl rfl) h1
  obtain ⟨g, rfl, hg⟩ := byte_arg (hval 1 5 v2 rfl rfl) h2
  obtain ⟨bb, rfl, hbb⟩ := byte_arg (hval 2 5 v3 rfl rfl) h3
  refine (Gives.c (moved_law A n c l g bb W hl hg hbb)).mono fun e W' ⟨he, hb⟩ => ?_
  subst he
  exact ⟨_, rfl, post_true hW' rfl rfl rfl (by decide) hb⟩

theorem moved_over : Rows.levelMovedRow.holds Try.pinned (OpenSpec.ofChange Rows.levelMovedSpec) :=
  OpenClaim.holds_of_wide 7 Try.f7 rfl rfl rfl rfl rfl rfl rfl ⟨rfl, rfl, rfl, rfl, rfl⟩ rfl rfl rfl rfl rfl (by kernel_rfl) Try.func7 (by kernel_rfl)
    (of_decide_eq_true (by kernel_rfl)) (by unfold Func.isWrapper; first | (rw [if_pos (by decide +kernel)]; kernel_rfl) | (rw [if_neg (by decide +kernel)]; exact ⟨rfl, rfl⟩))
    (fun os started H enc _ => moved_lifted os started H enc)

/-- LevelMoved returns true. -/
theorem levelMoved_holds : Rows.LevelMovedSaid := moved_over
#print axioms levelMoved_holds
end Go.Proofs.Ytjncoableanmpaa
