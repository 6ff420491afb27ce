/- SpoolGoverned: with the ticks that are returned the paper runs as in the first turn: the call returns true at every reel, growth and number of turns. -/
import Derived.Test.YtphbiaagmhhhbaaOC
import Derived.Deep.CutRange
namespace Go.Proofs.Ytphbiaagmhhhbaa
open Go.ChangeShapes Go.WideShapes Go.ChangeAt Go.RowKit Go.Lib Go.Shelf

theorem govL_at {c t g : Int} {n i : Nat} (h : i < n) : (govL c t g n)[i]?.getD 0 = gov c t g ((i : Int) + 1) - gov c t g (i : Int) := by
  unfold govL
  rw [List.getElem?_map, List.getElem?_range h]
  rfl
theorem gov_floor {c t g n : Int} (hc : 1 ≤ c) : gov c t g n * c ≤ len c g n * t ∧ len c g n * t < (gov c t g n + 1) * c := by
  unfold gov
  generalize len c g n * t = x
  have h1 := Int.ediv_mul_le x (show c ≠ 0 by omega)
  have h2 := Int.lt_ediv_add_one_mul_self x (show 0 < c by omega)
  exact ⟨h1, h2⟩
theorem gov_step {c t g n : Int} (hc : 1 ≤ c) (ht : 0 ≤ t) (hg : 0 ≤ g) (hn : 0 ≤ n) : gov c t g n + t ≤ gov c t g (n + 1) := by
  have h1 := (gov_floor (c := c) (t := t) (g := g) (n := n) hc).1
  have hl := len_succ (c := c) (g := g) (n := n)
  have hng := Int.mul_nonneg hn hg
  refine Int.le_ediv_of_mul_le (by omega) ?_
  rw [hl, Int.add_mul, Int.add_mul]
  have h2 : t * c ≤ (c + n * g) * t := by
    rw [Int.mul_comm t c]
    exact Int.mul_le_mul_of_nonneg_right (by omega) ht
  omega

set_option maxRecDepth 1000000 in
set_option maxHeartbeats 8000000 in
theorem governed_walk {r : Value} {c lo hi g d : Int} {T xn yn n : Nat} (hsm : Small c T lo hi) (hx : xn ≤ 255) (hy : yn ≤ 65535) (hd : (xn : Int) % (hi - lo + 1) = d) (hg : lo + d = g) (hn : yn % 1001 = n) {p0 p1 p2 p3 : Int} (hr : r = reel p0 p1 p2 p3)
    (hmade : ∀ W, Gives 45 #[r] (spl c T lo hi) W)
    (w : World) : Gives 13 #[r, .int .u8 (xn : Int), .int .u16 (yn : Int)] (.bool true) w := by
  unfold Gives
  subst hr
  have hgt := guard26
  have hst := stood26
  have I : Held w (fun W => Below w.heap.size w W) := .from (Below.refl _ _) (Nat.le_refl _)
  have hs := hsm.sound
  have hsm' := hsm
  obtain ⟨s1, s2, s3, s4, s5, s6, s7, s8⟩ := hsm'
  have hd0 : 0 ≤ d := by rw [← hd]; exact Int.emod_nonneg _ (by omega)
  have hd1 : d < hi - lo + 1 := by rw [← hd]; exact Int.emod_lt_of_pos _ (by omega)
  have hn1 : n ≤ 1000 := by omega
  have hwx : IntKind.i64.wrap (xn : Int) = (xn : Int) := i64_in (by omega) (by omega)
  have hwy : IntKind.i64.wrap (yn : Int) = (yn : Int) := i64_in (by omega) (by omega)
  have hwd : IntKind.i64.wrap (hi - lo) = hi - lo := i64_in (by omega) (by omega)
  have hwd1 : IntKind.i64.wrap (hi - lo + 1) = hi - lo + 1 := i64_in (by omega) (by omega)
  have hmd : (xn : Int).tmod (hi - lo + 1) = d := by rw [Int.tmod_eq_emod_of_nonneg (by omega)]; exact hd
  have hwg : IntKind.i64.wrap (lo + d) = g := by rw [hg]; exact i64_in (by omega) (by omega)
  have hmn : (yn : Int).tmod 1001 = (n : Int) := by rw [Int.tmod_eq_emod_of_nonneg (by omega)]; omega
  have hz1 : (hi - lo + 1 == 0) = false := beq_eq_false_iff_ne.2 (by omega)
  have hz3 : ¬ hi - lo + 1 = 0 := by omega
  have hg0 : lo ≤ g := by omega
  have hg1 : g ≤ hi := by omega
  have hgov : governF c T lo hi g n = (govL c T g n, 0) := by
    unfold governF
    rw [if_pos ⟨hs, ⟨hg0, hg1⟩, by omega, by omega⟩, Int.toNat_natCast]
  have hle : lengthF c T g g n = (len c g n, len c g n, 0) := by
    unfold lengthF
    rw [if_pos ⟨⟨hs.1, hs.2.1, by omega, by omega, by omega⟩, by omega, by omega⟩, Int.min_self, Int.max_self]
  have hst1 : ∀ i : Int, 0 ≤ i → i < n → gov c T g i + T ≤ gov c T g (i + 1) ∧ 0 ≤ gov c T g i ∧ gov c T g (i + 1) ≤ 600600000 ∧ gov c T g (i + 1) * c ≤ len c g (i + 1) * T ∧ len c g (i + 1) * T < (gov c T g (i + 1) + 1) * c ∧ 0 ≤ gov c T g (i + 1) * c ∧ (gov c T g (i + 1) + 1) * c ≤ 600600001 * 99 ∧ len c g (i + 1) = len c g i + (c + i * g) ∧ 0 ≤ len c g i ∧ len c g (i + 1) ≤ 600600000 ∧ len c g (i + 1) * T ≤ 600600000 * 20 ∧ 0 ≤ i * g ∧ i * g ≤ 1000 * 40 := by
    intro i h0 h1
    have a1 := gov_step (c := c) (t := (T : Int)) (g := g) (n := i) (by omega) (by omega) (by omega) h0
    have a2 := (gov_bd (c := c) (t := (T : Int)) (g := g) (n := i) s1 s3 (by omega) (by omega) (by omega) h0 (by omega)).2.2
    have a3 := (gov_bd (c := c) (t := (T : Int)) (g := g) (n := i + 1) s1 s3 (by omega) (by omega) (by omega) (by omega) (by omega)).2.2
    have a4 := gov_floor (c := c) (t := (T : Int)) (g := g) (n := i + 1) (by omega)
    have a5 := mul_bd (a := gov c T g (i + 1)) (b := c) (B := 99) a3.1 a3.2 (by omega) s4
    have a6 := mul_bd (a := gov c T g (i + 1) + 1) (b := c) (A := 600600001) (B := 99) (by omega) (by omega) (by omega) s4
    have a7 := len_bd (c := c) (g := g) (n := i) (by omega) (by omega) (by omega) (by omega) h0 (by omega)
    have a8 := len_bd (c := c) (g := g) (n := i + 1) (by omega) (by omega) (by omega) (by omega) (by omega) (by omega)
    have a9 := mul_bd (a := len c g (i + 1)) (b := (T : Int)) (B := 20) a8.1 a8.2 (by omega) s2
    have a10 := mul_bd (a := i) (b := g) (A := 1000) (B := 40) h0 (by omega) (by omega) (by omega)
    exact ⟨a1, a2.1, a3.2, a4.1, a4.2, a5.1, a6.2, len_succ, a7.1, a8.2, a9.2, a10.1, a10.2⟩
  have HM := Lib.hid hmade
  have HGV := Lib.hid hgov
  have HLE := Lib.hid hle
  have HST := Lib.hid hst1
  clear hmade hgov hle hst1 hn hd hg hsm hs
  go_enter Try.func13, Try.ntmps13
  go_upto_region 2 with (go_at_call 45; (with_reducible refine (Gives.c (HM.out (World.alloc _ _))).mono ?_); rintro e w1 ⟨rfl, hb⟩; replace I := (I.alloc _).next hb; clear hb)
  have hw1s : w.heap.size ≤ w1.heap.size := I.now.size
  have I2 := I.allocB [.int .i64 c, .int .i64 (T : Int), .int .i64 lo, .int .i64 hi] 28
  clear I
  generalize World.alloc _ _ = W0 at I2 ⊢
  have q0 := I2.now.2.four
  go_quiet (fail)
  go_upto_region 5 with (go_at_call 36; (with_reducible refine (govern_calls _ _ _ _ _ _ _).mono ?_); intro e w2 hh; obtain ⟨A, m, cp, rfl, hr, hb⟩ := slc_of HGV.out hh; replace I2 := ((I2.next (below_drewN' (Below.refl _ _) _)).next hb).with hr; clear hr hb hh q0)
  have hA := I2.now.2.1
  rw [govL_length] at hA
  obtain rfl : m = n := hA.symm
  clear hA
  have q0 := I2.now.1.2.four
  go_wp2
  go_quiet (fail)
  replace I2 := I2.next (below_drewN' (Below.refl _ _) nq)
  clear q0
  generalize World.drewN _ _ = W3 at I2 ⊢
  replace I2 := (Held.from (Below.refl W3.heap.size W3) (Nat.le_refl _)).with I2
  go_wp2
  go_loopw [12, 13, 14, 57] (fun v1 v2 v3 v4 wr => ∃ i : Nat, i ≤ m ∧ v4 = .int .i64 i ∧ v1 = .int .i64 (gov c T g i) ∧ v2 = .int .i64 (len c g i) ∧ v3 = .int .i64 (c + i * g) ∧ Aside (Below W3.heap.size W3 wr))
    (fun _ _ _ v4 _ => m - (intOf v4).toNat)
  case atStart => exact ⟨0, by omega, rfl, by rw [show ((0 : Nat) : Int) = 0 from rfl, gov_zero], by rw [show ((0 : Nat) : Int) = 0 from rfl, len_zero], by simp, Below.refl _ _⟩
  case round =>
    obtain ⟨i, hik, rfl, rfl, rfl, rfl, HB⟩ := hrel
    have J := I2.next HB.out
    have q0 := J.now.2.1.2.four
    by_cases hlt : i < m
    · have hlt' : (i : Int) < (m : Int) := by omega
      have hw1 : IntKind.i64.wrap ((i : Int) + 1) = (i : Int) + 1 := i64_in (by omega) (by omega)
      obtain ⟨b, o, rfl, hc⟩ := J.now.2.2.2.2 (by omega)
      have hc1 := hc i hlt
      rw [govL_at hlt] at hc1
      obtain ⟨f1, f2, f3, f4, f5, f6, f7, f8, f9, f10, f11, f12, f13⟩ := HST.out i (by omega) hlt'
      have g1 : ¬ gov c T g ((i : Int) + 1) - gov c T g (i : Int) < (T : Int) := by omega
      have g2 : ¬ (1073741824 : Int) < gov c T g ((i : Int) + 1) - gov c T g (i : Int) := by omega
      have g3 : ¬ len c g ((i : Int) + 1) * T < gov c T g ((i : Int) + 1) * c := by omega
      have g4 : ¬ (gov c T g ((i : Int) + 1) + 1) * c ≤ len c g ((i : Int) + 1) * T := by omega
      have v1 : IntKind.i64.wrap (gov c T g (i : Int) + (gov c T g ((i : Int) + 1) - gov c T g (i : Int))) = gov c T g ((i : Int) + 1) := by
        rw [show gov c T g (i : Int) + (gov c T g ((i : Int) + 1) - gov c T g (i : Int)) = gov c T g ((i : Int) + 1) by omega]
        exact i64_in (by omega) (by omega)
      have v2 : IntKind.i64.wrap (len c g (i : Int) + (c + (i : Int) * g)) = len c g ((i : Int) + 1) := by rw [← f8]; exact i64_in (by omega) (by omega)
      have v3 : IntKind.i64.wrap (c + (i : Int) * g + g) = c + ((i : Int) + 1) * g := by rw [Int.add_mul, Int.one_mul, Int.add_assoc]; exact i64_in (by omega) (by omega)
      have v4 : IntKind.i64.wrap (gov c T g ((i : Int) + 1) * c) = gov c T g ((i : Int) + 1) * c := i64_in (by omega) (by omega)
      have v5 : IntKind.i64.wrap (len c g ((i : Int) + 1) * T) = len c g ((i : Int) + 1) * T := i64_in (by omega) (by omega)
      have v6 : IntKind.i64.wrap (gov c T g ((i : Int) + 1) + 1) = gov c T g ((i : Int) + 1) + 1 := i64_in (by omega) (by omega)
      have v7 : IntKind.i64.wrap ((gov c T g ((i : Int) + 1) + 1) * c) = (gov c T g ((i : Int) + 1) + 1) * c := i64_in (by omega) (by omega)
      have u4 : wrap64 (gov c T g ((i : Int) + 1) * c) = gov c T g ((i : Int) + 1) * c := by rw [← i64_w]; exact v4
      have u5 : wrap64 (len c g ((i : Int) + 1) * T) = len c g ((i : Int) + 1) * T := by rw [← i64_w]; exact v5
      have u7 : wrap64 ((gov c T g ((i : Int) + 1) + 1) * c) = (gov c T g ((i : Int) + 1) + 1) * c := by rw [← i64_w]; exact v7
      have e1 : (((i + 1 : Nat) : Int)) = (i : Int) + 1 := by omega
      have E1 := Lib.hid e1
      clear f1 f2 f3 f4 f5 f6 f7 f8 f9 f10 f11 f12 f13 e1 hc
      generalize gov c T g ((i : Int) + 1) - gov c T g (i : Int) = D at hc1 g1 g2 v1
      generalize hG1 : gov c T g ((i : Int) + 1) = G1 at g3 g4 v1 v4 v6 v7 u4 u7
      generalize hL1 : len c g ((i : Int) + 1) = L1 at g3 g4 v2 v5 u5
      have HG1 := Lib.hid hG1
      have HL1 := Lib.hid hL1
      clear hG1 hL1
      generalize hA1 : G1 * c = A1 at g3
      generalize hA2 : (G1 + 1) * c = A2 at g4
      generalize hB1 : L1 * (T : Int) = B1 at g3 g4
      rw [hA1] at v4 u4
      rw [hA2] at v7 u7
      rw [hB1] at v5 u5
      go_wp2
      go_roundw
      case measure => simp [intOf]; omega
      case rel =>
        refine ⟨i + 1, by omega, by go_num, ?_, ?_, ?_, HB.out⟩
        · rw [E1.out, HG1.out]
        · rw [E1.out, HL1.out]
        · rw [E1.out]
    · obtain rfl : i = m := by omega
      have kb := J.now.2.1.2
      have bw := J.now.2.1.1
      have f2 := kb.free 2
      have f3 := kb.free 3
      have z0 := kb.lt
      have b2 := (bw.setCell (p := ⟨w1.heap.size, 2, none⟩) hw1s (.int .i64 g)).setCell (p := ⟨w1.heap.size, 3, none⟩) hw1s (.int .i64 g)
      have k2 := (kb.set 2 (by simp) (.int .i64 g)).set 3 (by simp) (.int .i64 g)
      have B2 := Lib.hid b2
      have K2 := Lib.hid k2
      clear b2 k2 kb bw J I2
      go_upto_region 16 with fail
      have b2 := B2.out
      have k2 := K2.out
      clear B2 K2 q0 f2 f3 z0
      generalize World.setCell _ _ _ = W5 at b2 k2 ⊢
      have k3 : Blk W5 w1.heap.size [.int .i64 c, .int .i64 (T : Int), .int .i64 g, .int .i64 g] := k2
      have I5 : Held W5 (fun W => Below w.heap.size w W ∧ Blk W w1.heap.size [.int .i64 c, .int .i64 (T : Int), .int .i64 g, .int .i64 g]) := (Held.from b2 b2.size).with (.blk k3)
      have q5 := k3.four
      clear b2 k2 k3
      go_wp2_with (first
        | (go_at_call 22; (with_reducible refine (Gives.c (Length_calls HLE.out _)).mono ?_); rintro e w5 ⟨rfl, hb⟩; replace I5 := I5.next hb; clear hb q5)
        | (go_at_call 29; (with_reducible refine (Gives.c (works_calls (World.alloc _ _))).mono ?_); rintro e w6 ⟨rfl, hb⟩; replace I5 := (I5.alloc _).next hb))
      go_ret
      exact ⟨rfl, I5.now.1⟩

theorem governed_law {a b p q : Int} (ha : 0 ≤ a ∧ a ≤ 255) (hb : 0 ≤ b ∧ b ≤ 255) (hp : 0 ≤ p ∧ p ≤ 255) (hq : 0 ≤ q ∧ q ≤ 255) {n m : Nat} (hn : n ≤ 255) (hm : m ≤ 65535) (w : World) :
    Gives 13 #[reel a b p q, .int .u8 (n : Int), .int .u16 (m : Int)] (.bool true) w := by
  obtain ⟨T, hT⟩ := Int.eq_ofNat_of_zero_le (show 0 ≤ 1 + b % 20 by omega)
  have hs := made_small (a := a) (b := b) (p := p) (q := q)
  have hmd := fun W => made_calls ha hb hp hq W
  rw [hT] at hs
  simp only [hT] at hmd
  exact governed_walk hs hn hm rfl rfl rfl rfl hmd w

theorem governed_own : ownKnob Try.prog.godebug = none := by kernel_rfl

set_option maxRecDepth 100000 in
theorem governed_lifted (os : Os) (started : os.Started) (H : Type) (enc : TypeId × Value → H) :
    ReturnsInHanded {} Try.checked os 13 .any (Rows.spoolGovernedSpec.pre6 enc Try.prog Try.f13 Rows.spoolGovernedRow.domain false) (Rows.spoolGovernedSpec.post enc Try.prog Try.f13 false true false false) := by
  refine returnsInHanded_of_change (C := Try.checked) governed_own started (by kernel_rfl) Try.func13
    (ChangeSpec.witness6 (enc := enc) (C := Try.checked) false ⟨#[], #[.agg #[.int .u8 0, .int .u8 0, .int .u8 0, .int .u8 0], .int .u8 0, .int .u16 0], []⟩ 8 (by kernel_rfl) (by kernel_rfl) (by kernel_rfl) (by kernel_rfl)) ?_
  intro W base args ds gs before hval0 hW hcnd _
  have hval : ∀ (j : Nat) t v, Try.f13.params[j]? = some t → args[j]? = some v → Value.okWide Try.prog W .any base t v := hval0
  have hW' := hW
  obtain ⟨p, q, hA, hV, rfl, hfz, hnd⟩ := hW
  rw [Try.params13] at hA hval
  obtain ⟨v1, l1, d1, ds1, p1, q1, e1, rfl, rfl, h1, hA⟩ := trodAll_cons hA
  obtain ⟨v2, l2, d2, ds2, p2, q2, rfl, rfl, rfl, h2, hA⟩ := trodAll_cons hA
  obtain ⟨v3, l3, d3, ds3, p3, q3, rfl, rfl, rfl, h3, hA⟩ := trodAll_cons hA
  obtain ⟨rfl, rfl, rfl⟩ := trodAll_nil hA
  obtain ⟨rfl, rfl⟩ := trodVars_none hV
  obtain rfl : args = #[v1, v2, v3] := by cases args; simp_all
  obtain ⟨b0, b1, b2, b3, rfl, hb0, hb1, hb2, hb3⟩ := reel_arg (hval 0 66 v1 rfl rfl) h1
  obtain ⟨n, rfl, hn⟩ := byte_arg (hval 1 5 v2 rfl rfl) h2
  obtain ⟨m, rfl, hm⟩ := word_arg (hval 2 71 v3 rfl rfl) h3
  refine (Gives.c (governed_law hb0 hb1 hb2 hb3 hn hm W)).mono fun e W' ⟨he, hb⟩ => ?_
  subst he
  exact ⟨_, rfl, post_true hW' rfl rfl rfl (by decide) hb⟩

theorem governed_over : Rows.spoolGovernedRow.holds Try.pinned (OpenSpec.ofChange Rows.spoolGovernedSpec) :=
  OpenClaim.holds_of_wide 13 Try.f13 rfl rfl rfl rfl rfl rfl rfl ⟨rfl, rfl, rfl, rfl, rfl⟩ rfl rfl rfl rfl rfl (by kernel_rfl) Try.func13 (by kernel_rfl)
    (of_decide_eq_true (by kernel_rfl)) (by unfold Func.isWrapper; first | (rw [if_pos (by decide +kernel)]; kernel_rfl) | (rw [if_neg (by decide +kernel)]; exact ⟨rfl, rfl⟩))
    (fun os started H enc _ => governed_lifted os started H enc)

/-- SpoolGoverned returns true. -/
theorem spoolGoverned_holds : Rows.SpoolGovernedSaid := governed_over
#print axioms spoolGoverned_holds
end Go.Proofs.Ytphbiaagmhhhbaa
