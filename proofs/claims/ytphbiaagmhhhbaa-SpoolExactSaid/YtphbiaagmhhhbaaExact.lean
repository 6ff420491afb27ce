/- SpoolExact: lengths and places lie within what is returned, and both ends occur: the call returns true at every reel and time. -/
import Derived.Test.YtphbiaagmhhhbaaOB
import Derived.Deep.CutRange
namespace Go.Proofs.Ytphbiaagmhhhbaa
open Go.ChangeShapes Go.WideShapes Go.ChangeAt Go.RowKit Go.Lib Go.Shelf

/-- A value that is set in the first round. -/
def since (k : Nat) (v : Int) : Int := if k = 0 then 0 else v
theorem since_pos {k : Nat} {v : Int} (h : k ≠ 0) : since k v = v := if_neg h
theorem since_succ {k : Nat} {v : Int} : since (k + 1) v = v := if_neg (by omega)

theorem cell_of_reads {w : World} {A : Option Addr} {n : Nat} {l : List Int} (h : Reads w A n l) {j : Nat} (hj : j < n) : ∃ b off, A = some ⟨b, off, none⟩ ∧ ∀ v, l[j]?.getD 0 = v → w.cell? ⟨b, off + j, none⟩ = some (.int .i64 v) := by
  obtain ⟨b, off, e, hc⟩ := h.2.2 (by omega)
  exact ⟨b, off, e, fun v hv => by rw [← hv]; exact hc j hj⟩

set_option maxRecDepth 1000000 in
set_option maxHeartbeats 8000000 in
theorem exact_walk {r : Value} {c lo hi : Int} {T xn m q : Nat} (hsm : Small c T lo hi) (hx : xn ≤ 255) (hm : xn % 12 = m) (hq : m * T = q) {p0 p1 p2 p3 : Int} (hr : r = reel p0 p1 p2 p3)
    (hmade : ∀ W, Gives 45 #[r] (spl c T lo hi) W)
    (w : World) : Gives 9 #[r, .int .u8 (xn : Int)] (.bool true) w := by
  unfold Gives
  subst hr
  have hgt := guard26
  have hst := stood26
  have I : Held w (fun W => Below w.heap.size w W) := .from (Below.refl _ _) (Nat.le_refl _)
  have hs := hsm.sound
  have hsm' := hsm
  obtain ⟨s1, s2, s3, s4, s5, s6, s7, s8⟩ := hsm'
  have hm11 : m ≤ 11 := by omega
  have hq1 : q ≤ 220 := by
    have : m * T ≤ 11 * 20 := Nat.mul_le_mul hm11 (by omega)
    omega
  have hmod : ((xn : Int)).tmod 12 = (m : Int) := by rw [Int.tmod_eq_emod_of_nonneg (by omega)]; omega
  have hwx : IntKind.i64.wrap (xn : Int) = (xn : Int) := i64_in (by omega) (by omega)
  have hwq : IntKind.i64.wrap ((m : Int) * (T : Int)) = (q : Int) := by
    have e : (m : Int) * (T : Int) = (q : Int) := by rw [← hq]; push_cast; rfl
    rw [e]
    exact i64_in (by omega) (by omega)
  have hpl : placeF c T lo hi xn = (plc c T lo xn, plc c T hi xn, 0) := by
    have h1 := plc_mono (c := c) (t := (T : Int)) (x := (xn : Int)) s1 (by omega) s7
    unfold placeF
    rw [if_pos ⟨hs, by omega, by omega⟩, Int.min_eq_left h1, Int.max_eq_right h1]
  have hle : lengthF c T lo hi m = (len c lo m, len c hi m, 0) := by
    have h1 := len_mono (c := c) (n := (m : Int)) (by omega) s7
    unfold lengthF
    rw [if_pos ⟨hs, by omega, by omega⟩, Int.min_eq_left h1, Int.max_eq_right h1]
  have hpx : ∀ g : Int, (papL c T g 256)[xn]?.getD 0 = plc c T g xn := fun g => papL_at c T g (by omega)
  have hlx : ∀ g : Int, plc c T g (q : Int) = len c g m := fun g => by
    rw [← plc_turn (c := c) (g := g) (q := (m : Int)) (t := (T : Int)) s1, ← hq]
    push_cast
    rfl
  have hpm : ∀ g k : Int, g ≤ k → plc c T g xn ≤ plc c T k xn := fun g k h => plc_mono s1 (by omega) h
  have hlm : ∀ g k : Int, g ≤ k → len c g m ≤ len c k m := fun g k h => len_mono (by omega) h
  have HM := Lib.hid hmade
  have HPL := Lib.hid hpl
  have HLE := Lib.hid hle
  have HLX := Lib.hid hlx
  have HPM := Lib.hid hpm
  have HLM := Lib.hid hlm
  clear hmade hpl hle hpx hlx hpm hlm hq hm hs hsm
  go_enter Try.func9, Try.ntmps9
  go_wp2_with (first
    | (go_at_call 45; (with_reducible refine (Gives.c (HM.out (World.alloc _ _))).mono ?_); rintro e w1 ⟨rfl, hb⟩; replace I := (I.alloc _).next hb; clear hb)
    | (go_at_call 25; (with_reducible refine (Gives.c (Place_calls HPL.out (World.alloc _ _))).mono ?_); rintro e w2 ⟨rfl, hb⟩; replace I := (I.allocB _ _).next hb; have q1 := I.now.2.four; have z1 := I.now.2.lt; clear hb)
    | (go_at_call 22; (with_reducible refine (Gives.c (Length_calls HLE.out (World.alloc _ _))).mono ?_); rintro e w3 ⟨rfl, hb⟩; replace I := (I.allocB _ _).next hb; clear q1 z1; have q1 := I.now.1.2.four; have z1 := I.now.1.2.lt; clear hb))
  have I2 := I.allocB [.int .i64 (len c lo m), .int .i64 (len c hi m)] 26
  clear I q1 z1
  generalize World.alloc _ _ = W0 at I2 ⊢
  have q0 := I2.now.1.1.2.four
  go_wp2_with fail
  go_loopw [11, 12, 13, 14, 15] (fun v1 v2 v3 v4 g wr => ∃ k : Nat, lo + k ≤ hi + 1 ∧ g = .int .i64 (lo + k) ∧ v1 = .int .i64 (since k (plc c T lo xn)) ∧ v2 = .int .i64 (since k (plc c T (lo + k - 1) xn)) ∧ v3 = .int .i64 (since k (len c lo m)) ∧ v4 = .int .i64 (since k (len c (lo + k - 1) m)) ∧ Aside (Below W0.heap.size W0 wr))
    (fun _ _ _ _ g _ => (hi + 1 - intOf g).toNat)
  case atStart => exact ⟨0, by omega, by simp, rfl, rfl, rfl, rfl, Below.refl _ _⟩
  case round =>
    clear q0
    obtain ⟨k, hk, rfl, rfl, rfl, rfl, rfl, HB⟩ := hrel
    have J := I2.next HB.out
    have q0 := J.now.1.1.2.four
    by_cases hlt : lo + (k : Int) ≤ hi
    · have hw1 : IntKind.i64.wrap (lo + (k : Int) + 1) = lo + (k : Int) + 1 := i64_in (by omega) (by omega)
      have hp1 := HPM.out lo (lo + k) (by omega)
      have hp2 := HPM.out (lo + k - 1) (lo + k) (by omega)
      have hl1 := HLM.out lo (lo + k) (by omega)
      have hl2 := HLM.out (lo + k - 1) (lo + k) (by omega)
      have hlx := HLX.out (lo + k)
      have hpap := fun W => paper_calls (c := c) (t := (T : Int)) (lo := lo) (hi := hi) (g := lo + k) (N := 256) s1 s2 s3 s4 (by omega) (by omega) (by decide) (by decide) W
      have hat : ∀ n : Nat, (256 : Int) ≤ n → (papL c T (lo + k) n)[xn]?.getD 0 = plc c T (lo + k) xn := fun n hn => papL_at c T _ (by omega)
      have hat2 : ∀ n : Nat, (256 : Int) ≤ n → (papL c T (lo + k) n)[q]?.getD 0 = len c (lo + k) m := fun n hn => by rw [papL_at c T _ (by omega)]; exact hlx
      have HPAP := Lib.hid hpap
      have e1 : plc c T (lo + ((k + 1 : Nat) : Int) - 1) xn = plc c T (lo + k) xn := by congr 1; omega
      have e2 : len c (lo + ((k + 1 : Nat) : Int) - 1) m = len c (lo + k) m := by congr 1; omega
      have f0 : k = 0 → plc c T lo xn = plc c T (lo + k) xn ∧ len c lo m = len c (lo + k) m := fun h => by subst h; simp
      generalize plc c T (lo + k) xn = X at hp1 hp2 hat e1 f0
      generalize len c (lo + k) m = Y at hl1 hl2 hat2 e2 hlx f0
      have HAT := Lib.hid hat
      have HAT2 := Lib.hid hat2
      have E1 := Lib.hid e1
      have E2 := Lib.hid e2
      have F0 := Lib.hid f0
      clear hpap hat hat2 hlx e1 e2 f0
      go_wp2_with (first
        | (go_at_call 46; (with_reducible refine (HPAP.out _).mono ?_); intro e w4 hh; obtain ⟨⟨A, n, cap, rfl, hr, hn1, hn2⟩, hb⟩ := hh; have hxn' : xn < n := (by omega); obtain ⟨b, off, rfl, hc⟩ := cell_of_reads hr (j := xn) hxn'; have hx1 := hc _ (HAT.out n hn1); have hxn : (xn : Int) < (n : Int) := (by omega); have hb4 : Below wr.heap.size wr w4 := hb; replace J := J.next hb; clear q0; have q0 := J.now.1.1.2.four; clear hb hr hc))
      clear hx1
      go_region_with (first
        | (go_at_call 46; (with_reducible refine (HPAP.out _).mono ?_); intro e w5 hh; obtain ⟨⟨A2, n2, cap2, rfl, hr2, hn3, hn4⟩, hb0⟩ := hh; have hqn' : q < n2 := (by omega); obtain ⟨b2, off2, rfl, hc2⟩ := cell_of_reads hr2 (j := q) hqn'; have hx2 := hc2 _ (HAT2.out n2 hn3); have hqn : (q : Int) < (n2 : Int) := (by omega); have hb2 : Below w4.heap.size w4 w5 := (Below.refl w4.heap.size w4).drew.trans hb0; have q5 := (J.next hb2).now.1.1.2.four; clear hc2 hr2)
        | fail)
      all_goals (
        have HB5 := Lib.hid (HB.out.trans ((Below.trans hb4 (hb2.mono hb4.size)).mono HB.out.size))
        clear hb2 hb0 hx2 q0 hb4
        by_cases hk0 : k = 0
        · have hkl : ((lo + (k : Int)) == lo) = true := by rw [hk0]; simp
          have hf := Lib.hid (F0.out hk0)
          clear hk0
          go_wp2
          go_roundw
          case measure => simp [intOf]; omega
          case rel =>
            refine ⟨k + 1, by omega, by go_num, ?_, ?_, ?_, ?_, ?_⟩
            · rw [since_succ, hf.out.1]
            · rw [since_succ, E1.out]
            · rw [since_succ, hf.out.2]
            · rw [since_succ, E2.out]
            · show Aside _
              repeat (first | exact HB5.out | refine below_drewN' ?_ _ | refine Below.drew ?_)
        · have hkl : ((lo + (k : Int)) == lo) = false := beq_eq_false_iff_ne.2 (by omega)
          rw [since_pos hk0, since_pos hk0, since_pos hk0, since_pos hk0]
          go_wp2
          go_roundw
          case measure => simp [intOf]; omega
          case rel =>
            refine ⟨k + 1, by omega, by go_num, ?_, ?_, ?_, ?_, ?_⟩
            · rw [since_succ, Int.min_eq_left hp1]
            · rw [since_succ, E1.out, Int.max_eq_right hp2]
            · rw [since_succ, Int.min_eq_left hl1]
            · rw [since_succ, E2.out, Int.max_eq_right hl2]
            · show Aside _
              repeat (first | exact HB5.out | refine below_drewN' ?_ _ | refine Below.drew ?_))
    · have hkh : lo + (k : Int) - 1 = hi := by omega
      have hk0 : k ≠ 0 := by omega
      rw [since_pos hk0, since_pos hk0, since_pos hk0, since_pos hk0, hkh]
      have q2 := J.now.1.2.two
      have q3 := J.now.2.two
      clear HPM HLM HLX hkh
      go_wp2_with (go_at_call 29; (with_reducible refine (Gives.c (works_calls _)).mono ?_); rintro e w' ⟨rfl, hb⟩; replace J := J.next hb)
      go_ret
      exact ⟨rfl, J.now.1.1.1⟩

theorem exact_law {a b p q : Int} (ha : 0 ≤ a ∧ a ≤ 255) (hb : 0 ≤ b ∧ b ≤ 255) (hp : 0 ≤ p ∧ p ≤ 255) (hq : 0 ≤ q ∧ q ≤ 255) {n : Nat} (hn : n ≤ 255) (w : World) :
    Gives 9 #[reel a b p q, .int .u8 (n : Int)] (.bool true) w := by
  obtain ⟨T, hT⟩ := Int.eq_ofNat_of_zero_le (show 0 ≤ 1 + b % 20 by omega)
  have hs := made_small (a := a) (b := b) (p := p) (q := q)
  have hm := fun W => made_calls ha hb hp hq W
  rw [hT] at hs
  simp only [hT] at hm
  exact exact_walk hs hn rfl rfl rfl hm w

theorem exact_own : ownKnob Try.prog.godebug = none := by kernel_rfl

set_option maxRecDepth 100000 in
theorem exact_lifted (os : Os) (started : os.Started) (H : Type) (enc : TypeId × Value → H) :
    ReturnsInHanded {} Try.checked os 9 .any (Rows.spoolExactSpec.pre6 enc Try.prog Try.f9 Rows.spoolExactRow.domain false) (Rows.spoolExactSpec.post enc Try.prog Try.f9 false true false false) := by
  refine returnsInHanded_of_change (C := Try.checked) exact_own started (by kernel_rfl) Try.func9
    (ChangeSpec.witness6 (enc := enc) (C := Try.checked) false ⟨#[], #[.agg #[.int .u8 0, .int .u8 0, .int .u8 0, .int .u8 0], .int .u8 0], []⟩ 8 (by kernel_rfl) (by kernel_rfl) (by kernel_rfl) (by kernel_rfl)) ?_
  intro W base args ds gs before hval0 hW hcnd _
  have hval : ∀ (j : Nat) t v, Try.f9.params[j]? = some t → args[j]? = some v → Value.okWide Try.prog W .any base t v := hval0
  have hW' := hW
  obtain ⟨p, q, hA, hV, rfl, hfz, hnd⟩ := hW
  rw [Try.params9] at hA hval
  obtain ⟨v1, l1, d1, ds1, p1, q1, e1, rfl, rfl, h1, hA⟩ := trodAll_cons hA
  obtain ⟨v2, l2, d2, ds2, p2, q2, rfl, rfl, rfl, h2, hA⟩ := trodAll_cons hA
  obtain ⟨rfl, rfl, rfl⟩ := trodAll_nil hA
  obtain ⟨rfl, rfl⟩ := trodVars_none hV
  obtain rfl : args = #[v1, v2] := by cases args; simp_all
  obtain ⟨b0, b1, b2, b3, rfl, hb0, hb1, hb2, hb3⟩ := reel_arg (hval 0 66 v1 rfl rfl) h1
  obtain ⟨n, rfl, hn⟩ := byte_arg (hval 1 5 v2 rfl rfl) h2
  refine (Gives.c (exact_law hb0 hb1 hb2 hb3 hn W)).mono fun e W' ⟨he, hb⟩ => ?_
  subst he
  exact ⟨_, rfl, post_true hW' rfl rfl rfl (by decide) hb⟩

theorem exact_over : Rows.spoolExactRow.holds Try.pinned (OpenSpec.ofChange Rows.spoolExactSpec) :=
  OpenClaim.holds_of_wide 9 Try.f9 rfl rfl rfl rfl rfl rfl rfl ⟨rfl, rfl, rfl, rfl, rfl⟩ rfl rfl rfl rfl rfl (by kernel_rfl) Try.func9 (by kernel_rfl)
    (of_decide_eq_true (by kernel_rfl)) (by unfold Func.isWrapper; first | (rw [if_pos (by decide +kernel)]; kernel_rfl) | (rw [if_neg (by decide +kernel)]; exact ⟨rfl, rfl⟩))
    (fun os started H enc _ => exact_lifted os started H enc)

/-- SpoolExact returns true. -/
theorem spoolExact_holds : Rows.SpoolExactSaid := exact_over
#print axioms spoolExact_holds
end Go.Proofs.Ytphbiaagmhhhbaa
