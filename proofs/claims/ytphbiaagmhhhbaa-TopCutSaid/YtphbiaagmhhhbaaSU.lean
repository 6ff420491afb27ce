/- The contract of Verify. -/
import Derived.Test.YtphbiaagmhhhbaaST
namespace Go.Proofs.Ytphbiaagmhhhbaa
open Go.RowKit Go.Lib Go.Shelf

def verGo (c lo hi off : Int) (l : List (Int × Int)) : List Int → Int → Int → Int → Int
  | [], _, x, y => if x ≤ y then 14 else 0
  | i :: r, last, x, y =>
    if 0 ≤ i ∧ i ≤ (l.length : Int) - 1 then
      (if i ≤ last then 7 else verGo c lo hi off l r i (max x (fitLo c lo hi off (mAt l i.toNat).1 (mAt l i.toNat).2)) (min y (fitHi c lo hi off (mAt l i.toNat).1 (mAt l i.toNat).2)))
    else 8

def verifyF (c t lo hi off : Int) (l : List (Int × Int)) (cl : List Int) : Int :=
  if measF c t lo hi off l = 0 then
    (if cl.length = 0 then 4 else if 2 < cl.length then 5 else verGo c lo hi off l cl (-1) lo hi)
  else measF c t lo hi off l

theorem Blk.below {w w1 : World} {B B0 : Nat} {cs : List Value} (h : Blk w B cs) (hb : Below B0 w w1) (hB : B < B0) : Blk w1 B cs :=
  ⟨Nat.lt_of_lt_of_le h.lt hb.size, fun j v hv => (hb.cell (p := ⟨B, j, none⟩) hB).trans (h.cell j v hv), fun j => (hb.frozen (p := ⟨B, j, none⟩) hB).trans (h.free j)⟩

theorem verify_err (c t lo hi off x : Int) (A A' : Option Addr) (n cap n' cap' : Nat) (l : List (Int × Int)) (w : World) (hl : ReadsM w A n l) (hx : measF c t lo hi off l = x) (h0 : x ≠ 0) :
    Gives 44 #[.agg #[.int .i64 c, .int .i64 t, .int .i64 lo, .int .i64 hi], .int .i64 off, .slice A n cap, .slice A' n' cap'] (.int .i64 x) w := by
  unfold Gives
  have HL := Lib.hid hl
  have HX := Lib.hid hx
  have z0 : (x == 0) = false := beq_eq_false_iff_ne.2 h0
  have z1 : (x != 0) = true := bne_iff_ne.2 h0
  clear hl hx h0
  go_enter Try.func44, Try.ntmps44
  go_wp2_with (go_at_call 70; refine (measured_calls c t lo hi off A n cap l _ (HL.out.later (by go_grown))).mono ?_; rintro e w1 ⟨rfl, hb⟩; rw [HX.out]; have Hb := Lib.hid hb; clear hb)
  go_ret
  exact ⟨rfl, ((Below.refl _ _).alloc (Nat.le_refl _) _).trans (Hb.out.mono (by simp))⟩

theorem verify_empty (c t lo hi off : Int) (A A' : Option Addr) (n cap cap' : Nat) (l : List (Int × Int)) (w : World) (hl : ReadsM w A n l) (hx : measF c t lo hi off l = 0) :
    Gives 44 #[.agg #[.int .i64 c, .int .i64 t, .int .i64 lo, .int .i64 hi], .int .i64 off, .slice A n cap, .slice A' 0 cap'] (.int .i64 4) w := by
  unfold Gives
  have HL := Lib.hid hl
  have HX := Lib.hid hx
  clear hl hx
  go_enter Try.func44, Try.ntmps44
  go_wp2_with (go_at_call 70; refine (measured_calls c t lo hi off A n cap l _ (HL.out.later (by go_grown))).mono ?_; rintro e w1 ⟨rfl, hb⟩; rw [HX.out]; have Hb := Lib.hid hb; clear hb)
  go_ret
  exact ⟨rfl, ((Below.refl _ _).alloc (Nat.le_refl _) _).trans (Hb.out.mono (by simp))⟩

theorem verify_many (c t lo hi off : Int) (A A' : Option Addr) (n cap n' cap' : Nat) (l : List (Int × Int)) (w : World) (hl : ReadsM w A n l) (hx : measF c t lo hi off l = 0) (hn' : 2 < n') (hn2 : n' ≤ 17592186044416) :
    Gives 44 #[.agg #[.int .i64 c, .int .i64 t, .int .i64 lo, .int .i64 hi], .int .i64 off, .slice A n cap, .slice A' n' cap'] (.int .i64 5) w := by
  unfold Gives
  have HL := Lib.hid hl
  have HX := Lib.hid hx
  have hz : ¬ n' = 0 := by omega
  clear hl hx
  go_enter Try.func44, Try.ntmps44
  go_wp2_with (go_at_call 70; refine (measured_calls c t lo hi off A n cap l _ (HL.out.later (by go_grown))).mono ?_; rintro e w1 ⟨rfl, hb⟩; rw [HX.out]; have Hb := Lib.hid hb; clear hb)
  go_ret
  exact ⟨rfl, ((Below.refl _ _).alloc (Nat.le_refl _) _).trans (Hb.out.mono (by simp))⟩

set_option maxHeartbeats 4000000 in
theorem verify_go (c t lo hi off R : Int) (A A' : Option Addr) (n cap n' cap' : Nat) (l : List (Int × Int)) (cl : List Int) (w : World) (hl : ReadsM w A n l) (hx : measF c t lo hi off l = 0) (hcl : Reads w A' n' cl) (hn0 : 0 < n') (hn' : n' ≤ 2) (hR : verGo c lo hi off l cl (-1) lo hi = R) :
    Gives 44 #[.agg #[.int .i64 c, .int .i64 t, .int .i64 lo, .int .i64 hi], .int .i64 off, .slice A n cap, .slice A' n' cap'] (.int .i64 R) w := by
  unfold Gives
  have hm := meas_ok hx
  have hn : n ≤ 50 := by have := hl.1; omega
  have hz : ¬ n' = 0 := by omega
  have hz1 : (((n' : Int)) == 0) = false := beq_eq_false_iff_ne.2 (by omega)
  have hw1 : IntKind.i64.wrap ((n : Int) - 1) = (n : Int) - 1 := by rw [i64_w]; exact w64_in (by omega) (by omega)
  have hc0 := hcl.2.2 hn0
  obtain ⟨bc, oc, rfl, -⟩ := hc0
  have HM := Lib.hid hm
  have HL := Lib.hid hl
  have HX := Lib.hid hx
  have HC := Lib.hid hcl
  have HR := Lib.hid hR
  clear hl hx hm hcl hR
  go_enter Try.func44, Try.ntmps44
  go_wp2_with (go_at_call 70; refine (measured_calls c t lo hi off A n cap l _ (HL.out.later (by go_grown))).mono ?_; rintro e w1 ⟨rfl, hb⟩; rw [HX.out]; have k0 : Blk w1 w.heap.size _ := (Blk.new w _ 28).later hb; have q0 := k0.four; have hb' := ((Below.refl w.heap.size w).alloc (Nat.le_refl _) _).trans (hb.mono (by simp)); have Hb := Lib.hid hb'; clear hb hb')
  have K0 : Blk (w1.alloc (.cells #[.int .i64 lo, .int .i64 hi] 26)) w.heap.size _ := k0.alloc _
  have K1 : Blk (w1.alloc (.cells #[.int .i64 lo, .int .i64 hi] 26)) w1.heap.size _ := Blk.new w1 _ 26
  have HB0 := Lib.hid (Hb.out.alloc Hb.out.size (.cells #[.int .i64 lo, .int .i64 hi] 26))
  have hsz := k0.lt
  clear k0 q0
  generalize World.alloc _ _ = W1 at K0 K1 HB0
  have G0 := Lib.hid K0
  have G1 := Lib.hid K1
  clear K0 K1 Hb
  go_loopw [10, 35] (fun a i wr => ∃ (k : Nat) (last x y : Int), k ≤ n' ∧ i = .int .i64 k ∧ a = .int .i64 last ∧ Aside (verGo c lo hi off l (cl.drop k) last x y = R) ∧ Aside (Blk wr w1.heap.size [.int .i64 x, .int .i64 y]) ∧ Aside (Below w1.heap.size W1 wr))
    (fun _ i _ => n' - (intOf i).toNat)
  case atStart => exact ⟨0, -1, lo, hi, Nat.zero_le _, rfl, rfl, HR.out, G1.out, Below.refl _ _⟩
  case round =>
    obtain ⟨k, last, x, y, hk, rfl, rfl, HV, HK1, HB⟩ := hrel
    have HB1 := Lib.hid (HB0.out.trans (HB.out.mono (by omega)))
    have HK0 := Lib.hid (Blk.below G0.out HB.out hsz)
    have q1 := HK1.out.two
    have f1 := HK1.out.free2
    by_cases hlt : k < n'
    · have hlt' : (k : Int) < (n' : Int) := by omega
      have hcz := (HC.out.later HB1.out)
      have hln := hcz.1
      obtain ⟨b', o', he, hcell⟩ := hcz.2.2 hn0
      cases he
      have hcv := hcell k hlt
      clear hcell hcz
      have hdr : cl.drop k = (cl[k]?.getD 0) :: cl.drop (k + 1) := by
        rw [List.drop_eq_getElem_cons (by omega), List.getElem?_eq_getElem (by omega)]
        rfl
      have hv := HV.out
      rw [hdr, verGo] at hv
      clear hdr hln
      have hw2 : IntKind.i64.wrap ((k : Int) + 1) = (k : Int) + 1 := by rw [i64_w]; exact w64_in (by omega) (by omega)
      generalize hvi : cl[k]?.getD 0 = i at hcv hv
      clear hvi HV
      have hll := HL.out.1
      rw [hll] at hv
      by_cases hb : 0 ≤ i ∧ i ≤ (n : Int) - 1
      · rw [if_pos hb] at hv
        have hbt := btw_yes hb
        by_cases hil : i ≤ last
        · rw [if_pos hil] at hv
          cases hv
          go_wp2_with (first | (go_at_call 58; refine (between_calls _ _ _ _).mono ?_; rintro e w2 ⟨rfl, rfl⟩))
          go_ret
          exact ⟨rfl, HB1.out⟩
        · rw [if_neg hil] at hv
          have hil' : last < i := by omega
          obtain ⟨j, rfl⟩ : ∃ j : Nat, i = (j : Int) := ⟨i.toNat, by omega⟩
          have hj : j < n := by omega
          have hmz := HL.out.later HB1.out
          obtain ⟨bm, om, he, hcell⟩ := hmz.2.2 (by omega)
          subst he
          have hmj := hcell j hj
          clear hcell hmz
          simp only [Int.toNat_natCast] at hv
          have hff := HM.out.2.2 j (by omega)
          unfold mAt at hff hv
          generalize l[j]?.getD (0, 0) = m at hmj hff hv
          obtain ⟨m0, m1⟩ := m
          have HV := Lib.hid hv
          have HF := Lib.hid hff
          clear hv hff
          have q0 := HK0.out.four
          go_wp2_with (first | (go_at_call 58; refine (between_calls _ _ _ _).mono ?_; rintro e w2 ⟨rfl, rfl⟩) )
          have zb := World.block_lt_of_cell? wr _ hmj.1
          have z0 := HK0.out.lt
          have z1 := HK1.out.lt
          dsimp only at zb
          go_region_with (go_at_call 75; refine (fits_calls HM.out.1 HF.out _).mono ?_; rintro e w2 ⟨rfl, hb2⟩; have b2 : Below wr.heap.size wr w2 := (by first | exact (Below.refl _ _).drew.trans hb2 | exact (((Below.refl _ _).alloc (Nat.le_refl _) _).drew).trans (hb2.mono (by simp))); (first | (have k5 : Blk w2 wr.heap.size [.int .i64 0, .int .i64 0] := Blk.later (Blk.drew (Blk.new wr [.int .i64 0, .int .i64 0] 26)) hb2; have q5 := k5.two; have f5 := k5.free2; have z5 := k5.lt) | skip); have k1 := HK1.out.later b2; have q1' := k1.two; have f1' := k1.free2; have B2 := Lib.hid b2; clear b2 hb2)
          all_goals
            clear q0 q1 f1 hmj hcv
            have z1' := k1.lt
            go_wp2
            go_roundw
            case measure => simp [intOf]; omega
            case rel =>
              first
                | exact ⟨k + 1, (j : Int), max x (fitLo c lo hi off m0 m1), min y (fitHi c lo hi off m0 m1), by omega, by go_num, rfl, HV.out, (k1.put2 _ _).alloc _, ((below2 ((HB.out).trans (B2.out.mono (by omega))) (Nat.le_refl _) _ _).alloc (by simp; have := B2.out.size; have := HB.out.size; omega) _)⟩
                | exact ⟨k + 1, (j : Int), max x (fitLo c lo hi off m0 m1), min y (fitHi c lo hi off m0 m1), by omega, by go_num, rfl, HV.out, (k1.other2 (by omega) _ _).put2 _ _, below2 (below2 ((HB.out).trans (B2.out.mono (by omega))) (by omega) _ _) (Nat.le_refl _) _ _⟩
                | exact ⟨k + 1, (j : Int), max x (fitLo c lo hi off m0 m1), min y (fitHi c lo hi off m0 m1), by omega, by go_num, rfl, HV.out, (k1.put2 _ _).other2 (by omega) _ _, below2 (below2 ((HB.out).trans (B2.out.mono (by omega))) (Nat.le_refl _) _ _) (by omega) _ _⟩
      · rw [if_neg hb] at hv
        have hbt := btw_no hb
        cases hv
        go_wp2_with (first | (go_at_call 58; refine (between_calls _ _ _ _).mono ?_; rintro e w2 ⟨rfl, rfl⟩))
        go_ret
        exact ⟨rfl, HB1.out⟩
    · obtain rfl : k = n' := by omega
      have hv := HV.out
      rw [List.drop_of_length_le (by have := HC.out.1; omega), verGo] at hv
      by_cases hxy : x ≤ y
      · rw [if_pos hxy] at hv
        cases hv
        go_wp2
        go_ret
        exact ⟨rfl, HB1.out⟩
      · rw [if_neg hxy] at hv
        cases hv
        go_wp2
        go_ret
        exact ⟨rfl, HB1.out⟩

theorem Verify_calls (c t lo hi off : Int) (A A' : Option Addr) (n cap n' cap' : Nat) (l : List (Int × Int)) (cl : List Int) (w : World) (hl : ReadsM w A n l) (hcl : Reads w A' n' cl) :
    Gives 44 #[.agg #[.int .i64 c, .int .i64 t, .int .i64 lo, .int .i64 hi], .int .i64 off, .slice A n cap, .slice A' n' cap'] (.int .i64 (verifyF c t lo hi off l cl)) w := by
  unfold verifyF
  have hn := hcl.1
  have hn2 := hcl.2.1
  by_cases h : measF c t lo hi off l = 0
  · rw [if_pos h]
    by_cases h0 : cl.length = 0
    · rw [if_pos h0]
      obtain rfl : n' = 0 := by omega
      exact verify_empty c t lo hi off A A' n cap cap' l w hl h
    · rw [if_neg h0]
      by_cases h2 : 2 < cl.length
      · rw [if_pos h2]
        exact verify_many c t lo hi off A A' n cap n' cap' l w hl h (by omega) hn2
      · rw [if_neg h2]
        exact verify_go c t lo hi off _ A A' n cap n' cap' l cl w hl h hcl (by omega) (by omega) rfl
  · rw [if_neg h]
    exact verify_err c t lo hi off _ A A' n cap n' cap' l w hl rfl h

end Go.Proofs.Ytphbiaagmhhhbaa
