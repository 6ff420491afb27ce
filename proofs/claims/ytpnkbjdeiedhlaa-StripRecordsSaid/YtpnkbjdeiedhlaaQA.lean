/- The reference: is, strips, has, mistakes, Check. -/
import Derived.Test.YtpnkbjdeiedhlaaNC
namespace Go.Proofs.Ytpnkbjdeiedhlaa
open Go.RowKit Go.Lib Go.Shelf
open St

theorem is_calls (n lo hi : Int) (w : World) : Quiet 55 #[.int .i64 n, .int .i64 lo, .int .i64 hi] (.bool (btw lo n hi)) w := by
  unfold Quiet
  by_cases h1 : lo ≤ n
  · by_cases h2 : n ≤ hi
    · rw [btw_yes ⟨h1, h2⟩]
      go_enter Try.func55, Try.ntmps55
      go_wp2
      go_ret
      simp
    · rw [btw_no (by omega)]
      go_enter Try.func55, Try.ntmps55
      go_wp2
      go_ret
      simp
  · rw [btw_no (by omega)]
    go_enter Try.func55, Try.ntmps55
    go_wp2
    go_ret
    exact ⟨rfl, rfl⟩
set_option maxRecDepth 100000 in
theorem rhas_calls (A : Option Addr) (n c : Nat) (l : List Int) (t : Int) (w : World) (hl : Reads w A n l) :
    Quiet 77 #[.slice A n c, .int .i64 t] (.bool (decide (t ∈ l))) w := by
  unfold Quiet
  have hm := hl.2.1
  have hlen := hl.1
  have HL := Lib.hid hl
  clear hl
  generalize hd : decide (t ∈ l) = d
  have HD := Lib.hid hd
  clear hd
  go_enter Try.func77, Try.ntmps77
  go_wp2_with fail
  go_loop [5] (fun i => ∃ k : Nat, k ≤ n ∧ i = .int .i64 k ∧ Aside (∀ j, j < k → ¬ l[j]?.getD 0 = t)) (fun i => n - (intOf i).toNat)
  case atStart => exact ⟨0, Nat.zero_le _, rfl, fun j hj => absurd hj (Nat.not_lt_zero _)⟩
  case round =>
    obtain ⟨k, hk, rfl, HE⟩ := hrel
    by_cases hlt : k < n
    · have hlt' : (k : Int) < (n : Int) := by omega
      have hw1 : IntKind.i64.wrap ((k : Int) + 1) = (k : Int) + 1 := by rw [i64_w]; exact w64_in (by omega) (by omega)
      obtain ⟨b, off, e, hc⟩ := HL.out.2.2 (by omega)
      subst e
      have hc0 := hc k hlt
      have hmem : l[k]?.getD 0 ∈ l := by rw [List.getElem?_eq_getElem (by omega)]; exact List.getElem_mem _
      have hN : ¬ l[k]?.getD 0 = t → ∀ j, j < k + 1 → ¬ l[j]?.getD 0 = t := fun h j hj => by
        by_cases e : j = k
        · rw [e]; exact h
        · exact HE.out j (by omega)
      clear hc
      generalize l[k]?.getD 0 = x at hc0 hmem hN
      have HN := Lib.hid hN
      clear hN hlen
      by_cases hq : x = t
      · have hq1 : (x == t) = true := beq_iff_eq.2 hq
        have hdt : d = true := by rw [← HD.out, decide_eq_true_eq, ← hq]; exact hmem
        subst hdt
        clear hq hmem
        go_wp2_with fail
        go_ret
        exact ⟨rfl, rfl⟩
      · have hq1 : (x == t) = false := beq_eq_false_iff_ne.2 hq
        have HQ := Lib.hid (HN.out hq)
        clear hq hmem
        go_wp2_with fail
        go_round
        case measure => simp [intOf]; omega
        case rel => exact ⟨k + 1, by omega, by go_num, HQ.out⟩
    · obtain rfl : n = k := by omega
      have hdf : d = false := by
        rw [← HD.out, decide_eq_false_iff_not]
        intro hmem
        obtain ⟨j, hj, e⟩ := List.getElem_of_mem hmem
        refine HE.out j (by omega) ?_
        rw [List.getElem?_eq_getElem hj]
        exact e
      subst hdf
      go_wp2
      go_ret
      exact ⟨rfl, rfl⟩
/-- The tube before number k of a strip. -/
def lastK (l : List Int) (k : Nat) : Int := if k = 0 then -1 else l[k - 1]?.getD 0
set_option maxRecDepth 100000 in
set_option maxHeartbeats 2000000 in
theorem rstrips_calls {N : Int} (hN : 1 ≤ N ∧ N ≤ 16) (A : Option Addr) (n c : Nat) (l : List Int) (w : World) (hl : Reads w A n l) :
    Gives 56 #[.int .i64 N, .slice A n c] (.int .i64 (schk N (-1) l)) w := by
  unfold Gives
  have hm := hl.2.1
  have hlen := hl.1
  have HL := Lib.hid hl
  have wn : IntKind.i64.wrap (N - 1) = N - 1 := i64_in (by omega) (by omega)
  obtain ⟨E, hE⟩ : ∃ E, schk N (-1) l = E := ⟨_, rfl⟩
  rw [hE]
  have HE := Lib.hid hE
  have hB : ∀ n lo hi W, Quiet 55 #[.int .i64 n, .int .i64 lo, .int .i64 hi] (.bool (btw lo n hi)) W := is_calls
  have HBT := Lib.hid hB
  clear hE hl hB
  go_enter Try.func56, Try.ntmps56
  go_wp2_with fail
  go_loopw [5] (fun i wr => ∃ (k : Nat), k ≤ n ∧ i = .int .i64 k ∧ Aside (schk N (lastK l k) (l.drop k) = E) ∧ Aside (Below w.heap.size w wr)) (fun i _ => n - (intOf i).toNat)
  case atStart => exact ⟨0, Nat.zero_le _, rfl, by rw [List.drop_zero]; exact HE.out, Below.refl _ _⟩
  case round =>
    obtain ⟨k, hk, rfl, HT, HB⟩ := hrel
    clear HE
    by_cases hlt : k < n
    · have hlt' : (k : Int) < (n : Int) := by omega
      have hw1 : IntKind.i64.wrap ((k : Int) + 1) = (k : Int) + 1 := by rw [i64_w]; exact w64_in (by omega) (by omega)
      have hT := HT.out
      rw [schk_at (by omega)] at hT
      clear HT
      obtain ⟨b, off, e, hc⟩ := (HL.out.later HB.out).2.2 (by omega)
      subst e
      have hc0 := hc k hlt
      have hls : lastK l (k + 1) = l[k]?.getD 0 := by unfold lastK; rw [if_neg (by omega), Nat.add_sub_cancel]
      rw [← hls] at hT hc0
      generalize hx : lastK l (k + 1) = x at hc0 hT
      have HX := Lib.hid hx
      clear hx hls
      by_cases hx : 0 ≤ x ∧ x ≤ N - 1
      · rw [if_neg (fun h => h hx)] at hT
        have d1 := btw_yes hx
        rcases Nat.eq_zero_or_pos k with h0 | h0
        · have hl0 : lastK l k = -1 := by rw [h0]; rfl
          rw [hl0, if_neg (by omega)] at hT
          have HT := Lib.hid hT
          have g0 : decide ((0 : Int) < (k : Int)) = false := decide_eq_false (by omega)
          have g0b : decide (0 < k) = false := decide_eq_false (by omega)
          clear hT hl0 hc h0
          go_upto_region 6 with (go_at_call 55; (with_reducible refine (Quiet.c (HBT.out _ _ _ _)).mono ?_); rintro e wq ⟨rfl, rfl⟩)
          go_quiet (fail)
          have HB2 := Lib.hid (below_drewN' HB.out nq)
          go_wp2_with fail
          go_roundw
          case measure => simp [intOf]; omega
          case rel => exact ⟨k + 1, by omega, by go_num, by rw [HX.out]; exact HT.out, HB2.out⟩
        · have hc1 := hc (k - 1) (by omega)
          have hl0 : lastK l k = l[k - 1]?.getD 0 := by unfold lastK; rw [if_neg (by omega)]
          rw [hl0] at hT
          generalize l[k - 1]?.getD 0 = y at hc1 hT
          have g0 : decide ((0 : Int) < (k : Int)) = true := decide_eq_true (by omega)
          have g0b : decide (0 < k) = true := decide_eq_true (by omega)
          have g1 : IntKind.i64.wrap ((k : Int) - 1) = (k : Int) - 1 := i64_in (by omega) (by omega)
          have g2 : (0 : Int) ≤ (k : Int) - 1 := by omega
          have g3 : (1 : Int) ≤ (k : Int) := by omega
          have g4 : (k : Int) - 1 < (n : Int) := by omega
          have g5 : ((k : Int) - 1).toNat = k - 1 := by omega
          have hz := World.block_lt_of_cell? _ _ hc0
          by_cases hy : x ≤ y
          · rw [if_pos hy] at hT
            subst hT
            have g6 : decide (x ≤ y) = true := decide_eq_true hy
            clear hl0 hc h0
            go_upto_region 6 with (go_at_call 55; (with_reducible refine (Quiet.c (HBT.out _ _ _ _)).mono ?_); rintro e wq ⟨rfl, rfl⟩)
            go_quiet (fail)
            have HB2 := Lib.hid (below_drewN' HB.out nq)
            go_wp2_with fail
            go_ret
            exact ⟨rfl, HB2.out⟩
          · rw [if_neg hy] at hT
            have HT := Lib.hid hT
            have g6 : decide (x ≤ y) = false := decide_eq_false hy
            clear hl0 hc h0 hT
            go_upto_region 6 with (go_at_call 55; (with_reducible refine (Quiet.c (HBT.out _ _ _ _)).mono ?_); rintro e wq ⟨rfl, rfl⟩)
            go_quiet (fail)
            have HB2 := Lib.hid (below_drewN' HB.out nq)
            go_wp2_with fail
            go_roundw
            case measure => simp [intOf]; omega
            case rel => exact ⟨k + 1, by omega, by go_num, by rw [HX.out]; exact HT.out, HB2.out⟩
      · rw [if_pos hx] at hT
        subst hT
        have d1 := btw_no hx
        clear hc
        go_wp2_with (go_at_call 55; (with_reducible refine (Quiet.c (HBT.out _ _ _ _)).mono ?_); rintro e wq ⟨rfl, rfl⟩)
        go_ret
        exact ⟨rfl, HB.out⟩
    · obtain rfl : n = k := by omega
      have hT := HT.out
      rw [List.drop_of_length_le (by omega)] at hT
      subst hT
      go_wp2_with fail
      go_ret
      exact ⟨rfl, HB.out⟩
end Go.Proofs.Ytpnkbjdeiedhlaa
