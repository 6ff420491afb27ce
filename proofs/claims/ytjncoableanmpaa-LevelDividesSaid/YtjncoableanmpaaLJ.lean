/- The contract of Check. -/
import Derived.Test.YtjncoableanmpaaLD
import Derived.Test.YtjncoableanmpaaPB
namespace Go.Proofs.Ytjncoableanmpaa
open Go.RowKit Go.Lib Go.Shelf

set_option maxRecDepth 100000 in
set_option maxHeartbeats 4000000 in
theorem check_calls (A : Option Addr) (n c : Nat) (l : List Cd) (w : World) (hl : ReadsC w A n l) : Gives 15 #[.slice A n c] (.int .i64 (chk l)) w := by
  unfold Gives chk
  rw [hl.1]
  by_cases h0 : n = 0
  · rw [if_pos h0]
    have h0' : ((n : Int) == 0) = true := beq_iff_eq.2 (by omega)
    clear h0
    go_enter Try.func15, Try.ntmps15
    go_wp2
    go_ret
    exact ⟨rfl, by go_grown⟩
  · rw [if_neg h0]
    have e0 : ((n : Int) == 0) = false := beq_eq_false_iff_ne.2 (by omega)
    have e0' : ¬ (n : Int) = 0 := by omega
    by_cases h1 : 24 < n
    · rw [if_pos h1]
      have h1' : (24 : Int) < (n : Int) := by omega
      go_enter Try.func15, Try.ntmps15
      go_wp2
      go_ret
      exact ⟨rfl, by go_grown⟩
    · rw [if_neg h1]
      have h1' : ¬ (24 : Int) < (n : Int) := by omega
      obtain ⟨b, off, rfl, _⟩ := hl.2.2 (by omega)
      have hlen := hl.1
      have HL := Lib.hid (Held.readsC hl)
      have hB : ∀ lo n hi W, Quiet 42 #[.int .i64 lo, .int .i64 n, .int .i64 hi] (.bool (btw lo n hi)) W := between_calls
      have HBT := Lib.hid hB
      clear hB hl
      obtain ⟨T, hT0⟩ : ∃ T, chkL (-10001) l = T := ⟨_, rfl⟩
      rw [hT0]
      have HT := Lib.hid hT0
      clear hT0
      go_enter Try.func15, Try.ntmps15
      go_wp2_with fail
      go_loopw [3, 16] (fun v i wr => ∃ (k : Nat) (last : Int), k ≤ n ∧ i = .int .i64 k ∧ v = .int .i64 last ∧ Aside (chkL last (l.drop k) = T) ∧ Aside (Below w.heap.size w wr)) (fun _ i _ => n - (intOf i).toNat)
      case atStart => exact ⟨0, -10001, Nat.zero_le _, rfl, rfl, by rw [List.drop_zero]; exact HT.out, Below.refl _ _⟩
      case round =>
        obtain ⟨k, last, hk, rfl, rfl, HC, HB⟩ := hrel
        by_cases hlt : k < n
        · have hlt' : (k : Int) < (n : Int) := by omega
          have hw1 : IntKind.i64.wrap ((k : Int) + 1) = (k : Int) + 1 := i64_in (by omega) (by omega)
          have hx := (HL.out _ HB.out).at hlt
          have hT := HC.out
          rw [chkL_at (by omega)] at hT
          clear HC HT
          generalize hcc : cAt l k = cc at hx hT
          obtain ⟨s, lo, hi⟩ := cc
          dsimp only at hx hT
          unfold fineC at hT
          dsimp only at hT
          clear hcc
          by_cases c1 : -10000 ≤ s ∧ s ≤ 10000
          · have d1 := btw_yes c1
            by_cases c2 : 0 ≤ lo ∧ lo ≤ hi
            · have d2 := btw_yes c2
              by_cases c3 : hi ≤ 10000
              · have d3 : ¬ 10000 < hi := by omega
                rw [if_neg (fun h => h ⟨⟨c1, c2⟩, c3⟩)] at hT
                by_cases c4 : s ≤ last
                · rw [if_pos c4] at hT
                  subst hT
                  clear c1 c2 c3
                  go_wp2_with (go_at_call 42; (with_reducible refine (Quiet.c (HBT.out _ _ _ _)).mono ?_); rintro e w1 ⟨rfl, rfl⟩)
                  go_ret
                  exact ⟨rfl, HB.out.alloc (HB.out.size) _⟩
                · rw [if_neg c4] at hT
                  have HT := Lib.hid hT
                  clear hT c1 c2 c3
                  go_wp2_with (go_at_call 42; (with_reducible refine (Quiet.c (HBT.out _ _ _ _)).mono ?_); rintro e w1 ⟨rfl, rfl⟩)
                  go_roundw
                  case rel => exact ⟨k + 1, s, hlt, by go_num, rfl, HT.out, HB.out.alloc HB.out.size _⟩
                  case measure => simp [intOf]; omega
              · have d3 : 10000 < hi := by omega
                rw [if_pos (fun h => c3 h.2)] at hT
                subst hT
                clear c1 c2 c3
                go_wp2_with (go_at_call 42; (with_reducible refine (Quiet.c (HBT.out _ _ _ _)).mono ?_); rintro e w1 ⟨rfl, rfl⟩)
                go_ret
                exact ⟨rfl, HB.out.alloc (HB.out.size) _⟩
            · have d2 := btw_no c2
              rw [if_pos (fun h => c2 h.1.2)] at hT
              subst hT
              clear c1 c2
              go_wp2_with (go_at_call 42; (with_reducible refine (Quiet.c (HBT.out _ _ _ _)).mono ?_); rintro e w1 ⟨rfl, rfl⟩)
              go_ret
              exact ⟨rfl, HB.out.alloc (HB.out.size) _⟩
          · have d1 := btw_no c1
            rw [if_pos (fun h => c1 h.1.1)] at hT
            subst hT
            clear c1
            go_wp2_with (go_at_call 42; (with_reducible refine (Quiet.c (HBT.out _ _ _ _)).mono ?_); rintro e w1 ⟨rfl, rfl⟩)
            go_ret
            exact ⟨rfl, HB.out.alloc (HB.out.size) _⟩
        · obtain rfl : k = n := by omega
          have hT := HC.out
          rw [List.drop_eq_nil_of_le (by omega)] at hT
          have hT : (0 : Int) = T := hT
          subst hT
          go_wp2
          go_ret
          exact ⟨rfl, HB.out⟩
end Go.Proofs.Ytjncoableanmpaa
