/- Which records are too long. -/
import Derived.Test.YtpnkbjdeiedhlaaQD
namespace Go.Proofs.Ytpnkbjdeiedhlaa
open Go.RowKit Go.Lib Go.Shelf
open St

/-- More tests, or longer strips, than are worth the time. -/
def longF (n : Nat) (l : List (Nat × Tst)) : Bool := decide (40 < n) || l.any fun x => decide (40 < x.1)
theorem longF_no {w : World} {A : Option Addr} {n : Nat} {l : List (Nat × Tst)} (h : ReadsR w A n l) (hf : longF n l = false) : n ≤ 40 ∧ ReadsT w A n (l.map (·.2)) := by
  unfold longF at hf
  rw [Bool.or_eq_false_iff, decide_eq_false_iff_not, List.any_eq_false] at hf
  refine ⟨by omega, h.tests (by omega) fun x hx => ?_⟩
  have := hf.2 x hx
  rw [decide_eq_true_eq] at this
  omega
theorem any_step {l : List (Nat × Tst)} {k : Nat} (h : k < l.length) (f : Nat × Tst → Bool) : (l.take (k + 1)).any f = ((l.take k).any f || f (l[k]?.getD (0, ⟨[], false⟩))) := by
  rw [List.take_succ_eq_append_getElem h, List.any_append, List.getElem?_eq_getElem h]
  simp
set_option maxRecDepth 100000 in
set_option maxHeartbeats 4000000 in
theorem long_calls (N L : Int) {A : Option Addr} {n c : Nat} {l : List (Nat × Tst)} (w : World) (hl : ReadsR w A n l) : Gives 14 #[rec N L A n c] (.bool (longF n l)) w := by
  unfold Gives
  have I := ((Held.from (w0 := w) (Below.refl w.heap.size w) (Nat.le_refl _)).with (.readsR hl)).allocB [Value.int .i64 N, .int .i64 L, .slice A n c] 24
  have hlen := hl.1
  have hmx := hl.2.1
  obtain ⟨d0, hd0⟩ : ∃ d0, decide (40 < n) = d0 := ⟨_, rfl⟩
  have e0 : decide ((40 : Int) < (n : Int)) = d0 := by rw [← hd0, decide_eq_decide]; omega
  have hF : longF n l = (d0 || l.any fun x => decide (40 < x.1)) := by rw [← hd0]; rfl
  have HF := Lib.hid hF
  clear hl hd0 hF
  go_enter Try.func14, Try.ntmps14
  go_wp2_with fail
  change Held (w.alloc (.cells #[.int .i64 N, .int .i64 L, .slice A n c] 24)) _ at I
  generalize World.alloc _ _ = w1 at I ⊢
  have q1 := I.now.2.three
  go_wp2_with fail
  go_loop [3, 4] (fun s3 s4 => ∃ k : Nat, k ≤ n ∧ s4 = .int .i64 k ∧ s3 = .bool (d0 || (l.take k).any fun x => decide (40 < x.1))) (fun _ s4 => n - (intOf s4).toNat)
  case atStart => exact ⟨0, Nat.zero_le _, rfl, by simp⟩
  case round =>
    obtain ⟨k, hk, rfl, rfl⟩ := hrel
    by_cases hlt : k < n
    · have hlt' : (k : Int) < (n : Int) := by omega
      have hw1 : IntKind.i64.wrap ((k : Int) + 1) = (k : Int) + 1 := by rw [i64_w]; exact w64_in (by omega) (by omega)
      obtain ⟨b, off, e, hc⟩ := I.now.1.2.2.2 (by omega)
      subst e
      obtain ⟨⟨B, c2, h1, h2, h3, h4⟩, _⟩ := hc k hlt
      have hst := any_step (l := l) (k := k) (by omega) (fun x => decide (40 < x.1))
      generalize (l[k]?.getD (0, ⟨[], false⟩)).1 = m at h1 h2 h3 h4 hst
      obtain ⟨d1, hd1⟩ : ∃ d1, decide (40 < m) = d1 := ⟨_, rfl⟩
      have e1 : decide ((40 : Int) < (m : Int)) = d1 := by rw [← hd1, decide_eq_decide]; omega
      rw [hd1] at hst
      generalize (l.take k).any (fun x => decide (40 < x.1)) = d2 at hst ⊢
      have HST := Lib.hid hst
      clear hst hd1 hc h2 h3
      cases hd : (d0 || d2) with
      | true =>
        have HD := Lib.hid hd
        clear hd
        go_wp2_with fail
        go_round
        case measure => simp [intOf]; omega
        case rel => exact ⟨k + 1, by omega, by go_num, by rw [HST.out, ← Bool.or_assoc, HD.out]; rfl⟩
      | false =>
        have HD := Lib.hid hd
        clear hd
        go_wp2_with fail
        go_round
        case measure => simp [intOf]; omega
        case rel => exact ⟨k + 1, by omega, by go_num, by rw [HST.out, ← Bool.or_assoc, HD.out]; rfl⟩
    · obtain rfl : n = k := by omega
      rw [← hlen, List.take_length, hlen, ← HF.out]
      have HA := Lib.hid I.now.1.1
      go_wp2_with fail
      go_ret
      exact ⟨rfl, HA.out⟩
end Go.Proofs.Ytpnkbjdeiedhlaa
