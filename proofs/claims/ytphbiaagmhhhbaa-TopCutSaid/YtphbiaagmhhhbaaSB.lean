/- The contracts of the spool's small functions. -/
import Derived.Test.YtphbiaagmhhhbaaSA
import Derived.Test.YtphbiaagmhhhbaaMA
import Derived.Deep.RegionHeld3
import Derived.BigQuiet
import Derived.Deep.QuietTactic
namespace Go.Proofs.Ytphbiaagmhhhbaa
open Go.RowKit Go.Lib Go.Shelf

/-- A call that hands back v; what was there lies as it lay. -/
def Gives (f : Nat) (args : Array Value) (v : Value) (w : World) : Prop :=
  Calls Try.prog f args w fun e w' => e = .returned v ∧ Below w.heap.size w w'

/-- Cells of an elder block, behind a call. -/
theorem kept {w w' : World} (h : Below w.heap.size w w') {B : Nat} (hB : B < w.heap.size) : (∀ o, w'.cell? ⟨B, o, none⟩ = w.cell? ⟨B, o, none⟩) ∧ (∀ o, w'.frozen? ⟨B, o, none⟩ = w.frozen? ⟨B, o, none⟩) ∧ B < w'.heap.size :=
  ⟨fun o => h.cell (p := ⟨B, o, none⟩) hB, fun o => h.frozen (p := ⟨B, o, none⟩) hB, Nat.lt_of_lt_of_le hB h.size⟩
theorem bcell {W w1 : World} (hb : Below W.heap.size W w1) : (∀ b o, b < W.heap.size → w1.cell? ⟨b, o, none⟩ = W.cell? ⟨b, o, none⟩) ∧ (∀ b o, b < W.heap.size → w1.frozen? ⟨b, o, none⟩ = W.frozen? ⟨b, o, none⟩) :=
  ⟨fun b o h => hb.cell (p := ⟨b, o, none⟩) h, fun b o h => hb.frozen (p := ⟨b, o, none⟩) h⟩

theorem i64_w (n : Int) : IntKind.i64.wrap n = wrap64 n := by
  rw [IntKind.wrap_i64]
  unfold wrap64
  rfl

def btw (lo n hi : Int) : Bool := decide (lo ≤ n) && decide (n ≤ hi)
theorem btw_yes {lo n hi : Int} (h : lo ≤ n ∧ n ≤ hi) : btw lo n hi = true := by simp [btw, h]
theorem btw_no {lo n hi : Int} (h : ¬ (lo ≤ n ∧ n ≤ hi)) : btw lo n hi = false := by
  simp only [btw, Bool.and_eq_false_iff, decide_eq_false_iff_not]
  omega

/-- A call that hands back v and leaves the world alone. -/
def Quiet (f : Nat) (args : Array Value) (v : Value) (w : World) : Prop :=
  Calls Try.prog f args w fun e w' => e = .returned v ∧ w = w'

theorem between_calls (lo n hi : Int) (w : World) : Quiet 58 #[.int .i64 lo, .int .i64 n, .int .i64 hi] (.bool (btw lo n hi)) w := by
  unfold Quiet
  by_cases h1 : lo ≤ n
  · by_cases h2 : n ≤ hi
    · rw [btw_yes ⟨h1, h2⟩]
      go_enter Try.func58, Try.ntmps58
      go_wp2
      go_ret
      simp
    · rw [btw_no (by omega)]
      go_enter Try.func58, Try.ntmps58
      go_wp2
      go_ret
      simp
  · rw [btw_no (by omega)]
    go_enter Try.func58, Try.ntmps58
    go_wp2
    go_ret
    exact ⟨rfl, rfl⟩

theorem last_calls (c t lo hi : Int) (w : World) (h0 : -1000000 ≤ t) (h1 : t ≤ 1000000) : Gives 64 #[.agg #[.int .i64 c, .int .i64 t, .int .i64 lo, .int .i64 hi]] (.int .i64 (1000 * t)) w := by
  unfold Gives
  go_enter Try.func64, Try.ntmps64
  go_wp2
  go_ret
  exact ⟨by rfl, by go_grown⟩

/-- What Check asks of a spool. -/
def Sound (c t lo hi : Int) : Prop := (1 ≤ c ∧ c ≤ 100000) ∧ (1 ≤ t ∧ t ≤ c) ∧ 0 ≤ lo ∧ lo ≤ hi ∧ hi ≤ 1000
instance (c t lo hi : Int) : Decidable (Sound c t lo hi) := by unfold Sound; infer_instance
def chk (c t lo hi : Int) : Int := if Sound c t lo hi then 0 else 3
theorem chk_yes {c t lo hi : Int} (h : Sound c t lo hi) : chk c t lo hi = 0 := if_pos h
theorem chk_no {c t lo hi : Int} (h : ¬ Sound c t lo hi) : chk c t lo hi = 3 := if_neg h

theorem check_calls (c t lo hi : Int) (w : World) : Gives 27 #[.agg #[.int .i64 c, .int .i64 t, .int .i64 lo, .int .i64 hi]] (.int .i64 (chk c t lo hi)) w := by
  unfold Gives
  by_cases h1 : 1 ≤ c ∧ c ≤ 100000
  · have b0 : btw 1 c 100000 = true := btw_yes h1
    by_cases h2 : 1 ≤ t ∧ t ≤ c
    · have b1 : btw 1 t c = true := btw_yes h2
      by_cases h3 : 0 ≤ lo
      · have b2 : decide (lo < 0) = false := decide_eq_false (by omega)
        by_cases h4 : lo ≤ hi
        · have b3 : decide (hi < lo) = false := decide_eq_false (by omega)
          by_cases h5 : hi ≤ 1000
          · have b4 : decide (1000 < hi) = false := decide_eq_false (by omega)
            rw [chk_yes ⟨h1, h2, h3, h4, h5⟩]
            clear h1 h2 h3 h4 h5
            go_enter Try.func27, Try.ntmps27
            go_wp2_with (go_at_call 58; refine (between_calls _ _ _ _).mono ?_; rintro e w1 ⟨rfl, rfl⟩)
            go_ret
            exact ⟨rfl, by go_grown⟩
          · have b4 : decide (1000 < hi) = true := decide_eq_true (by omega)
            rw [chk_no (fun h => h5 h.2.2.2.2)]
            clear h1 h2 h3 h4 h5
            go_enter Try.func27, Try.ntmps27
            go_wp2_with (go_at_call 58; refine (between_calls _ _ _ _).mono ?_; rintro e w1 ⟨rfl, rfl⟩)
            go_ret
            exact ⟨rfl, by go_grown⟩
        · have b3 : decide (hi < lo) = true := decide_eq_true (by omega)
          rw [chk_no (fun h => h4 h.2.2.2.1)]
          clear h1 h2 h3 h4
          go_enter Try.func27, Try.ntmps27
          go_wp2_with (go_at_call 58; refine (between_calls _ _ _ _).mono ?_; rintro e w1 ⟨rfl, rfl⟩)
          go_ret
          exact ⟨rfl, by go_grown⟩
      · have b2 : decide (lo < 0) = true := decide_eq_true (by omega)
        rw [chk_no (fun h => h3 h.2.2.1)]
        clear h1 h2 h3
        go_enter Try.func27, Try.ntmps27
        go_wp2_with (go_at_call 58; refine (between_calls _ _ _ _).mono ?_; rintro e w1 ⟨rfl, rfl⟩)
        go_ret
        exact ⟨rfl, by go_grown⟩
    · have b1 : btw 1 t c = false := btw_no h2
      rw [chk_no (fun h => h2 h.2.1)]
      clear h1 h2
      go_enter Try.func27, Try.ntmps27
      go_wp2_with (go_at_call 58; refine (between_calls _ _ _ _).mono ?_; rintro e w1 ⟨rfl, rfl⟩)
      go_ret
      exact ⟨rfl, by go_grown⟩
  · have b0 : btw 1 c 100000 = false := btw_no h1
    rw [chk_no (fun h => h1 h.1)]
    clear h1
    go_enter Try.func27, Try.ntmps27
    go_wp2_with (go_at_call 58; refine (between_calls _ _ _ _).mono ?_; rintro e w1 ⟨rfl, rfl⟩)
    go_ret
    exact ⟨rfl, by go_grown⟩
end Go.Proofs.Ytphbiaagmhhhbaa
