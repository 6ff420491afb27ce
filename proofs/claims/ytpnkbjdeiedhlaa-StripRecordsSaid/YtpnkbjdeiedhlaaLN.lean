/- Bound, Needed, Table. -/
import Derived.Test.YtpnkbjdeiedhlaaLM
namespace Go.Proofs.Ytpnkbjdeiedhlaa
open Go.RowKit Go.Lib Go.Shelf
open St

theorem eg62 : ∀ args w, (callFunc 62 args).run Try.prog w = .ok (.enter 62 args) w := enters_of Try.func62 (by kernel_rfl) rfl
theorem eg64 : ∀ args w, (callFunc 64 args).run Try.prog w = .ok (.enter 64 args) w := enters_of Try.func64 (by kernel_rfl) rfl
/-- What is said of a list as a state. -/
def askF (v : St → Nat) (l : List Int) : Int := if gchk l = 0 then (v (stOf l) : Int) else 0
set_option maxRecDepth 100000 in
set_option maxHeartbeats 2000000 in
theorem asked62 (A : Option Addr) (n c : Nat) (l : List Int) (w : World) (hl : Reads w A n l) :
    Gives 61 #[.slice A n c, .func (.func 62) #[] #[]] (.tuple #[.int .i64 (askF bndF l), .int .i64 (gchk l)]) w := by
  unfold Gives
  have I : Held w (fun W => Below w.heap.size w W ∧ Reads W A n l) := (Held.from (Below.refl _ _) (Nat.le_refl _)).with (.reads hl)
  have h57 : ∀ W, Reads W A n l → Gives 57 #[.slice A n c] (.tuple #[(rdF l).v, .int .i64 (gchk l)]) W := fun W h => read_calls A n c l W h
  have htb := rdF_tubes l
  have hrd : gchk l = 0 → askF bndF l = (bndF (rdF l) : Int) := fun h => by unfold askF rdF; rw [if_pos h, if_pos h]
  have hr0 : ¬ gchk l = 0 → askF bndF l = 0 := fun h => if_neg h
  generalize askF bndF l = F at hrd hr0 ⊢
  generalize gchk l = e at h57 hrd hr0 ⊢
  generalize rdF l = s at h57 htb hrd
  have h62 : ∀ W, Gives 62 #[s.v] (.int .i64 (bndF s : Int)) W := fun W => bound_calls htb W
  have H57 := Lib.hid h57
  have eg := eg62
  clear hl h57
  by_cases h0 : e = 0
  · subst h0
    rw [← hrd rfl] at h62
    have H62 := Lib.hid h62
    clear h62 hrd hr0
    go_enter Try.func61, Try.ntmps61
    go_upto_region 2 with (go_at_call 57; (with_reducible refine (Gives.c (H57.out _ I.now.2)).mono ?_); rintro e' w2 ⟨rfl, hb⟩; replace I := (I.next hb).allocB s.cs 80; clear hb)
    change Held (w2.alloc (.cells #[.int .i64 (s.a : Int), .int .i64 (s.b : Int), .int .i64 (s.c : Int)] 80)) _ at I
    generalize World.alloc _ _ = w4 at I ⊢
    have q1 := I.now.2.three
    go_wp2_with (go_at_fn 62; (with_reducible refine (Gives.c (H62.out _)).mono ?_); rintro e' w3 ⟨rfl, hb⟩; replace I := I.next hb; clear hb)
    go_returns
    exact ⟨rfl, I.now.1.1⟩
  · rw [hr0 h0]
    have hne : (e != 0) = true := by simp [h0]
    clear h0 hrd hr0
    go_enter Try.func61, Try.ntmps61
    go_upto_region 2 with (go_at_call 57; (with_reducible refine (Gives.c (H57.out _ I.now.2)).mono ?_); rintro e' w2 ⟨rfl, hb⟩; replace I := (I.next hb).allocB s.cs 80; clear hb)
    change Held (w2.alloc (.cells #[.int .i64 (s.a : Int), .int .i64 (s.b : Int), .int .i64 (s.c : Int)] 80)) _ at I
    generalize World.alloc _ _ = w4 at I ⊢
    go_wp2_with fail
    go_returns
    exact ⟨rfl, I.now.1.1⟩
set_option maxRecDepth 100000 in
set_option maxHeartbeats 2000000 in
theorem asked64 (A : Option Addr) (n c : Nat) (l : List Int) (w : World) (hl : Reads w A n l) :
    Gives 61 #[.slice A n c, .func (.func 64) #[] #[]] (.tuple #[.int .i64 (askF ndF l), .int .i64 (gchk l)]) w := by
  unfold Gives
  have I : Held w (fun W => Below w.heap.size w W ∧ Reads W A n l) := (Held.from (Below.refl _ _) (Nat.le_refl _)).with (.reads hl)
  have h57 : ∀ W, Reads W A n l → Gives 57 #[.slice A n c] (.tuple #[(rdF l).v, .int .i64 (gchk l)]) W := fun W h => read_calls A n c l W h
  have htb := rdF_tubes l
  have hrd : gchk l = 0 → askF ndF l = (ndF (rdF l) : Int) := fun h => by unfold askF rdF; rw [if_pos h, if_pos h]
  have hr0 : ¬ gchk l = 0 → askF ndF l = 0 := fun h => if_neg h
  generalize askF ndF l = F at hrd hr0 ⊢
  generalize gchk l = e at h57 hrd hr0 ⊢
  generalize rdF l = s at h57 htb hrd
  have h64 : ∀ W, Gives 64 #[s.v] (.int .i64 (ndF s : Int)) W := fun W => needed_calls htb W
  have H57 := Lib.hid h57
  have eg := eg64
  clear hl h57
  by_cases h0 : e = 0
  · subst h0
    rw [← hrd rfl] at h64
    have H64 := Lib.hid h64
    clear h64 hrd hr0
    go_enter Try.func61, Try.ntmps61
    go_upto_region 2 with (go_at_call 57; (with_reducible refine (Gives.c (H57.out _ I.now.2)).mono ?_); rintro e' w2 ⟨rfl, hb⟩; replace I := (I.next hb).allocB s.cs 80; clear hb)
    change Held (w2.alloc (.cells #[.int .i64 (s.a : Int), .int .i64 (s.b : Int), .int .i64 (s.c : Int)] 80)) _ at I
    generalize World.alloc _ _ = w4 at I ⊢
    have q1 := I.now.2.three
    go_wp2_with (go_at_fn 64; (with_reducible refine (Gives.c (H64.out _)).mono ?_); rintro e' w3 ⟨rfl, hb⟩; replace I := I.next hb; clear hb)
    go_returns
    exact ⟨rfl, I.now.1.1⟩
  · rw [hr0 h0]
    have hne : (e != 0) = true := by simp [h0]
    clear h0 hrd hr0
    go_enter Try.func61, Try.ntmps61
    go_upto_region 2 with (go_at_call 57; (with_reducible refine (Gives.c (H57.out _ I.now.2)).mono ?_); rintro e' w2 ⟨rfl, hb⟩; replace I := (I.next hb).allocB s.cs 80; clear hb)
    change Held (w2.alloc (.cells #[.int .i64 (s.a : Int), .int .i64 (s.b : Int), .int .i64 (s.c : Int)] 80)) _ at I
    generalize World.alloc _ _ = w4 at I ⊢
    go_wp2_with fail
    go_returns
    exact ⟨rfl, I.now.1.1⟩
theorem Bound_calls (A : Option Addr) (n c : Nat) (l : List Int) (w : World) (hl : Reads w A n l) : Gives 26 #[.slice A n c] (.tuple #[.int .i64 (askF bndF l), .int .i64 (gchk l)]) w := by
  unfold Gives
  go_enter Try.func26, Try.ntmps26
  go_wp2_with (go_at_call 61; (with_reducible refine (Gives.c (asked62 A n c l _ hl)).mono ?_); rintro e' w3 ⟨rfl, hb⟩)
  go_returns
  exact ⟨rfl, hb⟩
theorem Needed_calls (A : Option Addr) (n c : Nat) (l : List Int) (w : World) (hl : Reads w A n l) : Gives 28 #[.slice A n c] (.tuple #[.int .i64 (askF ndF l), .int .i64 (gchk l)]) w := by
  unfold Gives
  go_enter Try.func28, Try.ntmps28
  go_wp2_with (go_at_call 61; (with_reducible refine (Gives.c (asked64 A n c l _ hl)).mono ?_); rintro e' w3 ⟨rfl, hb⟩)
  go_returns
  exact ⟨rfl, hb⟩
/-- needs: does a state need so many? -/
theorem needs_calls (want : Int) (A : Option Addr) (n c : Nat) (l : List Int) (w : World) (hl : Reads w A n l) (h1 : gchk l = 0) (h2 : askF ndF l = want) : Gives 47 #[.int .i64 want, .slice A n c] (.bool true) w := by
  unfold Gives
  have h28 := Needed_calls A n c l w hl
  rw [h1, h2] at h28
  go_enter Try.func47, Try.ntmps47
  go_wp2_with (go_at_call 28; (with_reducible refine (Gives.c h28).mono ?_); rintro e' w3 ⟨rfl, hb⟩)
  go_ret
  exact ⟨by simp, hb⟩
end Go.Proofs.Ytpnkbjdeiedhlaa
