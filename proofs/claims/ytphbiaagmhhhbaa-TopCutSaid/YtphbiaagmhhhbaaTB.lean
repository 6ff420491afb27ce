/- The contracts of the step's small functions. -/
import Derived.Test.YtphbiaagmhhhbaaOA
import Derived.Test.YtphbiaagmhhhbaaTA
import Derived.Test.YtphbiaagmhhhbaaRJ
namespace Go.Proofs.Ytphbiaagmhhhbaa
open Go.RowKit Go.Lib Go.Shelf

theorem sbetween_calls (lo n hi : Int) (w : World) : Quiet 78 #[.int .i64 lo, .int .i64 n, .int .i64 hi] (.bool (btw lo n hi)) w := by
  unfold Quiet
  by_cases h1 : lo ≤ n
  · by_cases h2 : n ≤ hi
    · rw [btw_yes ⟨h1, h2⟩]
      go_enter Try.func78, Try.ntmps78
      go_wp2
      go_ret
      simp
    · rw [btw_no (by omega)]
      go_enter Try.func78, Try.ntmps78
      go_wp2
      go_ret
      simp
  · rw [btw_no (by omega)]
    go_enter Try.func78, Try.ntmps78
    go_wp2
    go_ret
    exact ⟨rfl, rfl⟩

theorem tmod_twice {n d : Int} (h0 : 1 ≤ d) : (n.tmod d + d).tmod d = n % d := by
  have h1 := Int.lt_tmod_of_pos n (show 0 < d by omega)
  rw [Int.tmod_eq_emod_of_nonneg (by omega), Int.add_emod_right]
  have h2 := Int.mul_tdiv_add_tmod n d
  have h3 : n.tmod d = n - d * n.tdiv d := by omega
  rw [h3, Int.sub_mul_emod_self_left]

theorem modulo_calls {n d : Int} (h0 : 1 ≤ d) (h1 : d ≤ 1000) (w : World) : Quiet 93 #[.int .i64 n, .int .i64 d] (.int .i64 (n % d)) w := by
  unfold Quiet
  have hz : (d == 0) = false := beq_eq_false_iff_ne.2 (by omega)
  have hz' : ¬ d = 0 := by omega
  have k1 := Int.lt_tmod_of_pos n (show 0 < d by omega)
  have k2 := Int.tmod_lt_of_pos n (show 0 < d by omega)
  have ht := tmod_twice (n := n) h0
  have k3 := Int.emod_nonneg n hz'
  have k4 := Int.emod_lt_of_pos n (show 0 < d by omega)
  have v1 : IntKind.i64.wrap (n.tmod d) = n.tmod d := i64_in (by omega) (by omega)
  have v2 : IntKind.i64.wrap (n.tmod d + d) = n.tmod d + d := i64_in (by omega) (by omega)
  have v3 : IntKind.i64.wrap ((n.tmod d + d).tmod d) = n % d := by rw [ht]; exact i64_in (by omega) (by omega)
  have u1 : wrap64 (n.tmod d) = n.tmod d := by rw [← i64_w]; exact v1
  have u2 : wrap64 (n.tmod d + d) = n.tmod d + d := by rw [← i64_w]; exact v2
  have u3 : wrap64 (n % d) = n % d := by rw [← i64_w]; exact i64_in (by omega) (by omega)
  generalize n % d = m at ht v3 u3
  clear k1 k2 k3 k4
  go_enter Try.func93, Try.ntmps93
  go_wp2
  go_ret
  exact ⟨ret_int rfl, rfl⟩

theorem Quiet.c {f : Nat} {args : Array Value} {v : Value} {w : World} (h : Quiet f args v w) : Calls Try.prog f args w (fun e w' => e = .returned v ∧ w = w') := h
theorem Quiet.same {f : Nat} {args : Array Value} {v : Value} {w : World} (h : Quiet f args v w) : Calls Try.prog f args w (fun e w' => e = .returned v ∧ w' = w) :=
  Calls.mono h fun _ _ ⟨a, b⟩ => ⟨a, b.symm⟩

theorem has_calls {f c o s : Int} (h0 : 1 ≤ s) (h1 : s ≤ 1000) (ho : 0 ≤ o ∧ o ≤ 1000) (hf : 0 ≤ f ∧ f ≤ 1000) (w : World) :
    Gives 85 #[.agg #[.int .i64 f, .int .i64 c], .int .i64 o, .int .i64 s] (.bool (hasB (f, c) o s)) w := by
  unfold Gives hasB
  have v1 : IntKind.i64.wrap (o - f) = o - f := i64_in (by omega) (by omega)
  go_enter Try.func85, Try.ntmps85
  go_wp2_with fail
  have q := (Blk.new w [.int .i64 f, .int .i64 c] 116).two
  go_quiet ((go_at_call 93; exact Calls.quiet_of_same (modulo_calls h0 h1 _).same))
  go_wp2
  go_ret
  exact ⟨rfl, below_drewN' ((Below.refl _ _).alloc (Nat.le_refl _) _) _⟩

theorem eg83 : ∀ args w, (callFunc 83 args).run Try.prog w = .ok (.enter 83 args) w := enters_of Try.func83 (by kernel_rfl) rfl
theorem eg84 : ∀ args w, (callFunc 84 args).run Try.prog w = .ok (.enter 84 args) w := enters_of Try.func84 (by kernel_rfl) rfl
theorem eg94 : ∀ args w, (callFunc 94 args).run Try.prog w = .ok (.enter 94 args) w := enters_of Try.func94 (by kernel_rfl) rfl
theorem eg80 : ∀ args w, (callFunc 80 args).run Try.prog w = .ok (.enter 80 args) w := enters_of Try.func80 (by kernel_rfl) rfl

/-- 'func(b arc) bool { return !b.has(a.from, step) }', with a in block BA and step in block BS. -/
theorem misses_calls {f c af s : Int} {BA BS : Nat} (h0 : 1 ≤ s) (h1 : s ≤ 1000) (ho : 0 ≤ af ∧ af ≤ 1000) (hf : 0 ≤ f ∧ f ≤ 1000) (w : World) (ka : w.cell? ⟨BA, 0, none⟩ = some (.int .i64 af)) (ks : w.cell? ⟨BS, 0, none⟩ = some (.int .i64 s)) :
    Gives 84 #[.agg #[.int .i64 f, .int .i64 c], .pointer (some ⟨BA, 0, none⟩), .pointer (some ⟨BS, 0, none⟩)] (.bool (!hasB (f, c) af s)) w := by
  unfold Gives
  have z1 := World.block_lt_of_cell? w _ ka
  have z2 := World.block_lt_of_cell? w _ ks
  cases hb : hasB (f, c) af s with
  | true =>
    have HC : ∀ W, Gives 85 #[.agg #[.int .i64 f, .int .i64 c], .int .i64 af, .int .i64 s] (.bool true) W := fun W => by rw [← hb]; exact has_calls h0 h1 ho hf W
    have HC := Lib.hid HC
    clear hb
    go_enter Try.func84, Try.ntmps84
    go_wp2_with (go_at_call 85; (with_reducible refine (Gives.c (HC.out _)).mono ?_); rintro e w1 ⟨rfl, hb⟩)
    go_ret
    exact ⟨rfl, ((Below.refl _ _).alloc (Nat.le_refl _) _).trans (hb.mono (by simp))⟩
  | false =>
    have HC : ∀ W, Gives 85 #[.agg #[.int .i64 f, .int .i64 c], .int .i64 af, .int .i64 s] (.bool false) W := fun W => by rw [← hb]; exact has_calls h0 h1 ho hf W
    have HC := Lib.hid HC
    clear hb
    go_enter Try.func84, Try.ntmps84
    go_wp2_with (go_at_call 85; (with_reducible refine (Gives.c (HC.out _)).mono ?_); rintro e w1 ⟨rfl, hb⟩)
    go_ret
    exact ⟨rfl, ((Below.refl _ _).alloc (Nat.le_refl _) _).trans (hb.mono (by simp))⟩

/-- 'func(b arc) bool { return a == b }', with a in block BA. -/
theorem same_calls {f c af ac : Int} {BA : Nat} (w : World) (ka : Blk w BA [.int .i64 af, .int .i64 ac]) :
    Gives 94 #[.agg #[.int .i64 f, .int .i64 c], .pointer (some ⟨BA, 0, none⟩)] (.bool (decide ((af, ac) = (f, c)))) w := by
  unfold Gives
  have q := ka.two
  have z1 := ka.lt
  go_enter Try.func94, Try.ntmps94
  go_wp2
  all_goals
    go_ret
    refine ⟨?_, by go_grown⟩
    simp_all

/-- What is asked of a closure over arcs: in every later world, for the elements of a list. -/
def PredA (g : Nat) (lb : Array Value) (p : Int × Int → Bool) (l : List (Int × Int)) (w : World) : Prop :=
  ∀ (W : World) (j : Nat), Below w.heap.size w W → j < l.length → Calls Try.prog g (#[.agg #[.int .i64 (mAt l j).1, .int .i64 (mAt l j).2]] ++ lb) W fun e W' => e = .returned (.bool (p (mAt l j))) ∧ Below W.heap.size W W'
/-- The number of the first element for which something holds; -1: none. -/
def idxA (p : Int × Int → Bool) : List (Int × Int) → Int
  | [] => -1
  | m :: r => if p m then 0 else if idxA p r < 0 then -1 else idxA p r + 1
theorem idxA_hit {p : Int × Int → Bool} {l : List (Int × Int)} {k : Nat} (hk : k < l.length) (h0 : ∀ j, j < k → p (mAt l j) = false) (h1 : p (mAt l k) = true) : idxA p l = k := by
  induction l generalizing k with
  | nil => simp at hk
  | cons x r ih =>
    cases k with
    | zero => have h1' : p x = true := h1; simp only [idxA]; rw [if_pos h1']; rfl
    | succ k =>
      have hx : p x = false := h0 0 (by omega)
      have := ih (k := k) (by simpa using hk) (fun j hj => h0 (j + 1) (by omega)) h1
      simp only [idxA]; rw [if_neg (by rw [hx]; decide), this, if_neg (by omega)]; rfl
theorem idxA_none {p : Int × Int → Bool} {l : List (Int × Int)} (h0 : ∀ j, j < l.length → p (mAt l j) = false) : idxA p l = -1 := by
  induction l with
  | nil => rfl
  | cons x r ih =>
    have hx : p x = false := h0 0 (by simp)
    have := ih (fun j hj => h0 (j + 1) (by simpa using hj))
    simp only [idxA]; rw [if_neg (by rw [hx]; decide), this, if_pos (by omega)]
theorem idxA_any (p : Int × Int → Bool) (l : List (Int × Int)) : decide (0 ≤ idxA p l) = l.any p := by
  rw [Bool.eq_iff_iff, decide_eq_true_iff]
  induction l with
  | nil => simp [idxA]
  | cons x r ih =>
    have e : idxA p (x :: r) = if p x then 0 else if idxA p r < 0 then -1 else idxA p r + 1 := rfl
    rw [e, List.any_cons, Bool.or_eq_true, ← ih]
    by_cases hx : p x = true
    · rw [if_pos hx]; simp [hx]
    · rw [if_neg hx]
      by_cases h : idxA p r < 0
      · rw [if_pos h]; simp [hx]; omega
      · rw [if_neg h]; simp [hx]; omega

theorem indexA_calls {g : Nat} {lb : Array Value} {p : Int × Int → Bool} (eg : ∀ args w, (callFunc g args).run Try.prog w = .ok (.enter g args) w) (A : Option Addr) (n c : Nat) (l : List (Int × Int)) (w : World) (hl : ReadsM w A n l) (hp : PredA g lb p l w) :
    Gives 95 #[.slice A n c, .func (.func g) #[] lb] (.int .i64 (idxA p l)) w := by
  unfold Gives
  have hm := hl.2.1
  have hlen := hl.1
  have HL := Lib.hid hl
  have HP := Lib.hid hp
  clear hl hp
  go_enter Try.func95, Try.ntmps95
  go_wp2_with fail
  go_loopw [8] (fun i wr => ∃ k : Nat, k ≤ n ∧ i = .int .i64 k ∧ Aside (∀ j, j < k → p (mAt l j) = false) ∧ Aside (Below w.heap.size w wr)) (fun i _ => n - (intOf i).toNat)
  case atStart => exact ⟨0, Nat.zero_le _, rfl, fun j hj => absurd hj (Nat.not_lt_zero _), Below.refl _ _⟩
  case round =>
    obtain ⟨k, hk, rfl, HE, HB⟩ := hrel
    by_cases hlt : k < n
    · have hlt' : (k : Int) < (n : Int) := by omega
      have hw2 : IntKind.i64.wrap ((k : Int) + 1) = (k : Int) + 1 := i64_in (by omega) (by omega)
      obtain ⟨b, off, rfl, hc⟩ := HL.out.2.2 (by omega)
      have hc0 : wr.cell? ⟨b, off + k * 2, none⟩ = some (.int .i64 (mAt l k).1) := (HB.out.cell (p := ⟨b, off + k * 2, none⟩) (World.block_lt_of_cell? w _ (hc k hlt).1)).trans (hc k hlt).1
      have hc1 : wr.cell? ⟨b, off + k * 2 + 1, none⟩ = some (.int .i64 (mAt l k).2) := (HB.out.cell (p := ⟨b, off + k * 2 + 1, none⟩) (World.block_lt_of_cell? w _ (hc k hlt).2)).trans (hc k hlt).2
      clear hc
      have hcall := HP.out wr k HB.out (by omega)
      have hH : p (mAt l k) = true → idxA p l = k := fun h => idxA_hit (by omega) HE.out h
      have hN : p (mAt l k) = false → ∀ j, j < k + 1 → p (mAt l j) = false := fun h j hj => by
        by_cases e : j = k
        · rw [e]; exact h
        · exact HE.out j (by omega)
      generalize mAt l k = x at hc0 hc1 hH hN hcall
      obtain ⟨x1, x2⟩ := x
      have HH := Lib.hid hH
      have HN := Lib.hid hN
      clear hH hN hlen
      cases hq : p (x1, x2) with
      | true =>
        rw [hq] at hcall
        go_wp2_with (go_at_fn g; refine hcall.mono ?_; rintro e w1 ⟨rfl, hb1⟩)
        go_ret
        exact ⟨ret_int (HH.out hq).symm, HB.out.trans (hb1.mono HB.out.size)⟩
      | false =>
        rw [hq] at hcall
        go_wp2_with (go_at_fn g; refine hcall.mono ?_; rintro e w1 ⟨rfl, hb1⟩; have HB1 := Lib.hid hb1; clear hb1)
        go_roundw
        case measure => simp [intOf]; omega
        case rel => exact ⟨k + 1, by omega, by go_num, HN.out hq, HB.out.trans (HB1.out.mono HB.out.size)⟩
    · obtain rfl : k = n := by omega
      have he := Lib.hid (idxA_none (p := p) (l := l) (fun j hj => HE.out j (by omega)))
      go_wp2
      go_ret
      exact ⟨ret_int he.out.symm, HB.out⟩

theorem containsA_calls {g : Nat} {lb : Array Value} {p : Int × Int → Bool} (eg : ∀ args w, (callFunc g args).run Try.prog w = .ok (.enter g args) w) (A : Option Addr) (n c : Nat) (l : List (Int × Int)) (w : World) (hl : ReadsM w A n l) (hp : PredA g lb p l w) :
    Gives 82 #[.slice A n c, .func (.func g) #[] lb] (.bool (l.any p)) w := by
  unfold Gives
  rw [← idxA_any]
  go_enter Try.func82, Try.ntmps82
  go_wp2_with (go_at_call 95; (with_reducible refine (Gives.c (indexA_calls eg A n c l _ hl hp)).mono ?_); rintro e w1 ⟨rfl, hb1⟩)
  go_ret
  exact ⟨rfl, hb1⟩
end Go.Proofs.Ytphbiaagmhhhbaa
