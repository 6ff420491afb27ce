/- The contract of measured. -/
import Derived.Test.YtphbiaagmhhhbaaSM
namespace Go.Proofs.Ytphbiaagmhhhbaa
open Go.RowKit Go.Lib Go.Shelf

/-- A slice that reads as a list of measurements. -/
def ReadsM (w : World) (A : Option Addr) (n : Nat) (l : List (Int × Int)) : Prop :=
  l.length = n ∧ n ≤ 8796093022208 ∧ (0 < n → ∃ b off, A = some ⟨b, off, none⟩ ∧ ∀ j, j < n → w.cell? ⟨b, off + j * 2, none⟩ = some (.int .i64 (l[j]?.getD (0, 0)).1) ∧ w.cell? ⟨b, off + j * 2 + 1, none⟩ = some (.int .i64 (l[j]?.getD (0, 0)).2))
theorem ReadsM.later {w w1 : World} {A : Option Addr} {n : Nat} {l : List (Int × Int)} (h : ReadsM w A n l) (hb : Below w.heap.size w w1) : ReadsM w1 A n l := by
  refine ⟨h.1, h.2.1, fun h0 => ?_⟩
  obtain ⟨b, off, e, hc⟩ := h.2.2 h0
  exact ⟨b, off, e, fun j hj => ⟨(hb.cell (p := ⟨b, off + j * 2, none⟩) (World.block_lt_of_cell? w _ (hc j hj).1)).trans (hc j hj).1, (hb.cell (p := ⟨b, off + j * 2 + 1, none⟩) (World.block_lt_of_cell? w _ (hc j hj).2)).trans (hc j hj).2⟩⟩

/-- Is a measurement not as stated? -/
def badM (m : Int × Int) : Bool := !btw 0 m.1 1000 || !btw 0 m.2 1000000000

theorem bad_calls (a b : Int) (w : World) : Gives 88 #[.agg #[.int .i64 a, .int .i64 b]] (.bool (badM (a, b))) w := by
  unfold Gives badM
  cases h1 : btw 0 a 1000 with
  | false =>
    go_enter Try.func88, Try.ntmps88
    go_wp2_with (go_at_call 58; refine (between_calls _ _ _ _).mono ?_; rintro e w1 ⟨rfl, rfl⟩)
    go_ret
    exact ⟨rfl, by go_grown⟩
  | true =>
    cases h2 : btw 0 b 1000000000 with
    | false =>
      go_enter Try.func88, Try.ntmps88
      go_wp2_with (go_at_call 58; refine (between_calls _ _ _ _).mono ?_; rintro e w1 ⟨rfl, rfl⟩)
      go_ret
      exact ⟨rfl, by go_grown⟩
    | true =>
      go_enter Try.func88, Try.ntmps88
      go_wp2_with (go_at_call 58; refine (between_calls _ _ _ _).mono ?_; rintro e w1 ⟨rfl, rfl⟩)
      go_ret
      exact ⟨rfl, by go_grown⟩

/-- The number of the first one that is not as stated; -1: none. -/
def idxM : List (Int × Int) → Int
  | [] => -1
  | m :: r => if badM m then 0 else if idxM r < 0 then -1 else idxM r + 1
theorem idxM_hit {l : List (Int × Int)} {k : Nat} (hk : k < l.length) (h0 : ∀ j, j < k → badM (l[j]?.getD (0, 0)) = false) (h1 : badM (l[k]?.getD (0, 0)) = true) : idxM l = k := by
  induction l generalizing k with
  | nil => simp at hk
  | cons x r ih =>
    cases k with
    | zero => simp only [List.getElem?_cons_zero, Option.getD_some] at h1; simp only [idxM]; rw [if_pos h1]; rfl
    | succ k =>
      have hx := h0 0 (by omega)
      simp only [List.getElem?_cons_zero, Option.getD_some] at hx
      have := ih (k := k) (by simpa using hk) (fun j hj => by have := h0 (j + 1) (by omega); simpa using this) (by simpa using h1)
      simp only [idxM]; rw [if_neg (by rw [hx]; decide), this, if_neg (by omega)]; rfl
theorem idxM_none {l : List (Int × Int)} (h0 : ∀ j, j < l.length → badM (l[j]?.getD (0, 0)) = false) : idxM l = -1 := by
  induction l with
  | nil => rfl
  | cons x r ih =>
    have hx := h0 0 (by simp)
    simp only [List.getElem?_cons_zero, Option.getD_some] at hx
    have := ih (fun j hj => by have := h0 (j + 1) (by simpa using hj); simpa using this)
    simp only [idxM]; rw [if_neg (by rw [hx]; decide), this, if_pos (by omega)]
theorem idxM_iff (l : List (Int × Int)) : 0 ≤ idxM l ↔ l.any badM = true := by
  induction l with
  | nil => simp [idxM]
  | cons x r ih =>
    have e : idxM (x :: r) = if badM x then 0 else if idxM r < 0 then -1 else idxM r + 1 := rfl
    rw [e, List.any_cons, Bool.or_eq_true, ← ih]
    by_cases hx : badM x = true
    · rw [if_pos hx]; simp [hx]
    · rw [if_neg hx]
      by_cases h : idxM r < 0
      · rw [if_pos h]; simp [hx]; omega
      · rw [if_neg h]; simp [hx]; omega
theorem idxM_any (l : List (Int × Int)) : decide (0 ≤ idxM l) = l.any badM := by
  rw [Bool.eq_iff_iff, decide_eq_true_iff]
  exact idxM_iff l

theorem eg88 : ∀ args w, (callFunc 88 args).run Try.prog w = .ok (.enter 88 args) w := enters_of Try.func88 (by kernel_rfl) rfl

theorem indexM_calls (A : Option Addr) (n c : Nat) (l : List (Int × Int)) (w : World) (hl : ReadsM w A n l) :
    Gives 96 #[.slice A n c, .func (.func 88) #[] #[]] (.int .i64 (idxM l)) w := by
  unfold Gives
  have hm := hl.2.1
  have hlen := hl.1
  have eg := eg88
  have HL := Lib.hid hl
  clear hl
  go_enter Try.func96, Try.ntmps96
  go_wp2_with fail
  go_loopw [8] (fun i wr => ∃ k : Nat, k ≤ n ∧ i = .int .i64 k ∧ Aside (∀ j, j < k → badM (l[j]?.getD (0, 0)) = false) ∧ Aside (Below w.heap.size w wr)) (fun i _ => n - (intOf i).toNat)
  case atStart => exact ⟨0, Nat.zero_le _, rfl, fun j hj => absurd hj (Nat.not_lt_zero _), Below.refl _ _⟩
  case round =>
    obtain ⟨k, hk, rfl, HE, HB⟩ := hrel
    by_cases hlt : k < n
    · have hlt' : (k : Int) < (n : Int) := by omega
      obtain ⟨b, off, rfl, hc⟩ := HL.out.2.2 (by omega)
      have hc0 := (HB.out.cell (p := ⟨b, off + k * 2, none⟩) (World.block_lt_of_cell? w _ (hc k hlt).1)).trans (hc k hlt).1
      have hc1 := (HB.out.cell (p := ⟨b, off + k * 2 + 1, none⟩) (World.block_lt_of_cell? w _ (hc k hlt).2)).trans (hc k hlt).2
      clear hc
      have hH : badM (l[k]?.getD (0, 0)) = true → idxM l = k := fun h => idxM_hit (by omega) HE.out h
      have hN : badM (l[k]?.getD (0, 0)) = false → ∀ j, j < k + 1 → badM (l[j]?.getD (0, 0)) = false := fun h j hj => by
        by_cases e : j = k
        · rw [e]; exact h
        · exact HE.out j (by omega)
      generalize l[k]?.getD (0, 0) = x at hc0 hc1 hH hN
      obtain ⟨x1, x2⟩ := x
      have HH := Lib.hid hH
      have HN := Lib.hid hN
      clear hH hN hlen
      have call1 := bad_calls x1 x2 wr
      unfold Gives at call1
      cases hq : badM (x1, x2) with
      | true =>
        rw [hq] at call1
        go_wp2_with (go_at_fn 88; refine call1.mono ?_; rintro e w1 ⟨rfl, hb1⟩)
        go_ret
        exact ⟨ret_int (HH.out hq).symm, HB.out.trans (hb1.mono HB.out.size)⟩
      | false =>
        rw [hq] at call1
        go_wp2_with (go_at_fn 88; refine call1.mono ?_; rintro e w1 ⟨rfl, hb1⟩; have HB1 := Lib.hid hb1; clear hb1)
        go_roundw
        case measure => simp [intOf]; omega
        case rel => exact ⟨k + 1, by omega, by go_num, HN.out hq, HB.out.trans (HB1.out.mono HB.out.size)⟩
    · obtain rfl : k = n := by omega
      have he := Lib.hid (idxM_none (l := l) (fun j hj => HE.out j (by omega)))
      go_wp2
      go_ret
      exact ⟨ret_int he.out.symm, HB.out⟩

theorem containsM_calls (A : Option Addr) (n c : Nat) (l : List (Int × Int)) (w : World) (hl : ReadsM w A n l) :
    Gives 87 #[.slice A n c, .func (.func 88) #[] #[]] (.bool (l.any badM)) w := by
  unfold Gives
  rw [← idxM_any]
  go_enter Try.func87, Try.ntmps87
  go_wp2_with (go_at_call 96; refine (indexM_calls A n c l _ hl).mono ?_; rintro e w1 ⟨rfl, hb1⟩)
  go_ret
  exact ⟨rfl, hb1⟩

/-- The error of a spool and measurements. -/
def measF (c t lo hi off : Int) (l : List (Int × Int)) : Int :=
  if Sound c t lo hi then (if 0 ≤ off ∧ off ≤ 1000000 then (if 50 < l.length then 5 else if l.any badM then 3 else 0) else 3) else 3

theorem measured_calls (c t lo hi off : Int) (A : Option Addr) (n cap : Nat) (l : List (Int × Int)) (w : World) (hl : ReadsM w A n l) :
    Gives 70 #[.agg #[.int .i64 c, .int .i64 t, .int .i64 lo, .int .i64 hi], .int .i64 off, .slice A n cap] (.int .i64 (measF c t lo hi off l)) w := by
  unfold Gives measF
  have hm := hl.2.1
  have hlen := hl.1
  by_cases hs : Sound c t lo hi
  · have hk := chk_yes hs
    rw [if_pos hs]
    clear hs
    by_cases ho : 0 ≤ off ∧ off ≤ 1000000
    · have hb := btw_yes ho
      rw [if_pos ho]
      clear ho
      by_cases hn : 50 < l.length
      · rw [if_pos hn]
        rw [hlen] at hn
        clear hl hlen
        go_enter Try.func70, Try.ntmps70
        go_wp2_with (first | (go_at_call 27; refine (check_calls _ _ _ _ _).mono ?_; rintro e w1 ⟨rfl, hb1⟩; rw [hk]) | (go_at_call 58; refine (between_calls _ _ _ _).mono ?_; rintro e w2 ⟨rfl, rfl⟩))
        go_ret
        exact ⟨rfl, ((Below.refl _ _).alloc (Nat.le_refl _) _).trans (hb1.mono (by simp))⟩
      · rw [if_neg hn]
        rw [hlen] at hn
        clear hlen
        have HL := Lib.hid hl
        clear hl
        cases hq : l.any badM with
        | true =>
          have HQ := Lib.hid hq
          clear hq
          go_enter Try.func70, Try.ntmps70
          go_wp2_with (first | (go_at_call 27; refine (check_calls _ _ _ _ _).mono ?_; rintro e w1 ⟨rfl, hb1⟩; rw [hk]; have hB := ((Below.refl _ _).alloc (Nat.le_refl _) _).trans (hb1.mono (by simp)); have HB := Lib.hid hB; clear hB hb1) | (go_at_call 58; refine (between_calls _ _ _ _).mono ?_; rintro e w2 ⟨rfl, rfl⟩) | (go_at_call 87; refine (containsM_calls _ _ _ l _ (HL.out.later HB.out)).mono ?_; rintro e w3 ⟨rfl, hb3⟩; rw [HQ.out]))
          go_ret
          exact ⟨rfl, HB.out.trans (hb3.mono HB.out.size)⟩
        | false =>
          have HQ := Lib.hid hq
          clear hq
          go_enter Try.func70, Try.ntmps70
          go_wp2_with (first | (go_at_call 27; refine (check_calls _ _ _ _ _).mono ?_; rintro e w1 ⟨rfl, hb1⟩; rw [hk]; have hB := ((Below.refl _ _).alloc (Nat.le_refl _) _).trans (hb1.mono (by simp)); have HB := Lib.hid hB; clear hB hb1) | (go_at_call 58; refine (between_calls _ _ _ _).mono ?_; rintro e w2 ⟨rfl, rfl⟩) | (go_at_call 87; refine (containsM_calls _ _ _ l _ (HL.out.later HB.out)).mono ?_; rintro e w3 ⟨rfl, hb3⟩; rw [HQ.out]))
          go_ret
          exact ⟨rfl, HB.out.trans (hb3.mono HB.out.size)⟩
    · have hb := btw_no ho
      rw [if_neg ho]
      clear ho hl hlen
      go_enter Try.func70, Try.ntmps70
      go_wp2_with (first | (go_at_call 27; refine (check_calls _ _ _ _ _).mono ?_; rintro e w1 ⟨rfl, hb1⟩; rw [hk]) | (go_at_call 58; refine (between_calls _ _ _ _).mono ?_; rintro e w2 ⟨rfl, rfl⟩))
      go_ret
      exact ⟨rfl, ((Below.refl _ _).alloc (Nat.le_refl _) _).trans (hb1.mono (by simp))⟩
  · have hk := chk_no hs
    rw [if_neg hs]
    clear hs hl hlen
    go_enter Try.func70, Try.ntmps70
    go_wp2_with (first | (go_at_call 27; refine (check_calls _ _ _ _ _).mono ?_; rintro e w1 ⟨rfl, hb1⟩; rw [hk]))
    go_ret
    exact ⟨rfl, ((Below.refl _ _).alloc (Nat.le_refl _) _).trans (hb1.mono (by simp))⟩
end Go.Proofs.Ytphbiaagmhhhbaa
