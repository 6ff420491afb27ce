/- A row of whole numbers in a block; a list of numbers that is made; how many ways there are to choose. -/
import Derived.Test.YtpnkbjdeiedhlaaSX
namespace Go.Proofs.Ytpnkbjdeiedhlaa
open Go.RowKit Go.Lib Go.Shelf
open St

/-- Block B holds n whole numbers, and may be written. -/
structure Rw (w : World) (B n : Nat) (f : Nat → Int) : Prop where
  lt : B < w.heap.size
  cell : ∀ m, m < n → w.cell? ⟨B, m, none⟩ = some (.int .i64 (f m))
  free : ∀ j, w.frozen? ⟨B, j, none⟩ = false
theorem Rw.later {w w1 : World} {B n : Nat} {f : Nat → Int} (h : Rw w B n f) (hb : Below w.heap.size w w1) : Rw w1 B n f :=
  ⟨Nat.lt_of_lt_of_le h.lt hb.size, fun m hm => (hb.cell (p := ⟨B, m, none⟩) h.lt).trans (h.cell m hm), fun j => (hb.frozen (p := ⟨B, j, none⟩) h.lt).trans (h.free j)⟩
theorem Held.rw {w : World} {B n : Nat} {f : Nat → Int} (h : Rw w B n f) : Held w (fun W => Rw W B n f) := fun _ hW => h.later hW
theorem Rw.other {w : World} {B B' n : Nat} {f : Nat → Int} (h : Rw w B n f) (hne : B' ≠ B) (i : Nat) (v : Value) : Rw (w.setCell ⟨B', i, none⟩ v) B n f :=
  ⟨by simpa using h.lt, fun m hm => by rw [World.cell?_setCell_other _ _ _ _ (by intro e; cases e; exact hne rfl)]; exact h.cell m hm, fun j => by rw [World.frozen?_setCell]; exact h.free j⟩
theorem Rw.set {w : World} {B n : Nat} {f g : Nat → Int} (h : Rw w B n f) {i : Nat} (hi : i < n) {v : Int} (hg : ∀ m, m < n → g m = if m = i then v else f m) : Rw (w.setCell ⟨B, i, none⟩ (.int .i64 v)) B n g :=
  ⟨by simpa using h.lt, fun m hm => by
    rw [hg m hm]
    by_cases e : m = i
    · subst e
      rw [if_pos rfl]
      exact World.cell?_setCell_same _ _ _ (h.cell m hi)
    · rw [if_neg e, World.cell?_setCell_other _ _ _ _ (by intro e'; cases e'; exact e rfl)]
      exact h.cell m hm, fun j => by rw [World.frozen?_setCell]; exact h.free j⟩
theorem Rw.congr {w : World} {B n : Nat} {f g : Nat → Int} (h : Rw w B n f) (hg : ∀ m, m < n → g m = f m) : Rw w B n g :=
  ⟨h.lt, fun m hm => by rw [hg m hm]; exact h.cell m hm, h.free⟩
/-- The first k values of a function. -/
def lst (k : Nat) (f : Nat → Int) : List Int := (List.range k).map f
theorem lst_len (k : Nat) (f : Nat → Int) : (lst k f).length = k := by simp [lst]
theorem lst_at {k : Nat} {f : Nat → Int} {j : Nat} (h : j < k) : (lst k f)[j]?.getD 0 = f j := by simp [lst, h]
theorem lst_snoc (k : Nat) (f : Nat → Int) : lst (k + 1) f = lst k f ++ [f k] := by simp [lst, List.range_succ]
theorem lst_congr {k : Nat} {f g : Nat → Int} (h : ∀ m, m < k → f m = g m) : lst k f = lst k g := by
  unfold lst
  apply List.map_congr_left
  intro m hm
  exact h m (List.mem_range.1 hm)
theorem Rw.reads {w : World} {B n : Nat} {f : Nat → Int} (h : Rw w B n f) (hn : n ≤ 1000) : Reads w (some ⟨B, 0, none⟩) n (lst n f) :=
  ⟨lst_len n f, by omega, fun _ => ⟨_, 0, rfl, fun j hj => by rw [Nat.zero_add, lst_at hj]; exact h.cell j hj⟩⟩
theorem Reads.at_lst {w : World} {A : Option Addr} {n : Nat} {f : Nat → Int} (h : Reads w A n (lst n f)) (h0 : 0 < n) : ∃ b off, A = some ⟨b, off, none⟩ ∧ ∀ j, j < n → w.cell? ⟨b, off + j, none⟩ = some (.int .i64 (f j)) := by
  obtain ⟨b, off, e, hc⟩ := h.2.2 h0
  exact ⟨b, off, e, fun j hj => by rw [hc j hj, lst_at hj]⟩
/-- A list of numbers is made. -/
theorem mk31 {n : Nat} (hn : n ≤ 1000) : ∃ cs : List Value, (∀ w : World, Rw (w.alloc (.cells cs.toArray 3)) w.heap.size n (fun _ => 0)) ∧ ∀ w, (Instr.makeSlice 31 (.int .i64 (n : Int)) (.int .i64 (n : Int))).run Try.prog w = .ok (.slice (some ⟨w.heap.size, 0, none⟩) n n) (w.alloc (.cells cs.toArray 3)) := by
  obtain ⟨i0, hi, hz0, hz1, hz2⟩ := info_parts info3
  refine ⟨(madeCells (Value.int .i64 0).cells (n * 1)).toList, fun w => ?_, fun w => ?_⟩
  · have hb := Blk.new w (madeCells (Value.int .i64 0).cells (n * 1)).toList 3
    refine ⟨hb.lt, fun m hm => hb.cell m _ ?_, hb.free⟩
    show (madeCells #[Value.int .i64 0] (n * 1)).toList[m]? = _
    rw [toList_madeCells_one, List.getElem?_replicate, if_pos (by omega)]
  · have := run_make (P := Try.prog) w 31 3 i0 _ Try.underlying31 hi hz0 .i64 .i64 (n : Int) (n : Int) (by omega) (by omega) (by rw [hz2]; omega) (by omega)
    rw [hz1] at this
    simpa using this

/-- How many ways to choose k of n. -/
def bin : Nat → Nat → Nat
  | _, 0 => 1
  | 0, _ + 1 => 0
  | n + 1, k + 1 => bin n (k + 1) + bin n k
theorem bin_le (n : Nat) : ∀ k, bin n k ≤ 2 ^ n := by
  induction n with
  | zero => intro k; cases k <;> simp [bin]
  | succ n ih =>
    intro k
    cases k with
    | zero => simp only [bin]; exact Nat.one_le_two_pow
    | succ k =>
      simp only [bin]
      have h1 := ih (k + 1)
      have h2 := ih k
      rw [Nat.pow_succ]
      omega
theorem bin_0 (n : Nat) : bin n 0 = 1 := by cases n <;> rfl
theorem bin_1 (n : Nat) : bin n 1 = n := by
  induction n with
  | zero => rfl
  | succ n ih => simp only [bin, ih, bin_0]
theorem bin_2 (n : Nat) : bin n 2 = tri n := by
  induction n with
  | zero => rfl
  | succ n ih => rw [tri_succ, show bin (n + 1) 2 = bin n 2 + bin n 1 from rfl, ih, bin_1]
set_option maxRecDepth 100000 in
theorem ways_calls : ∀ (n : Nat), n ≤ 40 → ∀ (k : Nat), k ≤ 40 → ∀ w : World, Quiet 44 #[.int .i64 (n : Int), .int .i64 (k : Int)] (.int .i64 (bin n k : Int)) w := by
  intro n
  induction n with
  | zero =>
    intro _ k hk w
    unfold Quiet
    rcases Nat.eq_zero_or_pos k with h0 | h0
    · subst h0
      go_enter Try.func44, Try.ntmps44
      go_wp2
      go_ret
      exact ⟨rfl, rfl⟩
    · obtain ⟨m, rfl⟩ : ∃ m, k = m + 1 := ⟨k - 1, by omega⟩
      have h1 : (((m + 1 : Nat) : Int) == 0) = false := beq_eq_false_iff_ne.2 (by omega)
      rw [show bin 0 (m + 1) = 0 from rfl]
      generalize ((m + 1 : Nat) : Int) = q at h1 ⊢
      go_enter Try.func44, Try.ntmps44
      go_wp2
      go_ret
      exact ⟨rfl, rfl⟩
  | succ n ih =>
    intro hn k hk w
    unfold Quiet
    rcases Nat.eq_zero_or_pos k with h0 | h0
    · subst h0
      rw [bin_0]
      go_enter Try.func44, Try.ntmps44
      go_wp2
      go_ret
      exact ⟨rfl, rfl⟩
    · obtain ⟨m, rfl⟩ : ∃ m, k = m + 1 := ⟨k - 1, by omega⟩
      have g1 : ∀ W, Quiet 44 #[.int .i64 (n : Int), .int .i64 ((m + 1 : Nat) : Int)] (.int .i64 (bin n (m + 1) : Int)) W := fun W => ih (by omega) (m + 1) hk W
      have g2 : ∀ W, Quiet 44 #[.int .i64 (n : Int), .int .i64 (m : Int)] (.int .i64 (bin n m : Int)) W := fun W => ih (by omega) m (by omega) W
      have b1 : bin n (m + 1) ≤ 1000000000000 := Nat.le_trans (bin_le n _) (Nat.le_trans (Nat.pow_le_pow_right (by omega) (show n ≤ 39 by omega)) (by decide))
      have b2 : bin n m ≤ 1000000000000 := Nat.le_trans (bin_le n _) (Nat.le_trans (Nat.pow_le_pow_right (by omega) (show n ≤ 39 by omega)) (by decide))
      have e : ((bin (n + 1) (m + 1) : Nat) : Int) = (bin n (m + 1) : Int) + (bin n m : Int) := by
        rw [show bin (n + 1) (m + 1) = bin n (m + 1) + bin n m from rfl]
        omega
      rw [e]
      have z1 : (((m + 1 : Nat) : Int) == 0) = false := beq_eq_false_iff_ne.2 (by omega)
      have z2 : (((n + 1 : Nat) : Int) == 0) = false := beq_eq_false_iff_ne.2 (by omega)
      have v1 : IntKind.i64.wrap (((n + 1 : Nat) : Int) - 1) = (n : Int) := by rw [i64_in (by omega) (by omega)]; omega
      have v2 : IntKind.i64.wrap (((m + 1 : Nat) : Int) - 1) = (m : Int) := by rw [i64_in (by omega) (by omega)]; omega
      generalize ((m + 1 : Nat) : Int) = q at g1 z1 v2 ⊢
      generalize ((n + 1 : Nat) : Int) = p at z2 v1 ⊢
      generalize bin n (m + 1) = x at g1 b1 ⊢
      generalize bin n m = y at g2 b2 ⊢
      have v3 : IntKind.i64.wrap ((x : Int) + (y : Int)) = (x : Int) + (y : Int) := i64_in (by omega) (by omega)
      have G1 := Lib.hid g1
      have G2 := Lib.hid g2
      clear g1 g2 e ih hn hk h0
      go_enter Try.func44, Try.ntmps44
      go_wp2_with (first
        | (go_at_call 44; (with_reducible refine (Quiet.c (G1.out _)).mono ?_); rintro e wq ⟨rfl, rfl⟩)
        | (go_at_call 44; (with_reducible refine (Quiet.c (G2.out _)).mono ?_); rintro e wq ⟨rfl, rfl⟩))
      go_ret
      exact ⟨rfl, rfl⟩
end Go.Proofs.Ytpnkbjdeiedhlaa
