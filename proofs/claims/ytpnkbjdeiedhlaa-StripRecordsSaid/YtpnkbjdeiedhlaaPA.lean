/- Plain: states, weights, and how many strips are needed. -/
import Derived.Test.YtpnkbjdeiedhlaaLA
namespace Go.Proofs.Ytpnkbjdeiedhlaa
open Go.RowKit Go.Lib Go.Shelf

/-- How many tubes can stand 2, 1, 0 further mistakes. -/
structure St where
  a : Nat
  b : Nat
  c : Nat
  deriving DecidableEq
theorem St.ext' {s t : St} (h1 : s.a = t.a) (h2 : s.b = t.b) (h3 : s.c = t.c) : s = t := by
  cases s; cases t; simp_all
namespace St
def tubes (s : St) : Nat := s.a + s.b + s.c
def tri (n : Nat) : Nat := n * (n - 1) / 2
def wt (s : St) (n : Nat) : Nat := s.a * (n + 1 + tri n) + s.b * (n + 1) + s.c
def aft (s x : St) : St := ⟨x.a, x.b + (s.a - x.a), x.c + (s.b - x.b)⟩
def rst (s x : St) : St := ⟨s.a - x.a, s.b - x.b, s.c - x.c⟩
def Le (x s : St) : Prop := x.a ≤ s.a ∧ x.b ≤ s.b ∧ x.c ≤ s.c
end St
open St
theorem tri_succ (n : Nat) : tri (n + 1) = tri n + n := by
  unfold tri
  cases n with
  | zero => rfl
  | succ m =>
    rw [show (m + 1 + 1) * (m + 1 + 1 - 1) = (m + 1) * (m + 1 - 1) + (m + 1) * 2 by
      rw [show m + 1 + 1 - 1 = m + 1 by omega, show m + 1 - 1 = m by omega, ← Nat.mul_add, Nat.mul_comm]]
    omega
theorem wt_succ {s x : St} (h : x.Le s) (n : Nat) : s.wt (n + 1) = (s.aft x).wt n + (s.aft (s.rst x)).wt n := by
  obtain ⟨h1, h2, h3⟩ := h
  obtain ⟨a, b, c⟩ := s
  obtain ⟨i, j, k⟩ := x
  dsimp only at h1 h2 h3
  obtain ⟨a', rfl⟩ := Nat.exists_eq_add_of_le h1
  obtain ⟨b', rfl⟩ := Nat.exists_eq_add_of_le h2
  obtain ⟨c', rfl⟩ := Nat.exists_eq_add_of_le h3
  simp only [wt, aft, rst, Nat.add_sub_cancel_left]
  rw [tri_succ, show i + a' - a' = i by omega, show j + b' - b' = j by omega]
  generalize tri n = t
  have e1 : (i + a') * (n + 1 + 1 + (t + n)) = i * (n + 1 + t) + a' * (n + 1 + t) + (i * (n + 1) + a' * (n + 1)) := by
    rw [show n + 1 + 1 + (t + n) = (n + 1 + t) + (n + 1) by omega, Nat.mul_add, Nat.add_mul, Nat.add_mul]
  have e2 : (j + b') * (n + 1 + 1) = j * (n + 1) + b' * (n + 1) + (j + b') := by
    rw [Nat.mul_add, Nat.add_mul, Nat.mul_one]
  have e3 : (j + a') * (n + 1) = j * (n + 1) + a' * (n + 1) := Nat.add_mul ..
  have e4 : (b' + i) * (n + 1) = b' * (n + 1) + i * (n + 1) := Nat.add_mul ..
  rw [e1, e2, e3, e4]
  omega
/-- Enough strips: the game. -/
def win : Nat → St → Prop
  | 0, s => s.tubes ≤ 1
  | n + 1, s => s.tubes ≤ 1 ∨ ∃ x : St, x.Le s ∧ win n (s.aft x) ∧ win n (s.aft (s.rst x))
theorem win_few {s : St} (h : s.tubes ≤ 1) : ∀ n, win n s
  | 0 => h
  | _ + 1 => .inl h
theorem succ_le_pow (n : Nat) : n + 1 ≤ 2 ^ n := by
  induction n with
  | zero => exact Nat.le_refl _
  | succ n ih => rw [Nat.pow_succ]; omega
theorem tri_le_pow (n : Nat) : n + 1 + tri n ≤ 2 ^ n := by
  induction n with
  | zero => exact Nat.le_refl _
  | succ n ih =>
    have := succ_le_pow n
    rw [tri_succ, Nat.pow_succ]
    omega
theorem few_wt {s : St} (h : s.tubes ≤ 1) (n : Nat) : s.wt n ≤ 2 ^ n := by
  obtain ⟨a, b, c⟩ := s
  simp only [tubes] at h
  have h1 := succ_le_pow n
  have h2 := tri_le_pow n
  simp only [wt]
  have : (a = 0 ∧ b = 0 ∧ c ≤ 1) ∨ (a = 0 ∧ b = 1 ∧ c = 0) ∨ (a = 1 ∧ b = 0 ∧ c = 0) := by omega
  rcases this with ⟨rfl, rfl, _⟩ | ⟨rfl, rfl, rfl⟩ | ⟨rfl, rfl, rfl⟩ <;> omega
theorem win_wt {n : Nat} : ∀ {s : St}, win n s → s.wt n ≤ 2 ^ n := by
  induction n with
  | zero => exact fun h => few_wt h 0
  | succ n ih =>
    rintro s (h | ⟨x, hx, h1, h2⟩)
    · exact few_wt h _
    · rw [wt_succ hx, Nat.pow_succ]
      have := ih h1
      have := ih h2
      omega
/-- A strip of one tube always helps. -/
def pot (s : St) : Nat := 3 * s.a + 2 * s.b + s.c
theorem win_pot {n : Nat} : ∀ {s : St}, pot s ≤ n → win n s := by
  induction n with
  | zero => exact fun {s} h => by unfold pot at h; show s.a + s.b + s.c ≤ 1; omega
  | succ n ih =>
    intro s h
    by_cases ht : s.tubes ≤ 1
    · exact .inl ht
    · right
      unfold tubes at ht
      unfold pot at h
      by_cases ha : 1 ≤ s.a
      · exact ⟨⟨1, 0, 0⟩, ⟨ha, Nat.zero_le _, Nat.zero_le _⟩, ih (by simp only [pot, aft]; omega), ih (by simp only [pot, aft, rst]; omega)⟩
      · by_cases hb : 1 ≤ s.b
        · exact ⟨⟨0, 1, 0⟩, ⟨Nat.zero_le _, hb, Nat.zero_le _⟩, ih (by simp only [pot, aft]; omega), ih (by simp only [pot, aft, rst]; omega)⟩
        · exact ⟨⟨0, 0, 1⟩, ⟨Nat.zero_le _, Nat.zero_le _, (by omega : 1 ≤ s.c)⟩, ih (by simp only [pot, aft]; omega), ih (by simp only [pot, aft, rst]; omega)⟩
theorem win_succ {n : Nat} : ∀ {s : St}, win n s → win (n + 1) s := by
  induction n with
  | zero => exact fun h => .inl h
  | succ n ih =>
    rintro s (h | ⟨x, hx, h1, h2⟩)
    · exact .inl h
    · exact .inr ⟨x, hx, ih h1, ih h2⟩
theorem win_le {n m : Nat} {s : St} (h : win n s) (hm : n ≤ m) : win m s := by
  obtain ⟨d, rfl⟩ := Nat.exists_eq_add_of_le hm
  induction d with
  | zero => exact h
  | succ d ih => exact win_succ (ih (by omega))

/-- All strips of a state, in the order of the loops. -/
def strips (s : St) : List St := (List.range (s.a + 1)).flatMap fun i => (List.range (s.b + 1)).flatMap fun j => (List.range (s.c + 1)).map fun k => ⟨i, j, k⟩
theorem mem_strips {s x : St} : x ∈ strips s ↔ x.Le s := by
  unfold strips Le
  simp only [List.mem_flatMap, List.mem_map, List.mem_range]
  constructor
  · rintro ⟨i, hi, j, hj, k, hk, rfl⟩
    exact ⟨Nat.le_of_lt_succ hi, Nat.le_of_lt_succ hj, Nat.le_of_lt_succ hk⟩
  · rintro ⟨h1, h2, h3⟩
    exact ⟨x.a, by omega, x.b, by omega, x.c, by omega, rfl⟩
/-- The same, reckoned; what weighs too much is not tried. -/
def winB : Nat → St → Bool
  | 0, s => decide (s.tubes ≤ 1)
  | n + 1, s => decide (s.tubes ≤ 1) || (decide (s.wt (n + 1) ≤ 2 ^ (n + 1)) && (strips s).any fun x => winB n (s.aft x) && winB n (s.aft (s.rst x)))
theorem winB_iff {n : Nat} : ∀ {s : St}, winB n s = true ↔ win n s := by
  induction n with
  | zero => exact fun {s} => by simp [winB, win]
  | succ n ih =>
    intro s
    unfold winB
    simp only [Bool.or_eq_true, Bool.and_eq_true, decide_eq_true_eq, List.any_eq_true, ih, mem_strips]
    constructor
    · rintro (h | ⟨_, x, hx, h1, h2⟩)
      · exact .inl h
      · exact .inr ⟨x, hx, h1, h2⟩
    · intro h
      have hw := win_wt h
      rcases h with h | ⟨x, hx, h1, h2⟩
      · exact .inl h
      · exact .inr ⟨hw, x, hx, h1, h2⟩
theorem winB_few {n : Nat} {s : St} (h : s.tubes < 2) : winB n s = true := winB_iff.2 (win_few (by omega) n)
theorem winB_heavy {n : Nat} {s : St} (h : 2 ^ n < s.wt n) : winB n s = false := by
  cases hb : winB n s with
  | false => rfl
  | true => have := win_wt (winB_iff.1 hb); omega
/-- The least number of strips that is enough. -/
def ndF (s : St) : Nat := ((List.range (pot s + 1)).find? fun n => winB n s).getD 0
theorem ndF_spec (s : St) : win (ndF s) s ∧ ∀ m, m < ndF s → ¬ win m s := by
  unfold ndF
  have hp : win (pot s) s := win_pot (Nat.le_refl _)
  cases hf : (List.range (pot s + 1)).find? fun n => winB n s with
  | none =>
    rw [List.find?_eq_none] at hf
    exact absurd (winB_iff.2 hp) (hf (pot s) (by simp))
  | some k =>
    rw [List.find?_range_eq_some] at hf
    refine ⟨winB_iff.1 hf.1, fun m hm h => ?_⟩
    have := hf.2.2 m hm
    rw [winB_iff.2 h] at this
    exact absurd this (by decide)
theorem ndF_pot (s : St) : ndF s ≤ pot s := by
  rcases Nat.lt_or_ge (pot s) (ndF s) with h | h
  · exact absurd (win_pot (Nat.le_refl _)) ((ndF_spec s).2 _ h)
  · exact h
theorem ndF_is {s : St} {n : Nat} (h : win n s) (h2 : ∀ m, m < n → ¬ win m s) : ndF s = n := by
  obtain ⟨k1, k2⟩ := ndF_spec s
  rcases Nat.lt_trichotomy (ndF s) n with hlt | he | hlt
  · exact absurd k1 (h2 _ hlt)
  · exact he
  · exact absurd h (k2 _ hlt)
/-- Is the search for the bound done? -/
def bOk (s : St) (n : Nat) : Bool := decide (s.tubes ≤ 1) || decide (s.wt n ≤ 2 ^ n)
def bndF (s : St) : Nat := ((List.range 12).find? (bOk s)).getD 0
theorem bOk_11 {s : St} (h : s.tubes ≤ 16) : bOk s 11 = true := by
  unfold bOk
  simp only [Bool.or_eq_true, decide_eq_true_eq]
  right
  obtain ⟨a, b, c⟩ := s
  simp only [tubes] at h
  simp only [wt, show tri 11 = 55 by decide, show 2 ^ 11 = 2048 by decide]
  omega
theorem bndF_spec {s : St} (h : s.tubes ≤ 16) : bOk s (bndF s) = true ∧ (∀ m, m < bndF s → bOk s m = false) ∧ bndF s ≤ 11 := by
  unfold bndF
  cases hf : (List.range 12).find? (bOk s) with
  | none =>
    rw [List.find?_eq_none] at hf
    exact absurd (bOk_11 h) (hf 11 (by simp))
  | some k =>
    rw [List.find?_range_eq_some] at hf
    refine ⟨hf.1, fun m hm => ?_, ?_⟩
    · have := hf.2.2 m hm
      simpa using this
    · have := hf.2.1
      simp at this
      show k ≤ 11
      omega
theorem bndF_le_ndF {s : St} (h : s.tubes ≤ 16) : bndF s ≤ ndF s := by
  rcases Nat.lt_or_ge (ndF s) (bndF s) with hlt | hle
  · exfalso
    have h1 := (bndF_spec h).2.1 _ hlt
    have h2 := win_wt (ndF_spec s).1
    unfold bOk at h1
    simp [h2] at h1
  · exact hle
theorem aft_tubes {s x : St} (h : x.Le s) : (s.aft x).tubes ≤ s.tubes ∧ (s.aft (s.rst x)).tubes ≤ s.tubes := by
  obtain ⟨h1, h2, h3⟩ := h
  simp only [tubes, aft, rst]
  omega
theorem rst_le (s x : St) : (s.rst x).Le s := ⟨Nat.sub_le _ _, Nat.sub_le _ _, Nat.sub_le _ _⟩
/-- What the strips find. -/
theorem winB_tried {n : Nat} {s : St} (h2 : 2 ≤ s.tubes) (hw : s.wt (n + 1) ≤ 2 ^ (n + 1)) : winB (n + 1) s = (strips s).any fun x => winB n (s.aft x) && winB n (s.aft (s.rst x)) := by
  conv => lhs; unfold winB
  rw [decide_eq_false (by omega : ¬ s.tubes ≤ 1), decide_eq_true hw]
  simp
end Go.Proofs.Ytpnkbjdeiedhlaa
