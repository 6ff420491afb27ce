/- Plain: a state and a strip by numbers; what both answers leave; the sum of the ways. -/
import Derived.Test.YtpnkbjdeiedhlaaRW
import Derived.Test.YtpnkbjdeiedhlaaPC
namespace Go.Proofs.Ytpnkbjdeiedhlaa
open Go.RowKit Go.Lib Go.Shelf
open St

theorem ask1 {v : St → Nat} {n : Nat} (h : n ≤ 16) : askF v [(n : Int)] = (v ⟨0, 0, n⟩ : Int) ∧ gchk [(n : Int)] = 0 := by
  have g : gchk [(n : Int)] = 0 := by
    unfold gchk
    rw [if_pos (by simp)]
    unfold gl
    rw [if_pos (by omega)]
    unfold gl
    rw [if_neg (by omega)]
  refine ⟨?_, g⟩
  unfold askF
  rw [if_pos g]
  show ((v ⟨0, 0, ((n : Int)).toNat⟩ : Nat) : Int) = _
  rw [Int.toNat_natCast]
theorem ask2 {v : St → Nat} {n m : Nat} (h : n + m ≤ 16) : askF v [(n : Int), (m : Int)] = (v ⟨0, n, m⟩ : Int) ∧ gchk [(n : Int), (m : Int)] = 0 := by
  have g : gchk [(n : Int), (m : Int)] = 0 := by
    unfold gchk
    rw [if_pos (by simp)]
    unfold gl
    rw [if_pos (by omega)]
    unfold gl
    rw [if_pos (by omega)]
    unfold gl
    rw [if_neg (by omega)]
  refine ⟨?_, g⟩
  unfold askF
  rw [if_pos g]
  show ((v ⟨0, ((n : Int)).toNat, ((m : Int)).toNat⟩ : Nat) : Int) = _
  rw [Int.toNat_natCast, Int.toNat_natCast]
theorem ask3 {v : St → Nat} {n m k : Nat} (h : n + m + k ≤ 16) : askF v [(n : Int), (m : Int), (k : Int)] = (v ⟨n, m, k⟩ : Int) ∧ gchk [(n : Int), (m : Int), (k : Int)] = 0 := by
  have g : gchk [(n : Int), (m : Int), (k : Int)] = 0 := by
    unfold gchk
    rw [if_pos (by simp)]
    unfold gl
    rw [if_pos (by omega)]
    unfold gl
    rw [if_pos (by omega)]
    unfold gl
    rw [if_pos (by omega)]
    unfold gl
    rw [if_neg (by omega)]
  refine ⟨?_, g⟩
  unfold askF
  rw [if_pos g]
  show ((v ⟨((n : Int)).toNat, ((m : Int)).toNat, ((k : Int)).toNat⟩ : Nat) : Int) = _
  rw [Int.toNat_natCast, Int.toNat_natCast, Int.toNat_natCast]
/-- A state of k numbers. -/
def stF (k : Nat) (f : Nat → Nat) : St := if k = 1 then ⟨0, 0, f 0⟩ else if k = 2 then ⟨0, f 0, f 1⟩ else ⟨f 0, f 1, f 2⟩
/-- The list of a function of natural numbers. -/
abbrev ln (k : Nat) (f : Nat → Nat) : List Int := lst k (fun m => (f m : Int))
theorem ln_ask {k : Nat} (hk : 1 ≤ k ∧ k ≤ 3) {f : Nat → Nat} (h : (stF k f).tubes ≤ 16) : (∀ v : St → Nat, askF v (ln k f) = (v (stF k f) : Int)) ∧ gchk (ln k f) = 0 := by
  have : k = 1 ∨ k = 2 ∨ k = 3 := by omega
  rcases this with rfl | rfl | rfl
  · have h1 : f 0 ≤ 16 := by simp only [stF, tubes] at h; simpa using h
    exact ⟨fun v => (ask1 h1).1, (ask1 (v := ndF) h1).2⟩
  · have h1 : f 0 + f 1 ≤ 16 := by simp only [stF, tubes] at h; simpa using h
    exact ⟨fun v => (ask2 h1).1, (ask2 (v := ndF) h1).2⟩
  · have h1 : f 0 + f 1 + f 2 ≤ 16 := by simp only [stF, tubes] at h; simpa using h
    exact ⟨fun v => (ask3 h1).1, (ask3 (v := ndF) h1).2⟩
theorem ln_wt {k : Nat} (hk : 1 ≤ k ∧ k ≤ 3) {f : Nat → Nat} (h : (stF k f).tubes ≤ 16) {n : Nat} (hn : n ≤ 40) : WtF (ln k f) (n : Int) = ((stF k f).wt n : Int) ∧ WtE (ln k f) (n : Int) = 0 := by
  obtain ⟨h1, h2⟩ := ln_ask hk h
  have e : WtE (ln k f) (n : Int) = 0 := by
    unfold WtE
    rw [if_neg (fun h => h h2), if_pos (by omega)]
  refine ⟨?_, e⟩
  unfold WtF
  rw [if_pos e, Int.toNat_natCast]
  have := h1 (fun s => s.wt n)
  unfold askF at this
  rw [if_pos h2] at this
  exact this
/-- What the answers yes and no leave. -/
def ysF (n i : Nat → Nat) (j m : Nat) : Nat := (if m < j then i m else 0) + (if 1 ≤ m ∧ m - 1 < j then n (m - 1) - i (m - 1) else 0)
def noF (n i : Nat → Nat) (j m : Nat) : Nat := (if m < j then n m - i m else 0) + (if 1 ≤ m ∧ m - 1 < j then i (m - 1) else 0)
theorem ys_step (n i : Nat → Nat) {j k : Nat} (hi : ∀ m, i m ≤ n m) : (∀ m, m < k → (ysF n i (j + 1) m : Int) = if m = j + 1 then (ysF n i j (j + 1) : Int) + ((n j : Int) - (i j : Int)) else if m = j then (ysF n i j j : Int) + (i j : Int) else (ysF n i j m : Int)) ∧
    ∀ m, m < k → (noF n i (j + 1) m : Int) = if m = j + 1 then (noF n i j (j + 1) : Int) + (i j : Int) else if m = j then (noF n i j j : Int) + ((n j : Int) - (i j : Int)) else (noF n i j m : Int) := by
  have h1 := hi j
  constructor
  · intro m _
    unfold ysF
    by_cases e : m = j + 1
    · subst e
      rw [if_pos rfl, if_neg (by omega), if_pos (by omega), if_neg (by omega), if_neg (by omega), Nat.add_sub_cancel]
      omega
    · rw [if_neg e]
      by_cases e2 : m = j
      · subst e2
        rw [if_pos rfl, if_pos (by omega), if_neg (by omega : ¬ m < m)]
        by_cases e3 : 1 ≤ m
        · rw [if_pos (by omega), if_pos (by omega)]; omega
        · rw [if_neg (by omega), if_neg (by omega)]; omega
      · rw [if_neg e2]
        by_cases e3 : m < j
        · rw [if_pos (by omega), if_pos e3]
          by_cases e4 : 1 ≤ m
          · rw [if_pos (by omega), if_pos (by omega)]
          · rw [if_neg (by omega), if_neg (by omega)]
        · rw [if_neg (by omega), if_neg e3, if_neg (by omega), if_neg (by omega)]
  · intro m _
    unfold noF
    by_cases e : m = j + 1
    · subst e
      rw [if_pos rfl, if_neg (by omega), if_pos (by omega), if_neg (by omega), if_neg (by omega), Nat.add_sub_cancel]
      omega
    · rw [if_neg e]
      by_cases e2 : m = j
      · subst e2
        rw [if_pos rfl, if_pos (by omega), if_neg (by omega : ¬ m < m)]
        by_cases e3 : 1 ≤ m
        · rw [if_pos (by omega), if_pos (by omega)]; omega
        · rw [if_neg (by omega), if_neg (by omega)]; omega
      · rw [if_neg e2]
        by_cases e3 : m < j
        · rw [if_pos (by omega), if_pos e3]
          by_cases e4 : 1 ≤ m
          · rw [if_pos (by omega), if_pos (by omega)]
          · rw [if_neg (by omega), if_neg (by omega)]
        · rw [if_neg (by omega), if_neg e3, if_neg (by omega), if_neg (by omega)]
theorem ys_le (n i : Nat → Nat) (hi : ∀ m, i m ≤ n m) (hn : ∀ m, n m ≤ 4) (j m : Nat) : ysF n i j m ≤ 8 ∧ noF n i j m ≤ 8 := by
  have a1 := hi m
  have a2 := hi (m - 1)
  have a3 := hn m
  have a4 := hn (m - 1)
  unfold ysF noF
  constructor <;> (split <;> split <;> omega)
theorem stF_le {k : Nat} {n i : Nat → Nat} (hi : ∀ m, i m ≤ n m) : (stF k i).Le (stF k n) := by
  unfold stF
  split
  · exact ⟨Nat.le_refl _, Nat.le_refl _, hi 0⟩
  · split
    · exact ⟨Nat.le_refl _, hi 0, hi 1⟩
    · exact ⟨hi 0, hi 1, hi 2⟩
theorem stF_tubes {k : Nat} {n : Nat → Nat} (hn : ∀ m, n m ≤ 4) : (stF k n).tubes ≤ 12 := by
  have := hn 0
  have := hn 1
  have := hn 2
  unfold stF
  split
  · simp only [tubes]; omega
  · split <;> (simp only [tubes]; omega)
theorem stF_ys {k : Nat} (hk : 1 ≤ k ∧ k ≤ 3) {n i : Nat → Nat} (hi : ∀ m, i m ≤ n m) : stF k (ysF n i k) = (stF k n).aft (stF k i) ∧ stF k (noF n i k) = (stF k n).aft ((stF k n).rst (stF k i)) := by
  have i0 := hi 0
  have i1 := hi 1
  have i2 := hi 2
  have : k = 1 ∨ k = 2 ∨ k = 3 := by omega
  rcases this with rfl | rfl | rfl
  · simp only [stF, ysF, noF, aft, rst]
    constructor <;> (refine St.ext' ?_ ?_ ?_ <;> simp)
  · simp only [stF, ysF, noF, aft, rst]
    constructor <;> (refine St.ext' ?_ ?_ ?_ <;> simp)
    omega
  · simp only [stF, ysF, noF, aft, rst]
    constructor <;> (refine St.ext' ?_ ?_ ?_ <;> simp)
    all_goals omega
/-- The first q ways, together. -/
def wsum (n : Nat) : Nat → Nat
  | 0 => 0
  | q + 1 => wsum n q + bin n q
theorem bin_small {n q : Nat} (hn : n ≤ 12) : bin n q ≤ 4096 := Nat.le_trans (bin_le n q) (Nat.le_trans (Nat.pow_le_pow_right (by omega) hn) (by decide))
theorem wsum_small {n : Nat} (hn : n ≤ 12) : ∀ q, q ≤ 3 → wsum n q ≤ q * 4096
  | 0, _ => Nat.le_refl _
  | q + 1, h => by
    have h1 := wsum_small hn q (by omega)
    have h2 := bin_small (q := q) hn
    unfold wsum
    omega
/-- The sum, and how many tubes, behind j kinds. -/
def smF (k n : Nat) (f : Nat → Nat) : Nat → Nat
  | 0 => 0
  | j + 1 => smF k n f j + f j * wsum n (k - j)
def ctF (f : Nat → Nat) : Nat → Nat
  | 0 => 0
  | j + 1 => ctF f j + f j
theorem smF_small {k n : Nat} (hk : k ≤ 3) (hn : n ≤ 12) {f : Nat → Nat} (hf : ∀ m, f m ≤ 4) : ∀ j, smF k n f j ≤ j * 49152
  | 0 => Nat.le_refl _
  | j + 1 => by
    have h1 := smF_small hk hn hf j
    have h2 := wsum_small hn (k - j) (by omega)
    have h3 : f j * wsum n (k - j) ≤ 4 * 12288 := Nat.mul_le_mul (hf j) (by omega)
    unfold smF
    omega
theorem ctF_small {f : Nat → Nat} (hf : ∀ m, f m ≤ 4) : ∀ j, ctF f j ≤ j * 4
  | 0 => Nat.le_refl _
  | j + 1 => by
    have h1 := ctF_small hf j
    have := hf j
    unfold ctF
    omega
theorem smF_wt {k n : Nat} (hk : 1 ≤ k ∧ k ≤ 3) (f : Nat → Nat) : smF k n f k = (stF k f).wt n ∧ ctF f k = (stF k f).tubes := by
  have b0 := bin_0 n
  have b1 := bin_1 n
  have b2 := bin_2 n
  have w1 : wsum n 1 = 1 := by simp only [wsum, b0]
  have w2 : wsum n 2 = n + 1 := by simp only [wsum, b0, b1]; omega
  have w3 : wsum n 3 = n + 1 + tri n := by simp only [wsum, b0, b1, b2]; omega
  have : k = 1 ∨ k = 2 ∨ k = 3 := by omega
  rcases this with rfl | rfl | rfl
  · simp only [smF, ctF, stF, wt, tubes]
    simp [w1]
  · simp only [smF, ctF, stF, wt, tubes]
    simp [w1, w2]
  · simp only [smF, ctF, stF, wt, tubes]
    simp [w1, w2, w3]
end Go.Proofs.Ytpnkbjdeiedhlaa
