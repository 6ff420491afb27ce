/- Plain: more tubes, or fewer mistakes, do not need fewer strips; no lies; one lie. -/
import Derived.Test.YtpnkbjdeiedhlaaPA
namespace Go.Proofs.Ytpnkbjdeiedhlaa
open Go.RowKit Go.Lib Go.Shelf
open St

/-- Each tube of s stands for one of t that can bear as much. -/
def Dom (s t : St) : Prop := s.a ≤ t.a ∧ s.a + s.b ≤ t.a + t.b ∧ s.a + s.b + s.c ≤ t.a + t.b + t.c
/-- One step down. -/
inductive Down : St → St → Prop where
  | gone (a b c : Nat) : Down ⟨a, b, c⟩ ⟨a, b, c + 1⟩
  | bc (a b c : Nat) : Down ⟨a, b, c + 1⟩ ⟨a, b + 1, c⟩
  | ab (a b c : Nat) : Down ⟨a, b + 1, c⟩ ⟨a + 1, b, c⟩
theorem down_strip {s t x : St} (h : Down s t) (hx : x.Le t) : ∃ y : St, y.Le s ∧ Dom (s.aft y) (t.aft x) ∧ Dom (s.aft (s.rst y)) (t.aft (t.rst x)) := by
  obtain ⟨i, j, k⟩ := x
  cases h with
  | gone a b c =>
    obtain ⟨h1, h2, h3⟩ := hx
    dsimp only at h1 h2 h3
    by_cases e : k ≤ c
    · exact ⟨⟨i, j, k⟩, ⟨h1, h2, e⟩, by simp only [Dom, aft]; omega, by simp only [Dom, aft, rst]; omega⟩
    · exact ⟨⟨i, j, k - 1⟩, ⟨h1, h2, (by omega : k - 1 ≤ c)⟩, by simp only [Dom, aft]; omega, by simp only [Dom, aft, rst]; omega⟩
  | bc a b c =>
    obtain ⟨h1, h2, h3⟩ := hx
    dsimp only at h1 h2 h3
    by_cases e : j ≤ b
    · exact ⟨⟨i, j, k⟩, ⟨h1, e, (by omega : k ≤ c + 1)⟩, by simp only [Dom, aft]; omega, by simp only [Dom, aft, rst]; omega⟩
    · exact ⟨⟨i, b, k + 1⟩, ⟨h1, Nat.le_refl _, (by omega : k + 1 ≤ c + 1)⟩, by simp only [Dom, aft]; omega, by simp only [Dom, aft, rst]; omega⟩
  | ab a b c =>
    obtain ⟨h1, h2, h3⟩ := hx
    dsimp only at h1 h2 h3
    by_cases e : i ≤ a
    · exact ⟨⟨i, j, k⟩, ⟨e, (by omega : j ≤ b + 1), h3⟩, by simp only [Dom, aft]; omega, by simp only [Dom, aft, rst]; omega⟩
    · exact ⟨⟨a, j + 1, k⟩, ⟨Nat.le_refl _, (by omega : j + 1 ≤ b + 1), h3⟩, by simp only [Dom, aft]; omega, by simp only [Dom, aft, rst]; omega⟩
theorem dom_step {s t : St} (h : Dom s t) : s = t ∨ ∃ t', Down t' t ∧ Dom s t' ∧ pot t' < pot t := by
  obtain ⟨a, b, c⟩ := s
  obtain ⟨d, e, f⟩ := t
  obtain ⟨h1, h2, h3⟩ := h
  dsimp only at h1 h2 h3
  by_cases k3 : a + b + c < d + e + f
  · by_cases kf : 0 < f
    · obtain ⟨f, rfl⟩ : ∃ g, f = g + 1 := ⟨f - 1, by omega⟩
      exact .inr ⟨_, .gone d e f, ⟨h1, h2, by dsimp only; omega⟩, by simp only [pot]; omega⟩
    · by_cases ke : 0 < e
      · obtain ⟨e, rfl⟩ : ∃ g, e = g + 1 := ⟨e - 1, by omega⟩
        exact .inr ⟨_, .bc d e f, ⟨h1, by dsimp only; omega, by dsimp only; omega⟩, by simp only [pot]; omega⟩
      · obtain ⟨d, rfl⟩ : ∃ g, d = g + 1 := ⟨d - 1, by omega⟩
        exact .inr ⟨_, .ab d e f, ⟨by dsimp only; omega, by dsimp only; omega, by dsimp only; omega⟩, by simp only [pot]; omega⟩
  · by_cases k2 : a + b < d + e
    · by_cases ke : 0 < e
      · obtain ⟨e, rfl⟩ : ∃ g, e = g + 1 := ⟨e - 1, by omega⟩
        exact .inr ⟨_, .bc d e f, ⟨h1, by dsimp only; omega, by dsimp only; omega⟩, by simp only [pot]; omega⟩
      · obtain ⟨d, rfl⟩ : ∃ g, d = g + 1 := ⟨d - 1, by omega⟩
        exact .inr ⟨_, .ab d e f, ⟨by dsimp only; omega, by dsimp only; omega, by dsimp only; omega⟩, by simp only [pot]; omega⟩
    · by_cases k1 : a < d
      · obtain ⟨d, rfl⟩ : ∃ g, d = g + 1 := ⟨d - 1, by omega⟩
        exact .inr ⟨_, .ab d e f, ⟨by dsimp only; omega, by dsimp only; omega, by dsimp only; omega⟩, by simp only [pot]; omega⟩
      · exact .inl (St.ext' (by dsimp only; omega) (by dsimp only; omega) (by dsimp only; omega))
theorem win_dom {n : Nat} : ∀ {s t : St}, Dom s t → win n t → win n s := by
  induction n with
  | zero => exact fun {s t} h hw => Nat.le_trans h.2.2 hw
  | succ n ih =>
    have hd : ∀ {s t : St}, Down s t → win (n + 1) t → win (n + 1) s := by
      intro s t h hw
      rcases hw with hw | ⟨x, hx, h1, h2⟩
      · left
        cases h <;> simp only [tubes] at hw ⊢ <;> omega
      · obtain ⟨y, hy, g1, g2⟩ := down_strip h hx
        exact .inr ⟨y, hy, ih g1 h1, ih g2 h2⟩
    have hk : ∀ (k : Nat) {s t : St}, pot t ≤ k → Dom s t → win (n + 1) t → win (n + 1) s := by
      intro k
      induction k with
      | zero =>
        intro s t hp h hw
        rcases dom_step h with rfl | ⟨t', _, _, h3⟩
        · exact hw
        · omega
      | succ k ihk =>
        intro s t hp h hw
        rcases dom_step h with rfl | ⟨t', h1, h2, h3⟩
        · exact hw
        · exact ihk (by omega) h2 (hd h1 hw)
    intro s t h hw
    exact hk _ (Nat.le_refl _) h hw
theorem ndF_dom {s t : St} (h : Dom s t) : ndF s ≤ ndF t := by
  rcases Nat.lt_or_ge (ndF t) (ndF s) with hlt | hle
  · exact absurd (win_dom h (ndF_spec t).1) ((ndF_spec s).2 _ hlt)
  · exact hle
theorem ndF_le {s : St} {n : Nat} (h : win n s) : ndF s ≤ n := by
  rcases Nat.lt_or_ge n (ndF s) with hlt | hle
  · exact absurd h ((ndF_spec s).2 _ hlt)
  · exact hle

/-! ### No lies. -/
theorem win_plain {p : Nat} : ∀ {n : Nat}, n ≤ 2 ^ p → win p ⟨0, 0, n⟩ := by
  induction p with
  | zero => exact fun {n} h => by show 0 + 0 + n ≤ 1; simpa using h
  | succ p ih =>
    intro n h
    rw [Nat.pow_succ] at h
    refine .inr ⟨⟨0, 0, n / 2⟩, ⟨Nat.le_refl _, Nat.le_refl _, Nat.div_le_self _ _⟩, ?_, ?_⟩
    · exact ih (n := n / 2 + (0 - 0)) (by omega)
    · exact ih (n := n - n / 2 + (0 - (0 - 0))) (by omega)
theorem ndF_plain {n p : Nat} (h1 : n ≤ 2 ^ p) (h2 : ∀ m, m < p → 2 ^ m < n) : ndF ⟨0, 0, n⟩ = p :=
  ndF_is (win_plain h1) (fun m hm hw => by
    have := win_wt hw
    have := h2 m hm
    simp only [wt] at *
    omega)

/-! ### One lie. -/
/-- By halves. -/
def half (s : St) : St := ⟨(s.a + 1) / 2, if s.a % 2 = 1 then s.b / 2 else (s.b + 1) / 2, if (s.a + s.b) % 2 = 1 then s.c / 2 else (s.c + 1) / 2⟩
theorem half_le (s : St) : (half s).Le s := by
  unfold half
  refine ⟨?_, ?_, ?_⟩
  · dsimp only; omega
  · dsimp only; split <;> omega
  · dsimp only; split <;> omega
def hv : Nat → St → Bool
  | 0, s => decide (s.tubes ≤ 1)
  | n + 1, s => decide (s.tubes ≤ 1) || (hv n (s.aft (half s)) && hv n (s.aft (s.rst (half s))))
theorem hv_win {n : Nat} : ∀ {s : St}, hv n s = true → win n s := by
  induction n with
  | zero => exact fun {s} h => by show s.tubes ≤ 1; simpa [hv] using h
  | succ n ih =>
    intro s h
    unfold hv at h
    rw [Bool.or_eq_true, Bool.and_eq_true, decide_eq_true_eq] at h
    rcases h with h | ⟨h1, h2⟩
    · exact .inl h
    · exact .inr ⟨_, half_le s, ih h1, ih h2⟩
theorem one_lie_all : ∀ n, n < 17 → hv (bndF ⟨0, n, 0⟩ + 1) ⟨0, n, 0⟩ = true := by decide +kernel
theorem one_lie {n : Nat} (h : n ≤ 16) : bndF ⟨0, n, 0⟩ ≤ ndF ⟨0, n, 0⟩ ∧ ndF ⟨0, n, 0⟩ ≤ bndF ⟨0, n, 0⟩ + 1 :=
  ⟨bndF_le_ndF (by simp only [tubes]; omega), ndF_le (hv_win (one_lie_all n (by omega)))⟩
/-- Many tubes and lies need no more than this. -/
theorem needed_25 : ∀ L, L < 3 → ∀ n, n < 11 → hv 20 (if L = 0 then ⟨0, 0, n⟩ else if L = 1 then ⟨0, n, 0⟩ else ⟨n, 0, 0⟩) = true := by decide +kernel
end Go.Proofs.Ytpnkbjdeiedhlaa
