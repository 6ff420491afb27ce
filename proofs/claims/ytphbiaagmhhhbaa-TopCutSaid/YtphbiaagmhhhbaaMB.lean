/- Plain: from tick to tick the place becomes greater; the binary search finds the least tick. -/
import Derived.Test.YtphbiaagmhhhbaaRC
namespace Go.Proofs.Ytphbiaagmhhhbaa
open Go.RowKit

theorem tri_succ {n : Int} : (n + 1) * (n + 1 - 1) / 2 = n * (n - 1) / 2 + n := by
  have h : (n + 1) * (n + 1 - 1) = n * (n - 1) + n * 2 := by
    rw [show n + 1 - 1 = n by omega, Int.add_mul, Int.mul_sub, Int.mul_one, Int.one_mul]; omega
  rw [h, Int.add_mul_ediv_right _ _ (by decide)]
theorem len_succ {c g n : Int} : len c g (n + 1) = len c g n + (c + n * g) := by
  unfold len
  rw [tri_succ, Int.mul_add, Int.add_mul, Int.one_mul, Int.mul_comm g n]
  omega
theorem len_zero {c g : Int} : len c g 0 = 0 := by unfold len; simp
theorem len_le {c g : Int} (hc : 0 ≤ c) (hg : 0 ≤ g) {n : Int} (h0 : 0 ≤ n) (k : Nat) : len c g n ≤ len c g (n + k) := by
  induction k with
  | zero => simp
  | succ k ih =>
    have := Int.mul_nonneg (show 0 ≤ n + (k : Int) by omega) hg
    rw [show n + ((k + 1 : Nat) : Int) = n + k + 1 by omega, len_succ]
    omega

theorem plc_at {c t g q r : Int} (hr0 : 0 ≤ r) (hr1 : r < t) : plc c t g (q * t + r) = len c g q + (c + q * g) * r / t := by
  have h1 : (q * t + r) / t = q := by rw [Int.add_comm, Int.add_mul_ediv_right _ _ (by omega), Int.ediv_eq_zero_of_lt hr0 hr1]; omega
  have h2 : (q * t + r) % t = r := by rw [Int.add_comm, Int.add_mul_emod_self_right, Int.emod_eq_of_lt hr0 hr1]
  unfold plc
  rw [h1, h2]
theorem plc_turn {c t g q : Int} (ht : 1 ≤ t) : plc c t g (q * t) = len c g q := by
  have := plc_at (c := c) (g := g) (q := q) (r := 0) (t := t) (by omega) (by omega)
  rw [Int.add_zero] at this
  rw [this]; simp
theorem plc_zero {c t g : Int} : plc c t g 0 = 0 := by unfold plc; simp [len_zero]

theorem plc_step {c t g x : Int} (ht : 1 ≤ t) (htc : t ≤ c) (hg : 0 ≤ g) (hx : 0 ≤ x) : plc c t g x + 1 ≤ plc c t g (x + 1) := by
  have hq : 0 ≤ x / t := Int.ediv_nonneg hx (by omega)
  have hr0 : 0 ≤ x % t := Int.emod_nonneg _ (by omega)
  have hr1 : x % t < t := Int.emod_lt_of_pos _ (by omega)
  have hxe : x = x / t * t + x % t := by have := Int.mul_ediv_add_emod x t; rw [Int.mul_comm] at this; omega
  generalize x / t = q at *
  generalize x % t = r at *
  subst hxe
  have hqg := Int.mul_nonneg hq hg
  rw [plc_at hr0 hr1]
  by_cases h : r + 1 < t
  · rw [show q * t + r + 1 = q * t + (r + 1) by omega, plc_at (by omega) h]
    have : (c + q * g) * r + 1 * t ≤ (c + q * g) * (r + 1) := by rw [Int.mul_add]; omega
    have h2 := Int.ediv_le_ediv (show 0 < t by omega) this
    rw [Int.add_mul_ediv_right _ _ (by omega)] at h2
    omega
  · rw [show q * t + r + 1 = (q + 1) * t by rw [Int.add_mul]; omega, plc_turn ht, len_succ]
    have : (c + q * g) * r / t < c + q * g := Int.ediv_lt_of_lt_mul (by omega) (Int.mul_lt_mul_of_pos_left hr1 (by omega))
    omega
theorem plc_up {c t g x : Int} (ht : 1 ≤ t) (htc : t ≤ c) (hg : 0 ≤ g) (hx : 0 ≤ x) (k : Nat) : plc c t g x + k ≤ plc c t g (x + k) := by
  induction k with
  | zero => simp
  | succ k ih =>
    have := plc_step ht htc hg (show 0 ≤ x + (k : Int) by omega)
    rw [show x + ((k + 1 : Nat) : Int) = x + k + 1 by omega]
    omega
theorem plc_incr {c t g x y : Int} (ht : 1 ≤ t) (htc : t ≤ c) (hg : 0 ≤ g) (hx : 0 ≤ x) (h : x ≤ y) : plc c t g x + (y - x) ≤ plc c t g y := by
  have := plc_up ht htc hg hx (y - x).toNat
  rw [show ((y - x).toNat : Int) = y - x by omega, show x + (y - x) = y by omega] at this
  exact this
theorem plc_lt {c t g x y : Int} (ht : 1 ≤ t) (htc : t ≤ c) (hg : 0 ≤ g) (_ : 0 ≤ x) (h : plc c t g x < plc c t g y) (hy : 0 ≤ y) : x < y := by
  by_cases hxy : x < y
  · exact hxy
  · have := plc_incr ht htc hg hy (show y ≤ x by omega)
    omega

theorem bs_least (p : Int → Bool) {T : Int} : ∀ (k : Nat) (lo hi : Int), (hi - lo).toNat ≤ k → lo ≤ T → T ≤ hi → (∀ x, lo ≤ x → x < T → p x = false) → (∀ x, T ≤ x → x < hi → p x = true) → bs p k lo hi = T := by
  intro k
  induction k with
  | zero => intro lo hi h1 h2 h3 _ _; simp only [bs]; omega
  | succ k ih =>
    intro lo hi h1 h2 h3 hf ht
    simp only [bs]
    by_cases h : lo < hi
    · rw [if_pos h]
      by_cases hT : T ≤ lo + (hi - lo) / 2
      · rw [if_pos (ht _ hT (by omega))]
        exact ih _ _ (by omega) h2 hT hf (fun x h1 h2 => ht x h1 (by omega))
      · rw [if_neg (by rw [hf _ (by omega) (by omega)]; decide)]
        exact ih _ _ (by omega) (by omega) h3 (fun x h1 h2 => hf x (by omega) h2) ht
    · rw [if_neg h]; omega

theorem arr_is {c t g p T : Int} (ht : 1 ≤ t) (htc : t ≤ c) (hg : 0 ≤ g) (h0 : 0 ≤ T) (h1 : T ≤ 1000 * t) (hT : p ≤ plc c t g T) (hb : T = 0 ∨ plc c t g (T - 1) < p) : arr c t g p = T := by
  have hm := plc_incr ht htc hg h0 h1
  unfold arr
  rw [if_neg (by omega)]
  refine bs_least _ _ _ _ (by omega) h0 h1 ?_ ?_
  · intro x hx hxT
    rcases hb with hb | hb
    · omega
    · have := plc_incr ht htc hg hx (show x ≤ T - 1 by omega)
      exact decide_eq_false (by omega)
  · intro x hx _
    have := plc_incr ht htc hg h0 hx
    exact decide_eq_true (by omega)
theorem arr_over {c t g p : Int} (ht : 1 ≤ t) (h : len c g 1000 < p) : arr c t g p = -1 := by
  unfold arr
  rw [plc_turn ht, if_pos h]
/-- What is known of an arrival. -/
theorem arr_of {c t g p : Int} (ht : 1 ≤ t) (htc : t ≤ c) (hg : 0 ≤ g) (hp : p ≤ len c g 1000) :
    0 ≤ arr c t g p ∧ arr c t g p ≤ 1000 * t ∧ p ≤ plc c t g (arr c t g p) ∧ (arr c t g p = 0 ∨ plc c t g (arr c t g p - 1) < p) := by
  have key : ∀ k : Nat, (k : Int) ≤ 1000 * t → p ≤ plc c t g k → ∃ T : Int, 0 ≤ T ∧ T ≤ 1000 * t ∧ p ≤ plc c t g T ∧ (T = 0 ∨ plc c t g (T - 1) < p) := by
    intro k
    induction k with
    | zero => intro h1 h2; exact ⟨0, by omega, by omega, h2, .inl rfl⟩
    | succ k ih =>
      intro h1 h2
      by_cases h : p ≤ plc c t g k
      · exact ih (by omega) h
      · exact ⟨((k + 1 : Nat) : Int), by omega, h1, h2, .inr (by rw [show ((k + 1 : Nat) : Int) - 1 = k by omega]; omega)⟩
  obtain ⟨T, a, b, d, e⟩ := key (1000 * t).toNat (by omega) (by rw [show (((1000 * t).toNat : Nat) : Int) = 1000 * t by omega, plc_turn ht]; exact hp)
  rw [arr_is ht htc hg a b d e]
  exact ⟨a, b, d, e⟩
theorem arr_back {c t g x : Int} (ht : 1 ≤ t) (htc : t ≤ c) (hg : 0 ≤ g) (h0 : 0 ≤ x) (h1 : x ≤ 1000 * t) : arr c t g (plc c t g x) = x := by
  refine arr_is ht htc hg h0 h1 (Int.le_refl _) ?_
  by_cases h : x = 0
  · exact .inl h
  · right
    have := plc_step ht htc hg (show 0 ≤ x - 1 by omega)
    rw [show x - 1 + 1 = x by omega] at this
    omega
/-- Thicker paper: nothing arrives later. -/
theorem arr_mono {c t g k p : Int} (ht : 1 ≤ t) (htc : t ≤ c) (hg : 0 ≤ g) (hgk : g ≤ k) (hp : p ≤ len c g 1000) : arr c t k p ≤ arr c t g p ∧ 0 ≤ arr c t k p := by
  obtain ⟨a, b, d, e⟩ := arr_of ht htc hg hp
  obtain ⟨a', b', d', e'⟩ := arr_of (c := c) (t := t) (g := k) (p := p) ht htc (by omega) (by have := len_mono (c := c) (n := 1000) (by decide) hgk; omega)
  refine ⟨?_, a'⟩
  rcases e' with e' | e'
  · omega
  · by_cases h : arr c t g p < arr c t k p
    · have h1 := plc_incr (c := c) (t := t) (g := k) ht htc (by omega) a (show arr c t g p ≤ arr c t k p - 1 by omega)
      have h2 := plc_mono (c := c) ht a hgk
      omega
    · omega
end Go.Proofs.Ytphbiaagmhhhbaa
