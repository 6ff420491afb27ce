/- TopCut's plain law: what is cut, played, and heard on the thickest paper. -/
import Derived.Test.YtphbiaagmhhhbaaTF
import Derived.Test.YtphbiaagmhhhbaaOD
namespace Go.Proofs.Ytphbiaagmhhhbaa

/-- When a note is heard on the thickest paper. -/
def lateF (c t hi g x : Int) : Int := arr c t hi (plc c t g x)

section
variable {c t hi g : Int} (hs : Sound c t 2 hi) (h0 : 2 ≤ g) (h1 : g ≤ hi)
include hs h0 h1
theorem late_le {x : Int} (hx : 0 ≤ x ∧ x ≤ 1000 * t) : plc c t g x ≤ len c g 1000 := by
  have ht := hs.2.1.1
  have _u := h1
  have h := plc_incr (c := c) (t := t) (g := g) ht hs.2.1.2 (by omega) hx.1 hx.2
  rw [plc_turn ht] at h
  omega
theorem late_bd {x : Int} (hx : 0 ≤ x ∧ x ≤ 1000 * t) : 0 ≤ lateF c t hi g x ∧ lateF c t hi g x ≤ x := by
  have ht := hs.2.1.1
  have h := arr_mono (c := c) (t := t) (g := g) (k := hi) ht hs.2.1.2 (by omega) h1 (late_le hs h0 h1 hx)
  rw [arr_back ht hs.2.1.2 (by omega) hx.1 hx.2] at h
  exact ⟨h.2, h.1⟩
theorem late_play {l : List Int} (hl : l.length ≤ 100) (hx : ∀ x ∈ l, 0 ≤ x ∧ x ≤ 1000 * t) : playF c t 2 hi hi (l.map (plc c t g)) = (l.map (lateF c t hi g), 0) := by
  have ht := hs.2.1.1
  unfold playF
  rw [if_pos ⟨hs, by omega, Int.le_refl _⟩, if_neg (by simp; omega), if_pos]
  · rw [List.map_map]
    rfl
  · refine ferr_all fun y hy => ?_
    obtain ⟨x, hxl, rfl⟩ := List.mem_map.1 hy
    have hb := late_bd hs h0 h1 (hx x hxl)
    have hp := plc_bd (c := c) (t := t) (g := g) ht hs.2.1.2 hs.1.2 (by omega) (by have := hs.2.2.2.2; omega) (hx x hxl).1 (hx x hxl).2
    unfold lateF at hb
    unfold placedF
    rw [if_neg (by omega), if_neg (by omega)]
theorem late_drift {x : Int} (hx : 0 ≤ x ∧ x ≤ 1000 * t) : ∃ a b e, driftF c t 2 hi g x = (a, b, e) ∧ ((e = 0 ∧ a ≤ lateF c t hi g x ∧ lateF c t hi g x ≤ b) ∨ (e = 11 ∧ a = 0 ∧ b = 0)) := by
  have ht := hs.2.1.1
  have hp := plc_bd (c := c) (t := t) (g := g) ht hs.2.1.2 hs.1.2 (by omega) (by have := hs.2.2.2.2; omega) hx.1 hx.2
  unfold driftF arrivalF
  rw [if_pos ⟨hs, ⟨h0, h1⟩, hx⟩, if_pos ⟨hs, hp.1⟩]
  by_cases h : min (arr c t 2 (plc c t g x)) (arr c t hi (plc c t g x)) < 0
  · rw [if_pos h]
    exact ⟨0, 0, 11, rfl, .inr ⟨rfl, rfl, rfl⟩⟩
  · rw [if_neg h]
    refine ⟨_, _, 0, rfl, .inl ⟨rfl, ?_, ?_⟩⟩ <;> unfold lateF <;> omega
end

/-- The greatest error of notes. -/
def farF (c t hi g : Int) (far : Int) : List Int → Int
  | [] => far
  | x :: l => farF c t hi g (max (max far (x - lateF c t hi g x)) (lateF c t hi g x - x)) l
theorem farF_snoc (c t hi g : Int) (l : List Int) : ∀ (far x : Int), farF c t hi g far (l ++ [x]) = max (max (farF c t hi g far l) (x - lateF c t hi g x)) (lateF c t hi g x - x) := by
  induction l with
  | nil => intro far x; rfl
  | cons y l ih => intro far x; exact ih _ x
theorem farF_ge {c t hi g : Int} (l : List Int) : ∀ (far : Int), far ≤ farF c t hi g far l ∧ ∀ x ∈ l, x - lateF c t hi g x ≤ farF c t hi g far l ∧ lateF c t hi g x - x ≤ farF c t hi g far l := by
  induction l with
  | nil => intro far; exact ⟨Int.le_refl _, fun x hx => by cases hx⟩
  | cons y l ih =>
    intro far
    obtain ⟨h1, h2⟩ := ih (max (max far (y - lateF c t hi g y)) (lateF c t hi g y - y))
    refine ⟨by unfold farF; omega, fun x hx => ?_⟩
    rcases List.mem_cons.1 hx with rfl | hx
    · unfold farF
      omega
    · exact h2 x hx

/-- The times of a row of notes: an offset and steps of K. -/
def timesF (o K : Nat) (rs : List Nat) : List Int := rs.map fun (r : Nat) => ((o % K : Nat) : Int) + (K : Int) * ((r % 20 : Nat) : Int)
theorem times_mem {o K : Nat} {rs : List Nat} (hK : 5 ≤ K) (hK1 : K ≤ 34) {x : Int} (hx : x ∈ timesF o K rs) : 0 ≤ x ∧ x ≤ 679 ∧ x % (K : Int) = ((o % K : Nat) : Int) := by
  obtain ⟨r, _, rfl⟩ := List.mem_map.1 hx
  have h1 := Nat.mod_lt o (show 0 < K by omega)
  have h2 := Nat.mod_lt r (show 0 < 20 by omega)
  have h3 := Nat.mul_le_mul hK1 (show r % 20 ≤ 19 by omega)
  have h3' : (K : Int) * ((r % 20 : Nat) : Int) = ((K * (r % 20) : Nat) : Int) := by push_cast; rfl
  refine ⟨by rw [h3']; omega, by rw [h3']; omega, ?_⟩
  rw [Int.add_mul_emod_self_left]
  exact Int.emod_eq_of_lt (by omega) (by omega)

theorem stepsF_one {off K : Int} {ls : List (List Int)} (h : stepOk off ls K ls.length = true) : stepsF off ls K (K + 1 - K).toNat = [K] := by
  rw [show (K + 1 - K).toNat = 1 by omega]
  have e : stepsF off ls K 1 = if stepOk off ls (K + ((0 : Nat) : Int)) ls.length then [] ++ [K + ((0 : Nat) : Int)] else [] := rfl
  rw [e, show K + ((0 : Nat) : Int) = K by omega, if_pos h]
  rfl
theorem allows_times {o K : Nat} {rs : List Nat} (hK : 5 ≤ K) (hK1 : K ≤ 34) (hr : rs ≠ []) : allowsF 0 (K : Int) (timesF o K rs) = true := by
  refine allows_true (o := ((o % K : Nat) : Int)) (by omega) (Int.le_refl _) (by unfold timesF; simpa using hr) fun p hp => ⟨p, ?_, by omega, by omega⟩
  rw [(times_mem hK hK1 hp).2.2]
  exact (Int.emod_eq_of_lt (by omega) (by have := Nat.mod_lt o (show 0 < K by omega); omega)).symm
theorem allows_lates {c t hi g off : Int} {o K : Nat} {rs : List Nat} (hK : 5 ≤ K) (hK1 : K ≤ 34) (hr : rs ≠ []) (hoff : 0 ≤ off) (h : ∀ x ∈ timesF o K rs, x - lateF c t hi g x ≤ off ∧ lateF c t hi g x - x ≤ off) :
    allowsF off (K : Int) ((timesF o K rs).map (lateF c t hi g)) = true := by
  refine allows_true (o := ((o % K : Nat) : Int)) (by omega) hoff (by unfold timesF; simpa using hr) fun p hp => ?_
  obtain ⟨x, hx, rfl⟩ := List.mem_map.1 hp
  have hb := h x hx
  refine ⟨x, ?_, by omega, by omega⟩
  rw [(times_mem hK hK1 hx).2.2]
  exact (Int.emod_eq_of_lt (by omega) (by have := Nat.mod_lt o (show 0 < K by omega); omega)).symm

theorem ex_steps : stepsF 1 [[10, 24, 31, 45], [3, 17]] 5 4 = [5, 7] := by decide +kernel
end Go.Proofs.Ytphbiaagmhhhbaa
