/- The circle of offsets: if all arcs have an offset in common, the first one of some arc is such a one. -/
import Derived.Test.YtphbiaagmhhhbaaMB
namespace Go.Proofs.Ytphbiaagmhhhbaa

/-- The arc of a position: its first offset, and how many it has. -/
def arcF (off step p : Int) : Int × Int := if step ≤ 2 * off + 1 then (0, step) else ((p - off) % step, 2 * off + 1)
/-- Is an offset on an arc? -/
def hasB (a : Int × Int) (o step : Int) : Bool := decide ((o - a.1) % step < a.2)
def arcAdd (off step : Int) (out : List (Int × Int)) (p : Int) : List (Int × Int) := if out.any (fun b => decide (arcF off step p = b)) then out else out ++ [arcF off step p]
/-- The arcs of positions, equal ones once. -/
def arcsF (off step : Int) (l : List Int) : List (Int × Int) := l.foldl (arcAdd off step) []
/-- Are all arcs there from this one's first offset? -/
def commonB (A : List (Int × Int)) (step : Int) (a : Int × Int) : Bool := !A.any fun b => !hasB b a.1 step
def allowsF (off step : Int) (l : List Int) : Bool := (arcsF off step l).any (commonB (arcsF off step l) step)

theorem arcAdd_mem {off step : Int} {out : List (Int × Int)} {p : Int} {a : Int × Int} (h : a ∈ arcAdd off step out p) : a ∈ out ∨ a = arcF off step p := by
  unfold arcAdd at h
  split at h
  · exact .inl h
  · simpa using h
theorem arcs_mem' {off step : Int} {l : List Int} : ∀ {out : List (Int × Int)} {a : Int × Int}, a ∈ l.foldl (arcAdd off step) out → a ∈ out ∨ ∃ p ∈ l, a = arcF off step p := by
  induction l with
  | nil => intro out a h; exact .inl h
  | cons p l ih =>
    intro out a h
    rcases ih h with h | ⟨q, hq, rfl⟩
    · rcases arcAdd_mem h with h | rfl
      · exact .inl h
      · exact .inr ⟨p, by simp, rfl⟩
    · exact .inr ⟨q, by simp [hq], rfl⟩
theorem arcs_mem {off step : Int} {l : List Int} {a : Int × Int} (h : a ∈ arcsF off step l) : ∃ p ∈ l, a = arcF off step p := by
  rcases arcs_mem' h with h | h
  · cases h
  · exact h
theorem arcAdd_ne {off step : Int} (out : List (Int × Int)) (p : Int) : arcAdd off step out p ≠ [] := by
  unfold arcAdd
  split
  · intro h
    simp_all
  · simp
theorem arcs_ne' {off step : Int} {l : List Int} : ∀ {out : List (Int × Int)}, out ≠ [] → l.foldl (arcAdd off step) out ≠ [] := by
  induction l with
  | nil => intro out h; exact h
  | cons p l ih => intro out _; exact ih (arcAdd_ne out p)
theorem arcs_ne {off step : Int} {l : List Int} (h : l ≠ []) : arcsF off step l ≠ [] := by
  cases l with
  | nil => exact absurd rfl h
  | cons p l => exact arcs_ne' (l := l) (out := arcAdd off step [] p) (arcAdd_ne [] p)
theorem arcAdd_length {off step : Int} (out : List (Int × Int)) (p : Int) : (arcAdd off step out p).length ≤ out.length + 1 := by
  unfold arcAdd
  split
  · omega
  · simp
theorem arcs_length' {off step : Int} {l : List Int} : ∀ {out : List (Int × Int)}, (l.foldl (arcAdd off step) out).length ≤ out.length + l.length := by
  induction l with
  | nil => intro out; simp
  | cons p l ih =>
    intro out
    have h1 := ih (out := arcAdd off step out p)
    have h2 := arcAdd_length (off := off) (step := step) out p
    simp only [List.foldl_cons, List.length_cons]
    omega
theorem arcs_length {off step : Int} (l : List Int) : (arcsF off step l).length ≤ l.length := by
  have := arcs_length' (off := off) (step := step) (l := l) (out := [])
  simpa [arcsF] using this
theorem arcs_snoc (off step : Int) (l : List Int) (p : Int) : arcsF off step (l ++ [p]) = arcAdd off step (arcsF off step l) p := by
  unfold arcsF
  rw [List.foldl_append]
  rfl

/-- Some element of a list that isn't empty has the least measure. -/
theorem least_of {α : Type} (f : α → Int) : ∀ (l : List α), l ≠ [] → ∃ a ∈ l, ∀ b ∈ l, f a ≤ f b
  | [], h => absurd rfl h
  | [a], _ => ⟨a, by simp, by simp⟩
  | a :: b :: l, _ => by
    obtain ⟨c, hc, hl⟩ := least_of f (b :: l) (by simp)
    by_cases h : f a ≤ f c
    · refine ⟨a, by simp, fun d hd => ?_⟩
      rcases List.mem_cons.1 hd with rfl | hd
      · exact Int.le_refl _
      · exact Int.le_trans h (hl d hd)
    · refine ⟨c, by simp [List.mem_cons.1 hc], fun d hd => ?_⟩
      rcases List.mem_cons.1 hd with rfl | hd
      · omega
      · exact hl d hd

theorem allows_true {off step o : Int} {l : List Int} (hs : 1 ≤ step) (_hoff : 0 ≤ off) (hne : l ≠ []) (h : ∀ p ∈ l, ∃ t, t % step = o % step ∧ p - off ≤ t ∧ t ≤ p + off) : allowsF off step l = true := by
  unfold allowsF
  have hA := arcs_ne (off := off) (step := step) hne
  obtain ⟨a, ha, hmin⟩ := least_of (fun a : Int × Int => (o - a.1) % step) (arcsF off step l) hA
  rw [List.any_eq_true]
  refine ⟨a, ha, ?_⟩
  unfold commonB
  rw [Bool.not_eq_true', List.any_eq_false]
  intro b hb
  have hmb := hmin b hb
  obtain ⟨p, hp, rfl⟩ := arcs_mem ha
  obtain ⟨q, hq, rfl⟩ := arcs_mem hb
  simp only [hasB, Bool.not_eq_true', decide_eq_false_iff_not, Decidable.not_not]
  by_cases hc : step ≤ 2 * off + 1
  · simp only [arcF, if_pos hc]
    have := Int.emod_lt_of_pos (0 - 0) (show 0 < step by omega)
    exact this
  · simp only [arcF, if_neg hc] at hmb ⊢
    obtain ⟨t, ht, ht0, ht1⟩ := h q hq
    have e1 : (o - (q - off) % step) % step = (t - (q - off)) % step := by
      rw [Int.sub_emod, Int.emod_emod, ← ht, ← Int.sub_emod]
    have e2 : (t - (q - off)) % step = t - (q - off) := Int.emod_eq_of_lt (by omega) (by omega)
    have h0 := Int.emod_nonneg (o - (p - off) % step) (show step ≠ 0 by omega)
    have e3 : ((p - off) % step - (q - off) % step) % step = ((o - (q - off) % step) % step - (o - (p - off) % step) % step) % step := by
      rw [← Int.sub_emod (o - (q - off) % step) (o - (p - off) % step) step, show (o - (q - off) % step) - (o - (p - off) % step) = (p - off) % step - (q - off) % step by omega]
    rw [e1, e2] at hmb e3
    generalize (o - (p - off) % step) % step = y at hmb h0 e3
    rw [e3, Int.emod_eq_of_lt (by omega) (by omega)]
    omega
end Go.Proofs.Ytphbiaagmhhhbaa
