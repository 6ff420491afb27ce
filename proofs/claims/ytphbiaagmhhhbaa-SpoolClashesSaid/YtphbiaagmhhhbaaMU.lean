/- Plain: the growths that fit, as a list; whether two measurements are a clash. -/
import Derived.Test.YtphbiaagmhhhbaaOF
import Derived.Test.YtphbiaagmhhhbaaRM
namespace Go.Proofs.Ytphbiaagmhhhbaa
open Go.RowKit

/-- A growth fits the first k measurements. -/
def fitCs (c d g : Int) (m : List (Int × Int)) : Nat → Bool
  | 0 => true
  | k + 1 => fitCs c d g m k && fitC c d g (mAt m k).1 (mAt m k).2
theorem fitCs_iff {c d g : Int} {m : List (Int × Int)} (k : Nat) : fitCs c d g m k = true ↔ ∀ i, i < k → Fits c d g (mAt m i) := by
  induction k with
  | zero => simp [fitCs]
  | succ k ih =>
    simp only [fitCs, Bool.and_eq_true, ih, fitC_iff]
    constructor
    · rintro ⟨h1, h2⟩ i hi
      by_cases e : i = k
      · rw [e]; exact h2
      · exact h1 i (by omega)
    · intro h
      exact ⟨fun i hi => h i (by omega), h k (by omega)⟩

/-- How many growths from X to Y lie among the first k ones from lo on. -/
def many (X Y lo : Int) (k : Nat) : Nat := (min (lo + k) (Y + 1) - X).toNat
/-- The first j growths from X on. -/
def runL (X : Int) (j : Nat) : List Int := (List.range j).map fun (i : Nat) => X + (i : Int)
theorem runL_length (X : Int) (j : Nat) : (runL X j).length = j := by simp [runL]
theorem runL_at {X : Int} {j i : Nat} (h : i < j) : (runL X j)[i]?.getD 0 = X + i := by
  unfold runL
  rw [List.getElem?_map, List.getElem?_range h]
  rfl
theorem runL_snoc (X : Int) (j : Nat) : nums (runL X (j + 1)) = nums (runL X j) ++ [Value.int .i64 (X + (j : Int))] := by
  unfold nums runL
  rw [List.range_succ, List.map_append, List.map_append]
  rfl
theorem many_yes {X Y lo : Int} {k : Nat} (h0 : X ≤ lo + k) (h1 : lo + k ≤ Y) : many X Y lo (k + 1) = many X Y lo k + 1 ∧ X + (many X Y lo k : Int) = lo + k := by
  unfold many
  omega
theorem many_no {X Y lo : Int} {k : Nat} (h : ¬ (X ≤ lo + k ∧ lo + k ≤ Y)) : many X Y lo (k + 1) = many X Y lo k := by
  unfold many
  omega

/-- Whether one or two measurements are a clash. -/
theorem verify_spec {c t lo hi d : Int} {m : List (Int × Int)} (hm : measF c t lo hi d m = 0) {cl : List Int} (h1 : 1 ≤ cl.length) (h2 : cl.length ≤ 2) (hix : ∀ j, j < cl.length → 0 ≤ cl[j]?.getD 0 ∧ cl[j]?.getD 0 ≤ (m.length : Int) - 1)
    (hord : cl.length = 2 → cl[0]?.getD 0 < cl[1]?.getD 0) :
    ((∃ g, lo ≤ g ∧ g ≤ hi ∧ ∀ j, j < cl.length → Fits c d g (mAt m (cl[j]?.getD 0).toNat)) → verifyF c t lo hi d m cl = 14) ∧
    ((¬ ∃ g, lo ≤ g ∧ g ≤ hi ∧ ∀ j, j < cl.length → Fits c d g (mAt m (cl[j]?.getD 0).toNat)) → verifyF c t lo hi d m cl = 0) := by
  obtain ⟨hs, _, _, hf⟩ := fine_at hm
  have hlh := hs.2.2.2.1
  have hf0 : ∀ i, 0 ≤ (mAt m i).1 := fun i => (hf i).1.1
  unfold verifyF
  rw [if_pos hm, if_neg (by omega), if_neg (by omega)]
  have v0 := VI.zero (c := c) (lo := lo) (hi := hi) (off := d) (l := m) (cl := cl)
  generalize verGo c lo hi d m cl (-1) lo hi = R at v0
  have vn : VI c lo hi d m cl R cl.length := by
    have v1 := ((v0.step hf0 (by omega) rfl).2 (hix 0 (by omega))).2 (fun h => by omega)
    by_cases e : cl.length = 1
    · rw [e]; exact v1
    · have e2 : cl.length = 2 := by omega
      have v2 := ((v1.step hf0 (by omega) rfl).2 (hix 1 (by omega))).2 (fun h => by
        have := hord e2
        have h2 : cl[1]?.getD 0 ≤ cl[0]?.getD 0 := h.2
        omega)
      rw [e2]; exact v2
  have hR := vn.done hlh
  have hfa : ∀ g, FitsAll c d g (sel m cl cl.length) ↔ ∀ j, j < cl.length → Fits c d g (mAt m (cl[j]?.getD 0).toNat) := by
    intro g
    unfold FitsAll
    rw [sel_length (Nat.le_refl _)]
    constructor
    · intro h j hj
      have := h j hj
      rw [sel_at (Nat.le_refl _) hj] at this
      exact this
    · intro h j hj
      rw [sel_at (Nat.le_refl _) hj]
      exact h j hj
  rcases fitting_spec (c := c) (lo := lo) (hi := hi) (off := d) (l := sel m cl cl.length) hlh with ⟨k1, k2⟩ | ⟨k1, k2, k3, k4, _, _⟩
  · rw [if_neg (by omega)] at hR
    refine ⟨fun ⟨g, a, b, hh⟩ => absurd ((hfa g).2 hh) (k2 g a b), fun _ => hR⟩
  · rw [if_pos k1] at hR
    refine ⟨fun _ => hR, fun h => absurd ⟨_, k2, by omega, (hfa _).1 k4⟩ h⟩

/-- Verify of one measurement, or of two. -/
theorem verify_ends {c t lo hi d : Int} {m : List (Int × Int)} (hm : measF c t lo hi d m = 0) {i x : Nat} (hi' : i < m.length) (hx : x < m.length) {cl : List Int} (hcl : (cl = [(i : Int)] ∧ x = i) ∨ (cl = [(i : Int), (x : Int)] ∧ i < x)) :
    ((∃ g, lo ≤ g ∧ g ≤ hi ∧ Fits c d g (mAt m i) ∧ Fits c d g (mAt m x)) → verifyF c t lo hi d m cl = 14) ∧ ((¬ ∃ g, lo ≤ g ∧ g ≤ hi ∧ Fits c d g (mAt m i) ∧ Fits c d g (mAt m x)) → verifyF c t lo hi d m cl = 0) := by
  rcases hcl with ⟨rfl, rfl⟩ | ⟨rfl, hlt⟩
  · have hix : ∀ j, j < [(x : Int)].length → 0 ≤ [(x : Int)][j]?.getD 0 ∧ [(x : Int)][j]?.getD 0 ≤ (m.length : Int) - 1 := by
      intro j hj
      have : j = 0 := by simp at hj; omega
      subst this
      simp
      omega
    have h := verify_spec hm (cl := [(x : Int)]) (by simp) (by simp) hix (fun h => by simp at h)
    have e : ∀ g, (∀ j, j < [(x : Int)].length → Fits c d g (mAt m ([(x : Int)][j]?.getD 0).toNat)) ↔ Fits c d g (mAt m x) ∧ Fits c d g (mAt m x) := by
      intro g
      constructor
      · intro h
        have := h 0 (by simp)
        simp at this
        exact ⟨this, this⟩
      · rintro ⟨h, _⟩ j hj
        have : j = 0 := by simp at hj; omega
        subst this
        simpa using h
    simp only [e] at h
    exact h
  · have hix : ∀ j, j < [(i : Int), (x : Int)].length → 0 ≤ [(i : Int), (x : Int)][j]?.getD 0 ∧ [(i : Int), (x : Int)][j]?.getD 0 ≤ (m.length : Int) - 1 := by
      intro j hj
      have : j = 0 ∨ j = 1 := by simp at hj; omega
      rcases this with rfl | rfl <;> simp <;> omega
    have h := verify_spec hm (cl := [(i : Int), (x : Int)]) (by simp) (by simp) hix (fun _ => by simp; omega)
    have e : ∀ g, (∀ j, j < [(i : Int), (x : Int)].length → Fits c d g (mAt m ([(i : Int), (x : Int)][j]?.getD 0).toNat)) ↔ Fits c d g (mAt m i) ∧ Fits c d g (mAt m x) := by
      intro g
      constructor
      · intro h
        have h0 := h 0 (by simp)
        have h1 := h 1 (by simp)
        simp at h0 h1
        exact ⟨h0, h1⟩
      · rintro ⟨h0, h1⟩ j hj
        have : j = 0 ∨ j = 1 := by simp at hj; omega
        rcases this with rfl | rfl
        · simpa using h0
        · simpa using h1
    simp only [e] at h
    exact h

theorem own_new (w : World) (x : Value) : (w.alloc (.cells #[x] 3)).ownsRow w.heap.size 3 1 (.slice (some ⟨w.heap.size, 0, none⟩) 1 1) 1 [x] :=
  ⟨rfl, .inr ⟨w.heap.size, 1, #[x], rfl, Nat.le_refl _, World.alloc_heap_new w _, Nat.le_refl _, by unfold maxLen; decide, rfl, rfl⟩⟩

/-- The growths that fit are those from X to Y; what is returned is told by them. -/
theorem clashes_spec {c t lo hi off : Int} {m : List (Int × Int)} (hm : measF c t lo hi off m = 0) :
    ∃ X Y, (∀ h, lo ≤ h → h ≤ hi → (FitsAll c off h m ↔ X ≤ h ∧ h ≤ Y)) ∧
      ((lo ≤ X ∧ X ≤ Y ∧ Y ≤ hi ∧ growthsF c t lo hi off m = (X, Y, 0) ∧ clashF c t lo hi off m = ([], 8)) ∨
       (X = hi + 1 ∧ Y = lo - 1 ∧ growthsF c t lo hi off m = (0, 0, 15) ∧ (clashF c t lo hi off m).2 = 0 ∧ verifyF c t lo hi off m (clashF c t lo hi off m).1 = 0)) := by
  obtain ⟨hs, _, _, _⟩ := fine_at hm
  have hlh := hs.2.2.2.1
  rcases growths_spec hm with ⟨X, Y, k0, k1, k2, k3, k4, k5⟩ | ⟨k1, k2, k3⟩
  · refine ⟨X, Y, fun h h0 h1 => ?_, .inl ⟨k3, k0, k4, k1, k2⟩⟩
    rw [← k5 h]
    exact ⟨fun hh => ⟨h0, h1, hh⟩, fun hh => hh.2.2⟩
  · refine ⟨hi + 1, lo - 1, fun h h0 h1 => ⟨fun hh => absurd hh (k3 h h0 h1), fun hh => by omega⟩, .inr ⟨rfl, rfl, k1, k2, clash_verify hm k2⟩⟩
end Go.Proofs.Ytphbiaagmhhhbaa
