/- Plain: which growths fit measurements that are made by numbers. -/
import Derived.Test.YtphbiaagmhhhbaaOE
import Derived.Test.YtphbiaagmhhhbaaRL
namespace Go.Proofs.Ytphbiaagmhhhbaa
open Go.RowKit

/-- What is returned of measurements, by what fits them. -/
theorem growths_spec {c t lo hi off : Int} {m : List (Int × Int)} (hm : measF c t lo hi off m = 0) :
    (∃ X Y, X ≤ Y ∧ growthsF c t lo hi off m = (X, Y, 0) ∧ clashF c t lo hi off m = ([], 8) ∧ lo ≤ X ∧ Y ≤ hi ∧ ∀ h, (lo ≤ h ∧ h ≤ hi ∧ FitsAll c off h m) ↔ X ≤ h ∧ h ≤ Y) ∨
    (growthsF c t lo hi off m = (0, 0, 15) ∧ (clashF c t lo hi off m).2 = 0 ∧ ∀ h, lo ≤ h → h ≤ hi → ¬ FitsAll c off h m) := by
  obtain ⟨hs, _, _, hf⟩ := fine_at hm
  have hlh := hs.2.2.2.1
  have hf0 : ∀ i, 0 ≤ (mAt m i).1 := fun i => (hf i).1.1
  unfold growthsF clashF
  rw [if_pos hm, if_pos hm]
  rcases known_spec (c := c) (lo := lo) (hi := hi) (off := off) (l := m) hlh hf0 with ⟨k1, k2, k3, k4⟩ | ⟨k1, i, j, hi', hj, e0, e1, k2⟩
  · left
    exact ⟨_, _, k1, if_neg (by omega), if_pos k1, k2, k3, k4⟩
  · right
    refine ⟨if_pos k1, by rw [if_neg (by omega)], fun h h0 h1 hh => ?_⟩
    have a := (fit_iff (hi := hi) (off := off) (hf0 i) h0 h1).1 (hh i hi')
    have b := (fit_iff (hi := hi) (off := off) (hf0 j) h0 h1).1 (hh j hj)
    unfold fL fH at k2
    omega

theorem meas1_fine {c g d : Int} (hc0 : 1 ≤ c) (hc1 : c ≤ 99) (hg0 : 0 ≤ g) (hg1 : g ≤ 40) (hd0 : 0 ≤ d) (hd1 : d ≤ 19) {x : Tri} (hx : Bytes x) : badM (meas1 c g d x) = false := by
  obtain ⟨a, b, e⟩ := hx
  have hl := len_bd (c := c) (g := g) (n := x.1 % 25) (by omega) (by omega) hg0 (by omega) (by omega) (by omega)
  have he0 : 0 ≤ x.2.1 % (2 * d + 1) := Int.emod_nonneg _ (by omega)
  have he1 : x.2.1 % (2 * d + 1) < 2 * d + 1 := Int.emod_lt_of_pos _ (by omega)
  unfold badM meas1 btw
  simp
  omega
theorem measL_at {c g d : Int} {l : List Tri} {i : Nat} (h : i < (measL c g d l).length) : mAt (measL c g d l) i = meas1 c g d (tAt l i) := by
  rw [measL_length] at h
  have h2 : i < 6 ∧ i < l.length := by unfold six at h; omega
  unfold mAt measL tAt
  rw [List.getElem?_map, List.getElem?_take_of_lt h2.1, List.getElem?_eq_getElem h2.2]
  rfl
theorem measF_measL {c t lo hi g d dd : Int} (hs : Sound c t lo hi) (hc1 : c ≤ 99) (hg0 : 0 ≤ g) (hg1 : g ≤ 40) (hd0 : 0 ≤ d) (hd1 : d ≤ 19) (hdd0 : 0 ≤ dd) (hdd1 : dd ≤ 19) {l : List Tri} (hb : ∀ i, Bytes (tAt l i)) (k : Nat) :
    measF c t lo hi dd ((measL c g d l).drop k) = 0 := by
  have hln := measL_length c g d l
  have h6 : six l.length ≤ 6 := by unfold six; omega
  unfold measF
  rw [if_pos hs, if_pos ⟨hdd0, by omega⟩, if_neg (by rw [List.length_drop]; omega), if_neg]
  intro h
  obtain ⟨m, hm, hbad⟩ := List.any_eq_true.1 h
  have hm2 := List.mem_of_mem_drop hm
  obtain ⟨j, hj, rfl⟩ := List.getElem_of_mem hm2
  have e := measL_at hj
  unfold mAt at e
  rw [List.getElem?_eq_getElem hj] at e
  rw [Option.getD_some] at e
  rw [e, meas1_fine (by have := hs.1; omega) hc1 hg0 hg1 hd0 hd1 (hb j)] at hbad
  cases hbad

/-- A right measurement fits. -/
theorem meas1_fits {c g d : Int} (hc0 : 1 ≤ c) (hc1 : c ≤ 99) (hg0 : 0 ≤ g) (hg1 : g ≤ 40) (hd0 : 0 ≤ d) {x : Tri} (hz : x.2.2 = 0) : Fits c d g (meas1 c g d x) := by
  have he0 : 0 ≤ x.2.1 % (2 * d + 1) := Int.emod_nonneg _ (by omega)
  have he1 : x.2.1 % (2 * d + 1) < 2 * d + 1 := Int.emod_lt_of_pos _ (by omega)
  have hl := len_bd (c := c) (g := g) (n := x.1 % 25) (by omega) (by omega) hg0 (by omega) (by omega) (by omega)
  unfold Fits meas1
  simp only
  rw [hz]
  omega

/-- The laws of the truth. -/
theorem truth_spec {c t lo hi g d : Int} (hs : Sound c t lo hi) (hc1 : c ≤ 99) (hlo : lo ≤ g) (hhi : g ≤ hi) (hh : hi ≤ 40) (hd0 : 0 ≤ d) (hd1 : d ≤ 19) {l : List Tri} (hb : ∀ i, Bytes (tAt l i)) (hz : ∀ i, (tAt l i).2.2 = 0) :
    ∃ X Y, growthsF c t lo hi d (measL c g d l) = (X, Y, 0) ∧ clashF c t lo hi d (measL c g d l) = ([], 8) ∧ X ≤ g ∧ g ≤ Y ∧ lo ≤ X ∧ Y ≤ hi ∧
      (∀ dd, 0 ≤ dd → dd ≤ d → (∃ X2 Y2, growthsF c t lo hi dd (measL c g d l) = (X2, Y2, 0) ∧ X ≤ X2 ∧ Y2 ≤ Y) ∨ growthsF c t lo hi dd (measL c g d l) = (0, 0, 15)) ∧
      (l = [] → X = lo ∧ Y = hi) ∧ ∃ X3 Y3, growthsF c t lo hi d ((measL c g d l).drop 1) = (X3, Y3, 0) ∧ X3 ≤ X ∧ Y ≤ Y3 := by
  have hg0 : 0 ≤ g := by have := hs.2.2; omega
  have hm := measF_measL (dd := d) hs hc1 hg0 (by omega) hd0 hd1 hd0 hd1 hb 0
  rw [List.drop_zero] at hm
  have hall : FitsAll c d g (measL c g d l) := fun i hi' => by
    rw [measL_at hi']
    exact meas1_fits (by have := hs.1; omega) hc1 hg0 (by omega) hd0 (hz i)
  rcases growths_spec hm with ⟨X, Y, h0, h1, h2, h3, h4, h5⟩ | ⟨_, _, h⟩
  · have hgi := (h5 g).1 ⟨hlo, hhi, hall⟩
    refine ⟨X, Y, h1, h2, hgi.1, hgi.2, h3, h4, fun dd hdd0 hdd1 => ?_, fun he => ?_, ?_⟩
    · have hm2 := measF_measL (dd := dd) hs hc1 hg0 (by omega) hd0 hd1 hdd0 (by omega) hb 0
      rw [List.drop_zero] at hm2
      rcases growths_spec hm2 with ⟨X2, Y2, k0, k1, _, k3, k4, k5⟩ | ⟨k1, _⟩
      · left
        have up : ∀ h, FitsAll c dd h (measL c g d l) → FitsAll c d h (measL c g d l) := fun h hf i hi' => by
          have := hf i hi'
          unfold Fits at this ⊢
          omega
        have a := (k5 X2).2 ⟨Int.le_refl _, k0⟩
        have b := (k5 Y2).2 ⟨k0, Int.le_refl _⟩
        have a2 := (h5 X2).1 ⟨a.1, a.2.1, up _ a.2.2⟩
        have b2 := (h5 Y2).1 ⟨b.1, b.2.1, up _ b.2.2⟩
        exact ⟨X2, Y2, k1, a2.1, b2.2⟩
      · exact .inr k1
    · subst he
      have hn : ∀ h, FitsAll c d h (measL c g d []) := fun h i hi' => by simp [measL] at hi'
      have hlh := hs.2.2.2.1
      have a := (h5 lo).1 ⟨Int.le_refl _, hlh, hn _⟩
      have b := (h5 hi).1 ⟨hlh, Int.le_refl _, hn _⟩
      omega
    · have hm3 := measF_measL (dd := d) hs hc1 hg0 (by omega) hd0 hd1 hd0 hd1 hb 1
      have less : ∀ h, FitsAll c d h (measL c g d l) → FitsAll c d h ((measL c g d l).drop 1) := fun h hf i hi' => by
        rw [List.length_drop] at hi'
        have := hf (i + 1) (by omega)
        unfold mAt at this ⊢
        rw [List.getElem?_drop, Nat.add_comm 1 i]
        exact this
      rcases growths_spec hm3 with ⟨X3, Y3, k0, k1, _, k3, k4, k5⟩ | ⟨_, _, k⟩
      · have a := (h5 X).2 ⟨Int.le_refl _, h0⟩
        have b := (h5 Y).2 ⟨h0, Int.le_refl _⟩
        have a2 := (k5 X).1 ⟨a.1, a.2.1, less _ a.2.2⟩
        have b2 := (k5 Y).1 ⟨b.1, b.2.1, less _ b.2.2⟩
        exact ⟨X3, Y3, k1, a2.1, b2.2⟩
      · exact absurd (less _ hall) (k g hlo hhi)
  · exact absurd hall (h g hlo hhi)
end Go.Proofs.Ytphbiaagmhhhbaa
