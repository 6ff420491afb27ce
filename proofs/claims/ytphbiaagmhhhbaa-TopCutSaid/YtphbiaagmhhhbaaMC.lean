/- Plain: which growths fit measurements, and what is known of them. -/
import Derived.Test.YtphbiaagmhhhbaaMB
namespace Go.Proofs.Ytphbiaagmhhhbaa
open Go.RowKit

/-- A growth fits a measurement. -/
def Fits (c off g : Int) (m : Int × Int) : Prop := m.2 - off ≤ len c g m.1 ∧ len c g m.1 ≤ m.2 + off

theorem bs_spec (p : Int → Bool) {a b : Int} (hab : a ≤ b) (mono : ∀ x y, a ≤ x → x ≤ y → y < b → p x = true → p y = true) :
    a ≤ bs p (b - a).toNat a b ∧ bs p (b - a).toNat a b ≤ b ∧ (∀ x, a ≤ x → x < bs p (b - a).toNat a b → p x = false) ∧ (∀ x, bs p (b - a).toNat a b ≤ x → x < b → p x = true) := by
  have key : ∀ k : Nat, a + k ≤ b → (∀ x, a + k ≤ x → x < b → p x = true) → ∃ T, a ≤ T ∧ T ≤ b ∧ (∀ x, a ≤ x → x < T → p x = false) ∧ (∀ x, T ≤ x → x < b → p x = true) := by
    intro k
    induction k with
    | zero => intro h1 h2; exact ⟨a, by omega, hab, fun x h1 h2 => by omega, fun x h1 h3 => h2 x (by omega) h3⟩
    | succ k ih =>
      intro h1 h2
      cases hp : p (a + k) with
      | true =>
        refine ih (by omega) (fun x hx hxb => ?_)
        exact mono (a + k) x (by omega) hx hxb hp
      | false =>
        refine ⟨a + (k + 1 : Nat), by omega, h1, fun x hx hxT => ?_, h2⟩
        cases hq : p x with
        | false => rfl
        | true => rw [mono x (a + k) hx (by omega) (by omega) hq] at hp; cases hp
  obtain ⟨T, t1, t2, t3, t4⟩ := key (b - a).toNat (by omega) (fun x h1 h2 => by omega)
  rw [bs_least p _ a b (Nat.le_refl _) t1 t2 t3 t4]
  exact ⟨t1, t2, t3, t4⟩

theorem fit_bd {c lo hi off a b : Int} (ha : 0 ≤ a) (hlh : lo ≤ hi) : lo ≤ fitLo c lo hi off a b ∧ fitLo c lo hi off a b ≤ hi + 1 ∧ lo - 1 ≤ fitHi c lo hi off a b ∧ fitHi c lo hi off a b ≤ hi := by
  have h1 := bs_spec (leastP c off a b) (a := lo) (b := hi + 1) (by omega) (fun x y _ hxy _ hp => by
    have := len_mono (c := c) ha hxy
    unfold leastP at hp ⊢
    exact decide_eq_true (by have := of_decide_eq_true hp; omega))
  have h2 := bs_spec (aboveP c off a b) (a := lo) (b := hi + 1) (by omega) (fun x y _ hxy _ hp => by
    have := len_mono (c := c) ha hxy
    unfold aboveP at hp ⊢
    exact decide_eq_true (by have := of_decide_eq_true hp; omega))
  unfold fitLo fitHi
  omega

theorem fit_iff {c lo hi off g : Int} {m : Int × Int} (ha : 0 ≤ m.1) (h0 : lo ≤ g) (h1 : g ≤ hi) : Fits c off g m ↔ fitLo c lo hi off m.1 m.2 ≤ g ∧ g ≤ fitHi c lo hi off m.1 m.2 := by
  have s1 := bs_spec (leastP c off m.1 m.2) (a := lo) (b := hi + 1) (by omega) (fun x y _ hxy _ hp => by
    have := len_mono (c := c) ha hxy
    unfold leastP at hp ⊢
    exact decide_eq_true (by have := of_decide_eq_true hp; omega))
  have s2 := bs_spec (aboveP c off m.1 m.2) (a := lo) (b := hi + 1) (by omega) (fun x y _ hxy _ hp => by
    have := len_mono (c := c) ha hxy
    unfold aboveP at hp ⊢
    exact decide_eq_true (by have := of_decide_eq_true hp; omega))
  have e1 : m.2 - off ≤ len c g m.1 ↔ fitLo c lo hi off m.1 m.2 ≤ g := by
    constructor
    · intro h
      by_cases hh : fitLo c lo hi off m.1 m.2 ≤ g
      · exact hh
      · have := s1.2.2.1 g h0 (by unfold fitLo at hh; omega)
        unfold leastP at this
        exact absurd h (of_decide_eq_false this)
    · intro h
      have := s1.2.2.2 g h (by omega)
      unfold leastP at this
      exact of_decide_eq_true this
  have e2 : len c g m.1 ≤ m.2 + off ↔ g ≤ fitHi c lo hi off m.1 m.2 := by
    constructor
    · intro h
      by_cases hh : g ≤ fitHi c lo hi off m.1 m.2
      · exact hh
      · have := s2.2.2.2 g (by unfold fitHi at hh; omega) (by omega)
        unfold aboveP at this
        have := of_decide_eq_true this
        omega
    · intro h
      have := s2.2.2.1 g h0 (by unfold fitHi at h; omega)
      unfold aboveP at this
      have := of_decide_eq_false this
      omega
  unfold Fits
  rw [e1, e2]

/-- What holds of the measurements without repetitions holds of all. -/
theorem diffIx_all {l : List (Int × Int)} {Q : Int × Int → Prop} (k : Nat) : (∀ i ∈ diffIx l k, Q (mAt l i)) ↔ ∀ i, i < k → Q (mAt l i) := by
  induction k with
  | zero => simp [diffIx]
  | succ k ih =>
    simp only [diffIx]
    split
    · rename_i h
      rw [ih]
      constructor
      · intro hh i hi
        by_cases e : i = k
        · subst e
          have := hh (i - 1) (by omega)
          unfold mAt at this ⊢
          rw [h.2]
          exact this
        · exact hh i (by omega)
      · intro hh i hi
        exact hh i (by omega)
    · constructor
      · intro hh i hi
        by_cases e : i = k
        · subst e
          exact hh i (by simp)
        · exact ih.1 (fun j hj => hh j (by simp [hj])) i (by omega)
      · intro hh i hi
        rw [List.mem_append] at hi
        rcases hi with hi | hi
        · exact ih.2 (fun j hj => hh j (by omega)) i hi
        · simp at hi; subst hi; exact hh i (by omega)
theorem diffIx_lt {l : List (Int × Int)} (k : Nat) : ∀ i ∈ diffIx l k, i < k := by
  induction k with
  | zero => simp [diffIx]
  | succ k ih =>
    intro i hi
    simp only [diffIx] at hi
    split at hi
    · have := ih i hi; omega
    · rw [List.mem_append] at hi
      rcases hi with hi | hi
      · have := ih i hi; omega
      · simp at hi; omega

section
variable (c lo hi off : Int) (l : List (Int × Int))
abbrev fL (i : Nat) : Int := fitLo c lo hi off (mAt l i).1 (mAt l i).2
abbrev fH (i : Nat) : Int := fitHi c lo hi off (mAt l i).1 (mAt l i).2
/-- What is known behind the measurements with the numbers P. -/
structure KI (P : List Nat) (s : KS) : Prop where
  low : lo ≤ s.lo
  high : s.hi ≤ hi
  all : ∀ g, (lo ≤ g ∧ g ≤ hi ∧ ∀ i ∈ P, fL c lo hi off l i ≤ g ∧ g ≤ fH c lo hi off l i) ↔ s.lo ≤ g ∧ g ≤ s.hi
  b0 : (s.b0 = -1 ∧ s.lo = lo) ∨ ∃ i ∈ P, s.b0 = (i : Int) ∧ s.lo = fL c lo hi off l i
  b1 : (s.b1 = -1 ∧ s.hi = hi) ∨ ∃ i ∈ P, s.b1 = (i : Int) ∧ s.hi = fH c lo hi off l i
/-- Two measurements that no growth fits. -/
def KC (P : List Nat) (s : KS) : Prop := s.hi < s.lo ∧ ∃ i ∈ P, ∃ j ∈ P, s.b0 = (i : Int) ∧ s.b1 = (j : Int) ∧ fH c lo hi off l j < fL c lo hi off l i

theorem kone_spec (hlh : lo ≤ hi) {P : List Nat} {s : KS} (hf : ∀ i, 0 ≤ (mAt l i).1) (hs : KI c lo hi off l P s) (hne : s.lo ≤ s.hi) (i : Nat) :
    ((kone c lo hi off l i s).2 = false → KI c lo hi off l (P ++ [i]) (kone c lo hi off l i s).1 ∧ (kone c lo hi off l i s).1.lo ≤ (kone c lo hi off l i s).1.hi) ∧
    ((kone c lo hi off l i s).2 = true → KC c lo hi off l (P ++ [i]) (kone c lo hi off l i s).1) := by
  have hb := fit_bd (c := c) (off := off) (b := (mAt l i).2) (hf i) hlh
  unfold kone kstep
  change lo ≤ fL c lo hi off l i ∧ fL c lo hi off l i ≤ hi + 1 ∧ lo - 1 ≤ fH c lo hi off l i ∧ fH c lo hi off l i ≤ hi at hb
  generalize hy0 : fitLo c lo hi off (mAt l i).1 (mAt l i).2 = y0
  generalize hy1 : fitHi c lo hi off (mAt l i).1 (mAt l i).2 = y1
  have e0 : fL c lo hi off l i = y0 := hy0
  have e1 : fH c lo hi off l i = y1 := hy1
  rw [e0, e1] at hb
  have hall : ∀ g, (lo ≤ g ∧ g ≤ hi ∧ ∀ k ∈ P ++ [i], fL c lo hi off l k ≤ g ∧ g ≤ fH c lo hi off l k) ↔ (s.lo ≤ g ∧ g ≤ s.hi) ∧ y0 ≤ g ∧ g ≤ y1 := by
    intro g
    rw [← hs.all g]
    constructor
    · rintro ⟨h1, h2, h3⟩
      have := h3 i (by simp)
      rw [e0, e1] at this
      exact ⟨⟨h1, h2, fun k hk => h3 k (by simp [hk])⟩, this⟩
    · rintro ⟨⟨h1, h2, h3⟩, h4⟩
      refine ⟨h1, h2, fun k hk => ?_⟩
      rw [List.mem_append] at hk
      rcases hk with hk | hk
      · exact h3 k hk
      · simp at hk; subst hk; rw [e0, e1]; exact h4
  have hb0 : (s.b0 = -1 ∧ s.lo = lo) ∨ ∃ k ∈ P ++ [i], s.b0 = (k : Int) ∧ s.lo = fL c lo hi off l k := by
    rcases hs.b0 with h | ⟨k, hk, h⟩
    · exact .inl h
    · exact .inr ⟨k, by simp [hk], h⟩
  have hb1 : (s.b1 = -1 ∧ s.hi = hi) ∨ ∃ k ∈ P ++ [i], s.b1 = (k : Int) ∧ s.hi = fH c lo hi off l k := by
    rcases hs.b1 with h | ⟨k, hk, h⟩
    · exact .inl h
    · exact .inr ⟨k, by simp [hk], h⟩
  have hlo := hs.low
  have hhi := hs.high
  by_cases hy : y1 < y0
  · rw [if_pos hy]
    refine ⟨fun h => (by cases h), fun _ => ⟨hy, i, by simp, i, by simp, rfl, rfl, by rw [e0, e1]; exact hy⟩⟩
  · rw [if_neg hy]
    by_cases h0 : s.lo < y0 <;> by_cases h1 : y1 < s.hi <;> simp only [h0, h1, if_true, if_false, decide_eq_false_iff_not, decide_eq_true_eq]
    · exact ⟨fun h => ⟨⟨show lo ≤ y0 by omega, show y1 ≤ hi by omega, fun g => (hall g).trans (show (s.lo ≤ g ∧ g ≤ s.hi) ∧ y0 ≤ g ∧ g ≤ y1 ↔ y0 ≤ g ∧ g ≤ y1 by omega), .inr ⟨i, by simp, rfl, e0.symm⟩, .inr ⟨i, by simp, rfl, e1.symm⟩⟩, show y0 ≤ y1 by omega⟩, fun h => absurd h (by omega)⟩
    · refine ⟨fun h => ⟨⟨show lo ≤ y0 by omega, hhi, fun g => (hall g).trans (show (s.lo ≤ g ∧ g ≤ s.hi) ∧ y0 ≤ g ∧ g ≤ y1 ↔ y0 ≤ g ∧ g ≤ s.hi by omega), .inr ⟨i, by simp, rfl, e0.symm⟩, hb1⟩, show y0 ≤ s.hi by omega⟩, fun h => ?_⟩
      refine ⟨h, i, by simp, ?_⟩
      rcases hb1 with ⟨_, e'⟩ | ⟨k, hk, e, e'⟩
      · omega
      · exact ⟨k, hk, rfl, e, by rw [e0, ← e']; exact h⟩
    · refine ⟨fun h => ⟨⟨hlo, show y1 ≤ hi by omega, fun g => (hall g).trans (show (s.lo ≤ g ∧ g ≤ s.hi) ∧ y0 ≤ g ∧ g ≤ y1 ↔ s.lo ≤ g ∧ g ≤ y1 by omega), hb0, .inr ⟨i, by simp, rfl, e1.symm⟩⟩, show s.lo ≤ y1 by omega⟩, fun h => ?_⟩
      refine ⟨h, ?_⟩
      rcases hb0 with ⟨_, e'⟩ | ⟨k, hk, e, e'⟩
      · omega
      · exact ⟨k, hk, i, by simp, e, rfl, by rw [e1, ← e']; exact h⟩
    · exact ⟨fun h => ⟨⟨hlo, hhi, fun g => (hall g).trans (show (s.lo ≤ g ∧ g ≤ s.hi) ∧ y0 ≤ g ∧ g ≤ y1 ↔ s.lo ≤ g ∧ g ≤ s.hi by omega), hb0, hb1⟩, by omega⟩, fun h => absurd h (by omega)⟩

theorem kgo_spec (hlh : lo ≤ hi) (hf : ∀ i, 0 ≤ (mAt l i).1) (Q : List Nat) : ∀ (P : List Nat) (s : KS), KI c lo hi off l P s → s.lo ≤ s.hi →
    (KI c lo hi off l (P ++ Q) (kgo c lo hi off l s Q).1 ∧ (kgo c lo hi off l s Q).1.lo ≤ (kgo c lo hi off l s Q).1.hi) ∨ KC c lo hi off l (P ++ Q) (kgo c lo hi off l s Q).1 := by
  induction Q with
  | nil => intro P s hs hne; left; simp only [kgo, List.append_nil]; exact ⟨hs, hne⟩
  | cons i r ih =>
    intro P s hs hne
    have h := kone_spec c lo hi off l hlh hf hs hne i
    simp only [kgo]
    cases hk : (kone c lo hi off l i s).2 with
    | true =>
      right
      rw [if_pos rfl]
      obtain ⟨h1, a, ha, b, hb, h2⟩ := h.2 hk
      have e : P ++ i :: r = (P ++ [i]) ++ r := by simp
      exact ⟨h1, a, by rw [e]; exact List.mem_append_left _ ha, b, by rw [e]; exact List.mem_append_left _ hb, h2⟩
    | false =>
      rw [if_neg (by decide)]
      have h2 := h.1 hk
      have := ih (P ++ [i]) _ h2.1 h2.2
      rw [show P ++ i :: r = (P ++ [i]) ++ r by simp]
      exact this
end

theorem known_spec {c lo hi off : Int} {l : List (Int × Int)} (hlh : lo ≤ hi) (hf : ∀ i, 0 ≤ (mAt l i).1) :
    ((knownF c lo hi off l).lo ≤ (knownF c lo hi off l).hi ∧ lo ≤ (knownF c lo hi off l).lo ∧ (knownF c lo hi off l).hi ≤ hi ∧
      ∀ g, (lo ≤ g ∧ g ≤ hi ∧ ∀ i, i < l.length → Fits c off g (mAt l i)) ↔ (knownF c lo hi off l).lo ≤ g ∧ g ≤ (knownF c lo hi off l).hi) ∨
    ((knownF c lo hi off l).hi < (knownF c lo hi off l).lo ∧ ∃ i j : Nat, i < l.length ∧ j < l.length ∧ (knownF c lo hi off l).b0 = (i : Int) ∧ (knownF c lo hi off l).b1 = (j : Int) ∧ fH c lo hi off l j < fL c lo hi off l i) := by
  have h0 : KI c lo hi off l [] ⟨lo, hi, -1, -1⟩ := ⟨by simp, by simp, fun g => by simp, .inl ⟨rfl, rfl⟩, .inl ⟨rfl, rfl⟩⟩
  rcases kgo_spec c lo hi off l hlh hf (diffIx l l.length) [] _ h0 hlh with ⟨h, hne⟩ | ⟨h1, i, hi, j, hj, e0, e1, h2⟩
  · left
    rw [List.nil_append] at h
    refine ⟨hne, h.low, h.high, fun g => ?_⟩
    refine Iff.trans ?_ (h.all g)
    constructor
    · rintro ⟨a, b, hh⟩
      exact ⟨a, b, fun i hi => (fit_iff (hf i) a b).1 (hh i (diffIx_lt _ i hi))⟩
    · rintro ⟨a, b, hh⟩
      refine ⟨a, b, (diffIx_all (Q := fun m => Fits c off g m) l.length).1 fun i hi => ?_⟩
      exact (fit_iff (hf i) a b).2 (hh i hi)
  · right
    rw [List.nil_append] at hi hj
    exact ⟨h1, i, j, diffIx_lt _ i hi, diffIx_lt _ j hj, e0, e1, h2⟩

/-- A measurement that is not there is (0, 0). -/
theorem fine_at {c t lo hi off : Int} {l : List (Int × Int)} (h : measF c t lo hi off l = 0) : Sound c t lo hi ∧ (0 ≤ off ∧ off ≤ 1000000) ∧ l.length ≤ 50 ∧ ∀ i, FineM off (mAt l i).1 (mAt l i).2 := by
  unfold measF at h
  split at h
  · rename_i hs
    split at h
    · rename_i ho
      split at h
      · cases h
      · rename_i hl
        split at h
        · cases h
        · rename_i hb
          refine ⟨hs, ho, by omega, fun i => ?_⟩
          unfold FineM mAt
          by_cases hi : i < l.length
          · rw [List.getElem?_eq_getElem hi]
            have : badM l[i] = false := by
              cases hq : badM l[i] with
              | false => rfl
              | true => exact absurd (List.any_eq_true.2 ⟨l[i], List.getElem_mem hi, hq⟩) hb
            simp only [Option.getD_some]
            unfold badM btw at this
            simp at this
            omega
          · rw [List.getElem?_eq_none (by omega)]
            simp
            omega
    · cases h
  · cases h
end Go.Proofs.Ytphbiaagmhhhbaa
