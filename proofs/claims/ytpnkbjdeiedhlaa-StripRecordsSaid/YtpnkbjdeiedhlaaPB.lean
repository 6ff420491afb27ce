/- Plain: strips that are valid, what they count, what is chosen, what an answer leaves. -/
import Derived.Test.YtpnkbjdeiedhlaaLT
namespace Go.Proofs.Ytpnkbjdeiedhlaa
open Go.RowKit Go.Lib Go.Shelf
open St

theorem sorted_ext : ∀ {l m : List Int}, l.Pairwise (· < ·) → m.Pairwise (· < ·) → (∀ x, x ∈ l ↔ x ∈ m) → l = m
  | [], [], _, _, _ => rfl
  | [], b :: m, _, _, h => absurd ((h b).2 (by simp)) (by simp)
  | a :: l, [], _, _, h => absurd ((h a).1 (by simp)) (by simp)
  | a :: l, b :: m, h1, h2, h => by
    rw [List.pairwise_cons] at h1 h2
    have e : a = b := by
      have ha := (h a).1 (by simp)
      have hb := (h b).2 (by simp)
      rw [List.mem_cons] at ha hb
      rcases ha with ha | ha
      · exact ha
      · rcases hb with hb | hb
        · exact hb.symm
        · have := h2.1 a ha
          have := h1.1 b hb
          omega
    subst e
    rw [sorted_ext h1.2 h2.2 (fun x => ?_)]
    constructor
    · intro hx
      have h3 := (h x).1 (by simp [hx])
      rw [List.mem_cons] at h3
      rcases h3 with h3 | h3
      · have := h1.1 x hx; omega
      · exact h3
    · intro hx
      have h3 := (h x).2 (by simp [hx])
      rw [List.mem_cons] at h3
      rcases h3 with h3 | h3
      · have := h2.1 x hx; omega
      · exact h3
/-- Tubes in order, each below N. -/
def Valid (N : Int) (l : List Int) : Prop := l.Pairwise (· < ·) ∧ ∀ x ∈ l, 0 ≤ x ∧ x ≤ N - 1
theorem schk_gen {N : Int} : ∀ {l : List Int} {last : Int}, schk N last l = 0 ↔ (l.Pairwise (· < ·) ∧ ∀ x ∈ l, (0 ≤ x ∧ x ≤ N - 1) ∧ last < x)
  | [], last => by simp [schk]
  | t :: l, last => by
    unfold schk
    by_cases h1 : 0 ≤ t ∧ t ≤ N - 1
    · rw [if_neg (fun h => h h1)]
      by_cases h2 : t ≤ last
      · rw [if_pos h2]
        refine ⟨fun h => absurd h (by decide), fun h => ?_⟩
        have := (h.2 t (by simp)).2
        omega
      · rw [if_neg h2, schk_gen, List.pairwise_cons]
        constructor
        · rintro ⟨g1, g2⟩
          refine ⟨⟨fun x hx => (g2 x hx).2, g1⟩, fun x hx => ?_⟩
          rw [List.mem_cons] at hx
          rcases hx with rfl | hx
          · exact ⟨h1, by omega⟩
          · have := (g2 x hx).2
            exact ⟨(g2 x hx).1, by omega⟩
        · rintro ⟨⟨g1, g2⟩, g3⟩
          exact ⟨g2, fun x hx => ⟨(g3 x (by simp [hx])).1, g1 x hx⟩⟩
    · rw [if_pos h1]
      refine ⟨fun h => absurd h (by decide), fun h => absurd (h.2 t (by simp)).1 h1⟩
theorem schk_iff {N : Int} {l : List Int} : schk N (-1) l = 0 ↔ Valid N l := by
  rw [schk_gen]
  unfold Valid
  constructor
  · exact fun ⟨h1, h2⟩ => ⟨h1, fun x hx => (h2 x hx).1⟩
  · exact fun ⟨h1, h2⟩ => ⟨h1, fun x hx => ⟨h2 x hx, by have := (h2 x hx).1; omega⟩⟩
/-- The tubes below k that answer to p. -/
def segK (p : Int → Bool) : Nat → List Int
  | 0 => []
  | k + 1 => if p k then segK p k ++ [(k : Int)] else segK p k
theorem mem_segK {p : Int → Bool} {k : Nat} {x : Int} : x ∈ segK p k ↔ (0 ≤ x ∧ x < k) ∧ p x = true := by
  induction k with
  | zero => simp [segK]; intro _ h; omega
  | succ k ih =>
    unfold segK
    split
    · rename_i h
      rw [List.mem_append, ih, List.mem_singleton]
      constructor
      · rintro (⟨h1, h2⟩ | rfl)
        · exact ⟨by omega, h2⟩
        · exact ⟨by omega, h⟩
      · rintro ⟨h1, h2⟩
        by_cases e : x = k
        · exact .inr e
        · exact .inl ⟨by omega, h2⟩
    · rename_i h
      rw [ih]
      constructor
      · exact fun ⟨h1, h2⟩ => ⟨by omega, h2⟩
      · rintro ⟨h1, h2⟩
        by_cases e : x = k
        · subst e; exact absurd h2 h
        · exact ⟨by omega, h2⟩
theorem segK_sorted (p : Int → Bool) (k : Nat) : (segK p k).Pairwise (· < ·) := by
  induction k with
  | zero => exact .nil
  | succ k ih =>
    unfold segK
    split
    · rw [List.pairwise_append]
      refine ⟨ih, by simp, fun a ha b hb => ?_⟩
      rw [mem_segK] at ha
      rw [List.mem_singleton] at hb
      omega
    · exact ih
theorem segK_valid (p : Int → Bool) (N : Nat) : Valid N (segK p N) := ⟨segK_sorted p N, fun x hx => by rw [mem_segK] at hx; omega⟩
theorem segK_len (p : Int → Bool) (k : Nat) : (segK p k).length ≤ k := by
  induction k with
  | zero => exact Nat.le_refl _
  | succ k ih =>
    unfold segK
    split
    · simp; omega
    · omega
theorem valid_seg {N : Nat} {l : List Int} (h : Valid N l) : l = segK (fun t => decide (t ∈ l)) N :=
  sorted_ext h.1 (segK_sorted _ _) (fun x => by
    rw [mem_segK]
    simp only [decide_eq_true_eq]
    exact ⟨fun hx => ⟨by have := h.2 x hx; omega, hx⟩, fun hx => hx.2⟩)
theorem segK_congr {p q : Int → Bool} {k : Nat} (h : ∀ t : Nat, t < k → p t = q t) : segK p k = segK q k := by
  induction k with
  | zero => rfl
  | succ k ih =>
    unfold segK
    rw [ih (fun t ht => h t (by omega)), h k (by omega)]
theorem posK_seg (L : Nat) (l : List Tst) (k : Nat) : posK L l k = segK (fun t => decide (mis l t ≤ L)) k := by
  induction k with
  | zero => rfl
  | succ k ih =>
    unfold posK segK
    rw [ih]
    by_cases h : mis l k ≤ L
    · rw [if_pos h, if_pos (by simpa using h)]
    · rw [if_neg h, if_neg (by simpa using h)]

/-- The kind of a tube. -/
def ix (L : Nat) (l : List Tst) (t : Int) : Nat := 2 - (L - mis l t)
/-- How many tubes below k answer to p, of each kind. -/
def cnK (L : Nat) (l : List Tst) (p : Int → Bool) : Nat → St
  | 0 => ⟨0, 0, 0⟩
  | k + 1 => if p k then xF L l (cnK L l p k) k else cnK L l p k
theorem cnK_succ (L : Nat) (l : List Tst) (p : Int → Bool) (k : Nat) : cnK L l p (k + 1) = if p k then xF L l (cnK L l p k) k else cnK L l p k := rfl
theorem stK_cn (L : Nat) (l : List Tst) (k : Nat) : stK L l k = cnK L l (fun _ => true) k := by
  induction k with
  | zero => rfl
  | succ k ih => rw [stK_xF, ih]; rfl
theorem xK_seg (L : Nat) (l : List Tst) (p : Int → Bool) (k : Nat) : xK L l (segK p k) = cnK L l p k := by
  induction k with
  | zero => rfl
  | succ k ih =>
    unfold segK cnK
    split
    · unfold xK at ih ⊢
      rw [List.foldl_append, ih]
      rfl
    · exact ih
theorem xK_cn {L N : Nat} {l : List Tst} {strip : List Int} (h : Valid N strip) : xK L l strip = cnK L l (fun t => decide (t ∈ strip)) N := by
  conv => lhs; rw [valid_seg h]
  exact xK_seg _ _ _ _
theorem cnK_congr {L : Nat} {l : List Tst} {p q : Int → Bool} {k : Nat} (h : ∀ t : Nat, t < k → p t = q t) : cnK L l p k = cnK L l q k := by
  induction k with
  | zero => rfl
  | succ k ih =>
    unfold cnK
    rw [ih (fun t ht => h t (by omega)), h k (by omega)]
theorem cnK_rest (L : Nat) (l : List Tst) (p : Int → Bool) (k : Nat) : cnK L l (fun t => !p t) k = (stK L l k).rst (cnK L l p k) ∧ (cnK L l p k).Le (stK L l k) := by
  induction k with
  | zero => exact ⟨rfl, Nat.le_refl _, Nat.le_refl _, Nat.le_refl _⟩
  | succ k ih =>
    obtain ⟨ih, h1, h2, h3⟩ := ih
    rw [stK_xF, cnK_succ, cnK_succ, ih]
    generalize stK L l k = s at h1 h2 h3
    generalize cnK L l p k = x at h1 h2 h3
    unfold xF
    obtain ⟨a, b, c⟩ := s
    obtain ⟨i, j, m⟩ := x
    dsimp only at h1 h2 h3
    cases p k
    · simp only [Bool.not_false, if_true, Bool.false_eq_true, if_false]
      split
      · unfold St.put
        split <;> (simp only [rst, Le]; refine ⟨St.ext' ?_ ?_ ?_, ?_, ?_, ?_⟩ <;> (try dsimp only) <;> omega)
      · exact ⟨rfl, h1, h2, h3⟩
    · simp only [Bool.not_true, if_true, Bool.false_eq_true, if_false]
      split
      · unfold St.put
        split <;> (simp only [rst, Le]; refine ⟨St.ext' ?_ ?_ ?_, ?_, ?_, ?_⟩ <;> (try dsimp only) <;> omega)
      · exact ⟨rfl, h1, h2, h3⟩
theorem mis_snoc (l : List Tst) (x : Tst) (t : Int) : mis (l ++ [x]) t = mis l t + (if isM t x then 1 else 0) := by
  unfold mis
  rw [List.countP_append, List.countP_singleton]
/-- What an answer leaves. -/
theorem stK_snoc {L : Nat} (hL : L ≤ 2) (l : List Tst) (x : Tst) (k : Nat) : stK L (l ++ [x]) k = (stK L l k).aft (cnK L l (fun t => !isM t x) k) := by
  induction k with
  | zero => rfl
  | succ k ih =>
    have h0 := (cnK_rest L l (fun t => !isM t x) k).2
    have hm := mis_snoc l x k
    rw [stK_xF, stK_xF, ih]
    rw [cnK_succ]
    generalize stK L l k = s at h0 ⊢
    generalize cnK L l (fun t => !isM t x) k = y at h0 ⊢
    unfold xF
    rw [hm]
    obtain ⟨h1, h2, h3⟩ := h0
    obtain ⟨a, b, c⟩ := s
    obtain ⟨i, j, m⟩ := y
    dsimp only at h1 h2 h3
    generalize mis l k = q
    cases isM k x
    · simp only [Bool.not_false, if_true, Bool.false_eq_true, if_false, Nat.add_zero]
      split
      · unfold St.put
        split <;> (simp only [aft]; refine St.ext' ?_ ?_ ?_ <;> (try dsimp only) <;> omega)
      · rfl
    · simp only [Bool.not_true, if_true, Bool.false_eq_true, if_false]
      by_cases hq : q ≤ L
      · rw [if_pos hq]
        have hi : 2 - (L - q) = 0 ∨ 2 - (L - q) = 1 ∨ 2 - (L - q) = 2 := by omega
        by_cases hq1 : q + 1 ≤ L
        · rw [if_pos hq1]
          rcases hi with hi | hi | hi
          · rw [hi, show 2 - (L - (q + 1)) = 1 by omega]
            simp only [St.put, aft]
            refine St.ext' ?_ ?_ ?_ <;> (try dsimp only) <;> omega
          · rw [hi, show 2 - (L - (q + 1)) = 2 by omega]
            simp only [St.put, aft]
            refine St.ext' ?_ ?_ ?_ <;> (try dsimp only) <;> omega
          · omega
        · rw [if_neg hq1, show 2 - (L - q) = 2 by omega]
          simp only [St.put, aft]
      · rw [if_neg hq, if_neg (by omega)]
theorem stK_yes {L N : Nat} (hL : L ≤ 2) (l : List Tst) {strip : List Int} (h : Valid N strip) : stK L (l ++ [⟨strip, true⟩]) N = (stK L l N).aft (xK L l strip) := by
  rw [stK_snoc hL, xK_cn h]
  congr 1
  exact cnK_congr (fun t _ => by unfold isM; cases decide ((t : Int) ∈ strip) <;> rfl)
theorem stK_no {L N : Nat} (hL : L ≤ 2) (l : List Tst) {strip : List Int} (h : Valid N strip) : stK L (l ++ [⟨strip, false⟩]) N = (stK L l N).aft ((stK L l N).rst (xK L l strip)) := by
  rw [stK_snoc hL, xK_cn h, ← (cnK_rest L l _ N).1]
  congr 1
  exact cnK_congr (fun t _ => by unfold isM; cases decide ((t : Int) ∈ strip) <;> rfl)
theorem tubes_pos (L : Nat) (l : List Tst) (k : Nat) : (posK L l k).length = (stK L l k).tubes := by
  induction k with
  | zero => rfl
  | succ k ih =>
    rw [stK_xF]
    unfold posK xF
    split
    · rw [put_tubes, ← ih]; simp
    · exact ih

/-! ### What is chosen. -/
theorem at_put (s : St) {i j : Nat} (hi : i < 3) (hj : j < 3) : (s.put i).at j = s.at j + (if i = j then 1 else 0) := by
  have h1 : i = 0 ∨ i = 1 ∨ i = 2 := by omega
  have h2 : j = 0 ∨ j = 1 ∨ j = 2 := by omega
  rcases h1 with rfl | rfl | rfl <;> rcases h2 with rfl | rfl | rfl <;> rfl
theorem at_dec (s : St) {i j : Nat} (hi : i < 3) (hj : j < 3) : (s.dec i).at j = s.at j - (if i = j then 1 else 0) := by
  have h1 : i = 0 ∨ i = 1 ∨ i = 2 := by omega
  have h2 : j = 0 ∨ j = 1 ∨ j = 2 := by omega
  rcases h1 with rfl | rfl | rfl <;> rcases h2 with rfl | rfl | rfl <;> rfl
theorem at_ext {s t : St} (h : ∀ i, i < 3 → s.at i = t.at i) : s = t := St.ext' (h 0 (by omega)) (h 1 (by omega)) (h 2 (by omega))
theorem le_at {s t : St} (h : s.Le t) {i : Nat} (hi : i < 3) : s.at i ≤ t.at i := by
  obtain ⟨h1, h2, h3⟩ := h
  have h2 : i = 0 ∨ i = 1 ∨ i = 2 := by omega
  rcases h2 with rfl | rfl | rfl <;> assumption
theorem chK_at {L : Nat} (l : List Tst) (x : St) (k : Nat) : (∀ i, i < 3 → (chK L l x k).1.at i = x.at i - (stK L l k).at i) ∧ (∀ i, i < 3 → (xK L l (chK L l x k).2).at i + (chK L l x k).1.at i = x.at i) ∧ ((chK L l x k).2.Pairwise (· < ·) ∧ ∀ y ∈ (chK L l x k).2, 0 ≤ y ∧ y < k) := by
  induction k with
  | zero => exact ⟨fun i hi => by
      have h2 : i = 0 ∨ i = 1 ∨ i = 2 := by omega
      show x.at i = x.at i - (St.at ⟨0, 0, 0⟩ i)
      rcases h2 with rfl | rfl | rfl <;> rfl, fun i hi => by
      have h2 : i = 0 ∨ i = 1 ∨ i = 2 := by omega
      show (St.at ⟨0, 0, 0⟩ i) + x.at i = x.at i
      rcases h2 with rfl | rfl | rfl <;> exact Nat.zero_add _, .nil, fun y hy => (by cases hy)⟩
  | succ k ih =>
    obtain ⟨i1, i2, i3, i4⟩ := ih
    rw [stK_xF]
    unfold chK
    by_cases hm : mis l k ≤ L
    · have hi3 : 2 - (L - mis l k) < 3 := by omega
      have e : xF L l (stK L l k) k = (stK L l k).put (2 - (L - mis l k)) := by unfold xF; rw [if_pos hm]
      rw [e]
      by_cases h0 : 0 < (chK L l x k).1.at (2 - (L - mis l k))
      · rw [if_pos ⟨hm, h0⟩]
        have e2 : xK L l ((chK L l x k).2 ++ [(k : Int)]) = (xK L l (chK L l x k).2).put (2 - (L - mis l k)) := by
          unfold xK
          rw [List.foldl_append]
          show xF L l _ _ = _
          unfold xF
          rw [if_pos hm]
        dsimp only
        rw [e2]
        generalize 2 - (L - mis l k) = j at hi3 h0
        generalize chK L l x k = c at i1 i2 i3 i4 h0
        refine ⟨fun i hi => ?_, fun i hi => ?_, ?_, ?_⟩
        · rw [at_dec _ hi3 hi, at_put _ hi3 hi, i1 i hi]
          omega
        · rw [at_dec _ hi3 hi, at_put _ hi3 hi]
          have := i2 i hi
          split
          · subst j; omega
          · omega
        · rw [List.pairwise_append]
          refine ⟨i3, by simp, fun a ha b hb => ?_⟩
          have := i4 a ha
          rw [List.mem_singleton] at hb
          omega
        · intro y hy
          rw [List.mem_append, List.mem_singleton] at hy
          rcases hy with hy | hy
          · have := i4 y hy; omega
          · omega
      · rw [if_neg (fun h => h0 h.2)]
        generalize 2 - (L - mis l k) = j at hi3 h0
        refine ⟨fun i hi => ?_, i2, i3, fun y hy => by have := i4 y hy; omega⟩
        rw [at_put _ hi3 hi, i1 i hi]
        by_cases e : j = i
        · subst e
          have := i1 j hi3
          omega
        · rw [if_neg e]; rfl
    · rw [if_neg (fun h => hm h.1)]
      have e : xF L l (stK L l k) k = stK L l k := by unfold xF; rw [if_neg hm]
      rw [e]
      exact ⟨i1, i2, i3, fun y hy => by have := i4 y hy; omega⟩
/-- The chosen strip counts as it was asked, and is valid. -/
theorem chosen_spec {L N : Nat} (l : List Tst) {x : St} (hx : x.Le (stK L l N)) : xK L l (chK L l x N).2 = x ∧ Valid N (chK L l x N).2 := by
  obtain ⟨i1, i2, i3, i4⟩ := chK_at (L := L) l x N
  refine ⟨at_ext (fun i hi => ?_), i3, fun y hy => by have := i4 y hy; omega⟩
  have h1 := i1 i hi
  have h2 := i2 i hi
  have := le_at hx hi
  omega
/-- What is left of a good strip. -/
theorem left_good {s x : St} (ht : 2 ≤ s.tubes) (hx : x.Le s) (h : both (ndF s - 1) s x = true) : leftF s x = ndF s - 1 := by
  obtain ⟨h1, h2⟩ := ndF_spec s
  have h0 : ndF s ≠ 0 := by
    intro e
    rw [e] at h1
    have h1 : s.tubes ≤ 1 := h1
    omega
  obtain ⟨n, hn⟩ : ∃ n, ndF s = n + 1 := ⟨ndF s - 1, by omega⟩
  rw [hn, Nat.add_sub_cancel] at h ⊢
  unfold both at h
  rw [Bool.and_eq_true, winB_iff, winB_iff] at h
  obtain ⟨g1, g2⟩ := h
  obtain ⟨k1, k2⟩ := ndF_spec (s.aft x)
  obtain ⟨m1, m2⟩ := ndF_spec (s.aft (s.rst x))
  unfold leftF
  have a1 : ndF (s.aft x) ≤ n := by
    rcases Nat.lt_or_ge n (ndF (s.aft x)) with hh | hh
    · exact absurd g1 (k2 _ hh)
    · exact hh
  have a2 : ndF (s.aft (s.rst x)) ≤ n := by
    rcases Nat.lt_or_ge n (ndF (s.aft (s.rst x))) with hh | hh
    · exact absurd g2 (m2 _ hh)
    · exact hh
  rcases Nat.lt_or_ge (max (ndF (s.aft x)) (ndF (s.aft (s.rst x)))) n with hh | hh
  · exfalso
    obtain ⟨m, hm⟩ : ∃ m, n = m + 1 := ⟨n - 1, by omega⟩
    refine h2 n (by omega) ?_
    rw [hm]
    exact .inr ⟨x, hx, win_le k1 (by omega), win_le m1 (by omega)⟩
  · omega
/-- No strip leaves less. -/
theorem left_least {s x : St} (hx : x.Le s) (h : leftF s x < ndF s) : leftF s x = ndF s - 1 := by
  obtain ⟨h1, h2⟩ := ndF_spec s
  obtain ⟨k1, k2⟩ := ndF_spec (s.aft x)
  obtain ⟨m1, m2⟩ := ndF_spec (s.aft (s.rst x))
  unfold leftF at h ⊢
  rcases Nat.lt_or_ge (max (ndF (s.aft x)) (ndF (s.aft (s.rst x)))) (ndF s - 1) with hh | hh
  · exfalso
    refine h2 (max (ndF (s.aft x)) (ndF (s.aft (s.rst x))) + 1) (by omega) ?_
    exact .inr ⟨x, hx, win_le k1 (by omega), win_le m1 (by omega)⟩
  · omega
end Go.Proofs.Ytpnkbjdeiedhlaa
