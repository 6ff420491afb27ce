/- Plain: no division is better than the best one; one player more; as many players as codes. -/
import Derived.Test.YtjncoableanmpaaPH
import Derived.Test.YtjncoableanmpaaPI
namespace Go.Proofs.Ytjncoableanmpaa

def maxR (a b : Rat) : Rat := if b < a then a else b
theorem maxR_le {a b c : Rat} : maxR a b ≤ c ↔ a ≤ c ∧ b ≤ c := by
  unfold maxR
  constructor
  · intro h
    split at h
    · rename_i hlt; exact ⟨h, Rat.le_trans (Rat.le_of_lt hlt) h⟩
    · rename_i hlt; exact ⟨Rat.le_trans (Rat.not_lt.1 hlt) h, h⟩
  · rintro ⟨h1, h2⟩
    split
    · exact h1
    · exact h2
theorem maxR_left (a b : Rat) : a ≤ maxR a b := (maxR_le.1 (Rat.le_refl)).1
theorem maxR_right (a b : Rat) : b ≤ maxR a b := (maxR_le.1 (Rat.le_refl)).2
theorem maxR_mono {a b c d : Rat} (h1 : a ≤ c) (h2 : b ≤ d) : maxR a b ≤ maxR c d := maxR_le.2 ⟨Rat.le_trans h1 (maxR_left c d), Rat.le_trans h2 (maxR_right c d)⟩
theorem maxR_or (a b : Rat) : maxR a b = a ∨ maxR a b = b := by
  unfold maxR
  split
  · exact .inl rfl
  · exact .inr rfl
/-- s are the starts of a division of the codes up to e among n + 1 players, q its error. -/
def Dv (l : List Cd) : Nat → Nat → List Int → Rat → Prop
  | 0, e, s, q => 0 < e ∧ s = [0] ∧ q = alo l 0 e
  | n + 1, e, s, q => ∃ a s' q', Dv l n a s' q' ∧ n + 1 ≤ a ∧ a < e ∧ s = s' ++ [(a : Int)] ∧ q = maxR q' (alo l a e)
theorem wayF_max (l : List Cd) (prev : Nat → Sh) (e a : Nat) : (wayF l prev e a).1 = maxR (prev a).1 (alo l a e) := rfl
theorem dF_way {l : List Cd} {n e : Nat} (h : n + 2 ≤ e) : (∃ a, n + 1 ≤ a ∧ a < e ∧ dF l (n + 1) e = wayF l (dF l n) e a) ∧ ∀ a, n + 1 ≤ a → a < e → (dF l (n + 1) e).1 ≤ (wayF l (dF l n) e a).1 := by
  unfold dF
  rcases leastS_spec ((List.range' (n + 1) (e - (n + 1))).map (wayF l (dF l n) e)) with ⟨h1, _⟩ | ⟨b, h1, h2, h3⟩
  · exfalso
    have := congrArg List.length h1
    simp at this
    omega
  · rw [h1]
    obtain ⟨a, ha, rfl⟩ := List.mem_map.1 h2
    rw [List.mem_range'_1] at ha
    refine ⟨⟨a, by omega, by omega, rfl⟩, fun a' ha' he' => ?_⟩
    exact h3 _ (List.mem_map.2 ⟨a', List.mem_range'_1.2 (by omega), rfl⟩)
theorem dF_dv {l : List Cd} {n e : Nat} (h : n + 1 ≤ e) : Dv l n e (dF l n e).2 (dF l n e).1 := by
  induction n generalizing e with
  | zero => exact ⟨by omega, rfl, rfl⟩
  | succ n ih =>
    obtain ⟨⟨a, h1, h2, he⟩, _⟩ := dF_way (l := l) h
    rw [he]
    exact ⟨a, _, _, ih h1, h1, h2, rfl, wayF_max l (dF l n) e a⟩
theorem dF_least {l : List Cd} {n e : Nat} {s : List Int} {q : Rat} (h : Dv l n e s q) : (dF l n e).1 ≤ q := by
  induction n generalizing e s q with
  | zero =>
    obtain ⟨_, _, rfl⟩ := h
    exact Rat.le_refl
  | succ n ih =>
    obtain ⟨a, s', q', h1, h2, h3, rfl, rfl⟩ := h
    refine Rat.le_trans ((dF_way (l := l) (by omega)).2 a h2 h3) ?_
    rw [wayF_max]
    exact maxR_mono (ih h1) Rat.le_refl
theorem dv_big {l : List Cd} {n e : Nat} {s : List Int} {q : Rat} (h : Dv l n e s q) : n + 1 ≤ e := by
  cases n with
  | zero => have := h.1; omega
  | succ n =>
    obtain ⟨a, _, _, _, h2, h3, _⟩ := h
    omega
/-- The starts tell the error. -/
theorem dv_one {l : List Cd} {n e : Nat} {s : List Int} {q q' : Rat} (h : Dv l n e s q) (h' : Dv l n e s q') : q = q' := by
  induction n generalizing e s q q' with
  | zero => rw [h.2.2, h'.2.2]
  | succ n ih =>
    obtain ⟨a, s1, q1, h1, h2, h3, rfl, rfl⟩ := h
    obtain ⟨b, s2, q2, k1, k2, k3, e1, rfl⟩ := h'
    have := List.append_inj' e1 rfl
    have hab : (a : Int) = (b : Int) := by simpa using this.2
    obtain rfl : a = b := by omega
    obtain rfl := this.1
    rw [ih h1 k1]
theorem dv_len {l : List Cd} {n e : Nat} {s : List Int} {q : Rat} (h : Dv l n e s q) : s.length = n + 1 := by
  induction n generalizing e s q with
  | zero => rw [h.2.1]; rfl
  | succ n ih =>
    obtain ⟨a, s', q', h1, _, _, rfl, _⟩ := h
    rw [List.length_append, ih h1]
    rfl
/-- Fewer codes have no greater error. -/
theorem alo_mono {l : List Cd} (hg : Good l) {a b c d : Nat} (h1 : a ≤ b) (h2 : b < c) (h3 : c ≤ d) (h4 : d ≤ l.length) : alo l b c ≤ alo l a d := by
  have l1 := sub_len (l := l) (a := b) (e := c) (by omega)
  have l2 := sub_len (l := l) (a := a) (e := d) h4
  refine off_mono (sub_good hg h2 (by omega)) (sub_good hg (by omega) h4) (fun i hi => ?_) (fun i j k hij hjk hk => ?_)
  · refine ⟨b - a + i, by omega, ?_⟩
    rw [sub_at (by omega), sub_at (by omega), show a + (b - a + i) = b + i by omega]
  · refine ⟨b - a + i, b - a + j, b - a + k, by omega, by omega, by omega, ?_⟩
    rw [sub_at (by omega), sub_at (by omega), sub_at (by omega), sub_at (by omega), sub_at (by omega), sub_at (by omega), show a + (b - a + i) = b + i by omega, show a + (b - a + j) = b + j by omega, show a + (b - a + k) = b + k by omega]
theorem dv_split {l : List Cd} (hg : Good l) {n e : Nat} {s : List Int} {q : Rat} (he : e ≤ l.length) (h : Dv l n e s q) (hn : n + 2 ≤ e) : ∃ s' q', Dv l (n + 1) e s' q' ∧ q' ≤ q := by
  induction n generalizing e s q with
  | zero =>
    obtain ⟨_, _, rfl⟩ := h
    refine ⟨_, _, ⟨1, [0], alo l 0 1, ⟨Nat.one_pos, rfl, rfl⟩, Nat.le_refl 1, (show 1 < e by omega), rfl, rfl⟩, ?_⟩
    exact maxR_le.2 ⟨alo_mono hg (by omega) (by omega) (by omega) he, alo_mono hg (by omega) (by omega) (by omega) he⟩
  | succ n ih =>
    obtain ⟨a, s', q', h1, h2, h3, rfl, rfl⟩ := h
    by_cases hlast : a + 1 < e
    · refine ⟨_, _, ⟨a + 1, s' ++ [(a : Int)], maxR q' (alo l a (a + 1)), ⟨a, s', q', h1, h2, by omega, rfl, rfl⟩, by omega, hlast, rfl, rfl⟩, ?_⟩
      exact maxR_le.2 ⟨maxR_mono Rat.le_refl (alo_mono hg (by omega) (by omega) (by omega) he), Rat.le_trans (alo_mono hg (by omega) (by omega) (by omega) he) (maxR_right _ _)⟩
    · obtain ⟨s2, q2, k1, k2⟩ := ih (by omega) h1 (by omega)
      exact ⟨_, _, ⟨a, s2, q2, k1, by omega, h3, rfl, rfl⟩, maxR_mono k2 Rat.le_refl⟩
/-- With one player more the best division is not worse. -/
theorem dF_more {l : List Cd} (hg : Good l) {n e : Nat} (he : e ≤ l.length) (hn : n + 2 ≤ e) : (dF l (n + 1) e).1 ≤ (dF l n e).1 := by
  obtain ⟨s', q', h1, h2⟩ := dv_split hg he (dF_dv (l := l) (n := n) (by omega)) hn
  exact Rat.le_trans (dF_least h1) h2
theorem alo_one {l : List Cd} {i : Nat} (hi : i < l.length) : alo l i (i + 1) = one1 (cAt l i) := by
  have hl := sub_len (l := l) (a := i) (e := i + 1) (by omega)
  obtain ⟨t, ht, e, _⟩ := bestC_spec (l := sub l i (i + 1)) (by omega)
  unfold alo
  rw [e]
  obtain ⟨x, y, z⟩ := t
  unfold TrioOk at ht
  dsimp only at ht
  have : x = 0 ∧ y = 0 ∧ z = 0 := by omega
  obtain ⟨rfl, rfl, rfl⟩ := this
  unfold clm
  rw [if_pos rfl]
  show one1 (cAt (sub l i (i + 1)) 0) = _
  rw [sub_at (by omega), Nat.add_zero]
/-- Each code for itself. -/
theorem dv_each {l : List Cd} {n : Nat} {s : List Int} {q : Rat} (hn : n < l.length) (h : Dv l n (n + 1) s q) : (∀ i, i ≤ n → one1 (cAt l i) ≤ q) ∧ ∃ i, i ≤ n ∧ q = one1 (cAt l i) := by
  induction n generalizing s q with
  | zero =>
    obtain ⟨_, _, rfl⟩ := h
    rw [alo_one hn]
    exact ⟨fun i hi => by obtain rfl : i = 0 := by omega
                          exact Rat.le_refl, 0, Nat.le_refl _, rfl⟩
  | succ n ih =>
    obtain ⟨a, s', q', h1, h2, h3, rfl, rfl⟩ := h
    obtain rfl : a = n + 1 := by omega
    obtain ⟨k1, i, hi, k2⟩ := ih (by omega) h1
    rw [alo_one hn]
    refine ⟨fun j hj => ?_, ?_⟩
    · by_cases hjn : j = n + 1
      · subst hjn; exact maxR_right _ _
      · exact Rat.le_trans (k1 j (by omega)) (maxR_left _ _)
    · rcases maxR_or q' (one1 (cAt l (n + 1))) with e | e
      · exact ⟨i, by omega, by rw [e, k2]⟩
      · exact ⟨n + 1, Nat.le_refl _, e⟩
end Go.Proofs.Ytjncoableanmpaa
