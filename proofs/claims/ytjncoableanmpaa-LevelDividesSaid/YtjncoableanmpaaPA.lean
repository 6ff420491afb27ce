/- Plain: what codes prove, as rational numbers; trios in the order of the program. -/
namespace Go.Proofs.Ytjncoableanmpaa

/-- A code: its number, and from where to where it is meant. -/
abbrev Cd := Int × Int × Int
/-- The fraction n / d. -/
abbrev fr (n d : Int) : Rat := Rat.divInt n d
def cAt (l : List Cd) (i : Nat) : Cd := l[i]?.getD (0, 0, 0)
def upF (a b c : Cd) : Int := b.2.2 * ((b.1 - a.1) + (c.1 - b.1)) - a.2.1 * (c.1 - b.1) - c.2.1 * (b.1 - a.1)
def downF (a b c : Cd) : Int := a.2.2 * (c.1 - b.1) + c.2.2 * (b.1 - a.1) - b.2.1 * ((b.1 - a.1) + (c.1 - b.1))
def one1 (a : Cd) : Rat := fr (a.2.2 - a.2.1) 2
def three1 (a b c : Cd) : Rat := fr (max 0 (max (upF a b c) (downF a b c))) (2 * ((b.1 - a.1) + (c.1 - b.1)))
/-- A code within the limits. -/
structure Tame (c : Cd) : Prop where
  s0 : -10000 ≤ c.1
  s1 : c.1 ≤ 10000
  l0 : 0 ≤ c.2.1
  l1 : c.2.1 ≤ c.2.2
  h1 : c.2.2 ≤ 10000
/-- A coding that is valid. -/
structure Good (l : List Cd) : Prop where
  pos : 0 < l.length
  few : l.length ≤ 24
  tame : ∀ i, i < l.length → Tame (cAt l i)
  inc : ∀ i j, i < j → j < l.length → (cAt l i).1 < (cAt l j).1

abbrev Trio := Nat × Nat × Nat
structure Cl where
  off : Rat
  up : Bool
  who : Trio
def clm (l : List Cd) (t : Trio) : Cl :=
  if t.1 = t.2.2 then ⟨one1 (cAt l t.1), false, t⟩
  else ⟨three1 (cAt l t.1) (cAt l t.2.1) (cAt l t.2.2), decide (downF (cAt l t.1) (cAt l t.2.1) (cAt l t.2.2) < upF (cAt l t.1) (cAt l t.2.1) (cAt l t.2.2)), t⟩
/-- One index three times, or three that grow. -/
def TrioOk (n : Nat) (t : Trio) : Prop := t.2.2 < n ∧ ((t.1 = t.2.1 ∧ t.2.1 = t.2.2) ∨ (t.1 < t.2.1 ∧ t.2.1 < t.2.2))

/-- The trios that begin with i, j: up to the last index k. -/
def triR (i j : Nat) : Nat → List Trio
  | 0 => []
  | k + 1 => if j < k then triR i j k ++ [(i, j, k)] else []
def triQ (n i : Nat) : Nat → List Trio
  | 0 => []
  | j + 1 => if i < j then triQ n i j ++ triR i j n else []
def triP (n : Nat) : Nat → List Trio
  | 0 => []
  | i + 1 => triP n i ++ [(i, i, i)] ++ triQ n i n
abbrev trios (n : Nat) : List Trio := triP n n

theorem triR_mem {i j : Nat} (k : Nat) (t : Trio) : t ∈ triR i j k ↔ ∃ m, j < m ∧ m < k ∧ t = (i, j, m) := by
  induction k with
  | zero => simp [triR]
  | succ k ih =>
    unfold triR
    split
    · rename_i h
      rw [List.mem_append, ih]
      constructor
      · rintro (⟨m, h1, h2, rfl⟩ | h1)
        · exact ⟨m, h1, by omega, rfl⟩
        · exact ⟨k, h, by omega, by simpa using h1⟩
      · rintro ⟨m, h1, h2, rfl⟩
        by_cases e : m = k
        · subst e; right; simp
        · left; exact ⟨m, h1, by omega, rfl⟩
    · rename_i h
      constructor
      · intro h1; cases h1
      · rintro ⟨m, h1, h2, _⟩; omega
theorem triQ_mem {n i : Nat} (j : Nat) (t : Trio) : t ∈ triQ n i j ↔ ∃ a b, i < a ∧ a < j ∧ a < b ∧ b < n ∧ t = (i, a, b) := by
  induction j with
  | zero => simp [triQ]
  | succ j ih =>
    unfold triQ
    split
    · rename_i h
      rw [List.mem_append, ih, triR_mem]
      constructor
      · rintro (⟨a, b, h1, h2, h3, h4, rfl⟩ | ⟨m, h1, h2, rfl⟩)
        · exact ⟨a, b, h1, by omega, h3, h4, rfl⟩
        · exact ⟨j, m, h, by omega, h1, h2, rfl⟩
      · rintro ⟨a, b, h1, h2, h3, h4, rfl⟩
        by_cases e : a = j
        · subst e; right; exact ⟨b, h3, h4, rfl⟩
        · left; exact ⟨a, b, h1, by omega, h3, h4, rfl⟩
    · rename_i h
      constructor
      · intro h1; cases h1
      · rintro ⟨a, b, h1, h2, _⟩; omega
theorem triP_mem {n : Nat} (m : Nat) (t : Trio) : t ∈ triP n m ↔ t.1 < m ∧ ((t.2.1 = t.1 ∧ t.2.2 = t.1) ∨ (t.1 < t.2.1 ∧ t.2.1 < t.2.2 ∧ t.2.2 < n)) := by
  induction m with
  | zero => simp [triP]
  | succ i ih =>
    obtain ⟨x, y, z⟩ := t
    unfold triP
    rw [List.mem_append, List.mem_append, ih, triQ_mem]
    dsimp only
    constructor
    · rintro ((⟨h1, h2⟩ | h1) | ⟨a, b, h1, h2, h3, h4, h5⟩)
      · exact ⟨by omega, h2⟩
      · have e : (x, y, z) = (i, i, i) := by simpa using h1
        cases e
        exact ⟨by omega, .inl ⟨rfl, rfl⟩⟩
      · cases h5
        exact ⟨by omega, .inr ⟨h1, h3, h4⟩⟩
    · rintro ⟨h1, h2⟩
      by_cases e : x = i
      · subst e
        rcases h2 with ⟨rfl, rfl⟩ | ⟨h3, h4, h5⟩
        · left; right; simp
        · right; exact ⟨y, z, h3, by omega, h4, h5, rfl⟩
      · left; left; exact ⟨by omega, h2⟩
theorem trios_mem {n : Nat} {t : Trio} : t ∈ trios n ↔ TrioOk n t := by
  unfold trios TrioOk
  rw [triP_mem]
  omega

/-- The first claim than which no other one is greater. -/
def pick1 (b : Option Cl) (x : Cl) : Option Cl :=
  match b with
  | none => some x
  | some y => if y.off < x.off then some x else some y
def bestOf (l : List Cl) : Option Cl := l.foldl pick1 none
theorem bestOf_snoc (l : List Cl) (x : Cl) : bestOf (l ++ [x]) = pick1 (bestOf l) x := by
  unfold bestOf
  rw [List.foldl_append]
  rfl
def cl0 : Cl := ⟨0, false, (0, 0, 0)⟩
def bestC (l : List Cd) : Cl := (bestOf ((trios l.length).map (clm l))).getD cl0
theorem bestOf_spec (l : List Cl) : (l = [] ∧ bestOf l = none) ∨ ∃ b, bestOf l = some b ∧ b ∈ l ∧ ∀ x ∈ l, x.off ≤ b.off := by
  have key : ∀ (p q : List Cl), ((p = [] ∧ bestOf p = none) ∨ ∃ b, bestOf p = some b ∧ b ∈ p ∧ ∀ x ∈ p, x.off ≤ b.off) → ((p ++ q = [] ∧ bestOf (p ++ q) = none) ∨ ∃ b, bestOf (p ++ q) = some b ∧ b ∈ p ++ q ∧ ∀ x ∈ p ++ q, x.off ≤ b.off) := by
    intro p q
    induction q generalizing p with
    | nil => simp
    | cons y q ih =>
      intro h
      have := ih (p ++ [y]) ?_
      · simpa using this
      · right
        rw [bestOf_snoc]
        rcases h with ⟨rfl, h⟩ | ⟨b, h1, h2, h3⟩
        · rw [h]
          exact ⟨y, rfl, by simp, by simp⟩
        · rw [h1]
          unfold pick1
          dsimp only
          split
          · rename_i hlt
            refine ⟨y, rfl, by simp, fun x hx => ?_⟩
            rcases List.mem_append.1 hx with h | h
            · exact Rat.le_trans (h3 x h) (Rat.le_of_lt hlt)
            · rw [List.mem_singleton.1 h]; exact Rat.le_refl
          · rename_i hlt
            refine ⟨b, rfl, by simp [h2], fun x hx => ?_⟩
            rcases List.mem_append.1 hx with h | h
            · exact h3 x h
            · rw [List.mem_singleton.1 h]; exact Rat.not_lt.1 hlt
  simpa using key [] l (.inl ⟨rfl, rfl⟩)
theorem bestC_spec {l : List Cd} (h : 0 < l.length) : ∃ t, TrioOk l.length t ∧ bestC l = clm l t ∧ ∀ u, TrioOk l.length u → (clm l u).off ≤ (bestC l).off := by
  rcases bestOf_spec ((trios l.length).map (clm l)) with ⟨h1, _⟩ | ⟨b, h1, h2, h3⟩
  · have : (0, 0, 0) ∈ trios l.length := trios_mem.2 ⟨h, .inl ⟨rfl, rfl⟩⟩
    rw [List.map_eq_nil_iff] at h1
    rw [h1] at this
    cases this
  · obtain ⟨t, ht, rfl⟩ := List.mem_map.1 h2
    refine ⟨t, trios_mem.1 ht, by unfold bestC; rw [h1]; rfl, fun u hu => ?_⟩
    unfold bestC
    rw [h1]
    exact h3 _ (List.mem_map.2 ⟨u, trios_mem.2 hu, rfl⟩)
end Go.Proofs.Ytjncoableanmpaa
