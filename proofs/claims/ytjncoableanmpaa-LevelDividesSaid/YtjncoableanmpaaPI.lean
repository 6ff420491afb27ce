/- Plain: codings by numbers; a coding that is moved, or turned around. -/
import Derived.Test.YtjncoableanmpaaPF
namespace Go.Proofs.Ytjncoableanmpaa

abbrev Tri := Int × Int × Int
def tAt (l : List Tri) (i : Nat) : Tri := l[i]?.getD (0, 0, 0)
def codeS (s : Int) (x : Tri) : Cd := (s, x.2.1 % 40, x.2.1 % 40 + x.2.2 % 12)
def stepS (s : Int) (x : Tri) : Int := s + (1 + x.1 % 4)
def madeL : Int → List Tri → List Cd
  | _, [] => []
  | s, x :: r => codeS s x :: madeL (stepS s x) r
/-- The coding by numbers. -/
def madeC (l : List Tri) : List Cd := if l = [] then [(-3, 3, 4)] else madeL (-3) (l.take 5)
/-- What is known of it. -/
structure Nice (l : List Cd) : Prop where
  pos : 0 < l.length
  few : l.length ≤ 5
  set : ∀ i, i < l.length → -3 ≤ (cAt l i).1 ∧ (cAt l i).1 ≤ 13
  want : ∀ i, i < l.length → 0 ≤ (cAt l i).2.1 ∧ (cAt l i).2.1 ≤ (cAt l i).2.2 ∧ (cAt l i).2.2 ≤ 50
  inc : ∀ i j, i < j → j < l.length → (cAt l i).1 < (cAt l j).1
theorem madeL_len (s : Int) (l : List Tri) : (madeL s l).length = l.length := by
  induction l generalizing s with
  | nil => rfl
  | cons x r ih => unfold madeL; rw [List.length_cons, List.length_cons, ih]
theorem madeL_nice (s : Int) (l : List Tri) : (∀ i, i < l.length → (s ≤ (cAt (madeL s l) i).1 ∧ (cAt (madeL s l) i).1 ≤ s + 4 * (i : Int)) ∧ 0 ≤ (cAt (madeL s l) i).2.1 ∧ (cAt (madeL s l) i).2.1 ≤ (cAt (madeL s l) i).2.2 ∧ (cAt (madeL s l) i).2.2 ≤ 50) ∧
    ∀ i j, i < j → j < l.length → (cAt (madeL s l) i).1 < (cAt (madeL s l) j).1 := by
  induction l generalizing s with
  | nil => exact ⟨fun i hi => absurd hi (by simp), fun i j _ hj => absurd hj (by simp)⟩
  | cons x r ih =>
    obtain ⟨h1, h2⟩ := ih (stepS s x)
    have hst : s < stepS s x ∧ stepS s x ≤ s + 4 := by unfold stepS; omega
    refine ⟨fun i hi => ?_, fun i j hij hj => ?_⟩
    · cases i with
      | zero =>
        show (s ≤ s ∧ s ≤ s + 4 * ((0 : Nat) : Int)) ∧ 0 ≤ x.2.1 % 40 ∧ x.2.1 % 40 ≤ x.2.1 % 40 + x.2.2 % 12 ∧ x.2.1 % 40 + x.2.2 % 12 ≤ 50
        omega
      | succ i =>
        have h := h1 i (by simpa using hi)
        show (s ≤ (cAt (madeL (stepS s x) r) i).1 ∧ (cAt (madeL (stepS s x) r) i).1 ≤ s + 4 * ((i + 1 : Nat) : Int)) ∧ _
        exact ⟨by omega, h.2⟩
    · cases j with
      | zero => omega
      | succ j =>
        cases i with
        | zero =>
          have h := h1 j (by simpa using hj)
          show s < (cAt (madeL (stepS s x) r) j).1
          omega
        | succ i => exact h2 i j (by omega) (by simpa using hj)
theorem madeC_nice (l : List Tri) : Nice (madeC l) := by
  unfold madeC
  by_cases h : l = []
  · rw [if_pos h]
    refine ⟨by decide, by decide, ?_, ?_, ?_⟩
    · intro i hi
      have : i = 0 := by simp at hi; exact hi
      subst this
      decide
    · intro i hi
      have : i = 0 := by simp at hi; exact hi
      subst this
      decide
    · intro i j hij hj
      simp at hj
      omega
  · rw [if_neg h]
    have hp : 0 < l.length := List.length_pos_iff.2 h
    have hl : (l.take 5).length = min 5 l.length := List.length_take
    obtain ⟨h1, h2⟩ := madeL_nice (-3) (l.take 5)
    have he := madeL_len (-3) (l.take 5)
    refine ⟨by omega, by omega, fun i hi => ?_, fun i hi => (h1 i (by omega)).2, fun i j hij hj => h2 i j hij (by omega)⟩
    have := (h1 i (by omega)).1
    omega
theorem chkL_zero {l : List Cd} {last : Int} (h0 : ∀ i, i < l.length → fineC (cAt l i)) (h1 : ∀ i, i < l.length → last < (cAt l i).1) (h2 : ∀ i j, i < j → j < l.length → (cAt l i).1 < (cAt l j).1) : chkL last l = 0 := by
  induction l generalizing last with
  | nil => rfl
  | cons c r ih =>
    have f0 : fineC c := h0 0 (by simp)
    have f1 : last < c.1 := h1 0 (by simp)
    unfold chkL
    rw [if_neg (fun h => h f0), if_neg (by omega)]
    refine ih (fun i hi => h0 (i + 1) (by simpa using hi)) (fun i hi => h2 0 (i + 1) (by omega) (by simpa using hi)) (fun i j hij hj => h2 (i + 1) (j + 1) (by omega) (by simpa using hj))
theorem good_chk {l : List Cd} (h : Good l) : chk l = 0 := by
  unfold chk
  have := h.pos
  have := h.few
  rw [if_neg (by omega), if_neg (by omega)]
  refine chkL_zero (fun i hi => ?_) (fun i hi => ?_) h.inc
  · have t := h.tame i hi
    exact ⟨⟨⟨t.s0, t.s1⟩, t.l0, t.l1⟩, t.h1⟩
  · have := (h.tame i hi).s0
    omega
theorem Nice.good {l : List Cd} (h : Nice l) : Good l := by
  have := h.few
  refine ⟨h.pos, by omega, fun i hi => ?_, h.inc⟩
  have := h.set i hi
  have := h.want i hi
  exact ⟨by omega, by omega, by omega, by omega, by omega⟩

/-! ### Moved, and turned around. -/
def movC (n : Int) (c : Cd) : Cd := (c.1, c.2.1 + (n * (c.1 + 10) + 7), c.2.2 + (n * (c.1 + 10) + 7))
def movL (n : Int) (l : List Cd) : List Cd := l.map (movC n)
def turC (c : Cd) : Cd := (-c.1, 100 - c.2.2, 100 - c.2.1)
def turL (l : List Cd) : List Cd := l.reverse.map turC
theorem movL_at {n : Int} {l : List Cd} {i : Nat} (h : i < l.length) : cAt (movL n l) i = movC n (cAt l i) := by
  unfold cAt movL
  rw [List.getElem?_map, List.getElem?_eq_getElem h]
  rfl
theorem movL_len (n : Int) (l : List Cd) : (movL n l).length = l.length := by simp [movL]
theorem turL_len (l : List Cd) : (turL l).length = l.length := by simp [turL]
theorem turL_at {l : List Cd} {i : Nat} (h : i < l.length) : cAt (turL l) i = turC (cAt l (l.length - 1 - i)) := by
  unfold cAt turL
  rw [List.getElem?_map, List.getElem?_reverse h, List.getElem?_eq_getElem (show l.length - 1 - i < l.length by omega)]
  rfl
theorem movL_good {n : Int} (h0 : 0 ≤ n) (h8 : n ≤ 8) {l : List Cd} (h : Nice l) : Good (movL n l) := by
  have hf := h.few
  have hp := h.pos
  have hl := movL_len n l
  refine ⟨by omega, by omega, fun i hi => ?_, fun i j hij hj => ?_⟩
  · rw [movL_at (by omega)]
    have hs := h.set i (by omega)
    have hw := h.want i (by omega)
    generalize cAt l i = c at hs hw
    obtain ⟨s, lo, hi⟩ := c
    dsimp only at hs hw
    have m1 := Int.mul_nonneg h0 (show 0 ≤ s + 10 by omega)
    have m2 := Int.mul_le_mul h8 (show s + 10 ≤ 23 by omega) (by omega) (by omega)
    refine ⟨?_, ?_, ?_, ?_, ?_⟩
    · show -10000 ≤ s; omega
    · show s ≤ 10000; omega
    · show 0 ≤ lo + (n * (s + 10) + 7); omega
    · show lo + (n * (s + 10) + 7) ≤ hi + (n * (s + 10) + 7); omega
    · show hi + (n * (s + 10) + 7) ≤ 10000; omega
  · rw [movL_at (by omega), movL_at (by omega)]
    exact h.inc i j hij (by omega)
theorem turL_good {l : List Cd} (h : Nice l) : Good (turL l) := by
  have hf := h.few
  have hp := h.pos
  have hl := turL_len l
  refine ⟨by omega, by omega, fun i hi => ?_, fun i j hij hj => ?_⟩
  · rw [turL_at (by omega)]
    have hs := h.set (l.length - 1 - i) (by omega)
    have hw := h.want (l.length - 1 - i) (by omega)
    refine ⟨?_, ?_, ?_, ?_, ?_⟩
    · show -10000 ≤ -(cAt l (l.length - 1 - i)).1; omega
    · show -(cAt l (l.length - 1 - i)).1 ≤ 10000; omega
    · show 0 ≤ 100 - (cAt l (l.length - 1 - i)).2.2; omega
    · show 100 - (cAt l (l.length - 1 - i)).2.2 ≤ 100 - (cAt l (l.length - 1 - i)).2.1; omega
    · show 100 - (cAt l (l.length - 1 - i)).2.1 ≤ 10000; omega
  · rw [turL_at (by omega), turL_at (by omega)]
    have := h.inc (l.length - 1 - j) (l.length - 1 - i) (by omega) (by omega)
    show -(cAt l (l.length - 1 - i)).1 < -(cAt l (l.length - 1 - j)).1
    omega
theorem off_mono {l l' : List Cd} (hg : Good l) (hg' : Good l') (h1 : ∀ i, i < l.length → ∃ i', i' < l'.length ∧ one1 (cAt l i) = one1 (cAt l' i'))
    (h3 : ∀ i j k, i < j → j < k → k < l.length → ∃ i' j' k', i' < j' ∧ j' < k' ∧ k' < l'.length ∧ three1 (cAt l i) (cAt l j) (cAt l k) = three1 (cAt l' i') (cAt l' j') (cAt l' k')) : (bestC l).off ≤ (bestC l').off := by
  obtain ⟨g1, g3⟩ := (off_le hg').1 (Rat.le_refl (a := (bestC l').off))
  refine (off_le hg).2 ⟨fun i hi => ?_, fun i j k hij hjk hk => ?_⟩
  · obtain ⟨i', hi', e⟩ := h1 i hi
    rw [e]
    exact g1 i' hi'
  · obtain ⟨i', j', k', a, b, c, e⟩ := h3 i j k hij hjk hk
    rw [e]
    exact g3 i' j' k' a b c
theorem mov_one (n : Int) (c : Cd) : one1 (movC n c) = one1 c := by
  unfold one1 movC
  dsimp only
  rw [show c.2.2 + (n * (c.1 + 10) + 7) - (c.2.1 + (n * (c.1 + 10) + 7)) = c.2.2 - c.2.1 by omega]
theorem mov_three (n : Int) (a b c : Cd) : three1 (movC n a) (movC n b) (movC n c) = three1 a b c := by
  have hu : upF (movC n a) (movC n b) (movC n c) = upF a b c := by
    unfold upF movC
    dsimp only
    grind
  have hd : downF (movC n a) (movC n b) (movC n c) = downF a b c := by
    unfold downF movC
    dsimp only
    grind
  unfold three1
  rw [hu, hd]
  rfl
theorem tur_one (c : Cd) : one1 (turC c) = one1 c := by
  unfold one1 turC
  dsimp only
  rw [show 100 - c.2.1 - (100 - c.2.2) = c.2.2 - c.2.1 by omega]
theorem tur_three (a b c : Cd) : three1 (turC c) (turC b) (turC a) = three1 a b c := by
  have hu : upF (turC c) (turC b) (turC a) = downF a b c := by
    unfold upF downF turC
    dsimp only
    grind
  have hd : downF (turC c) (turC b) (turC a) = upF a b c := by
    unfold upF downF turC
    dsimp only
    grind
  have hs : (turC b).1 - (turC c).1 + ((turC a).1 - (turC b).1) = b.1 - a.1 + (c.1 - b.1) := by
    unfold turC
    dsimp only
    omega
  unfold three1
  rw [hu, hd, hs, show max 0 (max (downF a b c) (upF a b c)) = max 0 (max (upF a b c) (downF a b c)) by omega]
theorem mov_off {n : Int} (h0 : 0 ≤ n) (h8 : n ≤ 8) {l : List Cd} (h : Nice l) : (bestC (movL n l)).off = (bestC l).off := by
  have hl := movL_len n l
  refine Rat.le_antisymm (off_mono (movL_good h0 h8 h) h.good ?_ ?_) (off_mono h.good (movL_good h0 h8 h) ?_ ?_)
  · intro i hi
    exact ⟨i, by omega, by rw [movL_at (by omega), mov_one]⟩
  · intro i j k hij hjk hk
    exact ⟨i, j, k, hij, hjk, by omega, by rw [movL_at (by omega), movL_at (by omega), movL_at (by omega), mov_three]⟩
  · intro i hi
    exact ⟨i, by omega, by rw [movL_at (by omega), mov_one]⟩
  · intro i j k hij hjk hk
    exact ⟨i, j, k, hij, hjk, by omega, by rw [movL_at (by omega), movL_at (by omega), movL_at (by omega), mov_three]⟩
theorem tur_off {l : List Cd} (h : Nice l) : (bestC (turL l)).off = (bestC l).off := by
  have hl := turL_len l
  refine Rat.le_antisymm (off_mono (turL_good h) h.good ?_ ?_) (off_mono h.good (turL_good h) ?_ ?_)
  · intro i hi
    exact ⟨l.length - 1 - i, by omega, by rw [turL_at (by omega), tur_one]⟩
  · intro i j k hij hjk hk
    exact ⟨l.length - 1 - k, l.length - 1 - j, l.length - 1 - i, by omega, by omega, by omega, by rw [turL_at (by omega), turL_at (by omega), turL_at (by omega), tur_three]⟩
  · intro i hi
    exact ⟨l.length - 1 - i, by omega, by rw [turL_at (by omega), tur_one, show l.length - 1 - (l.length - 1 - i) = i by omega]⟩
  · intro i j k hij hjk hk
    exact ⟨l.length - 1 - k, l.length - 1 - j, l.length - 1 - i, by omega, by omega, by omega, by
      rw [turL_at (by omega), turL_at (by omega), turL_at (by omega), tur_three, show l.length - 1 - (l.length - 1 - i) = i by omega, show l.length - 1 - (l.length - 1 - j) = j by omega, show l.length - 1 - (l.length - 1 - k) = k by omega]⟩

/-! ### The gains. -/
theorem gF_spec {bn bd : Int} {l : List Cd} (h : 2 ≤ l.length) : (∃ i j, i < j ∧ j < l.length ∧ (gF bn bd l).1 = loG bn bd (cAt l i) (cAt l j)) ∧ (∃ i j, i < j ∧ j < l.length ∧ (gF bn bd l).2 = hiG bn bd (cAt l i) (cAt l j)) ∧
    (∀ i j, i < j → j < l.length → loG bn bd (cAt l i) (cAt l j) ≤ (gF bn bd l).1) ∧ (∀ i j, i < j → j < l.length → (gF bn bd l).2 ≤ hiG bn bd (cAt l i) (cAt l j)) := by
  have hm : ((0, 1) : Pair) ∈ prs l.length := prs_mem.2 ⟨by decide, by dsimp only; omega⟩
  unfold gF
  rcases gFold_spec bn bd l (prs l.length) with ⟨h1, _⟩ | ⟨p, q, h1, ⟨t, ht, e1⟩, ⟨u, hu, e2⟩, h3, h4⟩
  · rw [h1] at hm
    cases hm
  · rw [h1]
    have ht := prs_mem.1 ht
    have hu := prs_mem.1 hu
    refine ⟨⟨t.1, t.2, ht.1, ht.2, e1⟩, ⟨u.1, u.2, hu.1, hu.2, e2⟩, fun i j hij hj => h3 (i, j) (prs_mem.2 ⟨hij, hj⟩), fun i j hij hj => h4 (i, j) (prs_mem.2 ⟨hij, hj⟩)⟩
theorem gF_shift {bn bd : Int} {l l' : List Cd} (k : Rat) (h2 : 2 ≤ l.length) (h2' : 2 ≤ l'.length)
    (ht : ∀ i j, i < j → j < l.length → ∃ i' j', i' < j' ∧ j' < l'.length ∧ loG bn bd (cAt l' i') (cAt l' j') = loG bn bd (cAt l i) (cAt l j) + k ∧ hiG bn bd (cAt l' i') (cAt l' j') = hiG bn bd (cAt l i) (cAt l j) + k)
    (hf : ∀ i' j', i' < j' → j' < l'.length → ∃ i j, i < j ∧ j < l.length ∧ loG bn bd (cAt l' i') (cAt l' j') = loG bn bd (cAt l i) (cAt l j) + k ∧ hiG bn bd (cAt l' i') (cAt l' j') = hiG bn bd (cAt l i) (cAt l j) + k) :
    (gF bn bd l').1 = (gF bn bd l).1 + k ∧ (gF bn bd l').2 = (gF bn bd l).2 + k := by
  obtain ⟨⟨a, b, hab, hb, e1⟩, ⟨c, d, hcd, hd, e2⟩, h3, h4⟩ := gF_spec (bn := bn) (bd := bd) h2
  obtain ⟨⟨a', b', hab', hb', e1'⟩, ⟨c', d', hcd', hd', e2'⟩, h3', h4'⟩ := gF_spec (bn := bn) (bd := bd) h2'
  constructor
  · obtain ⟨x, y, hxy, hy, f1, _⟩ := ht a b hab hb
    obtain ⟨z, v, hzv, hv, f2, _⟩ := hf a' b' hab' hb'
    have g1 := h3' x y hxy hy
    have g2 := h3 z v hzv hv
    rw [f1, ← e1] at g1
    rw [← e1'] at f2
    generalize (gF bn bd l').1 = P' at *
    generalize (gF bn bd l).1 = P at *
    generalize loG bn bd (cAt l z) (cAt l v) = Z at *
    grind
  · obtain ⟨x, y, hxy, hy, _, f1⟩ := ht c d hcd hd
    obtain ⟨z, v, hzv, hv, _, f2⟩ := hf c' d' hcd' hd'
    have g1 := h4' x y hxy hy
    have g2 := h4 z v hzv hv
    rw [f1, ← e2] at g1
    rw [← e2'] at f2
    generalize (gF bn bd l').2 = P' at *
    generalize (gF bn bd l).2 = P at *
    generalize hiG bn bd (cAt l z) (cAt l v) = Z at *
    grind
theorem fr_shift {x y : Int} {k : Int} (hy : 0 < y) : fr (x + k * y) y = fr x y + (k : Rat) := by
  have e1 := fr_mul (n := x + k * y) hy
  have e2 := fr_mul (n := x) hy
  have hy' := cast_lt hy
  have z : ((0 : Int) : Rat) = 0 := by simp
  rw [z] at hy'
  rw [Rat.intCast_add, Rat.intCast_mul] at e1
  generalize fr (x + k * y) y = p at e1 ⊢
  generalize fr x y = q at e2 ⊢
  have h : (p - (q + (k : Rat))) * (y : Rat) = 0 := by grind
  rcases Rat.mul_eq_zero.1 h with h | h
  · grind
  · grind
theorem mov_gain {n : Int} {bn bd : Int} (hbd : 0 < bd) {a b : Cd} (h : a.1 < b.1) : loG bn bd (movC n a) (movC n b) = loG bn bd a b + (n : Rat) ∧ hiG bn bd (movC n a) (movC n b) = hiG bn bd a b + (n : Rat) := by
  have hd := Int.mul_pos (show 0 < b.1 - a.1 by omega) hbd
  constructor
  · unfold loG
    rw [← fr_shift hd]
    show fr ((b.2.2 + (n * (b.1 + 10) + 7) - (a.2.1 + (n * (a.1 + 10) + 7))) * bd - 2 * bn) ((b.1 - a.1) * bd) = _
    congr 1
    grind
  · unfold hiG
    rw [← fr_shift hd]
    show fr ((b.2.1 + (n * (b.1 + 10) + 7) - (a.2.2 + (n * (a.1 + 10) + 7))) * bd + 2 * bn) ((b.1 - a.1) * bd) = _
    congr 1
    grind
theorem tur_gain {bn bd : Int} {a b : Cd} : loG bn bd (turC b) (turC a) = loG bn bd a b ∧ hiG bn bd (turC b) (turC a) = hiG bn bd a b := by
  constructor
  · unfold loG
    show fr ((100 - a.2.1 - (100 - b.2.2)) * bd - 2 * bn) ((-a.1 - -b.1) * bd) = _
    rw [show 100 - a.2.1 - (100 - b.2.2) = b.2.2 - a.2.1 by omega, show -a.1 - -b.1 = b.1 - a.1 by omega]
  · unfold hiG
    show fr ((100 - a.2.2 - (100 - b.2.1)) * bd + 2 * bn) ((-a.1 - -b.1) * bd) = _
    rw [show 100 - a.2.2 - (100 - b.2.1) = b.2.1 - a.2.2 by omega, show -a.1 - -b.1 = b.1 - a.1 by omega]
theorem mov_gF {n bn bd : Int} (hbd : 0 < bd) {l : List Cd} (h : Nice l) (h2 : 2 ≤ l.length) : (gF bn bd (movL n l)).1 = (gF bn bd l).1 + (n : Rat) ∧ (gF bn bd (movL n l)).2 = (gF bn bd l).2 + (n : Rat) := by
  have hl := movL_len n l
  have key : ∀ i j, i < j → j < l.length → loG bn bd (cAt (movL n l) i) (cAt (movL n l) j) = loG bn bd (cAt l i) (cAt l j) + (n : Rat) ∧ hiG bn bd (cAt (movL n l) i) (cAt (movL n l) j) = hiG bn bd (cAt l i) (cAt l j) + (n : Rat) := fun i j hij hj => by
    rw [movL_at (by omega), movL_at (by omega)]
    exact mov_gain hbd (h.inc i j hij hj)
  exact gF_shift (n : Rat) h2 (by omega) (fun i j hij hj => ⟨i, j, hij, by omega, key i j hij hj⟩) (fun i j hij hj => ⟨i, j, hij, by omega, key i j hij (by omega)⟩)
theorem tur_gF {bn bd : Int} {l : List Cd} (h2 : 2 ≤ l.length) : gF bn bd (turL l) = gF bn bd l := by
  have hl := turL_len l
  have key : ∀ i j, i < j → j < l.length → loG bn bd (cAt (turL l) i) (cAt (turL l) j) = loG bn bd (cAt l (l.length - 1 - j)) (cAt l (l.length - 1 - i)) + 0 ∧ hiG bn bd (cAt (turL l) i) (cAt (turL l) j) = hiG bn bd (cAt l (l.length - 1 - j)) (cAt l (l.length - 1 - i)) + 0 := fun i j hij hj => by
    rw [turL_at (by omega), turL_at (by omega), Rat.add_zero, Rat.add_zero]
    exact tur_gain
  obtain ⟨h1, h3⟩ := gF_shift (l := l) (l' := turL l) (bn := bn) (bd := bd) 0 h2 (by omega) (fun i j hij hj => ⟨l.length - 1 - j, l.length - 1 - i, by omega, by omega, by
      have k := key (l.length - 1 - j) (l.length - 1 - i) (by omega) (by omega)
      rw [show l.length - 1 - (l.length - 1 - i) = i by omega, show l.length - 1 - (l.length - 1 - j) = j by omega] at k
      exact k⟩) (fun i j hij hj => ⟨l.length - 1 - j, l.length - 1 - i, by omega, by omega, key i j hij (by omega)⟩)
  rw [Rat.add_zero] at h1 h3
  exact Prod.ext h1 h3
/-- A whole number is added to a fraction. -/
theorem add_int (q : Rat) (n : Int) : (q + (n : Rat)).num = q.num + n * (q.den : Int) ∧ (q + (n : Rat)).den = q.den := by
  have hr : (q.num + n * (q.den : Int)).natAbs.Coprime q.den := by
    have h := q.reduced
    show Int.gcd (q.num + n * (q.den : Int)) (q.den : Int) = 1
    rw [Int.gcd_add_mul_right_left]
    exact h
  have hd : (0 : Int) < (q.den : Int) := by have := q.den_pos; omega
  have e : q + (n : Rat) = ⟨q.num + n * (q.den : Int), q.den, q.den_nz, hr⟩ := by
    rw [Rat.mk_eq_divInt]
    show _ = fr (q.num + n * (q.den : Int)) (q.den : Int)
    rw [fr_shift hd]
    show q + (n : Rat) = Rat.divInt q.num q.den + (n : Rat)
    rw [Rat.num_divInt_den]
  rw [e]
  exact ⟨rfl, rfl⟩
end Go.Proofs.Ytjncoableanmpaa
