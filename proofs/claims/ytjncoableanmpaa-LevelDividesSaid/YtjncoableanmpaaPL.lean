/- Plain: all divisions are tried, one number of a set for each. -/
import Derived.Test.YtjncoableanmpaaPK
namespace Go.Proofs.Ytjncoableanmpaa

/-- The starts that a set's bits tell, up to index m. -/
def pre (set : Nat) : Nat → List Int
  | 0 => [0]
  | m + 1 => pre set m ++ (if set.testBit m = true then [((m + 1 : Nat) : Int)] else [])
theorem pre_agree {a b m : Nat} (h : ∀ i, i < m → a.testBit i = b.testBit i) : pre a m = pre b m := by
  induction m with
  | zero => rfl
  | succ m ih =>
    unfold pre
    rw [ih (fun i hi => h i (by omega)), h m (by omega)]
theorem pre_stop {a m k : Nat} (h : ∀ i, m ≤ i → i < m + k → a.testBit i = false) : pre a (m + k) = pre a m := by
  induction k with
  | zero => rfl
  | succ k ih =>
    show pre a (m + k) ++ (if a.testBit (m + k) = true then _ else []) = _
    rw [h (m + k) (by omega) (by omega), if_neg (by decide), List.append_nil]
    exact ih (fun i h1 h2 => h i h1 (by omega))
theorem pre_len (a m : Nat) : 0 < (pre a m).length ∧ (pre a m).length ≤ m + 1 := by
  induction m with
  | zero => exact ⟨Nat.one_pos, Nat.le_refl _⟩
  | succ m ih =>
    unfold pre
    rw [List.length_append]
    split
    · simp; omega
    · simp; omega
/-- What is known of such a list: it begins with 0 and grows. -/
structure Asc (s : List Int) (m : Nat) : Prop where
  head : s[0]? = some 0
  inc : ∀ i, i + 1 < s.length → s[i]?.getD 0 < s[i + 1]?.getD 0
  bd : ∀ i, i < s.length → 0 ≤ s[i]?.getD 0 ∧ s[i]?.getD 0 ≤ (m : Int)
theorem pre_asc (a m : Nat) : Asc (pre a m) m := by
  induction m with
  | zero =>
    refine ⟨rfl, fun i hi => ?_, fun i hi => ?_⟩
    · have : i + 1 < 1 := hi
      omega
    · have : i < 1 := hi
      obtain rfl : i = 0 := by omega
      show 0 ≤ (0 : Int) ∧ (0 : Int) ≤ ((0 : Nat) : Int)
      omega
  | succ m ih =>
    have hl := (pre_len a m).1
    unfold pre
    split
    · refine ⟨?_, fun i hi => ?_, fun i hi => ?_⟩
      · rw [List.getElem?_append_left hl]
        exact ih.head
      · rw [List.length_append] at hi
        have hi : i + 1 < (pre a m).length + 1 := hi
        by_cases he : i + 1 < (pre a m).length
        · rw [List.getElem?_append_left (by omega), List.getElem?_append_left he]
          exact ih.inc i he
        · rw [List.getElem?_append_left (by omega), List.getElem?_append_right (by omega), show i + 1 - (pre a m).length = 0 by omega]
          have := (ih.bd i (by omega)).2
          show _ < ((m + 1 : Nat) : Int)
          omega
      · rw [List.length_append] at hi
        have hi : i < (pre a m).length + 1 := hi
        by_cases he : i < (pre a m).length
        · rw [List.getElem?_append_left he]
          have := ih.bd i he
          omega
        · rw [List.getElem?_append_right (by omega), show i - (pre a m).length = 0 by omega]
          show 0 ≤ ((m + 1 : Nat) : Int) ∧ ((m + 1 : Nat) : Int) ≤ ((m + 1 : Nat) : Int)
          omega
    · rw [List.append_nil]
      exact ⟨ih.head, ih.inc, fun i hi => by have := ih.bd i hi; omega⟩
/-- Each division is told by a set. -/
theorem pre_all {l : List Cd} {n e : Nat} {s : List Int} {q : Rat} (h : Dv l n e s q) : ∃ a, a < 2 ^ (e - 1) ∧ pre a (e - 1) = s := by
  induction n generalizing e s q with
  | zero =>
    obtain ⟨he, rfl, rfl⟩ := h
    refine ⟨0, Nat.two_pow_pos _, ?_⟩
    have := pre_stop (a := 0) (m := 0) (k := e - 1) (fun i _ _ => Nat.zero_testBit i)
    rw [Nat.zero_add] at this
    exact this
  | succ n ih =>
    obtain ⟨a, s', q', h1, h2, h3, rfl, rfl⟩ := h
    obtain ⟨t, ht, hs⟩ := ih h1
    obtain ⟨b, rfl⟩ : ∃ b, a = b + 1 := ⟨a - 1, by omega⟩
    rw [Nat.add_sub_cancel] at ht hs
    have hb : (2 ^ b + t).testBit b = true := by rw [Nat.testBit_two_pow_add_eq, Nat.testBit_lt_two_pow ht]; rfl
    have hlt : 2 ^ b + t < 2 ^ (b + 1) := by rw [Nat.pow_succ]; omega
    have hle : 2 ^ (b + 1) ≤ 2 ^ (e - 1) := Nat.pow_le_pow_right (by omega) (by omega)
    refine ⟨2 ^ b + t, by omega, ?_⟩
    have e1 : pre (2 ^ b + t) (b + 1) = s' ++ [((b + 1 : Nat) : Int)] := by
      unfold pre
      rw [hb, if_pos rfl, ← hs, pre_agree (a := 2 ^ b + t) (b := t)]
      intro i hi
      exact Nat.testBit_two_pow_add_gt hi t
    have e2 := pre_stop (a := 2 ^ b + t) (m := b + 1) (k := e - 1 - (b + 1)) (fun i h1 _ => Nat.testBit_lt_two_pow (Nat.lt_of_lt_of_le hlt (Nat.pow_le_pow_right (by omega) h1)))
    rw [show b + 1 + (e - 1 - (b + 1)) = e - 1 by omega] at e2
    rw [e2, e1]
/-- The end of part k. -/
def endOf (s : List Int) (n k : Nat) : Nat := if k + 1 < s.length then (s[k + 1]?.getD 0).toNat else n
/-- The errors of the first parts. -/
theorem dv_parts {l : List Cd} {s : List Int} {m n : Nat} (h : Asc s m) (hm : m < n) {k : Nat} {q : Rat} (hk : k + 1 < s.length) (hd : Dv l k (endOf s n k) (s.take (k + 1)) q) :
    Dv l (k + 1) (endOf s n (k + 1)) (s.take (k + 2)) (maxR q (alo l (s[k + 1]?.getD 0).toNat (endOf s n (k + 1)))) := by
  have he : endOf s n k = (s[k + 1]?.getD 0).toNat := if_pos hk
  have hb := h.bd (k + 1) hk
  have hk2 := dv_big hd
  rw [he] at hd hk2
  refine ⟨(s[k + 1]?.getD 0).toNat, s.take (k + 1), q, hd, hk2, ?_, ?_, rfl⟩
  · unfold endOf
    split
    · rename_i h2
      have h3 := h.inc (k + 1) h2
      omega
    · omega
  · rw [List.take_succ_eq_append_getElem hk]
    congr 1
    rw [List.getElem?_eq_getElem hk]
    show [s[k + 1]] = [((s[k + 1].toNat : Nat) : Int)]
    rw [List.getElem?_eq_getElem hk] at hb
    have hb : 0 ≤ s[k + 1] ∧ _ := hb
    rw [Int.toNat_of_nonneg hb.1]
theorem dv_first {l : List Cd} {s : List Int} {m n : Nat} (h : Asc s m) (hm : m < n) (hl : 0 < s.length) : Dv l 0 (endOf s n 0) (s.take 1) (alo l 0 (endOf s n 0)) := by
  refine ⟨?_, ?_, rfl⟩
  · unfold endOf
    split
    · rename_i h2
      have := h.inc 0 h2
      have := h.bd 0 hl
      omega
    · omega
  · have h0 := h.head
    match s, hl with
    | x :: r, _ =>
      have : x = 0 := by simpa using h0
      rw [this]
      rfl
theorem dv_full {l : List Cd} {s : List Int} {m n k : Nat} {q : Rat} (_ : Asc s m) (hk : k + 1 = s.length) (hd : Dv l k (endOf s n k) (s.take (k + 1)) q) : Dv l k n s q := by
  have he : endOf s n k = n := if_neg (by omega)
  rw [he, List.take_of_length_le (by omega)] at hd
  exact hd
end Go.Proofs.Ytjncoableanmpaa
