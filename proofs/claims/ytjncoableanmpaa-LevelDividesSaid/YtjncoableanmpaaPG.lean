/- Plain: which codes prove a bound. -/
import Derived.Test.YtjncoableanmpaaPF
namespace Go.Proofs.Ytjncoableanmpaa
def cdL (n : Int) : Int → List Int → Int
  | _, [] => 0
  | last, i :: r => if ¬ (0 ≤ i ∧ i ≤ n - 1) then 8 else if i ≤ last then 7 else cdL n i r
theorem cdL_at {n : Int} {cs : List Int} {k : Nat} (h : k < cs.length) (last : Int) : cdL n last (cs.drop k) = if ¬ (0 ≤ cs[k]?.getD 0 ∧ cs[k]?.getD 0 ≤ n - 1) then 8 else if cs[k]?.getD 0 ≤ last then 7 else cdL n (cs[k]?.getD 0) (cs.drop (k + 1)) := by
  rw [List.drop_eq_getElem_cons h, List.getElem?_eq_getElem h]
  rfl
/-- The trio of codes. -/
def trioOf (cs : List Int) : Trio := ((cs[0]?.getD 0).toNat, (cs[cs.length / 2]?.getD 0).toNat, (cs[cs.length - 1]?.getD 0).toNat)
theorem trioOf_ok {n : Nat} {cs : List Int} (hl : cs.length = 1 ∨ cs.length = 3) (h : cdL n (-1) cs = 0) : TrioOk n (trioOf cs) ∧ (cs[0]?.getD 0 = ((trioOf cs).1 : Int)) ∧ (cs[cs.length / 2]?.getD 0 = ((trioOf cs).2.1 : Int)) ∧ (cs[cs.length - 1]?.getD 0 = ((trioOf cs).2.2 : Int)) := by
  rcases hl with hl | hl
  · obtain ⟨a, rfl⟩ := List.length_eq_one_iff.1 hl
    simp only [cdL] at h
    split at h
    · cases h
    · rename_i h1
      have h1 := Decidable.not_not.1 h1
      have e : trioOf [a] = (a.toNat, a.toNat, a.toNat) := by simp [trioOf]
      rw [e]
      exact ⟨⟨by show a.toNat < n; omega, .inl ⟨rfl, rfl⟩⟩, by simp; omega, by simp; omega, by simp; omega⟩
  · obtain ⟨a, b, c, rfl⟩ : ∃ a b c, cs = [a, b, c] := by
      match cs, hl with
      | [a, b, c], _ => exact ⟨a, b, c, rfl⟩
    simp only [cdL] at h
    split at h
    · cases h
    · rename_i h1
      have h1 := Decidable.not_not.1 h1
      split at h
      · cases h
      · rename_i g1
        split at h
        · cases h
        · rename_i h2
          have h2 := Decidable.not_not.1 h2
          split at h
          · cases h
          · rename_i g2
            split at h
            · cases h
            · rename_i h3
              have h3 := Decidable.not_not.1 h3
              split at h
              · cases h
              · rename_i g3
                have e : trioOf [a, b, c] = (a.toNat, b.toNat, c.toNat) := by simp [trioOf]
                rw [e]
                exact ⟨⟨by show c.toNat < n; omega, .inr ⟨by show a.toNat < b.toNat; omega, by show b.toNat < c.toNat; omega⟩⟩, by simp; omega, by simp; omega, by simp; omega⟩
def bdOk (bn bd : Int) : Bool := (decide (0 ≤ bn) && decide (bn ≤ 1000000)) && (decide (1 ≤ bd) && decide (bd ≤ 100000))
/-- What Verify comes to. -/
def verV (l : List Cd) (cs : List Int) (bn bd : Int) : Int :=
  if ¬ chk l = 0 then chk l
  else if ¬ (cs.length = 1 ∨ cs.length = 3) then 6
  else if ¬ cdL l.length (-1) cs = 0 then cdL l.length (-1) cs
  else if bdOk bn bd = false then 3
  else if (clm l (trioOf cs)).off < fr bn bd then 14 else 0
end Go.Proofs.Ytjncoableanmpaa
