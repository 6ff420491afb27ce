/- Plain: where no code and no three codes stand against a bound, all gains fit together. -/
import Derived.Test.YtjncoableanmpaaPD
namespace Go.Proofs.Ytjncoableanmpaa
theorem fr_mul {n d : Int} (hd : 0 < d) : fr n d * (d : Rat) = (n : Rat) := by
  unfold fr
  rw [Rat.divInt_eq_div]
  exact Rat.div_mul_cancel (by intro h; have : d = 0 := by exact_mod_cast h
                               omega)
theorem rat_cases (a b : Rat) : a < b ∨ b ≤ a := by
  by_cases h : a < b
  · exact .inl h
  · exact .inr (Rat.not_lt.1 h)
theorem mul_pos_le {a b c : Rat} (h : a ≤ b) (hc : 0 < c) : a * c ≤ b * c := Rat.mul_le_mul_of_nonneg_right h (Rat.le_of_lt hc)
theorem mul_pos_lt {a b c : Rat} (h : a < b) (hc : 0 < c) : a * c < b * c := Rat.mul_lt_mul_of_pos_right h hc
theorem le_of_mul {a b c : Rat} (h : a * c ≤ b * c) (hc : 0 < c) : a ≤ b := by
  rcases rat_cases b a with h1 | h1
  · have := mul_pos_lt h1 hc
    grind
  · exact h1

section
variable {s L U : Nat → Rat} {n : Nat} (hs : ∀ i j, i < j → j < n → s i < s j) (h1 : ∀ i, i < n → L i ≤ U i)
  (hup : ∀ a b c, a < b → b < c → c < n → L b * (s c - s a) ≤ U a * (s c - s b) + U c * (s b - s a))
  (hdn : ∀ a b c, a < b → b < c → c < n → L a * (s c - s b) + L c * (s b - s a) ≤ U b * (s c - s a)) (g : Rat)
include hs hup in
theorem no_up {a b c : Nat} (hab : a < b) (hbc : b < c) (hc : c < n) (p : U a - g * s a ≤ L b - g * s b) (q : U c - g * s c < L b - g * s b) : False := by
  have e1 : 0 < s c - s b := by have := hs b c hbc hc; grind
  have e2 : 0 < s b - s a := by have := hs a b hab (by omega); grind
  have f1 := mul_pos_le p e1
  have f2 := mul_pos_lt q e2
  have f3 := hup a b c hab hbc hc
  grind
include hs hup in
theorem no_up' {a b c : Nat} (hab : a < b) (hbc : b < c) (hc : c < n) (p : U a - g * s a < L b - g * s b) (q : U c - g * s c ≤ L b - g * s b) : False := by
  have e1 : 0 < s c - s b := by have := hs b c hbc hc; grind
  have e2 : 0 < s b - s a := by have := hs a b hab (by omega); grind
  have f1 := mul_pos_lt p e1
  have f2 := mul_pos_le q e2
  have f3 := hup a b c hab hbc hc
  grind
include hs hdn in
theorem no_dn {a b c : Nat} (hab : a < b) (hbc : b < c) (hc : c < n) (p : U b - g * s b < L a - g * s a) (q : U b - g * s b ≤ L c - g * s c) : False := by
  have e1 : 0 < s c - s b := by have := hs b c hbc hc; grind
  have e2 : 0 < s b - s a := by have := hs a b hab (by omega); grind
  have f1 := mul_pos_lt p e1
  have f2 := mul_pos_le q e2
  have f3 := hdn a b c hab hbc hc
  grind
include hs h1 hup hdn in
theorem helly {i j k l : Nat} (hij : i < j) (hj : j < n) (hkl : k < l) (hl : l < n) (g1 : g * (s j - s i) ≤ L j - U i) (g2 : U l - L k < g * (s l - s k)) : False := by
  have p1 : U i - g * s i ≤ L j - g * s j := by grind
  have p2 : U l - g * s l < L k - g * s k := by grind
  have hi := h1 i (by omega)
  have hjj := h1 j hj
  have hk := h1 k (by omega)
  have hll := h1 l hl
  rcases rat_cases (L j - g * s j) (L k - g * s k) with hc | hc
  · rcases Nat.lt_trichotomy i k with h | h | h
    · exact no_up hs hup g h hkl hl (by grind) p2
    · subst h; grind
    · exact no_dn hs hdn g h hij hj (by grind) p1
  · rcases Nat.lt_trichotomy j l with h | h | h
    · exact no_up hs hup g hij h hl p1 (by grind)
    · subst h; grind
    · exact no_dn hs hdn g hkl h hj p2 (by grind)
end

theorem cast_lt {a b : Int} (h : a < b) : (a : Rat) < (b : Rat) := by exact_mod_cast h
theorem cast_le {a b : Int} (h : a ≤ b) : (a : Rat) ≤ (b : Rat) := by exact_mod_cast h
/-- What one code proves, and what three codes prove, as inequalities. -/
theorem one_le {a : Cd} {B : Rat} : one1 a ≤ B ↔ ((a.2.2 : Rat) - B ≤ (a.2.1 : Rat) + B) := by
  have e := fr_mul (n := a.2.2 - a.2.1) (d := 2) (by omega)
  unfold one1
  have c : ((a.2.2 - a.2.1 : Int) : Rat) = (a.2.2 : Rat) - (a.2.1 : Rat) := by simp
  rw [c] at e
  generalize fr (a.2.2 - a.2.1) 2 = q at e ⊢
  constructor
  · intro h
    grind
  · intro h
    grind
theorem three_le {a b c : Cd} {B : Rat} (h1 : a.1 < b.1) (h2 : b.1 < c.1) (hB : 0 ≤ B) : three1 a b c ≤ B ↔
    (((b.2.2 : Rat) - B) * ((c.1 : Rat) - (a.1 : Rat)) ≤ ((a.2.1 : Rat) + B) * ((c.1 : Rat) - (b.1 : Rat)) + ((c.2.1 : Rat) + B) * ((b.1 : Rat) - (a.1 : Rat)) ∧
     ((a.2.2 : Rat) - B) * ((c.1 : Rat) - (b.1 : Rat)) + ((c.2.2 : Rat) - B) * ((b.1 : Rat) - (a.1 : Rat)) ≤ ((b.2.1 : Rat) + B) * ((c.1 : Rat) - (a.1 : Rat))) := by
  have hd : 0 < 2 * (b.1 - a.1 + (c.1 - b.1)) := by omega
  have e := fr_mul (n := max 0 (max (upF a b c) (downF a b c))) hd
  unfold three1
  have hdr := cast_lt hd
  have c1 : ((2 * (b.1 - a.1 + (c.1 - b.1)) : Int) : Rat) = 2 * ((c.1 : Rat) - (a.1 : Rat)) := by
    rw [show 2 * (b.1 - a.1 + (c.1 - b.1)) = 2 * (c.1 - a.1) by omega]
    simp
  have c2 : ((upF a b c : Int) : Rat) = (b.2.2 : Rat) * ((c.1 : Rat) - (a.1 : Rat)) - (a.2.1 : Rat) * ((c.1 : Rat) - (b.1 : Rat)) - (c.2.1 : Rat) * ((b.1 : Rat) - (a.1 : Rat)) := by
    unfold upF
    rw [show b.1 - a.1 + (c.1 - b.1) = c.1 - a.1 by omega]
    simp
  have c3 : ((downF a b c : Int) : Rat) = (a.2.2 : Rat) * ((c.1 : Rat) - (b.1 : Rat)) + (c.2.2 : Rat) * ((b.1 : Rat) - (a.1 : Rat)) - (b.2.1 : Rat) * ((c.1 : Rat) - (a.1 : Rat)) := by
    unfold downF
    rw [show b.1 - a.1 + (c.1 - b.1) = c.1 - a.1 by omega]
    simp
  have m0 : ((0 : Int) : Rat) ≤ ((max 0 (max (upF a b c) (downF a b c)) : Int) : Rat) := cast_le (by omega)
  have m1 : ((upF a b c : Int) : Rat) ≤ ((max 0 (max (upF a b c) (downF a b c)) : Int) : Rat) := cast_le (by omega)
  have m2 : ((downF a b c : Int) : Rat) ≤ ((max 0 (max (upF a b c) (downF a b c)) : Int) : Rat) := cast_le (by omega)
  have m3 : ((max 0 (max (upF a b c) (downF a b c)) : Int) : Rat) = ((0 : Int) : Rat) ∨ ((max 0 (max (upF a b c) (downF a b c)) : Int) : Rat) = ((upF a b c : Int) : Rat) ∨ ((max 0 (max (upF a b c) (downF a b c)) : Int) : Rat) = ((downF a b c : Int) : Rat) := by
    have : max 0 (max (upF a b c) (downF a b c)) = 0 ∨ max 0 (max (upF a b c) (downF a b c)) = upF a b c ∨ max 0 (max (upF a b c) (downF a b c)) = downF a b c := by omega
    rcases this with h | h | h
    · exact .inl (by rw [h])
    · exact .inr (.inl (by rw [h]))
    · exact .inr (.inr (by rw [h]))
  rw [c1] at e hdr
  rw [c2] at m1 m3
  rw [c3] at m2 m3
  have z : ((0 : Int) : Rat) = 0 := by simp
  rw [z] at m0 m3 hdr
  generalize ((max 0 (max (upF a b c) (downF a b c)) : Int) : Rat) = M at e m0 m1 m2 m3
  generalize fr (max 0 (max (upF a b c) (downF a b c))) (2 * (b.1 - a.1 + (c.1 - b.1))) = q at e ⊢
  generalize (a.1 : Rat) = sa at *
  generalize (b.1 : Rat) = sb at *
  generalize (c.1 : Rat) = sc at *
  constructor
  · intro h
    have := mul_pos_le h hdr
    constructor <;> grind
  · rintro ⟨h3, h4⟩
    refine le_of_mul (c := 2 * (sc - sa)) ?_ hdr
    have hz : 0 ≤ B * (2 * (sc - sa)) := Rat.mul_nonneg hB (Rat.le_of_lt hdr)
    rcases m3 with h | h | h <;> grind
end Go.Proofs.Ytjncoableanmpaa
