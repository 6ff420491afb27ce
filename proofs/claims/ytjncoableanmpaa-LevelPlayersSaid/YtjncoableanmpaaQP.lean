/- Divisions of a coding by numbers: what Best answers on a part, how small the errors are; what all tries leave. -/
import Derived.Test.YtjncoableanmpaaQM
import Derived.Test.YtjncoableanmpaaPL
namespace Go.Proofs.Ytjncoableanmpaa
open Go.RowKit Go.Lib Go.Shelf

theorem nice_sub {l : List Cd} (h : Nice l) {a e : Nat} (h1 : a < e) (h2 : e ≤ l.length) : Nice (sub l a e) := by
  have hl := sub_len (l := l) (a := a) h2
  have hf := h.few
  refine ⟨by omega, by omega, fun i hi => ?_, fun i hi => ?_, fun i j hij hj => ?_⟩
  · rw [sub_at (by omega)]; exact h.set _ (by omega)
  · rw [sub_at (by omega)]; exact h.want _ (by omega)
  · rw [sub_at (by omega), sub_at (by omega)]; exact h.inc _ _ (by omega) (by omega)
/-- A small error. -/
def Tin (q : Rat) : Prop := 0 ≤ q.num ∧ q.num ≤ 1700 ∧ 0 < (q.den : Int) ∧ (q.den : Int) ≤ 32
theorem alo_tin {l : List Cd} (h : Nice l) {a e : Nat} (h1 : a < e) (h2 : e ≤ l.length) : Tin (alo l a e) := nice_off (nice_sub h h1 h2)
theorem dv_tin {l : List Cd} (h : Nice l) {n e : Nat} {s : List Int} {q : Rat} (he : e ≤ l.length) (hd : Dv l n e s q) : Tin q := by
  induction n generalizing e s q with
  | zero =>
    obtain ⟨h1, _, rfl⟩ := hd
    exact alo_tin h h1 he
  | succ n ih =>
    obtain ⟨a, s', q', h1, h2, h3, rfl, rfl⟩ := hd
    rcases maxR_or q' (alo l a e) with k | k
    · rw [k]; exact ih (by omega) h1
    · rw [k]; exact alo_tin h h3 he
theorem part_best {b off n c : Nat} {l : List Cd} (h : Nice l) (hc : n ≤ c) {a e : Nat} (h1 : a < e) (h2 : e ≤ n) (hl : l.length = n) : ∃ x1 x2 x3 x4 : Int, ∀ W : World, ReadsC W (some ⟨b, off, none⟩) n l →
    Gives 25 #[.slice (some ⟨b, off + a * 3, none⟩) (e - a) (c - a)] (.tuple #[.agg #[.int .i64 x1, .int .i64 x2, .int .i64 x3, .int .i64 x4], .agg #[.int .i64 (alo l a e).num, .int .i64 ((alo l a e).den : Int)], .int .i64 0]) W :=
  ⟨_, _, _, _, fun W hr => Best_calls W (reads_sub hr h1 h2) (good_chk (sub_good h.good h1 (by omega))) (by omega)⟩
theorem tin_less {p q : Rat} (hp : Tin p ∨ p = 1000000) (hq : Tin q) (w : World) : Gives 29 #[.agg #[.int .i64 q.num, .int .i64 (q.den : Int)], .agg #[.int .i64 p.num, .int .i64 (p.den : Int)]] (.bool (decide (q < p))) w := by
  rw [← rat_lt]
  rcases hp with hp | rfl
  · unfold Tin at hp hq
    have m1 := mul_ab (a := q.num) (b := (p.den : Int)) (A := 1700) (B := 32) (by omega) (by omega)
    have m2 := mul_ab (a := p.num) (b := (q.den : Int)) (A := 1700) (B := 32) (by omega) (by omega)
    exact lawless_raw (i64_in (by omega) (by omega)) (i64_in (by omega) (by omega)) w
  · unfold Tin at hq
    have e1 : (1000000 : Rat).num = 1000000 := rfl
    have e2 : ((1000000 : Rat).den : Int) = 1 := rfl
    rw [e1, e2]
    exact lawless_raw (i64_in (by omega) (by omega)) (i64_in (by omega) (by omega)) w
/-- What is left behind the sets below t: B the best so far, f and O whether and with what error the starts s0 came up. -/
def Tries (l : List Cd) (m n : Nat) (s0 : List Int) (t : Nat) (B O : Rat) (f : Bool) : Prop :=
  (∀ a, a < t → ∀ q, Dv l m n (pre a (n - 1)) q → B ≤ q) ∧ (B = 1000000 ∨ ∃ s, Dv l m n s B) ∧ (f = true → Dv l m n s0 O) ∧ ((∃ a, a < t ∧ pre a (n - 1) = s0) → f = true)
theorem Tries.start (l : List Cd) (m n : Nat) (s0 : List Int) (O : Rat) : Tries l m n s0 0 1000000 O false :=
  ⟨fun a ha => absurd ha (Nat.not_lt_zero _), .inl rfl, fun h => (by cases h), fun ⟨a, ha, _⟩ => absurd ha (Nat.not_lt_zero _)⟩
/-- A set with another number of players. -/
theorem Tries.skip {l : List Cd} {m n t : Nat} {s0 : List Int} {B O : Rat} {f : Bool} (h : Tries l m n s0 t B O f) (hs0 : s0.length = m + 1) (hl : ¬ (pre t (n - 1)).length = m + 1) : Tries l m n s0 (t + 1) B O f := by
  refine ⟨fun a ha q hd => ?_, h.2.1, h.2.2.1, fun ⟨a, ha, he⟩ => ?_⟩
  · by_cases hat : a = t
    · subst hat; exact absurd (dv_len hd) hl
    · exact h.1 a (by omega) q hd
  · by_cases hat : a = t
    · subst hat; rw [he] at hl; exact absurd hs0 hl
    · exact h.2.2.2 ⟨a, by omega, he⟩
theorem Tries.step {l : List Cd} {m n t : Nat} {s0 : List Int} {B O q : Rat} {f : Bool} (h : Tries l m n s0 t B O f) (hd : Dv l m n (pre t (n - 1)) q) :
    Tries l m n s0 (t + 1) (if q < B then q else B) (if pre t (n - 1) = s0 then q else O) (if pre t (n - 1) = s0 then true else f) := by
  obtain ⟨h1, h2, h3, h4⟩ := h
  refine ⟨fun a ha q' hd' => ?_, ?_, ?_, fun ⟨a, ha, he⟩ => ?_⟩
  · by_cases hat : a = t
    · subst hat
      obtain rfl := dv_one hd hd'
      split
      · exact Rat.le_refl
      · rename_i hlt; exact Rat.not_lt.1 hlt
    · have := h1 a (by omega) q' hd'
      split
      · rename_i hlt; exact Rat.le_trans (Rat.le_of_lt hlt) this
      · exact this
  · split
    · exact .inr ⟨_, hd⟩
    · exact h2
  · by_cases he : pre t (n - 1) = s0
    · rw [if_pos he, if_pos he]
      intro _
      rw [← he]
      exact hd
    · rw [if_neg he, if_neg he]
      exact h3
  · by_cases hat : a = t
    · subst hat
      rw [if_pos he]
    · have := h4 ⟨a, by omega, he⟩
      split
      · rfl
      · exact this
theorem Tries.done {l : List Cd} (hN : Nice l) {m n : Nat} (hn : l.length = n) (hm : m + 1 ≤ n) {B O : Rat} {f : Bool} (h : Tries l m n (dF l m n).2 (2 ^ (n - 1)) B O f) : f = true ∧ O = (dF l m n).1 ∧ B = (dF l m n).1 := by
  have hd := dF_dv (l := l) hm
  obtain ⟨a, ha, he⟩ := pre_all hd
  have hf := h.2.2.2 ⟨a, ha, he⟩
  refine ⟨hf, dv_one (h.2.2.1 hf) hd, ?_⟩
  have hle := h.1 a ha _ (by rw [he]; exact hd)
  rcases h.2.1 with hB | ⟨s, hs⟩
  · exfalso
    have ht := dv_tin hN (by omega) hd
    unfold Tin at ht
    rw [hB] at hle
    have := (Rat.le_iff (a := 1000000) (b := (dF l m n).1)).1 hle
    have e1 : (1000000 : Rat).num = 1000000 := rfl
    have e2 : (1000000 : Rat).den = 1 := rfl
    rw [e1, e2] at this
    omega
  · exact Rat.le_antisymm hle (dF_least hs)
/-- The bit of a set, as the program asks for it. -/
theorem and1 {x : Nat} (h : x < 64) : bits .and .i64 (x : Int) 1 = ((x % 2 : Nat) : Int) := by
  have key : ∀ k : Fin 64, bits .and .i64 ((k.val : Nat) : Int) 1 = ((k.val % 2 : Nat) : Int) := by decide +kernel
  exact key ⟨x, h⟩
theorem set_bit {t j : Nat} (h : t < 64) : bits .and .i64 ((t : Int) / 2 ^ j) 1 = if t.testBit j = true then 1 else 0 := by
  have e : ((t : Int) / 2 ^ j) = ((t / 2 ^ j : Nat) : Int) := by
    rw [Int.natCast_ediv, Int.natCast_pow]
    rfl
  rw [e, and1 (Nat.lt_of_le_of_lt (Nat.div_le_self _ _) h), Nat.testBit_eq_decide_div_mod_eq]
  have : t / 2 ^ j % 2 = 0 ∨ t / 2 ^ j % 2 = 1 := by omega
  rcases this with k | k
  · rw [k]; rfl
  · rw [k]; rfl
end Go.Proofs.Ytjncoableanmpaa
