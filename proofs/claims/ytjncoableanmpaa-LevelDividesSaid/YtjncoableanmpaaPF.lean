/- Plain: the best error, and gains within a bound. -/
import Derived.Test.YtjncoableanmpaaPE
namespace Go.Proofs.Ytjncoableanmpaa
theorem loG_eq {bn bd : Int} (hbd : 0 < bd) {a b : Cd} (h : a.1 < b.1) : loG bn bd a b * ((b.1 : Rat) - (a.1 : Rat)) = ((b.2.2 : Rat) - fr bn bd) - ((a.2.1 : Rat) + fr bn bd) := by
  have hm := Int.mul_pos (show 0 < b.1 - a.1 by omega) hbd
  have e := fr_mul (n := (b.2.2 - a.2.1) * bd - 2 * bn) hm
  have eb := fr_mul (n := bn) hbd
  unfold loG
  have hr := cast_lt hbd
  have z : ((0 : Int) : Rat) = 0 := by simp
  rw [z] at hr
  have c1 : (((b.1 - a.1) * bd : Int) : Rat) = ((b.1 : Rat) - (a.1 : Rat)) * (bd : Rat) := by simp
  have c2 : (((b.2.2 - a.2.1) * bd - 2 * bn : Int) : Rat) = ((b.2.2 : Rat) - (a.2.1 : Rat)) * (bd : Rat) - 2 * (bn : Rat) := by simp
  rw [c1, c2] at e
  generalize fr ((b.2.2 - a.2.1) * bd - 2 * bn) ((b.1 - a.1) * bd) = q at e ⊢
  generalize fr bn bd = B at eb ⊢
  have k : (q * ((b.1 : Rat) - (a.1 : Rat)) - (((b.2.2 : Rat) - B) - ((a.2.1 : Rat) + B))) * (bd : Rat) = 0 := by grind
  rcases Rat.mul_eq_zero.1 k with h0 | h0
  · grind
  · grind
theorem hiG_eq {bn bd : Int} (hbd : 0 < bd) {a b : Cd} (h : a.1 < b.1) : hiG bn bd a b * ((b.1 : Rat) - (a.1 : Rat)) = ((b.2.1 : Rat) + fr bn bd) - ((a.2.2 : Rat) - fr bn bd) := by
  have hm := Int.mul_pos (show 0 < b.1 - a.1 by omega) hbd
  have e := fr_mul (n := (b.2.1 - a.2.2) * bd + 2 * bn) hm
  have eb := fr_mul (n := bn) hbd
  unfold hiG
  have hr := cast_lt hbd
  have z : ((0 : Int) : Rat) = 0 := by simp
  rw [z] at hr
  have c1 : (((b.1 - a.1) * bd : Int) : Rat) = ((b.1 : Rat) - (a.1 : Rat)) * (bd : Rat) := by simp
  have c2 : (((b.2.1 - a.2.2) * bd + 2 * bn : Int) : Rat) = ((b.2.1 : Rat) - (a.2.2 : Rat)) * (bd : Rat) + 2 * (bn : Rat) := by simp
  rw [c1, c2] at e
  generalize fr ((b.2.1 - a.2.2) * bd + 2 * bn) ((b.1 - a.1) * bd) = q at e ⊢
  generalize fr bn bd = B at eb ⊢
  have k : (q * ((b.1 : Rat) - (a.1 : Rat)) - (((b.2.1 : Rat) + B) - ((a.2.2 : Rat) - B))) * (bd : Rat) = 0 := by grind
  rcases Rat.mul_eq_zero.1 k with h0 | h0
  · grind
  · grind

/-- The best error is at most B just if no code and no three codes stand against B. -/
theorem off_le {l : List Cd} (hg : Good l) {B : Rat} : (bestC l).off ≤ B ↔ (∀ i, i < l.length → one1 (cAt l i) ≤ B) ∧ (∀ i j k, i < j → j < k → k < l.length → three1 (cAt l i) (cAt l j) (cAt l k) ≤ B) := by
  obtain ⟨t, ht, e, hall⟩ := bestC_spec hg.pos
  constructor
  · intro h
    refine ⟨fun i hi => ?_, fun i j k hij hjk hk => ?_⟩
    · have := hall (i, i, i) ⟨hi, .inl ⟨rfl, rfl⟩⟩
      rw [show (clm l (i, i, i)).off = one1 (cAt l i) by unfold clm; rw [if_pos rfl]] at this
      exact Rat.le_trans this h
    · have := hall (i, j, k) ⟨hk, .inr ⟨hij, hjk⟩⟩
      rw [show (clm l (i, j, k)).off = three1 (cAt l i) (cAt l j) (cAt l k) by unfold clm; rw [if_neg (show ¬ i = k by omega)]] at this
      exact Rat.le_trans this h
  · rintro ⟨h1, h2⟩
    rw [e]
    obtain ⟨i, j, k⟩ := t
    obtain ⟨h0, ⟨h3, h4⟩ | ⟨h3, h4⟩⟩ := ht
    · dsimp only at h0 h3 h4
      subst h3; subst h4
      unfold clm
      rw [if_pos rfl]
      exact h1 _ h0
    · dsimp only at h0 h3 h4
      unfold clm
      rw [if_neg (show ¬ i = k by omega)]
      exact h2 _ _ _ h3 h4 h0
theorem fr_nonneg {n d : Int} (hn : 0 ≤ n) (hd : 0 < d) : 0 ≤ fr n d := by
  have e := fr_mul (n := n) hd
  have hr := cast_lt hd
  have hz := cast_le hn
  have z : ((0 : Int) : Rat) = 0 := by simp
  rw [z] at hr hz
  refine le_of_mul (c := (d : Rat)) ?_ hr
  rw [e]
  grind
/-- Where a bound is at least the best error, all gains fit together. -/
theorem fits_best {l : List Cd} (hg : Good l) {bn bd : Int} (hbn : 0 ≤ bn) (hbd : 0 < bd) (h : (bestC l).off ≤ fr bn bd) : Fits bn bd l := by
  have hB := fr_nonneg hbn hbd
  obtain ⟨h1, h2⟩ := (off_le hg).1 h
  intro s t hs1 hs2 ht1 ht2
  rcases rat_cases (hiG bn bd (cAt l t.1) (cAt l t.2)) (loG bn bd (cAt l s.1) (cAt l s.2)) with hc | hc
  · exfalso
    have hi := hg.inc
    have e1 := loG_eq (bn := bn) hbd (hi _ _ hs1 hs2)
    have e2 := hiG_eq (bn := bn) hbd (hi _ _ ht1 ht2)
    have dt := cast_lt (hi _ _ ht1 ht2)
    refine helly (s := fun m => ((cAt l m).1 : Rat)) (L := fun m => ((cAt l m).2.2 : Rat) - fr bn bd) (U := fun m => ((cAt l m).2.1 : Rat) + fr bn bd) (n := l.length)
      (fun i j hij hj => cast_lt (hi i j hij hj)) (fun i hi => one_le.1 (h1 i hi))
      (fun a b c hab hbc hc => ((three_le (hi _ _ hab (by omega)) (hi _ _ hbc hc) hB).1 (h2 a b c hab hbc hc)).1)
      (fun a b c hab hbc hc => ((three_le (hi _ _ hab (by omega)) (hi _ _ hbc hc) hB).1 (h2 a b c hab hbc hc)).2)
      (loG bn bd (cAt l s.1) (cAt l s.2)) hs1 hs2 ht1 ht2 (by rw [e1]; exact Rat.le_refl) ?_
    have hp : 0 < ((cAt l t.2).1 : Rat) - ((cAt l t.1).1 : Rat) := by grind
    have := mul_pos_lt hc hp
    grind
  · exact hc
/-- The line that the program returns. -/
def lineF (l : List Cd) (c : Cl) : Rat × Rat :=
  let a := cAt l c.who.1
  let b := cAt l c.who.2.2
  if l.length = 1 then (0, (a.2.1 : Rat) + c.off)
  else if b.1 - a.1 = 0 then ((gF c.off.num c.off.den l).1, ((a.2.1 : Rat) + c.off) + (gF c.off.num c.off.den l).1 * ((-a.1 : Int) : Rat))
  else if c.up then (fr (b.2.1 - a.2.1) (b.1 - a.1), ((a.2.1 : Rat) + c.off) + fr (b.2.1 - a.2.1) (b.1 - a.1) * ((-a.1 : Int) : Rat))
  else (fr (b.2.2 - a.2.2) (b.1 - a.1), ((a.2.2 : Rat) + c.off * ((-1 : Int) : Rat)) + fr (b.2.2 - a.2.2) (b.1 - a.1) * ((-a.1 : Int) : Rat))
end Go.Proofs.Ytjncoableanmpaa
