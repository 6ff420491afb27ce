/- The contract of gains. -/
import Derived.Test.YtjncoableanmpaaLI
import Derived.Test.YtjncoableanmpaaPD
import Derived.Deep.DeepCutAuto
namespace Go.Proofs.Ytjncoableanmpaa
open Go.RowKit Go.Lib Go.Shelf

theorem less_calls2 {p q : Rat} (h1 : p.num.natAbs ≤ 2000000000) (h2 : (p.den : Int) ≤ 2000000000) (h3 : q.num.natAbs ≤ 2000000000) (h4 : (q.den : Int) ≤ 2000000000) (w : World) : Gives 53 #[rv p, rv q] (.bool (decide (p < q))) w := by
  have hp := p.den_pos
  have hq := q.den_pos
  have m1 := mul_ab (a := p.num) (b := (q.den : Int)) h1 (B := 2000000000) (by omega)
  have m2 := mul_ab (a := q.num) (b := (p.den : Int)) h3 (B := 2000000000) (by omega)
  have := less_raw (a := p.num) (b := (p.den : Int)) (c := q.num) (d := (q.den : Int)) (by rw [i64_w]; exact w64_in (by omega) (by omega)) (by rw [i64_w]; exact w64_in (by omega) (by omega)) w
  rwa [rat_lt] at this
theorem more_calls2 {p q : Rat} (h1 : p.num.natAbs ≤ 2000000000) (h2 : (p.den : Int) ≤ 2000000000) (h3 : q.num.natAbs ≤ 2000000000) (h4 : (q.den : Int) ≤ 2000000000) (w : World) : Gives 46 #[rv q, rv p] (.bool (decide (p < q))) w := by
  have hp := p.den_pos
  have hq := q.den_pos
  have m1 := mul_ab (a := p.num) (b := (q.den : Int)) h1 (B := 2000000000) (by omega)
  have m2 := mul_ab (a := q.num) (b := (p.den : Int)) h3 (B := 2000000000) (by omega)
  have := more_raw (a := p.num) (b := (p.den : Int)) (c := q.num) (d := (q.den : Int)) (by rw [i64_w]; exact w64_in (by omega) (by omega)) (by rw [i64_w]; exact w64_in (by omega) (by omega)) w
  rwa [rat_lt] at this

/-- A bound within the limits of gains. -/
structure BndOk (bn bd : Int) : Prop where
  n0 : 0 ≤ bn
  n1 : bn ≤ 400000000
  d0 : 1 ≤ bd
  d1 : bd ≤ 100000
theorem gain_bd {bn bd : Int} (hb : BndOk bn bd) {a b : Cd} (ha : Tame a) (hc : Tame b) (hs : a.1 < b.1) :
    ((loG bn bd a b).num.natAbs ≤ 2000000000 ∧ ((loG bn bd a b).den : Int) ≤ 2000000000) ∧ ((hiG bn bd a b).num.natAbs ≤ 2000000000 ∧ ((hiG bn bd a b).den : Int) ≤ 2000000000) := by
  have := ha.l0; have := ha.l1; have := ha.h1; have := hc.l0; have := hc.l1; have := hc.h1; have := ha.s0; have := hc.s1
  have := hb.n0; have := hb.n1; have := hb.d0; have := hb.d1
  have m1 := mul_in (a := b.2.2 - a.2.1) (A := 10000) (b := bd) (B := 100000) (by omega) (by omega) (by omega) (by omega)
  have m2 := mul_in (a := b.2.1 - a.2.2) (A := 10000) (b := bd) (B := 100000) (by omega) (by omega) (by omega) (by omega)
  have m3 := mul_in (a := b.1 - a.1) (A := 20000) (b := bd) (B := 100000) (by omega) (by omega) (by omega) (by omega)
  have m4 := Int.mul_pos (show 0 < b.1 - a.1 by omega) (show 0 < bd by omega)
  unfold loG hiG
  obtain ⟨a1, a2, _⟩ := fr_bd (n := (b.2.2 - a.2.1) * bd - 2 * bn) m4
  obtain ⟨b1, b2, _⟩ := fr_bd (n := (b.2.1 - a.2.2) * bd + 2 * bn) m4
  omega

def gc1 : Option (Rat × Rat) → List Value
  | none => [.int .i64 0, .int .i64 0]
  | some (p, _) => [.int .i64 p.num, .int .i64 (p.den : Int)]
def gc2 : Option (Rat × Rat) → List Value
  | none => [.int .i64 0, .int .i64 0]
  | some (_, q) => [.int .i64 q.num, .int .i64 (q.den : Int)]
/-- What a round finds. -/
structure GI (w : World) (bn bd : Int) (st : Option (Rat × Rat)) (W : World) : Prop where
  low : Below w.heap.size w W
  bnd : Blk W w.heap.size [.int .i64 bn, .int .i64 bd]
  lst : Blk W (w.heap.size + 1) (gc1 st)
  mst : Blk W (w.heap.size + 1 + 1) (gc2 st)
theorem GI.later {w W W' : World} {bn bd : Int} {st : Option (Rat × Rat)} (h : GI w bn bd st W) (hb : Below W.heap.size W W') : GI w bn bd st W' :=
  ⟨h.low.trans (hb.mono h.low.size), h.bnd.later hb, h.lst.later hb, h.mst.later hb⟩
theorem Held.gi {w W : World} {bn bd : Int} {st : Option (Rat × Rat)} (h : GI w bn bd st W) : Held W (fun X => GI w bn bd st X) := fun _ hX => h.later hX
theorem gc1_two {W : World} {B : Nat} {st : Option (Rat × Rat)} (h : Blk W B (gc1 st)) : ∃ x y, Blk W B [x, y] := by
  cases st with
  | none => exact ⟨_, _, h⟩
  | some s => exact ⟨_, _, h⟩
theorem gc2_two {W : World} {B : Nat} {st : Option (Rat × Rat)} (h : Blk W B (gc2 st)) : ∃ x y, Blk W B [x, y] := by
  cases st with
  | none => exact ⟨_, _, h⟩
  | some s => exact ⟨_, _, h⟩
theorem GI.set1 {w W : World} {bn bd : Int} {p p' q : Rat} (h : GI w bn bd (some (p, q)) W) : GI w bn bd (some (p', q)) ((W.setCell ⟨w.heap.size + 1, 0, none⟩ (.int .i64 p'.num)).setCell ⟨w.heap.size + 1, 1, none⟩ (.int .i64 (p'.den : Int))) :=
  ⟨below2 h.low (by omega) _ _, h.bnd.other2 (by omega) _ _, Blk.put2 (a := .int .i64 p.num) (b := .int .i64 (p.den : Int)) h.lst _ _, h.mst.other2 (by omega) _ _⟩
theorem GI.set2 {w W : World} {bn bd : Int} {p q q' : Rat} (h : GI w bn bd (some (p, q)) W) : GI w bn bd (some (p, q')) ((W.setCell ⟨w.heap.size + 1 + 1, 0, none⟩ (.int .i64 q'.num)).setCell ⟨w.heap.size + 1 + 1, 1, none⟩ (.int .i64 (q'.den : Int))) :=
  ⟨below2 h.low (by omega) _ _, h.bnd.other2 (by omega) _ _, h.lst.other2 (by omega) _ _, Blk.put2 (a := .int .i64 q.num) (b := .int .i64 (q.den : Int)) h.mst _ _⟩
theorem GI.set0 {w W : World} {bn bd : Int} {st : Option (Rat × Rat)} {p q : Rat} (h : GI w bn bd st W) : GI w bn bd (some (p, q)) ((((W.setCell ⟨w.heap.size + 1, 0, none⟩ (.int .i64 p.num)).setCell ⟨w.heap.size + 1, 1, none⟩ (.int .i64 (p.den : Int))).setCell ⟨w.heap.size + 1 + 1, 0, none⟩ (.int .i64 q.num)).setCell ⟨w.heap.size + 1 + 1, 1, none⟩ (.int .i64 (q.den : Int))) := by
  obtain ⟨x, y, h1⟩ := gc1_two h.lst
  obtain ⟨x', y', h2⟩ := gc2_two h.mst
  exact ⟨below2 (below2 h.low (by omega) _ _) (by omega) _ _, (h.bnd.other2 (by omega) _ _).other2 (by omega) _ _, (h1.put2 _ _).other2 (by omega) _ _, (h2.other2 (by omega) _ _).put2 _ _⟩
theorem GI.drew {w W : World} {bn bd : Int} {st : Option (Rat × Rat)} (h : GI w bn bd st W) : GI w bn bd st W.drew := h.later (Below.refl _ _).drew

set_option maxRecDepth 100000 in
set_option maxHeartbeats 8000000 in
theorem gains_calls {b off n c : Nat} {l : List Cd} {bn bd : Int} (w : World) (hl : ReadsC w (some ⟨b, off, none⟩) n l) (hg : Good l) (hb : BndOk bn bd) (hf : Fits bn bd l) (h2 : 2 ≤ n) (hcap : n ≤ c) :
    Gives 48 #[.slice (some ⟨b, off, none⟩) n c, .agg #[.int .i64 bn, .int .i64 bd]] (.tuple #[rv (gF bn bd l).1, rv (gF bn bd l).2]) w := by
  unfold Gives
  have hlen : l.length = n := hl.1
  have hn24 : n ≤ 24 := by have := hg.few; omega
  have I0 : GI w bn bd none (((w.alloc (.cells [Value.int .i64 bn, .int .i64 bd].toArray 82)).alloc (.cells [Value.int .i64 0, .int .i64 0].toArray 82)).alloc (.cells [Value.int .i64 0, .int .i64 0].toArray 82)) :=
    ⟨(((Below.refl _ _).alloc (Nat.le_refl _) _).alloc (by simp) _).alloc (by simp; omega) _, ((Blk.new w _ 82).alloc _).alloc _, Blk.alloc (by simpa [gc1] using Blk.new (w.alloc _) [Value.int .i64 0, .int .i64 0] 82) _, by simpa [gc2] using Blk.new ((w.alloc _).alloc _) [Value.int .i64 0, .int .i64 0] 82⟩
  have hsp := gFold_spec bn bd l
  have HG := Lib.hid hg
  have HF := Lib.hid hf
  have HL := Lib.hid hl
  have HSP := Lib.hid hsp
  have HBD := Lib.hid hb
  have hE : ∃ R, gF bn bd l = R := ⟨_, rfl⟩
  obtain ⟨R, hR⟩ := hE
  rw [hR]
  have HR := Lib.hid hR
  clear hg hf hl hsp hb hR
  go_enter Try.func48, Try.ntmps48
  go_wp2_with fail
  generalize World.alloc _ _ = w1 at I0 ⊢
  go_step3
  go_wp2_with fail
  go_step3
  go_wp2_with fail
  have HI0 := Lib.hid I0
  clear I0
  go_loopg [6, 16] n (fun g fl i wr => ∃ (k : Nat) (st : Option (Rat × Rat)), k + g = n ∧ i = .int .i64 k ∧ fl = .bool st.isNone ∧ Aside (gFold bn bd l (prP n k) = st) ∧ Aside (GI w bn bd st wr))
  case atStart => exact ⟨0, none, by omega, rfl, rfl, rfl, HI0.out⟩
  case round =>
    obtain ⟨i, st, hi, rfl, rfl, HS, HI⟩ := hrel
    clear HI0
    obtain ⟨wo, hwo⟩ : ∃ x, x = wr := ⟨_, rfl⟩
    subst hwo
    obtain ⟨g, hgg⟩ : ∃ x, x = gk := ⟨_, rfl⟩
    subst hgg
    have hLo := HL.out.later (show Below w.heap.size w wo from HI.out.low)
    by_cases hlt : i < n
    · have hlt' : (i : Int) < (n : Int) := by omega
      have hw1 : IntKind.i64.wrap ((i : Int) + 1) = (i : Int) + 1 := i64_in (by omega) (by omega)
      have hx := hLo.at hlt
      generalize hAA : cAt l i = a at hx
      have HA := Lib.hid hAA
      clear hAA
      have gs1 : (0 : Int) ≤ (i : Int) + 1 := by omega
      have gs2 : (i : Int) + 1 ≤ (n : Int) := by omega
      have gs3 : ((i : Int) + 1).toNat = i + 1 := by omega
      go_upto_region 5 with fail
      have KA : Held (wo.alloc (.cells [Value.int .i64 a.1, .int .i64 a.2.1, .int .i64 a.2.2].toArray 68)) (fun W => GI w bn bd st W ∧ Blk W wo.heap.size [Value.int .i64 a.1, .int .i64 a.2.1, .int .i64 a.2.2]) :=
        (Held.gi HI.out).allocB _ _
      have HBA : Aside (Below wo.heap.size wo (wo.alloc (.cells [Value.int .i64 a.1, .int .i64 a.2.1, .int .i64 a.2.2].toArray 68))) := (Below.refl _ _).alloc (Nat.le_refl _) _
      generalize World.alloc _ _ = wa at KA HBA ⊢
      have HKA := Lib.hid KA
      clear KA
      go_cut [24, 25, 26] (fun s24 s25 s26 wx => ∃ (off' c' : Nat), s24 = .slice (some ⟨b, off', none⟩) (n - (i + 1)) c' ∧ s25 = .int .i64 ((n - (i + 1) : Nat) : Int) ∧ s26 = .int .i64 0 ∧ Aside (0 < n - (i + 1) → off' = off + (i + 1) * 3) ∧ wx = wa)
      case first =>
        by_cases hci : c = i + 1
        · subst hci
          go_wp2_with fail
          go_meet
          have hz : n - (i + 1) = 0 := by omega
          first
            | exact ⟨_, _, rfl, rfl, rfl, fun h => by omega, rfl⟩
            | exact ⟨_, _, rfl, by rw [hz]; rfl, rfl, fun h => by omega, rfl⟩
            | exact ⟨_, _, by rw [hz], by rw [hz]; rfl, rfl, fun h => by omega, rfl⟩
        · have hci2 : ¬ c - (i + 1) = 0 := by omega
          go_wp2_with fail
          go_meet
          exact ⟨_, _, rfl, rfl, rfl, fun _ => rfl, rfl⟩
      case rest =>
        obtain ⟨off', c', rfl, rfl, rfl, HO, rfl⟩ := hcut
        have KA := HKA.out
        obtain ⟨N', hN'⟩ : ∃ N', n - (i + 1) = N' := ⟨_, rfl⟩
        rw [hN'] at HO ⊢
        have HN := Lib.hid hN'
        have hN24 : N' ≤ 24 := by omega
        clear hN' HKA gs1 gs2 gs3
        go_wp2_with fail
        go_loopg [6, 26] N' (fun g2 fl k wr => ∃ (k' : Nat) (st : Option (Rat × Rat)), k' + g2 = N' ∧ k = .int .i64 k' ∧ fl = .bool st.isNone ∧ Aside (gFold bn bd l (prP n i ++ prR i (i + 1 + k')) = st) ∧ Aside (GI w bn bd st wr ∧ Blk wr wo.heap.size [Value.int .i64 a.1, .int .i64 a.2.1, .int .i64 a.2.2]))
        case atStart =>
          refine ⟨0, st, by omega, rfl, rfl, ?_, KA.now⟩
          show gFold bn bd l (prP n i ++ prR i (i + 1)) = st
          rw [show prR i (i + 1) = [] from if_neg (by omega), List.append_nil]
          exact HS.out
        case round =>
          obtain ⟨k', st, hk', rfl, rfl, HS, HIB⟩ := hrel
          clear KA
          by_cases hlk : k' < N'
          · have hlk' : (k' : Int) < (N' : Int) := by omega
            have hw2 : IntKind.i64.wrap ((k' : Int) + 1) = (k' : Int) + 1 := i64_in (by omega) (by omega)
            have hoff := HO.out (by omega)
            have hik : i + 1 + k' < n := by have := HN.out; omega
            have hx := (HL.out.later HIB.out.1.low).at hik
            rw [show off + (i + 1 + k') * 3 = off' + k' * 3 by rw [hoff]; omega] at hx
            have ta : Tame a := by have := HG.out.tame i (by omega); rw [HA.out] at this; exact this
            have tc := HG.out.tame (i + 1 + k') (by omega)
            have hs := HG.out.inc i (i + 1 + k') (by omega) (by omega)
            rw [HA.out] at hs
            have hsn := gFold_snoc bn bd l (prP n i ++ prR i (i + 1 + k')) (i, i + 1 + k')
            rw [List.append_assoc, show prR i (i + 1 + k') ++ [(i, i + 1 + k')] = prR i (i + 1 + (k' + 1)) from (if_pos (show i < i + 1 + k' by omega)).symm, HS.out] at hsn
            unfold gOne at hsn
            dsimp only at hsn
            rw [HA.out] at hsn
            have hfit : ∀ t : Pair, t ∈ prP n i ++ prR i (i + 1 + k') → t.1 < t.2 ∧ t.2 < l.length := fun t ht => by
              rcases List.mem_append.1 ht with h | h
              · rw [prP_mem] at h; omega
              · rw [prR_mem] at h; obtain ⟨m, h1, h2, rfl⟩ := h; exact ⟨h1, by show m < l.length; omega⟩
            have hspk := HSP.out (prP n i ++ prR i (i + 1 + k'))
            rw [HS.out] at hspk
            have hff := HF.out
            have hbd := gain_bd HBD.out ta tc hs
            have hpq : ∀ p q, st = some (p, q) → ((p.num.natAbs ≤ 2000000000 ∧ (p.den : Int) ≤ 2000000000) ∧ (q.num.natAbs ≤ 2000000000 ∧ (q.den : Int) ≤ 2000000000)) ∧ p ≤ q ∧ p ≤ hiG bn bd a (cAt l (i + 1 + k')) ∧ loG bn bd a (cAt l (i + 1 + k')) ≤ q := fun p q hst => by
              rcases hspk with ⟨_, h⟩ | ⟨p', q', h, ⟨t1, m1, e1⟩, ⟨t2, m2, e2⟩, _, _⟩
              · rw [hst] at h; cases h
              · rw [hst] at h
                cases h
                have f1 := hfit t1 m1
                have f2 := hfit t2 m2
                have b1 := gain_bd HBD.out (HG.out.tame t1.1 (by omega)) (HG.out.tame t1.2 (by omega)) (HG.out.inc _ _ f1.1 f1.2)
                have b2 := gain_bd HBD.out (HG.out.tame t2.1 (by omega)) (HG.out.tame t2.2 (by omega)) (HG.out.inc _ _ f2.1 f2.2)
                rw [e1, e2]
                have g1 := hff t1 t2 f1.1 f1.2 f2.1 f2.2
                have g2 := hff t1 (i, i + 1 + k') f1.1 f1.2 (by show i < i + 1 + k'; omega) (by show i + 1 + k' < l.length; omega)
                have g3 := hff (i, i + 1 + k') t2 (by show i < i + 1 + k'; omega) (by show i + 1 + k' < l.length; omega) f2.1 f2.2
                dsimp only at g2 g3
                rw [HA.out] at g2 g3
                exact ⟨⟨b1.1, b2.2⟩, g1, g2, g3⟩
            have hlh : loG bn bd a (cAt l (i + 1 + k')) ≤ hiG bn bd a (cAt l (i + 1 + k')) := by
              have := hff (i, i + 1 + k') (i, i + 1 + k') (by show i < i + 1 + k'; omega) (by show i + 1 + k' < l.length; omega) (by show i < i + 1 + k'; omega) (by show i + 1 + k' < l.length; omega)
              dsimp only at this
              rwa [HA.out] at this
            generalize cAt l (i + 1 + k') = cc at hx tc hs hsn hbd hpq hlh
            have := ta.l0; have := ta.l1; have := ta.h1; have := tc.l0; have := tc.l1; have := tc.h1; have := ta.s0; have := tc.s1
            have := HBD.out.n0; have := HBD.out.n1; have := HBD.out.d0; have := HBD.out.d1
            have m1 := mul_in (a := cc.2.2 - a.2.1) (A := 10000) (b := bd) (B := 100000) (by omega) (by omega) (by omega) (by omega)
            have m2 := mul_in (a := cc.2.1 - a.2.2) (A := 10000) (b := bd) (B := 100000) (by omega) (by omega) (by omega) (by omega)
            have m3 := mul_in (a := cc.1 - a.1) (A := 20000) (b := bd) (B := 100000) (by omega) (by omega) (by omega) (by omega)
            have m4 := Int.mul_pos (show 0 < cc.1 - a.1 by omega) (show 0 < bd by omega)
            have u1 : IntKind.i64.wrap (cc.1 - a.1) = cc.1 - a.1 := i64_in (by omega) (by omega)
            have u2 : IntKind.i64.wrap ((cc.1 - a.1) * bd) = (cc.1 - a.1) * bd := i64_in (by omega) (by omega)
            have u3 : IntKind.i64.wrap (cc.2.2 - a.2.1) = cc.2.2 - a.2.1 := i64_in (by omega) (by omega)
            have u4 : IntKind.i64.wrap ((cc.2.2 - a.2.1) * bd) = (cc.2.2 - a.2.1) * bd := i64_in (by omega) (by omega)
            have u5 : IntKind.i64.wrap (2 * bn) = 2 * bn := i64_in (by omega) (by omega)
            have u6 : IntKind.i64.wrap ((cc.2.2 - a.2.1) * bd - 2 * bn) = (cc.2.2 - a.2.1) * bd - 2 * bn := i64_in (by omega) (by omega)
            have u7 : IntKind.i64.wrap (cc.2.1 - a.2.2) = cc.2.1 - a.2.2 := i64_in (by omega) (by omega)
            have u8 : IntKind.i64.wrap ((cc.2.1 - a.2.2) * bd) = (cc.2.1 - a.2.2) * bd := i64_in (by omega) (by omega)
            have u9 : IntKind.i64.wrap ((cc.2.1 - a.2.2) * bd + 2 * bn) = (cc.2.1 - a.2.2) * bd + 2 * bn := i64_in (by omega) (by omega)
            have HP1 : ∀ W, Gives 38 #[.agg #[.int .i64 ((cc.2.2 - a.2.1) * bd - 2 * bn), .int .i64 ((cc.1 - a.1) * bd)]] (rv (loG bn bd a cc)) W := fun W => plain_calls m4 (by omega) (by omega) W
            have HP2 : ∀ W, Gives 38 #[.agg #[.int .i64 ((cc.2.1 - a.2.2) * bd + 2 * bn), .int .i64 ((cc.1 - a.1) * bd)]] (rv (hiG bn bd a cc)) W := fun W => plain_calls m4 (by omega) (by omega) W
            generalize loG bn bd a cc = lo at HP1 hsn hbd hpq hlh
            generalize hiG bn bd a cc = hi at HP2 hsn hbd hpq hlh
            unfold rv at HP1 HP2
            have HP1 := Lib.hid HP1
            have HP2 := Lib.hid HP2
            have HSN := Lib.hid hsn
            have HPQ := Lib.hid hpq
            have HBD2 := Lib.hid hbd
            have HLH := Lib.hid hlh
            clear m1 m2 m3 m4 ta tc hs hsn hspk hfit hff hbd hpq hlh hoff
            replace HA := ()
            have qx := hx
            clear hx
            go_upto_region 8 with fail
            have K : Held (wr.alloc (.cells [Value.int .i64 cc.1, .int .i64 cc.2.1, .int .i64 cc.2.2].toArray 68)) (fun W => (GI w bn bd st W ∧ Blk W wo.heap.size [Value.int .i64 a.1, .int .i64 a.2.1, .int .i64 a.2.2]) ∧ Blk W wr.heap.size [Value.int .i64 cc.1, .int .i64 cc.2.1, .int .i64 cc.2.2]) :=
              ((Held.gi HIB.out.1).with (.blk HIB.out.2)).allocB _ _
            clear HIB
            generalize hBc : wr.heap.size = Bc at K ⊢
            generalize World.alloc _ _ = w3 at K ⊢
            have qb := K.now.1.1.bnd.two
            have qa := K.now.1.2.three
            have qc := K.now.2.three
            go_upto_region 10 with (go_at_call 38; (with_reducible refine (Gives.c (HP1.out _)).mono ?_); rintro e w4 ⟨rfl, hb⟩; replace K := K.next hb; clear hb qb qa qc; have qb := K.now.1.1.bnd.two; have qa := K.now.1.2.three; have qc := K.now.2.three; have zb := K.now.1.1.bnd.lt; have za := K.now.1.2.lt; have zc := K.now.2.lt)
            have K2 := K.allocB [Value.int .i64 lo.num, .int .i64 (lo.den : Int)] 82
            have z12 := K.now.1.1.mst.lt
            clear K qb qa qc zb za zc
            have K : Held (w4.alloc (.cells #[Value.int .i64 lo.num, .int .i64 (lo.den : Int)] 82)) _ := K2
            generalize hB12 : w4.heap.size = B12 at K z12 ⊢
            clear K2
            generalize World.alloc _ _ = w5 at K ⊢
            have qb := K.now.1.1.1.bnd.two
            have qa := K.now.1.1.2.three
            have qc := K.now.1.2.three
            go_upto_region 11 with (go_at_call 38; (with_reducible refine (Gives.c (HP2.out _)).mono ?_); rintro e w4 ⟨rfl, hb⟩; replace K := K.next hb; clear hb qb qa qc; have qb := K.now.1.1.1.bnd.two; have qa := K.now.1.1.2.three; have qc := K.now.1.2.three; have zb := K.now.1.1.1.bnd.lt; have za := K.now.1.1.2.lt; have zc := K.now.1.2.lt)
            have K2 := K.allocB [Value.int .i64 hi.num, .int .i64 (hi.den : Int)] 82
            have z13 := K.now.1.1.1.mst.lt
            clear K qb qa qc zb za zc
            have K : Held (w4.alloc (.cells #[Value.int .i64 hi.num, .int .i64 (hi.den : Int)] 82)) _ := K2
            generalize hB13 : w4.heap.size = B13 at K z13 ⊢
            clear K2
            generalize World.alloc _ _ = w6 at K ⊢
            have hwo : w.heap.size + 1 + 1 < wo.heap.size := HI.out.mst.lt
            have KK : Held w6 (fun W => ((GI w bn bd st W ∧ Blk W wo.heap.size [Value.int .i64 a.1, .int .i64 a.2.1, .int .i64 a.2.2]) ∧ Blk W B12 [Value.int .i64 lo.num, .int .i64 (lo.den : Int)]) ∧ Blk W B13 [Value.int .i64 hi.num, .int .i64 (hi.den : Int)]) := fun W hW => by
              have h := K W hW
              exact ⟨⟨h.1.1.1, h.1.2⟩, h.2⟩
            have n1 : ¬ B12 = w.heap.size + 1 := by omega
            have n2 : ¬ B12 = w.heap.size + 1 + 1 := by omega
            have n3 : ¬ B13 = w.heap.size + 1 := by omega
            have n4 : ¬ B13 = w.heap.size + 1 + 1 := by omega
            clear K hBc hB12 hB13 u1 u2 u3 u4 u5 u6 u7 u8 u9
            cases st with
            | none =>
              have q12 := KK.now.1.2.two
              have q13 := KK.now.2.two
              obtain ⟨x1, y1, hl1⟩ := gc1_two KK.now.1.1.1.lst
              obtain ⟨x2, y2, hl2⟩ := gc2_two KK.now.1.1.1.mst
              have r1 := hl1.vals
              have r2 := hl2.vals
              have e0 : (none : Option (Rat × Rat)).isNone = true := rfl
              have HGI := Lib.hid KK.now.1.1.1
              have HBAA := Lib.hid KK.now.1.1.2
              clear hl1 hl2 KK
              go_wp2_with fail
              go_region
              all_goals
                go_wp2
                go_roundg (gk - 1)
                case measure => omega
                case rel => exact ⟨k' + 1, some (lo, hi), by omega, by go_num, rfl, HSN.out, HGI.out.set0.drew, ((HBAA.out.other2 (by omega) _ _).other2 (by omega) _ _).drew⟩
            | some pq =>
              obtain ⟨p, q⟩ := pq
              obtain ⟨hb1, hpq, hphi, hloq⟩ := HPQ.out p q rfl
              have hb2 := HBD2.out
              have hlh := HLH.out
              have hsn := HSN.out
              have e0 : (some (p, q)).isNone = false := rfl
              have HM : ∀ W, Gives 46 #[rv lo, rv p] (.bool (decide (p < lo))) W := more_calls2 hb1.1.1 hb1.1.2 hb2.1.1 hb2.1.2
              have HL2 : ∀ W, Gives 53 #[rv hi, rv q] (.bool (decide (hi < q))) W := less_calls2 hb2.2.1 hb2.2.2 hb1.2.1 hb1.2.2
              unfold rv at HM HL2
              have q12 := KK.now.1.2.two
              have q13 := KK.now.2.two
              have r1 : w6.cell? ⟨w.heap.size + 1, 0, none⟩ = some (.int .i64 p.num) ∧ w6.cell? ⟨w.heap.size + 1, 1, none⟩ = some (.int .i64 (p.den : Int)) := Blk.two (a := .int .i64 p.num) (b := .int .i64 (p.den : Int)) KK.now.1.1.1.lst
              have HL2 := Lib.hid HL2
              clear HPQ HBD2 HLH HSN HP1 HP2
              by_cases h1 : p < lo
              case' pos =>
                rw [decide_eq_true h1] at HM
                have HM := Lib.hid HM
                obtain ⟨p', hp'⟩ : ∃ p', p' = lo := ⟨_, rfl⟩
                have hsn1 : gFold bn bd l (prP n i ++ prR i (i + 1 + (k' + 1))) = some (p', if hi < q then hi else q) := by
                  rw [hsn, hp']
                  exact congrArg some (Prod.ext (if_pos h1) rfl)
                have hbp : p'.num.natAbs ≤ 2000000000 ∧ (p'.den : Int) ≤ 2000000000 := by rw [hp']; exact hb2.1
                have hpq' : p' ≤ q := by rw [hp']; exact hloq
                have hph' : p' ≤ hi := by rw [hp']; exact hlh
                clear hsn h1 hpq hphi
                go_upto_region 15 with (go_at_call 46; (with_reducible refine (Gives.c (HM.out _)).mono ?_); rintro e w7 ⟨rfl, hb⟩; replace KK := KK.next hb; clear hb q12 q13 r1; have q12 := KK.now.1.2.two; have q13 := KK.now.2.two; have r1 := Blk.two (a := .int .i64 p.num) (b := .int .i64 (p.den : Int)) KK.now.1.1.1.lst; have rf := KK.now.1.1.1.lst.free2)
                have K8 : Held _ (fun W => ((GI w bn bd (some (p', q)) W ∧ Blk W wo.heap.size [Value.int .i64 a.1, .int .i64 a.2.1, .int .i64 a.2.2]) ∧ Blk W B13 [Value.int .i64 hi.num, .int .i64 (hi.den : Int)])) := (Held.gi (KK.now.1.1.1.set1 (p' := lo))).with (.blk ((KK.now.1.1.2.other2 (by omega) (.int .i64 lo.num) (.int .i64 (lo.den : Int))))) |>.with (.blk ((KK.now.2.other2 (by omega) (.int .i64 lo.num) (.int .i64 (lo.den : Int))))) |> (by rw [hp']; exact ·)
                clear KK q12 q13 r1 rf hp'
                generalize World.setCell _ _ _ = w8 at K8 ⊢
              case' neg =>
                rw [decide_eq_false h1] at HM
                have HM := Lib.hid HM
                obtain ⟨p', hp'⟩ : ∃ p', p' = p := ⟨_, rfl⟩
                have hsn1 : gFold bn bd l (prP n i ++ prR i (i + 1 + (k' + 1))) = some (p', if hi < q then hi else q) := by
                  rw [hsn, hp']
                  exact congrArg some (Prod.ext (if_neg h1) rfl)
                have hbp : p'.num.natAbs ≤ 2000000000 ∧ (p'.den : Int) ≤ 2000000000 := by rw [hp']; exact hb1.1
                have hpq' : p' ≤ q := by rw [hp']; exact hpq
                have hph' : p' ≤ hi := by rw [hp']; exact hphi
                clear hsn h1 hpq hphi
                go_upto_region 15 with (go_at_call 46; (with_reducible refine (Gives.c (HM.out _)).mono ?_); rintro e w7 ⟨rfl, hb⟩; replace KK := KK.next hb; clear hb q12 q13 r1; have q12 := KK.now.1.2.two; have q13 := KK.now.2.two; have r1 := Blk.two (a := .int .i64 p.num) (b := .int .i64 (p.den : Int)) KK.now.1.1.1.lst; have rf := KK.now.1.1.1.lst.free2)
                have K8 : Held _ (fun W => ((GI w bn bd (some (p', q)) W ∧ Blk W wo.heap.size [Value.int .i64 a.1, .int .i64 a.2.1, .int .i64 a.2.2]) ∧ Blk W B13 [Value.int .i64 hi.num, .int .i64 (hi.den : Int)])) := fun W hW => by
                  have h := KK W hW
                  rw [hp']
                  exact ⟨h.1.1, h.2⟩
                clear KK q12 q13 r1 rf hp'
                generalize hw78 : w7 = w8 at K8 ⊢
              all_goals
                have q13 := K8.now.2.two
                have r2 : w8.cell? ⟨w.heap.size + 1 + 1, 0, none⟩ = some (.int .i64 q.num) ∧ w8.cell? ⟨w.heap.size + 1 + 1, 1, none⟩ = some (.int .i64 (q.den : Int)) := Blk.two (a := .int .i64 q.num) (b := .int .i64 (q.den : Int)) K8.now.1.1.mst
                have HL5 := HL2.out
                clear HM
                by_cases h9 : hi < q
                case' pos =>
                  rw [decide_eq_true h9] at HL5
                  have HL4 := Lib.hid HL5
                  clear HL5
                  obtain ⟨q', hq'⟩ : ∃ q', q' = hi := ⟨_, rfl⟩
                  have hsn2 : gFold bn bd l (prP n i ++ prR i (i + 1 + (k' + 1))) = some (p', q') := by
                    rw [hsn1, hq', if_pos h9]
                  have hbq : q'.num.natAbs ≤ 2000000000 ∧ (q'.den : Int) ≤ 2000000000 := by rw [hq']; exact hb2.2
                  have hpq9 : p' ≤ q' := by rw [hq']; exact hph'
                  clear hsn1 h9 hpq' hph'
                  go_upto_region 17 with (go_at_call 53; (with_reducible refine (Gives.c (HL4.out _)).mono ?_); rintro e w9 ⟨rfl, hb⟩; replace K8 := K8.next hb; clear hb q13 r2; have q13 := K8.now.2.two; have r2 := Blk.two (a := .int .i64 q.num) (b := .int .i64 (q.den : Int)) K8.now.1.1.mst; have rf := K8.now.1.1.mst.free2)
                  have K10 : Held _ (fun W => GI w bn bd (some (p', q')) W ∧ Blk W wo.heap.size [Value.int .i64 a.1, .int .i64 a.2.1, .int .i64 a.2.2]) := (Held.gi (K8.now.1.1.set2 (q' := hi))).with (.blk (K8.now.1.2.other2 (by omega) (.int .i64 hi.num) (.int .i64 (hi.den : Int)))) |> (by rw [hq']; exact ·)
                  clear K8 q13 r2 rf hq'
                  generalize World.setCell _ _ _ = w10 at K10 ⊢
                case' neg =>
                  rw [decide_eq_false h9] at HL5
                  have HL4 := Lib.hid HL5
                  clear HL5
                  obtain ⟨q', hq'⟩ : ∃ q', q' = q := ⟨_, rfl⟩
                  have hsn2 : gFold bn bd l (prP n i ++ prR i (i + 1 + (k' + 1))) = some (p', q') := by
                    rw [hsn1, hq', if_neg h9]
                  have hbq : q'.num.natAbs ≤ 2000000000 ∧ (q'.den : Int) ≤ 2000000000 := by rw [hq']; exact hb1.2
                  have hpq9 : p' ≤ q' := by rw [hq']; exact hpq'
                  clear hsn1 h9 hpq' hph'
                  go_upto_region 17 with (go_at_call 53; (with_reducible refine (Gives.c (HL4.out _)).mono ?_); rintro e w9 ⟨rfl, hb⟩; replace K8 := K8.next hb; clear hb q13 r2; have q13 := K8.now.2.two; have r2 := Blk.two (a := .int .i64 q.num) (b := .int .i64 (q.den : Int)) K8.now.1.1.mst; have rf := K8.now.1.1.mst.free2)
                  have K10 : Held _ (fun W => GI w bn bd (some (p', q')) W ∧ Blk W wo.heap.size [Value.int .i64 a.1, .int .i64 a.2.1, .int .i64 a.2.2]) := fun W hW => by
                    have h := K8 W hW
                    rw [hq']
                    exact h.1
                  clear K8 q13 r2 rf hq'
                  generalize hw78 : w9 = w10 at K10 ⊢
                all_goals
                  have HL6 : ∀ W, Gives 53 #[rv q', rv p'] (.bool (decide (q' < p'))) W := less_calls2 hbq.1 hbq.2 hbp.1 hbp.2
                  rw [decide_eq_false (Rat.not_lt.2 hpq9)] at HL6
                  unfold rv at HL6
                  have HL3 := Lib.hid HL6
                  have r1 : w10.cell? ⟨w.heap.size + 1, 0, none⟩ = some (.int .i64 p'.num) ∧ w10.cell? ⟨w.heap.size + 1, 1, none⟩ = some (.int .i64 (p'.den : Int)) := Blk.two (a := .int .i64 p'.num) (b := .int .i64 (p'.den : Int)) K10.now.1.lst
                  have r2 : w10.cell? ⟨w.heap.size + 1 + 1, 0, none⟩ = some (.int .i64 q'.num) ∧ w10.cell? ⟨w.heap.size + 1 + 1, 1, none⟩ = some (.int .i64 (q'.den : Int)) := Blk.two (a := .int .i64 q'.num) (b := .int .i64 (q'.den : Int)) K10.now.1.mst
                  have HSN2 := Lib.hid hsn2
                  clear HL6 hsn2 HL4 hb1 hb2 hloq hlh hbp hbq hpq9
                  go_wp2_with (go_at_call 53; (with_reducible refine (Gives.c (HL3.out _)).mono ?_); rintro e wb ⟨rfl, hb⟩; replace K10 := K10.next hb; clear hb r2 r1)
                  go_roundg (gk - 1)
                  case measure => omega
                  case rel => exact ⟨k' + 1, some (p', q'), by omega, by go_num, rfl, HSN2.out, K10.now⟩
          · obtain rfl : k' = N' := by omega
            have hw9 : GI w bn bd st wr := HIB.out.1
            have hfs : gFold bn bd l (prP n (i + 1)) = st := by
              have h1 := HS.out
              rw [show i + 1 + k' = n by have := HN.out; omega] at h1
              exact h1
            have HW := Lib.hid hw9
            have HFS := Lib.hid hfs
            clear hw9 hfs HIB
            go_wp2_with fail
            go_roundg (g - 1)
            case measure => omega
            case rel => exact ⟨i + 1, st, by omega, by go_num, rfl, HFS.out, HW.out⟩
    · obtain rfl : i = n := by omega
      have hst : st = some R := by
        rcases HSP.out (prP i i) with ⟨h, _⟩ | ⟨p, q, h, _⟩
        · have hm : ((0, 1) : Pair) ∈ prP i i := by rw [prP_mem]; exact ⟨by show 0 < i; omega, by show 0 < 1; omega, by show 1 < i; omega⟩
          rw [h] at hm
          cases hm
        · rw [HS.out] at h
          have hR := HR.out
          unfold gF at hR
          rw [hlen, show gFold bn bd l (prs i) = st from HS.out, h] at hR
          rw [h, ← hR]
          rfl
      subst hst
      obtain ⟨p, q⟩ := R
      have r1 : wo.cell? ⟨w.heap.size + 1, 0, none⟩ = some (.int .i64 p.num) ∧ wo.cell? ⟨w.heap.size + 1, 1, none⟩ = some (.int .i64 (p.den : Int)) := Blk.two (a := .int .i64 p.num) (b := .int .i64 (p.den : Int)) HI.out.lst
      have r2 : wo.cell? ⟨w.heap.size + 1 + 1, 0, none⟩ = some (.int .i64 q.num) ∧ wo.cell? ⟨w.heap.size + 1 + 1, 1, none⟩ = some (.int .i64 (q.den : Int)) := Blk.two (a := .int .i64 q.num) (b := .int .i64 (q.den : Int)) HI.out.mst
      have f1 := HI.out.lst.free2
      have f2 := HI.out.mst.free2
      go_wp2_with fail
      go_region
      all_goals
        have k := (HI.out.set0 (p := p) (q := q)).drew
        have k1 := Blk.two (a := .int .i64 p.num) (b := .int .i64 (p.den : Int)) k.lst
        have k2 := Blk.two (a := .int .i64 q.num) (b := .int .i64 (q.den : Int)) k.mst
        have kb := k.low
        generalize World.drew _ = wf at k1 k2 kb ⊢
        clear k r1 r2 f1 f2
        go_wp2
        change bodyPost Try.prog Try.f48 (fun e w' => e = .returned (.tuple #[rv p, rv q]) ∧ Below w.heap.size w w') Exit.ret _ wf
        refine bodyPost_ret (v := .tuple #[rv p, rv q]) (by simp [results, Try.results48, go_sem, k1, k2]) rfl ⟨rfl, kb⟩
end Go.Proofs.Ytjncoableanmpaa
