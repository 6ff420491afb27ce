/- The contract of line. -/
import Derived.Test.YtjncoableanmpaaLL
import Derived.Test.YtjncoableanmpaaPF
import Derived.Test.YtjncoableanmpaaLK
import Derived.Deep.CutBlock
namespace Go.Proofs.Ytjncoableanmpaa
open Go.RowKit Go.Lib Go.Shelf

theorem int_num (n : Int) : ((n : Rat)).num = n ∧ (((n : Rat)).den : Int) = 1 := ⟨by simp, by simp⟩
theorem add_bd {p q : Rat} {A B C : Nat} (h1 : p.num.natAbs ≤ A) (h2 : p.den = 1) (h3 : q.num.natAbs ≤ B) (h4 : (q.den : Int) ≤ (C : Int)) : (p + q).num.natAbs ≤ A * C + B ∧ ((p + q).den : Int) ≤ (C : Int) := by
  have hq := q.den_pos
  have e := rat_add p q
  have hd : 0 < (p.den : Int) * (q.den : Int) := Int.mul_pos (by omega) (by omega)
  obtain ⟨a1, a2, _⟩ := fr_bd (n := p.num * (q.den : Int) + q.num * (p.den : Int)) hd
  rw [e] at a1 a2
  rw [h2] at a1 a2
  have m := mul_ab (a := p.num) (b := (q.den : Int)) h1 (B := C) (by omega)
  have o : ((1 : Nat) : Int) = 1 := rfl
  rw [o, Int.mul_one] at a1
  rw [o, Int.one_mul] at a2
  constructor
  · omega
  · omega
theorem mul_bd2 {q : Rat} {n : Int} {A B : Nat} (h1 : q.num.natAbs ≤ A) (h2 : n.natAbs ≤ B) : (q * (n : Rat)).num.natAbs ≤ A * B ∧ ((q * (n : Rat)).den : Int) ≤ (q.den : Int) := by
  have hq := q.den_pos
  obtain ⟨a1, a2, _⟩ := fr_bd (n := q.num * n) (d := (q.den : Int)) (by omega)
  rw [rat_mul] at a1 a2
  have m := mul_ab (a := q.num) (b := n) h1 h2
  exact ⟨by omega, a2⟩

theorem one1_bd2 {a : Cd} (h : Tame a) : (one1 a).num.natAbs ≤ 10000 ∧ ((one1 a).den : Int) ≤ 2 := by
  unfold one1
  obtain ⟨h1, h2, _⟩ := fr_bd (n := a.2.2 - a.2.1) (d := 2) (by omega)
  have := h.l0
  have := h.l1
  have := h.h1
  omega
/-- What line needs to know of the claim. -/
structure LineOk (l : List Cd) (n : Nat) (c : Cl) : Prop where
  len : l.length = n
  i0 : c.who.1 < n
  i2 : c.who.2.2 < n
  ib : c.off.num.natAbs ≤ 400000000 ∧ (c.off.den : Int) ≤ 40000
  ip : 0 ≤ c.off.num
  sm : (cAt l c.who.2.2).1 - (cAt l c.who.1).1 = 0 → c.off.num.natAbs ≤ 10000 ∧ (c.off.den : Int) ≤ 2
  up : ¬ (cAt l c.who.2.2).1 - (cAt l c.who.1).1 = 0 → (cAt l c.who.1).1 < (cAt l c.who.2.2).1
theorem lineOk_best {l : List Cd} (hg : Good l) : LineOk l l.length (bestC l) := by
  obtain ⟨t, ht, e, _⟩ := bestC_spec hg.pos
  have hb := clm_bd hg ht
  have hw : (bestC l).who = t := by rw [e]; unfold clm; split <;> rfl
  have ht' := ht
  obtain ⟨i, j, k⟩ := t
  unfold TrioOk at ht'
  dsimp only at ht'
  refine ⟨rfl, by rw [hw]; show i < _; omega, by rw [hw]; show k < _; omega, by rw [e]; omega, by rw [e]; omega, ?_, ?_⟩
  · rw [hw, e]
    intro h
    dsimp only at h
    have hik : i = k := by
      rcases Nat.lt_trichotomy i k with h1 | h1 | h1
      · have := hg.inc i k h1 (by omega); omega
      · exact h1
      · omega
    unfold clm
    rw [if_pos hik]
    exact one1_bd2 (hg.tame _ (by show i < _; omega))
  · rw [hw]
    intro h
    dsimp only at h
    rcases Nat.lt_or_ge i k with h1 | h1
    · exact hg.inc i k h1 (by omega)
    · have hik : i = k := by omega
      subst hik
      exact absurd (Int.sub_self _) h

theorem gF_bd {l : List Cd} (hg : Good l) {bn bd : Int} (hb0 : 0 ≤ bn) (hb1 : bn ≤ 10000) (hd0 : 1 ≤ bd) (hd1 : bd ≤ 2) (h2 : 2 ≤ l.length) : (gF bn bd l).1.num.natAbs ≤ 40000 ∧ ((gF bn bd l).1.den : Int) ≤ 40000 := by
  rcases gFold_spec bn bd l (prs l.length) with ⟨h, _⟩ | ⟨p, q, h, ⟨t, ht, e⟩, _⟩
  · have hm : ((0, 1) : Pair) ∈ prs l.length := prs_mem.2 ⟨by show 0 < 1; omega, by show 1 < l.length; omega⟩
    rw [h] at hm
    cases hm
  · unfold gF
    rw [h]
    show p.num.natAbs ≤ 40000 ∧ (p.den : Int) ≤ 40000
    rw [e]
    obtain ⟨h3, h4⟩ := prs_mem.1 ht
    have ha := hg.tame t.1 (by omega)
    have hc := hg.tame t.2 h4
    have hs := hg.inc _ _ h3 h4
    generalize cAt l t.1 = a at ha hs ⊢
    generalize cAt l t.2 = b at hc hs ⊢
    have := ha.l0; have := ha.l1; have := ha.h1; have := hc.l0; have := hc.l1; have := hc.h1; have := ha.s0; have := hc.s1
    have m1 := mul_in (a := b.2.2 - a.2.1) (A := 10000) (b := bd) (B := 2) (by omega) (by omega) (by omega) (by omega)
    have m3 := mul_in (a := b.1 - a.1) (A := 20000) (b := bd) (B := 2) (by omega) (by omega) (by omega) (by omega)
    have m4 := Int.mul_pos (show 0 < b.1 - a.1 by omega) (show 0 < bd by omega)
    unfold loG
    obtain ⟨a1, a2, _⟩ := fr_bd (n := (b.2.2 - a.2.1) * bd - 2 * bn) m4
    omega
/-- What stands behind the three ways to a gain. -/
structure LI (w : World) (B6 B9 : Nat) (a : Cd) (g at1 : Rat) (W : World) : Prop where
  low : Below w.heap.size w W
  h6 : Blk W B6 [.int .i64 a.1, .int .i64 a.2.1, .int .i64 a.2.2]
  h4 : Blk W (w.heap.size + 1) [.int .i64 g.num, .int .i64 (g.den : Int)]
  h5 : ∃ x y, Blk W (w.heap.size + 1 + 1) [x, y]
  h9 : Blk W B9 [.int .i64 at1.num, .int .i64 (at1.den : Int)]
  n6 : w.heap.size + 1 + 1 < B6
  n9 : w.heap.size + 1 + 1 < B9
section
variable {w : World} {B6 B9 : Nat} {a : Cd} {g at1 : Rat} {W W' : World}
theorem LI.later (h : LI w B6 B9 a g at1 W) (hb : Below W.heap.size W W') : LI w B6 B9 a g at1 W' :=
  ⟨h.low.trans (hb.mono h.low.size), h.h6.later hb, h.h4.later hb, by obtain ⟨x, y, h5⟩ := h.h5; exact ⟨x, y, h5.later hb⟩, h.h9.later hb, h.n6, h.n9⟩
theorem LI.put4 (h : LI w B6 B9 a g at1 W) : LI w B6 B9 a g at1 ((W.setCell ⟨w.heap.size + 1, 0, none⟩ (.int .i64 g.num)).setCell ⟨w.heap.size + 1, 1, none⟩ (.int .i64 (g.den : Int))) :=
  ⟨below2 h.low (by omega) _ _, h.h6.other2 (by have := h.n6; omega) _ _, h.h4.put2 _ _, by obtain ⟨x, y, h5⟩ := h.h5; exact ⟨x, y, h5.other2 (by omega) _ _⟩, h.h9.other2 (by have := h.n9; omega) _ _, h.n6, h.n9⟩
theorem LI.put5 (h : LI w B6 B9 a g at1 W) (x y : Value) : LI w B6 B9 a g at1 ((W.setCell ⟨w.heap.size + 1 + 1, 0, none⟩ x).setCell ⟨w.heap.size + 1 + 1, 1, none⟩ y) :=
  ⟨below2 h.low (by omega) _ _, h.h6.other2 (by have := h.n6; omega) _ _, h.h4.other2 (by omega) _ _, by obtain ⟨x', y', h5⟩ := h.h5; exact ⟨_, _, h5.put2 x y⟩, h.h9.other2 (by have := h.n9; omega) _ _, h.n6, h.n9⟩
theorem LI.cells (h : LI w B6 B9 a g at1 W) : Below w.heap.size w W ∧ W.cell? ⟨B6, 0, none⟩ = some (.int .i64 a.1) ∧ (W.cell? ⟨w.heap.size + 1, 0, none⟩ = some (.int .i64 g.num) ∧ W.cell? ⟨w.heap.size + 1, 1, none⟩ = some (.int .i64 (g.den : Int)) ∧ W.frozen? ⟨w.heap.size + 1, 0, none⟩ = false ∧ W.frozen? ⟨w.heap.size + 1, 1, none⟩ = false) ∧
    (W.cell? ⟨w.heap.size + 1 + 1, 0, none⟩ = some (valAt W ⟨w.heap.size + 1 + 1, 0, none⟩) ∧ W.cell? ⟨w.heap.size + 1 + 1, 1, none⟩ = some (valAt W ⟨w.heap.size + 1 + 1, 1, none⟩) ∧ W.frozen? ⟨w.heap.size + 1 + 1, 0, none⟩ = false ∧ W.frozen? ⟨w.heap.size + 1 + 1, 1, none⟩ = false) ∧
    (W.cell? ⟨B9, 0, none⟩ = some (.int .i64 at1.num) ∧ W.cell? ⟨B9, 1, none⟩ = some (.int .i64 (at1.den : Int))) := by
  obtain ⟨x, y, h5⟩ := h.h5
  exact ⟨h.low, h.h6.cell 0 _ rfl, ⟨h.h4.two.1, h.h4.two.2, h.h4.free2⟩, h5.vals, h.h9.two⟩
end

/-- What stands in the third way. -/
structure LJ (w : World) (B6 B9 : Nat) (a : Cd) (x : Cl) (g : Rat) (W : World) : Prop where
  low : Below w.heap.size w W
  h6 : Blk W B6 [.int .i64 a.1, .int .i64 a.2.1, .int .i64 a.2.2]
  hx : ∃ u, Blk W w.heap.size [Value.int .i64 x.off.num, .int .i64 (x.off.den : Int), .bool u, .int .i64 (x.who.1 : Int), .int .i64 (x.who.2.1 : Int), .int .i64 (x.who.2.2 : Int)]
  h4 : Blk W (w.heap.size + 1) [.int .i64 g.num, .int .i64 (g.den : Int)]
  h5 : Blk W (w.heap.size + 1 + 1) [Value.int .i64 0, .int .i64 0]
  h9 : ∃ p q, Blk W B9 [p, q]
  n6 : w.heap.size + 1 + 1 < B6
  n9 : w.heap.size + 1 + 1 < B9
  n69 : B6 < B9
section
variable {w : World} {B6 B9 : Nat} {a : Cd} {x : Cl} {g : Rat} {W W' : World}
theorem LJ.later (h : LJ w B6 B9 a x g W) (hb : Below W.heap.size W W') : LJ w B6 B9 a x g W' :=
  ⟨h.low.trans (hb.mono h.low.size), h.h6.later hb, by obtain ⟨u, hx⟩ := h.hx; exact ⟨u, hx.later hb⟩, h.h4.later hb, h.h5.later hb, by obtain ⟨p, q, h9⟩ := h.h9; exact ⟨p, q, h9.later hb⟩, h.n6, h.n9, h.n69⟩
theorem LJ.put9 (h : LJ w B6 B9 a x g W) (p q : Value) : LJ w B6 B9 a x g ((W.setCell ⟨B9, 0, none⟩ p).setCell ⟨B9, 1, none⟩ q) :=
  ⟨below2 h.low (by have := h.n9; omega) _ _, h.h6.other2 (by have := h.n69; omega) _ _, by obtain ⟨u, hx⟩ := h.hx; exact ⟨u, hx.other2 (by have := h.n9; omega) _ _⟩, h.h4.other2 (by have := h.n9; omega) _ _, h.h5.other2 (by have := h.n9; omega) _ _, by obtain ⟨p', q', h9⟩ := h.h9; exact ⟨_, _, h9.put2 p q⟩, h.n6, h.n9, h.n69⟩
theorem LJ.cells (h : LJ w B6 B9 a x g W) : Below w.heap.size w W ∧ W.cell? ⟨B6, 2, none⟩ = some (.int .i64 a.2.2) ∧ (W.cell? ⟨w.heap.size, 0, none⟩ = some (.int .i64 x.off.num) ∧ W.cell? ⟨w.heap.size, 1, none⟩ = some (.int .i64 (x.off.den : Int))) ∧
    (W.cell? ⟨B9, 0, none⟩ = some (valAt W ⟨B9, 0, none⟩) ∧ W.cell? ⟨B9, 1, none⟩ = some (valAt W ⟨B9, 1, none⟩) ∧ W.frozen? ⟨B9, 0, none⟩ = false ∧ W.frozen? ⟨B9, 1, none⟩ = false) := by
  obtain ⟨p, q, h9⟩ := h.h9
  obtain ⟨u, hx⟩ := h.hx
  exact ⟨h.low, h.h6.cell 2 _ rfl, ⟨hx.cell 0 _ rfl, hx.cell 1 _ rfl⟩, h9.vals⟩
end

set_option maxRecDepth 100000 in
set_option maxHeartbeats 8000000 in
theorem line_calls {b off n c : Nat} {l : List Cd} (x : Cl) (w : World) (hl : ReadsC w (some ⟨b, off, none⟩) n l) (hg : Good l) (hx : LineOk l n x) (hf : Fits x.off.num x.off.den l) (hcap : n ≤ c) :
    Gives 60 #[clv x, .slice (some ⟨b, off, none⟩) n c] (.tuple #[rv (lineF l x).1, rv (lineF l x).2]) w := by
  unfold Gives clv
  obtain ⟨xu, hxu⟩ : ∃ xu, x.up = xu := ⟨_, rfl⟩
  rw [hxu]
  have HXU := Lib.hid hxu
  clear hxu
  have I : Held (((w.alloc (.cells [Value.int .i64 x.off.num, .int .i64 (x.off.den : Int), .bool xu, .int .i64 (x.who.1 : Int), .int .i64 (x.who.2.1 : Int), .int .i64 (x.who.2.2 : Int)].toArray 89)).alloc (.cells [Value.int .i64 0, .int .i64 0].toArray 82)).alloc (.cells [Value.int .i64 0, .int .i64 0].toArray 82))
      (fun W => (Below w.heap.size w W ∧ ReadsC W (some ⟨b, off, none⟩) n l) ∧ Blk W w.heap.size [Value.int .i64 x.off.num, .int .i64 (x.off.den : Int), .bool xu, .int .i64 (x.who.1 : Int), .int .i64 (x.who.2.1 : Int), .int .i64 (x.who.2.2 : Int)] ∧ Blk W (w.heap.size + 1) [Value.int .i64 0, .int .i64 0] ∧ Blk W (w.heap.size + 1 + 1) [Value.int .i64 0, .int .i64 0]) := fun W hW => by
    have h1 : Below w.heap.size w W := ((((Below.refl _ _).alloc (Nat.le_refl _) _).alloc (by simp) _).alloc (by simp; omega) _).trans (hW.mono (by simp; omega))
    exact ⟨⟨h1, hl.later h1⟩, (((Blk.new w _ 89).alloc _).alloc _).later hW, Blk.later (Blk.alloc (by simpa using Blk.new (w.alloc _) [Value.int .i64 0, .int .i64 0] 82) _) hW, Blk.later (by simpa using Blk.new ((w.alloc _).alloc _) [Value.int .i64 0, .int .i64 0] 82) hW⟩
  have g0 : ((x.who.1 : Nat) : Int) < (n : Int) := by have := hx.i0; omega
  have g2 : ((x.who.2.2 : Nat) : Int) < (n : Int) := by have := hx.i2; omega
  have HG := Lib.hid hg
  have HX := Lib.hid hx
  have HF := Lib.hid hf
  have HL := Lib.hid hl
  obtain ⟨R, hR⟩ : ∃ R, lineF l x = R := ⟨_, rfl⟩
  rw [hR]
  have HR := Lib.hid hR
  clear hl hg hx hf hR
  go_enter Try.func60, Try.ntmps60
  go_wp2_with fail
  generalize World.alloc _ _ = w1 at I ⊢
  generalize hAA : cAt l x.who.1 = a
  generalize hBB : cAt l x.who.2.2 = bb
  have hS : ∀ W, Below w1.heap.size w1 W → Below w1.heap.size w1 W ∧ (W.cell? ⟨w.heap.size, 3, none⟩ = some (.int .i64 (x.who.1 : Int)) ∧ W.cell? ⟨w.heap.size, 5, none⟩ = some (.int .i64 (x.who.2.2 : Int))) ∧
      (W.cell? ⟨b, off + x.who.1 * 3, none⟩ = some (.int .i64 a.1) ∧ W.cell? ⟨b, off + x.who.1 * 3 + 1, none⟩ = some (.int .i64 a.2.1) ∧ W.cell? ⟨b, off + x.who.1 * 3 + 2, none⟩ = some (.int .i64 a.2.2)) ∧
      (W.cell? ⟨b, off + x.who.2.2 * 3, none⟩ = some (.int .i64 bb.1) ∧ W.cell? ⟨b, off + x.who.2.2 * 3 + 1, none⟩ = some (.int .i64 bb.2.1) ∧ W.cell? ⟨b, off + x.who.2.2 * 3 + 2, none⟩ = some (.int .i64 bb.2.2)) := fun W hW => by
    have h := (I.next hW).now
    refine ⟨hW, ⟨h.2.1.six.2.2.2.1, h.2.1.six.2.2.2.2.2⟩, ?_, ?_⟩
    · have := h.1.2.at HX.out.i0; rwa [hAA] at this
    · have := h.1.2.at HX.out.i2; rwa [hBB] at this
  have HS := Lib.hid hS
  have q0 := HS.out _ (Below.refl _ _)
  have HAA := Lib.hid hAA
  have HBB := Lib.hid hBB
  clear hS hAA hBB
  go_cut [6, 7] (fun s6 s7 wx => ∃ B6 B7 : Nat, s6 = .pointer (some ⟨B6, 0, none⟩) ∧ s7 = .pointer (some ⟨B7, 0, none⟩) ∧ Aside (Blk wx B6 [.int .i64 a.1, .int .i64 a.2.1, .int .i64 a.2.2]) ∧ Aside (Blk wx B7 [.int .i64 bb.1, .int .i64 bb.2.1, .int .i64 bb.2.2]) ∧ Aside (Below w1.heap.size w1 wx) ∧ w1.heap.size ≤ B6 ∧ w1.heap.size ≤ B7)
  case first =>
    go_region_held3 (fun W => Below w1.heap.size w1 W ∧ (W.cell? ⟨w.heap.size, 3, none⟩ = some (.int .i64 (x.who.1 : Int)) ∧ W.cell? ⟨w.heap.size, 5, none⟩ = some (.int .i64 (x.who.2.2 : Int))) ∧
      (W.cell? ⟨b, off + x.who.1 * 3, none⟩ = some (.int .i64 a.1) ∧ W.cell? ⟨b, off + x.who.1 * 3 + 1, none⟩ = some (.int .i64 a.2.1) ∧ W.cell? ⟨b, off + x.who.1 * 3 + 2, none⟩ = some (.int .i64 a.2.2)) ∧
      (W.cell? ⟨b, off + x.who.2.2 * 3, none⟩ = some (.int .i64 bb.1) ∧ W.cell? ⟨b, off + x.who.2.2 * 3 + 1, none⟩ = some (.int .i64 bb.2.1) ∧ W.cell? ⟨b, off + x.who.2.2 * 3 + 2, none⟩ = some (.int .i64 bb.2.2)))
      (first | exact HS.out _ (by go_grown) | fail)
      (fail)
    all_goals
      go_wp2_with fail
      go_meet
      exact ⟨_, _, rfl, rfl, by first | exact blk2_0 .. | exact blk2_1 .., by first | exact blk2_0 .. | exact blk2_1 .., belowA2 .., by omega, by omega⟩
  case rest =>
    obtain ⟨B6, B7, rfl, rfl, H6, H7, HB, hz6, hz7⟩ := hcut
    have J := ((I.next HB.out).with (.blk H6.out)).with (.blk H7.out)
    have zw := I.now.2.2.2.lt
    clear H6 H7 HB HS q0 I
    have ta : Tame a := by have := HG.out.tame x.who.1 (by have := HX.out.i0; have := HX.out.len; omega); rw [HAA.out] at this; exact this
    have tb : Tame bb := by have := HG.out.tame x.who.2.2 (by have := HX.out.i2; have := HX.out.len; omega); rw [HBB.out] at this; exact this
    have := ta.l0; have := ta.l1; have := ta.h1; have := tb.l0; have := tb.l1; have := tb.h1; have := ta.s0; have := tb.s1; have := ta.s1; have := tb.s0
    have hib := HX.out.ib
    have hd1 := x.off.den_pos
    have udn : IntKind.i64.wrap (bb.1 - a.1) = bb.1 - a.1 := i64_in (by omega) (by omega)
    have hR0 := HR.out
    unfold lineF at hR0
    dsimp only at hR0
    have hsm := HX.out.sm
    have hup := HX.out.up
    rw [HAA.out, HBB.out] at hR0 hsm hup
    generalize hdn : bb.1 - a.1 = dn at hR0 hsm hup
    replace udn : IntKind.i64.wrap (bb.1 - a.1) = dn := by rw [udn, hdn]
    have bA := add_bd (p := (a.2.1 : Rat)) (q := x.off) (A := 10000) (B := 400000000) (C := 40000) (by rw [(int_num _).1]; omega) (by simp) hib.1 hib.2
    have HP0 : ∀ W, Gives 66 #[.agg #[.int .i64 a.2.1, .int .i64 1], .agg #[.int .i64 x.off.num, .int .i64 (x.off.den : Int)]] (rv ((a.2.1 : Rat) + x.off)) W := fun W => by
      have h := plus_calls (p := (a.2.1 : Rat)) (q := x.off) (by rw [(int_num _).1]; omega) (by simp) (by omega) (by omega) W
      unfold rv at h
      rw [(int_num a.2.1).1, (int_num a.2.1).2] at h
      exact h
    have hR0' := Lib.hid hR0
    have HSM := Lib.hid hsm
    have HUP := Lib.hid hup
    have HDN := Lib.hid hdn
    have hdnb : -20000 ≤ dn ∧ dn ≤ 20000 := by omega
    generalize hat : (a.2.1 : Rat) + x.off = at0 at HP0 bA
    have HAT := Lib.hid hat
    unfold rv at HP0
    have HP0 := Lib.hid HP0
    clear hR0 hsm hup hdn hat
    have q6 := J.now.1.2.three
    have q7 := J.now.2.three
    have qx := J.now.1.1.2.1.six
    go_upto_block 0 with (go_at_call 66; (with_reducible refine (Gives.c (HP0.out _)).mono ?_); rintro e w2 ⟨rfl, hb⟩; replace J := J.next hb; clear hb)
    have J2 : Held (w2.alloc (.cells #[Value.int .i64 at0.num, .int .i64 (at0.den : Int)] 82)) (fun W => ((((Below w.heap.size w W ∧ ReadsC W (some ⟨b, off, none⟩) n l) ∧ Blk W w.heap.size [Value.int .i64 x.off.num, .int .i64 (x.off.den : Int), .bool xu, .int .i64 (x.who.1 : Int), .int .i64 (x.who.2.1 : Int), .int .i64 (x.who.2.2 : Int)] ∧ Blk W (w.heap.size + 1) [Value.int .i64 0, .int .i64 0] ∧ Blk W (w.heap.size + 1 + 1) [Value.int .i64 0, .int .i64 0]) ∧ Blk W B6 [.int .i64 a.1, .int .i64 a.2.1, .int .i64 a.2.2]) ∧ Blk W B7 [.int .i64 bb.1, .int .i64 bb.2.1, .int .i64 bb.2.2]) ∧ Blk W w2.heap.size [Value.int .i64 at0.num, .int .i64 (at0.den : Int)]) := J.allocB [Value.int .i64 at0.num, .int .i64 (at0.den : Int)] 82
    have hz9 : w.heap.size + 1 + 1 < w2.heap.size := J.now.1.1.2.2.2.lt
    have hz96 : B6 < w2.heap.size := J.now.1.2.lt
    have hz97 : B7 < w2.heap.size := J.now.2.lt
    generalize hB9 : w2.heap.size = B9 at J2 hz9 hz96 hz97 ⊢
    generalize World.alloc _ _ = w3 at J2 ⊢
    clear J hB9 q6 q7 qx
    have z1 : w.heap.size + 1 + 1 < B6 := by omega
    go_cut [52] (fun s52 wx => ∃ at1 : Rat, Aside (R.2 = at1 + R.1 * ((-a.1 : Int) : Rat)) ∧ Aside ((R.1.num.natAbs ≤ 40000 ∧ (R.1.den : Int) ≤ 40000) ∧ (at1.num.natAbs ≤ 800000000 ∧ (at1.den : Int) ≤ 40000)) ∧ Aside (Below w.heap.size w wx) ∧ Aside (Blk wx B6 [.int .i64 a.1, .int .i64 a.2.1, .int .i64 a.2.2]) ∧ Aside (Blk wx (w.heap.size + 1) [.int .i64 R.1.num, .int .i64 (R.1.den : Int)]) ∧ Aside (Blk wx (w.heap.size + 1 + 1) [Value.int .i64 0, .int .i64 0]) ∧ Aside (Blk wx B9 [.int .i64 at1.num, .int .i64 (at1.den : Int)]))
    case first =>
      have hR0 := hR0'.out
      rw [HX.out.len, HAT.out] at hR0
      have q6 := J2.now.1.1.2.three
      have q7 := J2.now.1.2.three
      have qx := J2.now.1.1.1.2.1.six
      have q4 := J2.now.1.1.1.2.2.1.two
      have f4 := J2.now.1.1.1.2.2.1.free2
      have q9 := J2.now.2.two
      by_cases hn1 : n = 1
      · have en : ((n : Int) == 1) = true := beq_iff_eq.2 (by omega)
        rw [if_pos hn1] at hR0
        have q5 := J2.now.1.1.1.2.2.2.two
        have f5 := J2.now.1.1.1.2.2.2.free2
        obtain ⟨g, o⟩ := R
        obtain ⟨rfl, rfl⟩ : 0 = g ∧ at0 = o := ⟨congrArg Prod.fst hR0, congrArg Prod.snd hR0⟩
        clear hR0 hR0' HR
        go_wp2_with fail
        go_region
        all_goals
          have h5 := J2.now.1.1.1.2.2.2
          have k4 := ((J2.now.1.1.1.2.2.1.put2 (.int .i64 0) (.int .i64 1)).other2 (B' := w.heap.size + 1 + 1) (by omega) (.int .i64 at0.num) (.int .i64 (at0.den : Int))).drew.two
          have k5 := ((h5.other2 (B' := w.heap.size + 1) (by omega) (.int .i64 0) (.int .i64 1)).put2 (.int .i64 at0.num) (.int .i64 (at0.den : Int))).drew.two
          have kb := (below2 (below2 J2.now.1.1.1.1.1 (show w.heap.size ≤ w.heap.size + 1 by omega) (.int .i64 0) (.int .i64 1)) (show w.heap.size ≤ w.heap.size + 1 + 1 by omega) (.int .i64 at0.num) (.int .i64 (at0.den : Int))).drew
          generalize World.drew _ = wf at k4 k5 kb ⊢
          clear h5 q4 f4 q5 f5 q9
          go_wp2
          refine bodyPost_ret (v := .tuple #[rv 0, rv at0]) (by simp [results, Try.results60, go_sem, k4, k5]) rfl ⟨rfl, kb⟩
      · have en : ((n : Int) == 1) = false := beq_eq_false_iff_ne.2 (by omega)
        have en' : ¬ (n : Int) = 1 := by omega
        rw [if_neg hn1] at hR0
        have h2n : 2 ≤ n := by have := HX.out.i0; omega
        by_cases hd0 : dn = 0
        · rw [if_pos hd0] at hR0
          have hsm := HSM.out hd0
          have hip := HX.out.ip
          have hgb := gF_bd HG.out (bn := x.off.num) (bd := x.off.den) hip (by omega) (by omega) (by omega) (by rw [HX.out.len]; exact h2n)
          have HC : ∀ W, Below w3.heap.size w3 W → Gives 48 #[.slice (some ⟨b, off, none⟩) n c, .agg #[.int .i64 x.off.num, .int .i64 (x.off.den : Int)]] (.tuple #[rv (gF x.off.num x.off.den l).1, rv (gF x.off.num x.off.den l).2]) W := fun W hW =>
            gains_calls W (J2 W hW).1.1.1.1.2 HG.out ⟨hip, by omega, by omega, by omega⟩ HF.out h2n hcap
          generalize gF x.off.num x.off.den l = gg at HC hgb hR0
          obtain ⟨g1, g2'⟩ := gg
          dsimp only at HC hgb hR0
          unfold rv at HC
          have HC := Lib.hid HC
          have HR0 := Lib.hid hR0
          subst hd0
          clear hR0 hR0'
          go_wp2_with (go_at_call 48; (with_reducible refine (Gives.c (HC.out _ (Below.refl _ _))).mono ?_); rintro e w4 ⟨rfl, hb⟩; replace J2 := J2.next hb; clear hb q6 q7 qx q4 f4 q9; have q4 := J2.now.1.1.1.2.2.1.two; have f4 := J2.now.1.1.1.2.2.1.free2)
          go_meet
          have h6 := J2.now.1.1.2.other2 (B' := w.heap.size + 1) (by omega) (.int .i64 g1.num) (.int .i64 (g1.den : Int))
          have h4 := J2.now.1.1.1.2.2.1.put2 (.int .i64 g1.num) (.int .i64 (g1.den : Int))
          have h5 := J2.now.1.1.1.2.2.2.other2 (B' := w.heap.size + 1) (by omega) (.int .i64 g1.num) (.int .i64 (g1.den : Int))
          have h9 := J2.now.2.other2 (B' := w.heap.size + 1) (by omega) (.int .i64 g1.num) (.int .i64 (g1.den : Int))
          have hB := below2 J2.now.1.1.1.1.1 (show w.heap.size ≤ w.heap.size + 1 by omega) (.int .i64 g1.num) (.int .i64 (g1.den : Int))
          obtain ⟨g, o⟩ := R
          obtain ⟨rfl, e2⟩ : g1 = g ∧ at0 + g1 * ((-a.1 : Int) : Rat) = o := ⟨congrArg Prod.fst HR0.out, congrArg Prod.snd HR0.out⟩
          exact ⟨at0, e2.symm, ⟨hgb, ⟨by omega, bA.2⟩⟩, hB, h6, h4, h5, h9⟩
        · rw [if_neg hd0] at hR0
          have hup := HUP.out hd0
          have hdn := HDN.out
          have hdp : 0 < dn := by omega
          have e0 : (dn == 0) = false := beq_eq_false_iff_ne.2 hd0
          cases xu with
          | true =>
            rw [if_pos HXU.out] at hR0
            have HP : ∀ W, Gives 38 #[.agg #[.int .i64 (bb.2.1 - a.2.1), .int .i64 dn]] (rv (fr (bb.2.1 - a.2.1) dn)) W := fun W => plain_calls hdp (by omega) (by omega) W
            have hgb := fr_bd (n := bb.2.1 - a.2.1) hdp
            have hgb : (fr (bb.2.1 - a.2.1) dn).num.natAbs ≤ 40000 ∧ ((fr (bb.2.1 - a.2.1) dn).den : Int) ≤ 40000 := by omega
            have u1 : IntKind.i64.wrap (bb.2.1 - a.2.1) = bb.2.1 - a.2.1 := i64_in (by omega) (by omega)
            generalize fr (bb.2.1 - a.2.1) dn = g1 at HP hgb hR0
            unfold rv at HP
            have HP := Lib.hid HP
            have HR0 := Lib.hid hR0
            clear hR0 hR0' hup hdn
            go_wp2_with (go_at_call 38; (with_reducible refine (Gives.c (HP.out _)).mono ?_); rintro e w4 ⟨rfl, hb⟩; replace J2 := J2.next hb; clear hb q6 q7 qx q4 f4 q9; have q4 := J2.now.1.1.1.2.2.1.two; have f4 := J2.now.1.1.1.2.2.1.free2)
            go_meet
            have h6 := J2.now.1.1.2.other2 (B' := w.heap.size + 1) (by omega) (.int .i64 g1.num) (.int .i64 (g1.den : Int))
            have h4 := J2.now.1.1.1.2.2.1.put2 (.int .i64 g1.num) (.int .i64 (g1.den : Int))
            have h5 := J2.now.1.1.1.2.2.2.other2 (B' := w.heap.size + 1) (by omega) (.int .i64 g1.num) (.int .i64 (g1.den : Int))
            have h9 := J2.now.2.other2 (B' := w.heap.size + 1) (by omega) (.int .i64 g1.num) (.int .i64 (g1.den : Int))
            have hB := below2 J2.now.1.1.1.1.1 (show w.heap.size ≤ w.heap.size + 1 by omega) (.int .i64 g1.num) (.int .i64 (g1.den : Int))
            obtain ⟨g, o⟩ := R
            obtain ⟨rfl, e2⟩ : g1 = g ∧ at0 + g1 * ((-a.1 : Int) : Rat) = o := ⟨congrArg Prod.fst HR0.out, congrArg Prod.snd HR0.out⟩
            exact ⟨at0, e2.symm, ⟨hgb, ⟨by omega, bA.2⟩⟩, hB, h6, h4, h5, h9⟩
          | false =>
            rw [if_neg (by rw [HXU.out]; decide)] at hR0
            have HP : ∀ W, Gives 38 #[.agg #[.int .i64 (bb.2.2 - a.2.2), .int .i64 dn]] (rv (fr (bb.2.2 - a.2.2) dn)) W := fun W => plain_calls hdp (by omega) (by omega) W
            have hgb := fr_bd (n := bb.2.2 - a.2.2) hdp
            have hgb : (fr (bb.2.2 - a.2.2) dn).num.natAbs ≤ 40000 ∧ ((fr (bb.2.2 - a.2.2) dn).den : Int) ≤ 40000 := by omega
            have u1 : IntKind.i64.wrap (bb.2.2 - a.2.2) = bb.2.2 - a.2.2 := i64_in (by omega) (by omega)
            generalize fr (bb.2.2 - a.2.2) dn = g1 at HP hgb hR0
            unfold rv at HP
            have HP := Lib.hid HP
            have bm := mul_bd2 (q := x.off) (n := -1) (A := 400000000) (B := 1) hib.1 (by decide)
            have HT : ∀ W, Gives 67 #[rv x.off, .int .i64 (-1)] (rv (x.off * ((-1 : Int) : Rat))) W := fun W => times_calls (by omega) (by omega) (by decide) W
            have bA2 := add_bd (p := (a.2.2 : Rat)) (q := x.off * ((-1 : Int) : Rat)) (A := 10000) (B := 400000000) (C := 40000) (by rw [(int_num _).1]; omega) (by simp) (by omega) (by omega)
            have HQ : ∀ W, Gives 66 #[.agg #[.int .i64 a.2.2, .int .i64 1], rv (x.off * ((-1 : Int) : Rat))] (rv ((a.2.2 : Rat) + x.off * ((-1 : Int) : Rat))) W := fun W => by
              have h := plus_calls (p := (a.2.2 : Rat)) (q := x.off * ((-1 : Int) : Rat)) (by rw [(int_num _).1]; omega) (by simp) (by omega) (by omega) W
              unfold rv at h ⊢
              rw [(int_num a.2.2).1, (int_num a.2.2).2] at h
              exact h
            generalize (a.2.2 : Rat) + x.off * ((-1 : Int) : Rat) = at1 at HQ bA2 hR0
            generalize x.off * ((-1 : Int) : Rat) = xm at HQ HT
            unfold rv at HQ HT
            have HQ := Lib.hid HQ
            have HT := Lib.hid HT
            have HR0 := Lib.hid hR0
            clear hR0 hR0' hup hdn
            go_upto_region 5 with (go_at_call 38; (with_reducible refine (Gives.c (HP.out _)).mono ?_); rintro e w4 ⟨rfl, hb⟩; replace J2 := J2.next hb; clear hb q6 q7 qx q4 f4 q9; have q4 := J2.now.1.1.1.2.2.1.two; have f4 := J2.now.1.1.1.2.2.1.free2)
            have L0 : LJ w B6 B9 a x g1 _ := ⟨below2 J2.now.1.1.1.1.1 (show w.heap.size ≤ w.heap.size + 1 by omega) (.int .i64 g1.num) (.int .i64 (g1.den : Int)), J2.now.1.1.2.other2 (B' := w.heap.size + 1) (by omega) (.int .i64 g1.num) (.int .i64 (g1.den : Int)), ⟨_, J2.now.1.1.1.2.1.other2 (B' := w.heap.size + 1) (by omega) (.int .i64 g1.num) (.int .i64 (g1.den : Int))⟩, J2.now.1.1.1.2.2.1.put2 (.int .i64 g1.num) (.int .i64 (g1.den : Int)), J2.now.1.1.1.2.2.2.other2 (B' := w.heap.size + 1) (by omega) (.int .i64 g1.num) (.int .i64 (g1.den : Int)), ⟨_, _, J2.now.2.other2 (B' := w.heap.size + 1) (by omega) (.int .i64 g1.num) (.int .i64 (g1.den : Int))⟩, z1, hz9, hz96⟩
            have HL0 := Lib.hid L0
            clear L0 J2 q4 f4
            generalize World.setCell _ _ _ = w5 at HL0 ⊢
            go_region_held3 (fun W => Below w.heap.size w W ∧ W.cell? ⟨B6, 2, none⟩ = some (.int .i64 a.2.2) ∧ (W.cell? ⟨w.heap.size, 0, none⟩ = some (.int .i64 x.off.num) ∧ W.cell? ⟨w.heap.size, 1, none⟩ = some (.int .i64 (x.off.den : Int))) ∧
    (W.cell? ⟨B9, 0, none⟩ = some (valAt W ⟨B9, 0, none⟩) ∧ W.cell? ⟨B9, 1, none⟩ = some (valAt W ⟨B9, 1, none⟩) ∧ W.frozen? ⟨B9, 0, none⟩ = false ∧ W.frozen? ⟨B9, 1, none⟩ = false))
              (first
                | exact (HL0.out.later (Below.refl _ _).drew).cells
                | exact HL5.out.cells
                | exact HL6.out.cells
                | exact (HL6.out.put9 _ _).cells
                | fail)
              (first
                | (go_at_call 67; (with_reducible refine (Gives.c (HT.out _)).mono ?_); rintro e w7 ⟨rfl, hb⟩; have HL5 := Lib.hid ((HL0.out.later (Below.refl _ _).drew).later hb))
                | (go_at_call 66; (with_reducible refine (Gives.c (HQ.out _)).mono ?_); rintro e w8 ⟨rfl, hb⟩; have HL6 := Lib.hid (HL5.out.later hb))
                | fail)
            all_goals
              go_wp2_with fail
              go_meet
              obtain ⟨g, o⟩ := R
              obtain ⟨rfl, e2⟩ : g1 = g ∧ at1 + g1 * ((-a.1 : Int) : Rat) = o := ⟨congrArg Prod.fst HR0.out, congrArg Prod.snd HR0.out⟩
              obtain ⟨x9, y9, h9⟩ := HL6.out.h9
              have k := HL6.out.put9 (.int .i64 at1.num) (.int .i64 (at1.den : Int))
              exact ⟨at1, e2.symm, ⟨hgb, ⟨by omega, bA2.2⟩⟩, k.low, k.h6, k.h4, k.h5, h9.put2 _ _⟩
    case rest =>
      obtain ⟨at1, hR2, hbd, hB, h6, h4, h5, h9⟩ := hcut
      have J := ((((Held.from hB.out hB.out.size).with (.blk h6.out)).with (.blk h4.out)).with (.blk h5.out)).with (.blk h9.out)
      have hbd := hbd.out
      have hR2 := hR2.out
      clear hB h6 h4 h5 h9 J2
      obtain ⟨g, o⟩ := R
      dsimp only at hbd hR2
      have una : IntKind.i64.wrap (-a.1) = -a.1 := i64_in (by omega) (by omega)
      have hbm := mul_bd2 (q := g) (n := -a.1) (A := 40000) (B := 10000) hbd.1.1 (by omega)
      have HT : ∀ W, Gives 67 #[rv g, .int .i64 (-a.1)] (rv (g * ((-a.1 : Int) : Rat))) W := fun W => times_calls (by omega) (by omega) (by omega) W
      have HP : ∀ W, Gives 66 #[rv at1, rv (g * ((-a.1 : Int) : Rat))] (rv o) W := fun W => by
        rw [hR2]
        exact plus_calls (by omega) (by omega) (by omega) (by omega) W
      generalize g * ((-a.1 : Int) : Rat) = gm at HT HP
      unfold rv at HT HP
      have HT := Lib.hid HT
      have HP := Lib.hid HP
      clear hbm hR2 hbd HR hR0' HF
      have L0 : LI w B6 B9 a g at1 wc := ⟨J.now.1.1.1.1, J.now.1.1.1.2, J.now.1.1.2, ⟨_, _, J.now.1.2⟩, J.now.2, z1, hz9⟩
      clear J
      have HL0 := Lib.hid L0
      clear L0
      go_wp2_with fail
      go_region_held3 (fun W => Below w.heap.size w W ∧ W.cell? ⟨B6, 0, none⟩ = some (.int .i64 a.1) ∧ (W.cell? ⟨w.heap.size + 1, 0, none⟩ = some (.int .i64 g.num) ∧ W.cell? ⟨w.heap.size + 1, 1, none⟩ = some (.int .i64 (g.den : Int)) ∧ W.frozen? ⟨w.heap.size + 1, 0, none⟩ = false ∧ W.frozen? ⟨w.heap.size + 1, 1, none⟩ = false) ∧
    (W.cell? ⟨w.heap.size + 1 + 1, 0, none⟩ = some (valAt W ⟨w.heap.size + 1 + 1, 0, none⟩) ∧ W.cell? ⟨w.heap.size + 1 + 1, 1, none⟩ = some (valAt W ⟨w.heap.size + 1 + 1, 1, none⟩) ∧ W.frozen? ⟨w.heap.size + 1 + 1, 0, none⟩ = false ∧ W.frozen? ⟨w.heap.size + 1 + 1, 1, none⟩ = false) ∧
    (W.cell? ⟨B9, 0, none⟩ = some (.int .i64 at1.num) ∧ W.cell? ⟨B9, 1, none⟩ = some (.int .i64 (at1.den : Int))))
        (first
          | exact (HL0.out.later (Below.refl _ _).drew).cells
          | exact HL5.out.cells
          | exact HL6.out.cells
          | exact HL6.out.put4.cells
          | exact (HL6.out.put4.put5 _ _).cells
          | fail)
        (first
          | (go_at_call 67; (with_reducible refine (Gives.c (HT.out _)).mono ?_); rintro e w5 ⟨rfl, hb⟩; have HL5 := Lib.hid ((HL0.out.later (Below.refl _ _).drew).later hb))
          | (go_at_call 66; (with_reducible refine (Gives.c (HP.out _)).mono ?_); rintro e w6 ⟨rfl, hb⟩; have HL6 := Lib.hid (HL5.out.later hb))
          | fail)
      have k := HL6.out.put4.put5 (.int .i64 o.num) (.int .i64 (o.den : Int))
      have k4 := k.h4.two
      obtain ⟨x5, y5, h5⟩ := HL6.out.put4.h5
      have k5 := (h5.put2 (.int .i64 o.num) (.int .i64 (o.den : Int))).two
      have kb := k.low
      generalize World.setCell _ _ _ = wf at k4 k5 kb ⊢
      clear k h5
      go_wp2
      refine bodyPost_ret (v := .tuple #[rv g, rv o]) (by simp [results, Try.results60, go_sem, k4, k5]) rfl ⟨rfl, kb⟩
end Go.Proofs.Ytjncoableanmpaa
