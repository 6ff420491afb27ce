/- The greatest claim: best. -/
import Derived.Test.YtjncoableanmpaaLG
namespace Go.Proofs.Ytjncoableanmpaa
open Go.RowKit Go.Lib Go.Shelf
attribute [local go_sem] Oper.semAt_some
theorem eg62 : ∀ args w, (callFunc 62 args).run Try.prog w = .ok (.enter 62 args) w := enters_of Try.func62 (by kernel_rfl) rfl

theorem one1_bd {a : Cd} (h : Tame a) : 0 ≤ (one1 a).num ∧ (one1 a).num ≤ 400000000 ∧ ((one1 a).den : Int) ≤ 40000 := by
  unfold one1
  obtain ⟨h1, h2, _⟩ := fr_bd (n := a.2.2 - a.2.1) (d := 2) (by omega)
  have e := fr_num (n := a.2.2 - a.2.1) (d := 2) (by omega)
  have := h.l0
  have := h.l1
  have := h.h1
  have h0 : 0 ≤ (fr (a.2.2 - a.2.1) 2).num := by rw [e]; exact Int.ediv_nonneg (by omega) (by omega)
  omega
theorem three1_bd {a b c : Cd} (ha : Tame a) (hb : Tame b) (hc : Tame c) (h1 : a.1 < b.1) (h2 : b.1 < c.1) : 0 ≤ (three1 a b c).num ∧ (three1 a b c).num ≤ 400000000 ∧ ((three1 a b c).den : Int) ≤ 40000 := by
  have m3 : b.1 - a.1 + (c.1 - b.1) ≤ 20000 := by have := ha.s0; have := hc.s1; omega
  have b1 := mul_bd (a := b.2.2) (b := b.1 - a.1 + (c.1 - b.1)) (A := 10000) (B := 20000) (by have := hb.l0; have := hb.l1; omega) hb.h1 (by omega) m3
  have b2 := mul_bd (a := a.2.1) (b := c.1 - b.1) (A := 10000) (B := 20000) ha.l0 (by have := ha.l1; have := ha.h1; omega) (by omega) (by omega)
  have b3 := mul_bd (a := c.2.1) (b := b.1 - a.1) (A := 10000) (B := 20000) hc.l0 (by have := hc.l1; have := hc.h1; omega) (by omega) (by omega)
  have b4 := mul_bd (a := a.2.2) (b := c.1 - b.1) (A := 10000) (B := 20000) (by have := ha.l0; have := ha.l1; omega) ha.h1 (by omega) (by omega)
  have b5 := mul_bd (a := c.2.2) (b := b.1 - a.1) (A := 10000) (B := 20000) (by have := hc.l0; have := hc.l1; omega) hc.h1 (by omega) (by omega)
  have b6 := mul_bd (a := b.2.1) (b := b.1 - a.1 + (c.1 - b.1)) (A := 10000) (B := 20000) hb.l0 (by have := hb.l1; have := hb.h1; omega) (by omega) m3
  have hu : upF a b c = b.2.2 * ((b.1 - a.1) + (c.1 - b.1)) - a.2.1 * (c.1 - b.1) - c.2.1 * (b.1 - a.1) := rfl
  have hv : downF a b c = a.2.2 * (c.1 - b.1) + c.2.2 * (b.1 - a.1) - b.2.1 * ((b.1 - a.1) + (c.1 - b.1)) := rfl
  unfold three1
  generalize hM : max 0 (max (upF a b c) (downF a b c)) = M
  have hM0 : 0 ≤ M ∧ M ≤ 400000000 := by omega
  have hd : 0 < 2 * (b.1 - a.1 + (c.1 - b.1)) := by omega
  obtain ⟨g1, g2, _⟩ := fr_bd (n := M) hd
  have e := fr_num (n := M) hd
  have h0 : 0 ≤ (fr M (2 * (b.1 - a.1 + (c.1 - b.1)))).num := by rw [e]; exact Int.ediv_nonneg (by omega) (by omega)
  omega
theorem clm_bd {l : List Cd} (hg : Good l) {t : Trio} (ht : TrioOk l.length t) : 0 ≤ (clm l t).off.num ∧ (clm l t).off.num ≤ 400000000 ∧ ((clm l t).off.den : Int) ≤ 40000 := by
  unfold clm
  obtain ⟨h0, ⟨h1, h2⟩ | ⟨h1, h2⟩⟩ := ht
  · rw [if_pos (by omega)]
    exact one1_bd (hg.tame _ (by omega))
  · rw [if_neg (by omega)]
    exact three1_bd (hg.tame _ (by omega)) (hg.tame _ (by omega)) (hg.tame _ (by omega)) (hg.inc _ _ h1 (by omega)) (hg.inc _ _ h2 (by omega))

/-- Is one fraction less than another one? As whole numbers. -/
theorem rat_lt (p q : Rat) : decide (p.num * (q.den : Int) < q.num * (p.den : Int)) = decide (p < q) := by
  rw [decide_eq_decide]
  exact (Rat.lt_iff p q).symm
theorem less_calls {p q : Rat} (h1 : p.num.natAbs ≤ 20000000000000) (h2 : (p.den : Int) ≤ 400000) (h3 : q.num.natAbs ≤ 20000000000000) (h4 : (q.den : Int) ≤ 400000) (w : World) : Gives 53 #[rv p, rv q] (.bool (decide (p < q))) w := by
  have hp := p.den_pos
  have hq := q.den_pos
  have m1 := mul_ab (a := p.num) (b := (q.den : Int)) h1 (B := 400000) (by omega)
  have m2 := mul_ab (a := q.num) (b := (p.den : Int)) h3 (B := 400000) (by omega)
  have := less_raw (a := p.num) (b := (p.den : Int)) (c := q.num) (d := (q.den : Int)) (by rw [i64_w]; exact w64_in (by omega) (by omega)) (by rw [i64_w]; exact w64_in (by omega) (by omega)) w
  rwa [rat_lt] at this
theorem more_calls {p q : Rat} (h1 : p.num.natAbs ≤ 20000000000000) (h2 : (p.den : Int) ≤ 400000) (h3 : q.num.natAbs ≤ 20000000000000) (h4 : (q.den : Int) ≤ 400000) (w : World) : Gives 46 #[rv q, rv p] (.bool (decide (p < q))) w := by
  have hp := p.den_pos
  have hq := q.den_pos
  have m1 := mul_ab (a := p.num) (b := (q.den : Int)) h1 (B := 400000) (by omega)
  have m2 := mul_ab (a := q.num) (b := (p.den : Int)) h3 (B := 400000) (by omega)
  have := more_raw (a := p.num) (b := (p.den : Int)) (c := q.num) (d := (q.den : Int)) (by rw [i64_w]; exact w64_in (by omega) (by omega)) (by rw [i64_w]; exact w64_in (by omega) (by omega)) w
  rwa [rat_lt] at this

set_option maxRecDepth 100000 in
theorem best2_calls {x y : Cl} (hx : 0 ≤ x.off.num ∧ x.off.num ≤ 400000000 ∧ (x.off.den : Int) ≤ 40000) (hy : 0 ≤ y.off.num ∧ y.off.num ≤ 400000000 ∧ (y.off.den : Int) ≤ 40000) (w : World) : Gives 65 #[clv x, clv y] (.bool (decide (y.off < x.off))) w := by
  unfold Gives clv
  have HC : ∀ W, Gives 46 #[.agg #[.int .i64 x.off.num, .int .i64 (x.off.den : Int)], .agg #[.int .i64 y.off.num, .int .i64 (y.off.den : Int)]] (.bool (decide (y.off < x.off))) W := more_calls (by omega) (by omega) (by omega) (by omega)
  generalize decide (y.off < x.off) = r at HC
  have HC := Lib.hid HC
  clear hx hy
  go_enter Try.func65, Try.ntmps65
  go_wp2_with (go_at_call 46; (with_reducible refine (Gives.c (HC.out _)).mono ?_); rintro e w1 ⟨rfl, hb⟩)
  go_ret
  exact ⟨rfl, (((Below.refl _ _).alloc (Nat.le_refl _) _).alloc (by simp) _).trans (hb.mono (by simp; omega))⟩

/-- The cells of the claim so far. -/
def clCells : Option Cl → List Value
  | none => [.int .i64 0, .int .i64 0, .bool false, .int .i64 0, .int .i64 0, .int .i64 0]
  | some x => [.int .i64 x.off.num, .int .i64 (x.off.den : Int), .bool x.up, .int .i64 (x.who.1 : Int), .int .i64 (x.who.2.1 : Int), .int .i64 (x.who.2.2 : Int)]

/-- What a round finds: the claim so far, and whether there is one. -/
def GInv (w0 : Nat) (st : Option Cl) (W : World) : Prop :=
  Hp W w0 [.func (.func 65) #[] #[]] 119 ∧ Hp W (w0 + 1) (clCells st) 89 ∧ Hp W (w0 + 1 + 1) [.bool st.isSome] 4
theorem ginv_own {β : Type} (w0 : Nat) (f : β → Option Cl) : Own (fun s W => GInv w0 (f s) W) := fun _ X Y row hs hg hr =>
  ⟨hp_own w0 119 (fun (_ : Unit) => _) () X Y row hs.1 hg hr, hp_own (w0 + 1) 89 (fun (_ : Unit) => _) () X Y row hs.2.1 hg hr, hp_own (w0 + 1 + 1) 4 (fun (_ : Unit) => _) () X Y row hs.2.2 hg hr⟩

/-- A claim is stored as the one so far. -/
def putCl (w0 : Nat) (x : Cl) (W : World) : World :=
  ((((((W.setCell ⟨w0 + 1, 0, none⟩ (.int .i64 x.off.num)).setCell ⟨w0 + 1, 1, none⟩ (.int .i64 (x.off.den : Int))).setCell ⟨w0 + 1, 2, none⟩ (.bool x.up)).setCell ⟨w0 + 1, 3, none⟩ (.int .i64 (x.who.1 : Int))).setCell ⟨w0 + 1, 4, none⟩ (.int .i64 (x.who.2.1 : Int))).setCell ⟨w0 + 1, 5, none⟩ (.int .i64 (x.who.2.2 : Int))).setCell ⟨w0 + 1 + 1, 0, none⟩ (.bool true)
theorem gstep {w0 : Nat} {st : Option Cl} {W : World} (h : GInv w0 st W) (x : Cl) : GInv w0 (some x) (putCl w0 x W) := by
  obtain ⟨h1, h2, h3⟩ := h
  refine ⟨?_, ?_, ?_⟩
  · exact ((((((h1.other (by omega) _ _).other (by omega) _ _).other (by omega) _ _).other (by omega) _ _).other (by omega) _ _).other (by omega) _ _).other (by omega) _ _
  · cases st with
    | none => exact ((((((h2.set 0 _).set 1 _).set 2 _).set 3 _).set 4 _).set 5 _).other (by omega) _ _
    | some y => exact ((((((h2.set 0 _).set 1 _).set 2 _).set 3 _).set 4 _).set 5 _).other (by omega) _ _
  · exact ((((((h3.other (by omega) _ _).other (by omega) _ _).other (by omega) _ _).other (by omega) _ _).other (by omega) _ _).other (by omega) _ _).set 0 _
theorem KpG.setCell {n₀ B x k j : Nat} {W W' : World} (h : KpG n₀ B x W W') (hn : n₀ ≤ k) (hB : k < B) (v : Value) : KpG n₀ B x W (W'.setCell ⟨k, j, none⟩ v) :=
  ⟨h.low.setCell (p := ⟨k, j, none⟩) hn v, fun i o hi hx ho => (Below.heap_setCell W' ⟨k, j, none⟩ v i (show i ≠ k by omega)).trans (h.high i o hi hx ho)⟩
theorem kp_put {w0 : Nat} {W W' : World} (h : KpG w0 (w0 + 5) 0 W W') (x : Cl) : KpG w0 (w0 + 5) 0 W (putCl w0 x W') :=
  ((((((h.setCell (by omega) (by omega) _).setCell (by omega) (by omega) _).setCell (by omega) (by omega) _).setCell (by omega) (by omega) _).setCell (by omega) (by omega) _).setCell (by omega) (by omega) _).setCell (by omega) (by omega) _
theorem keeps_put {w0 B : Nat} {W W' : World} (h : KeepsFrom B W W') (x : Cl) : KeepsFrom B W (putCl w0 x W') :=
  ((((((h.trans ((KeepsOthers.setCell _ _ _).from _)).trans ((KeepsOthers.setCell _ _ _).from _)).trans ((KeepsOthers.setCell _ _ _).from _)).trans ((KeepsOthers.setCell _ _ _).from _)).trans ((KeepsOthers.setCell _ _ _).from _)).trans ((KeepsOthers.setCell _ _ _).from _)).trans ((KeepsOthers.setCell _ _ _).from _)
/-- The claim so far. -/
def stOf (l : List Cd) {n : Nat} (pre : List (Tx n)) : Option Cl := bestOf (pre.map (fun x => clm l x.1))
theorem stOf_snoc (l : List Cd) {n : Nat} (pre : List (Tx n)) (x : Tx n) : stOf l (pre ++ [x]) = pick1 (stOf l pre) (clm l x.1) := by
  unfold stOf
  rw [List.map_append]
  exact bestOf_snoc _ _

set_option maxRecDepth 100000 in
set_option maxHeartbeats 4000000 in
theorem greatest_calls {b off c n : Nat} {l : List Cd} (Bl : Nat) (w : World) (hBl : Hp w Bl [.slice (some ⟨b, off, none⟩) n c] 22) (hl : ReadsC w (some ⟨b, off, none⟩) n l) (hg : Good l) :
    Gives 64 #[.func (.func 62) #[] #[.pointer (some ⟨Bl, 0, none⟩)], .func (.func 65) #[] #[]] (.tuple #[clv (bestC l), .bool true]) w := by
  unfold Gives
  have hn : l.length = n := hl.1
  have hbw : b < w.heap.size := World.block_lt_of_cell? w _ (hl.at (j := 0) (by have := hg.pos; omega)).1
  have HG := Lib.hid hg
  have HL := Lib.hid hl
  have HBl := Lib.hid hBl
  have zl := hBl.lt
  clear hl hBl hg
  refine (callsIn_wide (n := 8)).1 ?_
  refine callsIn_of_wp_marks Try.func64 rfl trivial ?_ rfl
  simp only [Try.ntmps64, List.size_toArray, List.length_cons, List.length_nil, Nat.reduceAdd, Nat.reduceSub, Array.replicate_succ, Array.replicate_zero, List.push_toArray, List.append_toArray, List.nil_append, List.cons_append]
  gi_wp2_with fail
  have k0 : GInv w.heap.size none (((w.alloc (.cells #[.func (.func 65) #[] #[]] 119)).alloc (.cells #[.int .i64 0, .int .i64 0, .bool false, .int .i64 0, .int .i64 0, .int .i64 0] 89)).alloc (.cells #[.bool false] 4)) :=
    ⟨((Hp.new w [.func (.func 65) #[] #[]] 119).alloc _).alloc _, Hp.alloc (by simpa [clCells] using Hp.new (w.alloc _) (clCells none) 89) _, by simpa using Hp.new ((w.alloc _).alloc _) [.bool false] 4⟩
  have hB0 : Below w.heap.size w (((w.alloc (.cells #[.func (.func 65) #[] #[]] 119)).alloc (.cells #[.int .i64 0, .int .i64 0, .bool false, .int .i64 0, .int .i64 0, .int .i64 0] 89)).alloc (.cells #[.bool false] 4)) := by go_grown
  have hsz : (((w.alloc (.cells #[.func (.func 65) #[] #[]] 119)).alloc (.cells #[.int .i64 0, .int .i64 0, .bool false, .int .i64 0, .int .i64 0, .int .i64 0] 89)).alloc (.cells #[.bool false] 4)).heap.size = w.heap.size + 3 := by simp
  generalize (((w.alloc (.cells #[.func (.func 65) #[] #[]] 119)).alloc (.cells #[.int .i64 0, .int .i64 0, .bool false, .int .i64 0, .int .i64 0, .int .i64 0] 89)).alloc (.cells #[.bool false] 4)) = W0 at k0 hB0 hsz ⊢
  refine range_own (α := Tx n) (a := { tmps := #[Value.func (Fn.func 62) #[] #[Value.pointer (some ⟨Bl, 0, none⟩)], Value.func (Fn.func 65) #[] #[], undef, Value.pointer (some ⟨w.heap.size, 0, none⟩), Value.pointer (some ⟨w.heap.size + 1, 0, none⟩), Value.pointer (some ⟨w.heap.size + 1 + 1, 0, none⟩), undef, Value.func (Fn.func 62) #[] #[Value.pointer (some ⟨Bl, 0, none⟩)], undef, undef, undef, undef, undef, undef, undef, undef, undef, undef, undef, undef], defers := [] }) (n₀ := w.heap.size) (B := w.heap.size + 5) (rx := 0) (N := 100000) rfl eg62 (by omega) (.inl (by omega)) (by omega) (best1_seq Bl w.heap.size (w.heap.size + 5) W0 (HBl.out.later hB0) zl hbw (by omega) (by omega) (HL.out.later hB0) HG.out) (Below.refl _ _) (fun _ => rfl)
    (fun pre W' => GInv w.heap.size (stOf l pre) W' ∧ (Below w.heap.size w W' ∧ w.heap.size + 2 < W'.heap.size))
    (OwnFrom.and (Own.from (ginv_own _ _) _) (OwnFrom.and (ownFrom_below (Nat.le_refl _) (by omega)) (fun _ _ _ _ hs hg _ => Nat.lt_of_lt_of_le hs hg.size)))
    ⟨k0, hB0, by omega⟩
    (fun x a' W' => ∃ Bx, w.heap.size + 2 < Bx ∧ Hp W' Bx (clCells (some (clm l x.1))) 89 ∧ a' = { tmps := #[Value.func (Fn.func 62) #[] #[Value.pointer (some ⟨Bl, 0, none⟩)], Value.func (Fn.func 65) #[] #[], undef, Value.pointer (some ⟨w.heap.size, 0, none⟩), Value.pointer (some ⟨w.heap.size + 1, 0, none⟩), Value.pointer (some ⟨w.heap.size + 1 + 1, 0, none⟩), Value.pointer (some ⟨Bx, 0, none⟩), Value.func (Fn.func 62) #[] #[Value.pointer (some ⟨Bl, 0, none⟩)], clv (clm l x.1), undef, undef, undef, undef, undef, undef, undef, undef, undef, undef, undef], defers := [] })
    (fun x a' _ X Y row hs hg hr => by obtain ⟨Bx, h1, h2, h3⟩ := hs; exact ⟨Bx, h1, hp_own Bx 89 (fun (_ : Unit) => clCells (some (clm l x.1))) () X Y row h2 hg (fun r e => (hr r e).2), h3⟩)
    ?assign ?body ?done
  case assign =>
    rintro l' pre x W' K ⟨h1, hB, hs⟩ hK
    unfold encC
    have e : clv (clm l x.1) = .agg #[.int .i64 (clm l x.1).off.num, .int .i64 ((clm l x.1).off.den : Int), .bool (clm l x.1).up, .int .i64 ((clm l x.1).who.1 : Int), .int .i64 ((clm l x.1).who.2.1 : Int), .int .i64 ((clm l x.1).who.2.2 : Int)] := rfl
    rw [e]
    gi_wp2
    exact hK _ _ ((KeepsOthers.alloc _ _).from _) ((KpG.refl _ _ _ _).alloc (by omega) _) ⟨⟨h1.1.alloc _, h1.2.1.alloc _, h1.2.2.alloc _⟩, hB.alloc (by omega) _, by simp; omega⟩ ⟨W'.heap.size, hs, Hp.new W' _ 89, rfl⟩
  case body =>
    rintro l' pre x a' W' ⟨h1, hB', hs⟩ ⟨Bx, hBx, bX, rfl⟩ hlen
    have hsn := stOf_snoc l pre x
    have hst : ∀ y, stOf l pre = some y → ∃ u, TrioOk l.length u ∧ y = clm l u := fun y hy => by
      rcases bestOf_spec (pre.map (fun x => clm l x.1)) with ⟨_, h⟩ | ⟨z, h, hm, _⟩
      · unfold stOf at hy; rw [h] at hy; cases hy
      · unfold stOf at hy; rw [h] at hy; cases hy
        obtain ⟨u, _, rfl⟩ := List.mem_map.1 hm
        exact ⟨u.1, by rw [hn]; exact u.2, rfl⟩
    generalize stOf l pre = st at h1 hsn hst
    have HSN := Lib.hid hsn
    have hbx := clm_bd HG.out (t := x.1) (by rw [hn]; exact x.2)
    have q1 : W'.cell? ⟨w.heap.size, 0, none⟩ = some (.func (.func 65) #[] #[]) := h1.1.cell rfl
    have q3 : W'.cell? ⟨w.heap.size + 1 + 1, 0, none⟩ = some (.bool st.isSome) := h1.2.2.cell rfl
    have f3 := h1.2.2.free 0
    have z3 := h1.2.2.lt
    have qx : W'.cell? ⟨Bx, 0, none⟩ = _ ∧ _ := bX.blk.six
    have f2 := h1.2.1.blk.free6
    have z2 := h1.2.1.lt
    have H1 := Lib.hid h1
    have HB' := Lib.hid hB'
    generalize hcx : clm l x.1 = cx at qx bX hbx HSN
    clear hsn h1 hB'
    cases st with
    | none =>
      have q2 : W'.cell? ⟨w.heap.size + 1, 0, none⟩ = _ ∧ _ := H1.out.2.1.blk.six
      dsimp only [Option.isSome] at q3
      gi_wp2_with fail
      refine ⟨(fun _ h => by cases h), ?_⟩
      gi_wp2_with fail
      rw [HSN.out]
      have kk : KpG w.heap.size (w.heap.size + 5) 0 W' (putCl w.heap.size cx W') := kp_put (KpG.refl _ _ _ _) cx
      exact ⟨keeps_put (KeepsFrom.refl _ _) cx, kk, gstep H1.out cx, HB'.out.trans kk.low⟩
    | some y =>
      obtain ⟨u, hu, rfl⟩ := hst y rfl
      have hby := clm_bd HG.out hu
      have HC : ∀ X, Gives 65 #[clv cx, clv (clm l u)] (.bool (decide ((clm l u).off < cx.off))) X := best2_calls hbx hby
      generalize clm l u = y at HC H1 HSN
      have q2 : W'.cell? ⟨w.heap.size + 1, 0, none⟩ = _ ∧ _ := H1.out.2.1.blk.six
      dsimp only [Option.isSome] at q3
      unfold clv at HC
      cases hd : decide (y.off < cx.off) with
      | true =>
        rw [hd] at HC
        have HC := Lib.hid HC
        gi_wp2_with (refine ⟨trivial, ?_⟩; gi_at_call 65; (with_reducible refine (CallsIn.inRound l' (callsIn_wide.2 (Gives.c (HC.out _)))).mono ?_); rintro e w1 ⟨rfl, hb⟩; replace qx := (bX.later hb).blk.six; have q2 := (H1.out.2.1.later hb).blk.six; have f2 := (H1.out.2.1.later hb).blk.free6; have z2 := (H1.out.2.1.later hb).lt; have q3 := (H1.out.2.2.later hb).blk.one; have f3 := (H1.out.2.2.later hb).free 0; have z3 := (H1.out.2.2.later hb).lt)
        rw [HSN.out]
        have kk : KpG w.heap.size (w.heap.size + 5) 0 W' (putCl w.heap.size cx w1) := kp_put (KpG.of_below HB'.out.size hb) cx
        have e : pick1 (some y) cx = some cx := if_pos (of_decide_eq_true hd)
        rw [e]
        exact ⟨keeps_put (keeps_below hb) cx, kk, gstep (st := some y) ⟨H1.out.1.later hb, H1.out.2.1.later hb, H1.out.2.2.later hb⟩ cx, HB'.out.trans kk.low⟩
      | false =>
        rw [hd] at HC
        have HC := Lib.hid HC
        gi_wp2_with (refine ⟨trivial, ?_⟩; gi_at_call 65; (with_reducible refine (CallsIn.inRound l' (callsIn_wide.2 (Gives.c (HC.out _)))).mono ?_); rintro e w1 ⟨rfl, hb⟩)
        rw [HSN.out]
        have e : pick1 (some y) cx = some y := if_neg (of_decide_eq_false hd)
        rw [e]
        exact ⟨keeps_below hb, KpG.of_below HB'.out.size hb, ⟨H1.out.1.later hb, H1.out.2.1.later hb, H1.out.2.2.later hb⟩, HB'.out.trans (hb.mono HB'.out.size), Nat.lt_of_lt_of_le hs hb.size⟩
  case done =>
    rintro D ys W' hD hS ⟨h1, hB', hs⟩ hK
    have hst : stOf l ys = some (bestC l) := by
      have e : ys.map (fun x => clm l x.1) = (trios l.length).map (clm l) := by rw [hn, ← hS, List.map_map]; rfl
      unfold stOf bestC
      rw [e]
      rcases bestOf_spec ((trios l.length).map (clm l)) with ⟨h, _⟩ | ⟨z, h, _⟩
      · have hm : (0, 0, 0) ∈ trios l.length := trios_mem.2 ⟨HG.out.pos, .inl ⟨rfl, rfl⟩⟩
        rw [List.map_eq_nil_iff] at h
        rw [h] at hm
        cases hm
      · rw [h]
        rfl
    rw [hst] at h1
    clear hst
    generalize hyy : bestC l = y at h1
    have HY := Lib.hid hyy
    clear hyy
    have q2 : W'.cell? ⟨w.heap.size + 1, 0, none⟩ = _ ∧ _ := h1.2.1.blk.six
    have f2 := h1.2.1.blk.free6
    have q3 : W'.cell? ⟨w.heap.size + 1 + 1, 0, none⟩ = some (.bool true) := h1.2.2.cell rfl
    have f3 := h1.2.2.free 0
    have z2 := h1.2.1.lt
    have z3 := h1.2.2.lt
    have HK := Lib.hid hK
    have HI := Lib.hid h1
    have HB := Lib.hid hB'
    clear hK h1 hB' k0 hB0
    gi_wp2
    gi_region
    all_goals
      gi_wp2
      have kk : KpG w.heap.size (w.heap.size + 5) 0 W' (putCl w.heap.size y W') := kp_put (KpG.refl _ _ _ _) y
      have kg := gstep HI.out y
      have kd := (keeps_put (w0 := w.heap.size) (KeepsFrom.refl W0.heap.size W') y).same D _ hD HK.out rfl
      change bodyPostM _ _ _ _ _ _ _ (putCl w.heap.size y W').drew
      generalize putCl w.heap.size y W' = wf at kk kg kd
      refine ⟨by simp, .inl ⟨_, _, rfl, run_takeDeferred (w := wf.drew) kd, ?_⟩⟩
      have G2 : Hp (wf.drew.putObj D (.deferred none)) (w.heap.size + 1) (clCells (some y)) 89 := (kg.2.1.drewN 1).kept (grownBy_putObj' _ D (.deferred none)) (by intro e; cases e; omega)
      have G3 : Hp (wf.drew.putObj D (.deferred none)) (w.heap.size + 1 + 1) [.bool true] 4 := (kg.2.2.drewN 1).kept (grownBy_putObj' _ D (.deferred none)) (by intro e; cases e; omega)
      have g2 : (wf.drew.putObj D (.deferred none)).cell? ⟨w.heap.size + 1, 0, none⟩ = _ ∧ _ := G2.blk.six
      have g3 := G3.blk.one
      refine ⟨.tuple #[clv y, .bool true], ?_, by rw [HY.out], ((HB.out.trans kk.low).drew).trans (belowK_b (w := w) (Nat.le_refl _) _ D _ _ (by omega) (show wf.drew.heap[D]? = _ from kd) rfl rfl)⟩
      simp [results, Try.f64, go_sem, clv, g2, g3]
end Go.Proofs.Ytjncoableanmpaa
