/- The iterator over claims. -/
import Derived.Test.YtjncoableanmpaaLF
namespace Go.Proofs.Ytjncoableanmpaa
open Go.RowKit Go.Lib Go.Shelf
attribute [local go_sem] Oper.semAt_some
theorem eg68 : ∀ args w, (callFunc 68 args).run Try.prog w = .ok (.enter 68 args) w := enters_of Try.func68 (by kernel_rfl) rfl
theorem ReadsC.below {w w1 : World} {b off n n₀ : Nat} {l : List Cd} (h : ReadsC w (some ⟨b, off, none⟩) n l) (hb : Below n₀ w w1) (hn : b < n₀) : ReadsC w1 (some ⟨b, off, none⟩) n l := by
  refine ⟨h.1, h.2.1, fun h0 => ?_⟩
  obtain ⟨b', off', e, hc⟩ := h.2.2 h0
  cases e
  exact ⟨b, off, rfl, fun j hj => ⟨(hb.cell (p := ⟨b, off + j * 3, none⟩) hn).trans (hc j hj).1, (hb.cell (p := ⟨b, off + j * 3 + 1, none⟩) hn).trans (hc j hj).2.1, (hb.cell (p := ⟨b, off + j * 3 + 2, none⟩) hn).trans (hc j hj).2.2⟩⟩
theorem grow_below {w w1 : World} (hb : Below w.heap.size w w1) : w.grownBy w1 none := ⟨hb.os, hb.tape, hb.output, hb.size, fun i hi _ => hb.block i hi⟩
theorem keeps_below {B : Nat} {W w1 : World} (hb : Below W.heap.size W w1) : KeepsFrom B W w1 := ⟨hb.size, fun k _ _ hk _ => (hb.block k (Array.getElem?_eq_some_iff.1 hk).1).trans hk⟩
def encC (l : List Cd) (n : Nat) (x : Tx n) : Array Value := #[clv (clm l x.1)]

set_option maxRecDepth 100000 in
set_option maxHeartbeats 2000000 in
theorem best1_seq {b off c n : Nat} {l : List Cd} (Bl n₀ B : Nat) (w : World) (hBl : Hp w Bl [.slice (some ⟨b, off, none⟩) n c] 22) (hBl0 : Bl < n₀) (hb0 : b < n₀) (hn0 : n₀ ≤ w.heap.size) (hB1 : 0 < B)
    (hl : ReadsC w (some ⟨b, off, none⟩) n l) (hg : Good l) :
    SeqO 7 62 #[.pointer (some ⟨Bl, 0, none⟩)] (encC l n) n₀ B 0 (fun ys : List (Tx n) => ys.map (·.1) = trios n) 100000 w := by
  intro r J W hW hB hJ hY h0
  have hn : n ≤ 24 := by have := hl.1; have := hg.few; omega
  have hBl := hBl.later hW
  have hl := hl.later hW
  have hsW := hW.size
  have HJ := Lib.hid hJ
  have HY := Lib.hid hY
  have HL := Lib.hid hl
  have HB := Lib.hid hBl
  have q0 : W.cell? ⟨Bl, 0, none⟩ = some (.slice (some ⟨b, off, none⟩) n c) := hBl.cell rfl
  have z0 := hBl.lt
  clear hJ hY hl hW hBl
  refine callsIn_of_wp_marks Try.func62 rfl trivial ?_ rfl
  simp only [Try.ntmps62, List.size_toArray, List.length_cons, List.length_nil, Nat.reduceAdd, Nat.reduceSub, Array.replicate_succ, Array.replicate_zero, List.push_toArray, List.append_toArray, List.nil_append, List.cons_append]
  gi_wp2_with (refine ⟨trivial, ?_⟩; gi_at_call 63; refine (callsIn_wide.2 (all_calls _ _)).mono ?_; rintro e w' ⟨rfl, rfl⟩)
  have k1 : Hp ((W.alloc (.cells #[.func (.yield r) #[] #[]] 112)).alloc (.cells #[.int .i64 (n : Int)] 3)) W.heap.size [.func (.yield r) #[] #[]] 112 := (Hp.new W [.func (.yield r) #[] #[]] 112).alloc _
  have k2 : Hp ((W.alloc (.cells #[.func (.yield r) #[] #[]] 112)).alloc (.cells #[.int .i64 (n : Int)] 3)) (W.heap.size + 1) [.int .i64 (n : Int)] 3 := by simpa using Hp.new (W.alloc _) [.int .i64 (n : Int)] 3
  have hJ0 : J [] ((W.alloc (.cells #[.func (.yield r) #[] #[]] 112)).alloc (.cells #[.int .i64 (n : Int)] 3)) := HJ.out _ _ _ none (HJ.out _ _ _ none h0 (World.grownBy_alloc _ _ none) (by simp)) (World.grownBy_alloc _ _ none) (by simp)
  have hB0 : Below W.heap.size W ((W.alloc (.cells #[.func (.yield r) #[] #[]] 112)).alloc (.cells #[.int .i64 (n : Int)] 3)) := by go_grown
  have hsz : ((W.alloc (.cells #[.func (.yield r) #[] #[]] 112)).alloc (.cells #[.int .i64 (n : Int)] 3)).heap.size = W.heap.size + 2 := by simp
  generalize ((W.alloc (.cells #[.func (.yield r) #[] #[]] 112)).alloc (.cells #[.int .i64 (n : Int)] 3)) = W0 at k1 k2 hJ0 hB0 hsz ⊢
  clear q0
  refine range_own (α := Tx n) (a := { tmps := #[Value.func (Fn.yield r) #[] #[], Value.pointer (some ⟨Bl, 0, none⟩), Value.pointer (some ⟨W.heap.size, 0, none⟩), undef, Value.slice (some ⟨b, off, none⟩) n c, Value.int .i64 (n : Int), Value.func (Fn.func 68) #[] #[Value.pointer (some ⟨W.heap.size + 1, 0, none⟩)], undef, undef, undef, undef, undef, undef, undef], defers := [] }) (n₀ := n₀) (B := B) (rx := W0.heap.size + 1) (N := 100000) rfl eg68 (by omega) (.inr rfl) (by omega) (all_seq 6 (by decide) (W.heap.size + 1) n₀ B (W0.heap.size + 1) n hn W0 k2 (by omega) (by omega)) (Below.refl _ _) (fun _ => rfl)
    (fun pre W' => (J pre W' ∧ Hp W' W.heap.size [.func (.yield r) #[] #[]] 112) ∧ (Below n₀ W W' ∧ W.heap.size + 1 < W'.heap.size))
    (OwnFrom.and (OwnFrom.and (OwnFrom.more HJ.out (by omega)) (Own.from (hp_own W.heap.size 112 (fun _ => [.func (.yield r) #[] #[]])) _)) (OwnFrom.and (ownFrom_below (by omega) (by omega)) (fun _ _ _ _ hs hg _ => Nat.lt_of_lt_of_le hs hg.size)))
    ⟨⟨hJ0, k1⟩, hB0.mono (by omega), by omega⟩
    (fun x a' W' => ∃ Bx, W.heap.size + 1 < Bx ∧ Hp W' Bx [.int .i64 (x.1.1 : Int), .int .i64 (x.1.2.1 : Int), .int .i64 (x.1.2.2 : Int)] 87 ∧ a' = { tmps := #[Value.func (Fn.yield r) #[] #[], Value.pointer (some ⟨Bl, 0, none⟩), Value.pointer (some ⟨W.heap.size, 0, none⟩), Value.pointer (some ⟨Bx, 0, none⟩), Value.slice (some ⟨b, off, none⟩) n c, Value.int .i64 (n : Int), Value.func (Fn.func 68) #[] #[Value.pointer (some ⟨W.heap.size + 1, 0, none⟩)], tv x.1, undef, undef, undef, undef, undef, undef], defers := [] })
    (fun x a' _ X Y row hs hg hr => by obtain ⟨Bx, h1, h2, h3⟩ := hs; exact ⟨Bx, h1, hp_own Bx 87 (fun (_ : Unit) => [.int .i64 (x.1.1 : Int), .int .i64 (x.1.2.1 : Int), .int .i64 (x.1.2.2 : Int)]) () X Y row h2 hg (fun r e => (hr r e).2), h3⟩)
    ?assign ?body ?done
  case assign =>
    rintro l' pre x W' K ⟨⟨h1, h2⟩, hB, hs⟩ hK
    unfold encT
    gi_wp2
    exact hK _ _ ((KeepsOthers.alloc _ _).from _) ((KpG.refl _ _ _ _).alloc (by omega) _) ⟨⟨HJ.out _ _ _ none h1 (World.grownBy_alloc _ _ none) (by simp), h2.alloc _⟩, hB.alloc (by omega) _, by simp; omega⟩ ⟨W'.heap.size, hs, Hp.new W' _ 87, rfl⟩
  case body =>
    rintro l' pre x a' W' ⟨⟨h1, h2⟩, hB', hs⟩ ⟨Bx, hBx, bX, rfl⟩ hlen
    have q1 : W'.cell? ⟨W.heap.size, 0, none⟩ = some (.func (.yield r) #[] #[]) := h2.cell rfl
    have q2 := bX.blk.three
    have q3 : W'.cell? ⟨Bl, 0, none⟩ = some (.slice (some ⟨b, off, none⟩) n c) := (HB.out.below hB' hBl0).cell rfl
    have H1 := Lib.hid h1
    have H2 := Lib.hid h2
    have HBX := Lib.hid hB'
    have HLEN := Lib.hid hlen
    have HC : ∀ X, Below W'.heap.size W' X → Gives 52 #[.agg #[.int .i64 (x.1.1 : Int), .int .i64 (x.1.2.1 : Int), .int .i64 (x.1.2.2 : Int)], .slice (some ⟨b, off, none⟩) n c] (clv (clm l x.1)) X := fun X hX => claim_calls (c := c) x.2 X (HL.out.below (hB'.trans (hX.mono (by omega))) hb0) hg
    have HC := Lib.hid HC
    clear h1 h2 bX hB' hlen h0 hJ0 k1 k2
    gi_wp2_with fail
    gi_region_with (first
      | (refine ⟨trivial, ?_⟩; gi_at_call 52; (with_reducible refine (CallsIn.inRound l' (callsIn_wide.2 (Gives.c (HC.out _ (by go_grown))))).mono ?_); rintro e w1 ⟨rfl, hb⟩; have b1 : Below W'.heap.size W' w1 := (by first | exact hb | exact (Below.refl _ _).drew.trans hb); have j1 := HJ.out _ _ _ none H1.out (grow_below b1) (by simp); have q1' := (H2.out.later b1).cell (j := 0) rfl; obtain ⟨fn, tmps, assign, body, hy, hR⟩ := yield_deep 4 (HY.out pre x w1 j1 HLEN.out); have HR := Lib.hid hR; clear hR; unfold encC at hy)
      | (refine HR.out.mono ?_; rintro e W3 ⟨rfl, hJ3, hk3⟩)
      | fail)
    all_goals
      gi_wp2
      have kk : KpG n₀ B 0 W' W3 := (KpG.of_below (by omega) b1).trans hk3
      have b3 := HBX.out.trans kk.low
      refine ⟨kk.keeps hB1 (by omega), kk.but hB1, ⟨hJ3, H2.out.kp kk (by omega) (by omega)⟩, b3, Nat.lt_of_lt_of_le hs kk.low.size⟩
  case done =>
    rintro D ys W' hD hS ⟨⟨hJ', _⟩, _⟩ hK
    have hD' : W.heap.size ≤ D := by omega
    clear k1 k2 hJ0 hB0
    gi_wp2
    refine ⟨by simp, .inl ⟨_, _, rfl, run_takeDeferred hK, ?_⟩⟩
    exact ⟨_, results_none rfl _ _ _, ⟨_, rfl⟩, ys, hS, OwnFrom.putObj HJ.out _ hJ' hD' hK rfl⟩
end Go.Proofs.Ytjncoableanmpaa
