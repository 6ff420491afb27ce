/- The iterator over ways to divide. -/
import Derived.Test.YtjncoableanmpaaLR
import Derived.Test.YtjncoableanmpaaPH
namespace Go.Proofs.Ytjncoableanmpaa
open Go.RowKit Go.Lib Go.Shelf
attribute [local go_sem] Oper.semAt_some

/-- The table of single errors: row j from column j + 1 on. -/
structure Alo (l : List Cd) (n Ba : Nat) (Bs : Nat → Nat) (W : World) : Prop where
  row : ∀ j, j < n → W.cell? ⟨Ba, j, none⟩ = some (.slice (some ⟨Bs j, 0, none⟩) (n + 1) (n + 1))
  num : ∀ j e, j < e → e ≤ n → W.cell? ⟨Bs j, e * 2, none⟩ = some (.int .i64 (alo l j e).num) ∧ W.cell? ⟨Bs j, e * 2 + 1, none⟩ = some (.int .i64 ((alo l j e).den : Int))
/-- A slice value. -/
structure Sv where
  b : Nat
  o : Nat
  m : Nat
  c : Nat
abbrev Sv.v (s : Sv) : Value := .slice (some ⟨s.b, s.o, none⟩) s.m s.c
def Sv.Rd (s : Sv) (W : World) (xs : List Int) : Prop := Reads W (some ⟨s.b, s.o, none⟩) s.m xs ∧ 0 < s.m ∧ s.m ≤ 30 ∧ s.m ≤ s.c
/-- The shares up to the index n. -/
structure Shr (n Bh : Nat) (tb : Nat → Sh) (sv : Nat → Sv) (W : World) : Prop where
  num : ∀ e, 1 ≤ e → e ≤ n → W.cell? ⟨Bh, e * 3, none⟩ = some (.int .i64 (tb e).1.num) ∧ W.cell? ⟨Bh, e * 3 + 1, none⟩ = some (.int .i64 ((tb e).1.den : Int)) ∧ W.cell? ⟨Bh, e * 3 + 2, none⟩ = some (sv e).v
  rd : ∀ e, 1 ≤ e → e ≤ n → (sv e).Rd W (tb e).2
theorem Sv.Rd.later {s : Sv} {W W' : World} {xs : List Int} (h : s.Rd W xs) (hb : Below W.heap.size W W') : s.Rd W' xs := ⟨h.1.later hb, h.2⟩
theorem Sv.Rd.lt {s : Sv} {W : World} {xs : List Int} (h : s.Rd W xs) : s.b < W.heap.size := by
  obtain ⟨b, o, e, hc⟩ := h.1.2.2 h.2.1
  cases e
  exact World.block_lt_of_cell? W _ (hc 0 h.2.1)
theorem Alo.later {l : List Cd} {n Ba : Nat} {Bs : Nat → Nat} {W W' : World} (h : Alo l n Ba Bs W) (hb : Below W.heap.size W W') : Alo l n Ba Bs W' :=
  ⟨fun j hj => (hb.cell (p := ⟨Ba, j, none⟩) (World.block_lt_of_cell? W _ (h.row j hj))).trans (h.row j hj), fun j e h1 h2 => ⟨(hb.cell (p := ⟨Bs j, e * 2, none⟩) (World.block_lt_of_cell? W _ (h.num j e h1 h2).1)).trans (h.num j e h1 h2).1, (hb.cell (p := ⟨Bs j, e * 2 + 1, none⟩) (World.block_lt_of_cell? W _ (h.num j e h1 h2).2)).trans (h.num j e h1 h2).2⟩⟩
theorem Shr.later {n Bh : Nat} {tb : Nat → Sh} {sv : Nat → Sv} {W W' : World} (h : Shr n Bh tb sv W) (hb : Below W.heap.size W W') : Shr n Bh tb sv W' :=
  ⟨fun e h1 h2 => ⟨(hb.cell (p := ⟨Bh, e * 3, none⟩) (World.block_lt_of_cell? W _ (h.num e h1 h2).1)).trans (h.num e h1 h2).1, (hb.cell (p := ⟨Bh, e * 3 + 1, none⟩) (World.block_lt_of_cell? W _ (h.num e h1 h2).2.1)).trans (h.num e h1 h2).2.1, (hb.cell (p := ⟨Bh, e * 3 + 2, none⟩) (World.block_lt_of_cell? W _ (h.num e h1 h2).2.2)).trans (h.num e h1 h2).2.2⟩, fun e h1 h2 => (h.rd e h1 h2).later hb⟩
/-- What the closure over ways finds. -/
structure WEnv (l : List Cd) (n Ba Bh B13 B14 B8 B11 : Nat) (Bs : Nat → Nat) (tb : Nat → Sh) (sv : Nat → Sv) (p e : Nat) (W : World) : Prop where
  al : Alo l n Ba Bs W
  sh : Shr n Bh tb sv W
  c13 : W.cell? ⟨B13, 0, none⟩ = some (.int .i64 (p : Int))
  c14 : W.cell? ⟨B14, 0, none⟩ = some (.int .i64 (e : Int))
  c8 : W.cell? ⟨B8, 0, none⟩ = some (.slice (some ⟨Ba, 0, none⟩) n n)
  c11 : W.cell? ⟨B11, 0, none⟩ = some (.slice (some ⟨Bh, 0, none⟩) (n + 1) (n + 1))
theorem WEnv.later {l : List Cd} {n Ba Bh B13 B14 B8 B11 : Nat} {Bs : Nat → Nat} {tb : Nat → Sh} {sv : Nat → Sv} {p e : Nat} {W W' : World} (h : WEnv l n Ba Bh B13 B14 B8 B11 Bs tb sv p e W) (hb : Below W.heap.size W W') : WEnv l n Ba Bh B13 B14 B8 B11 Bs tb sv p e W' :=
  ⟨h.al.later hb, h.sh.later hb, (hb.cell (p := ⟨B13, 0, none⟩) (World.block_lt_of_cell? W _ h.c13)).trans h.c13, (hb.cell (p := ⟨B14, 0, none⟩) (World.block_lt_of_cell? W _ h.c14)).trans h.c14, (hb.cell (p := ⟨B8, 0, none⟩) (World.block_lt_of_cell? W _ h.c8)).trans h.c8, (hb.cell (p := ⟨B11, 0, none⟩) (World.block_lt_of_cell? W _ h.c11)).trans h.c11⟩

theorem own_less {w : World} {base base' n : Nat} {e : TypeId} {size : Nat} {v : Value} {xs : List Value} (h : w.ownsRow base e size v n xs) (hb : base' ≤ base) : w.ownsRow base' e size v n xs := by
  obtain ⟨h1, h2 | ⟨g, cap, cur, h3, h4, h5⟩⟩ := h
  · exact ⟨h1, .inl h2⟩
  · exact ⟨h1, .inr ⟨g, cap, cur, h3, Nat.le_trans hb h4, h5⟩⟩
theorem one_cell {X : World} {a : Addr} {v : Value} (h : X.cell? a = some v) : ∀ j u, [v][j]? = some u → X.cell? (a.add j) = some u := by
  intro j u hj
  cases j with
  | zero =>
    cases hj
    exact (by rw [show a.add 0 = a from rfl]; exact h)
  | succ j => simp at hj
theorem Blk.at_new {w : World} {B : Nat} (h : w.heap.size = B) (cs : List Value) (t : TypeId) : Blk (w.alloc (.cells cs.toArray t)) B cs := by
  subst h
  exact Blk.new w cs t
theorem own_alloc {w : World} {base n : Nat} {e : TypeId} {size : Nat} {v : Value} {xs : List Value} (h : w.ownsRow base e size v n xs) (o : Obj) : (w.alloc o).ownsRow base e size v n xs := own_later h ((Below.refl _ _).alloc (Nat.le_refl _) _)
theorem with_fact {p q : Prop} (h : p) (k : p → q) : q := k h
theorem Blk.at_new1 (w : World) (o : Obj) (cs : List Value) (t : TypeId) : Blk ((w.alloc o).alloc (.cells cs.toArray t)) (w.heap.size + 1) cs := Blk.at_new (by simp) cs t
theorem stepS3 {w X : World} (h : Below w.heap.size w X) {B : Nat} (hB : w.heap.size ≤ B) (x y z : Value) : Below w.heap.size w (((X.setCell ⟨B, 0, none⟩ x).setCell ⟨B, 1, none⟩ y).setCell ⟨B, 2, none⟩ z) :=
  ((h.setCell (p := ⟨B, 0, none⟩) hB _).setCell (p := ⟨B, 1, none⟩) hB _).setCell (p := ⟨B, 2, none⟩) hB _
theorem drew_size (w : World) : w.drew.heap.size = w.heap.size := rfl
theorem Hp.at_new1 (w : World) (o : Obj) (cs : List Value) (t : TypeId) : Hp ((w.alloc o).alloc (.cells cs.toArray t)) (w.heap.size + 1) cs t := by simpa using Hp.new (w.alloc o) cs t
theorem Hp.drew {w : World} {B : Nat} {cs : List Value} {t : TypeId} (h : Hp w B cs t) : Hp w.drew B cs t := h
theorem grow_setCell (W : World) (B i : Nat) (v : Value) : W.grownBy (W.setCell ⟨B, i, none⟩ v) (some B) :=
  ⟨rfl, rfl, rfl, by simp, fun k _ hk => Below.heap_setCell W ⟨B, i, none⟩ v k (fun e => hk (by rw [e]))⟩
theorem own_set {w : World} {base n g m c : Nat} {e : TypeId} {size : Nat} {xs : List Value} (h : w.ownsRow base e size (.slice (some ⟨g, 0, none⟩) m c) n xs) {B : Nat} (hne : g ≠ B) (i : Nat) (v : Value) : (w.setCell ⟨B, i, none⟩ v).ownsRow base e size (.slice (some ⟨g, 0, none⟩) m c) n xs :=
  h.kept (grow_setCell w B i v) (by simp [Value.ownBlock]; omega)
theorem own_ne {w : World} {base n g m c B : Nat} {e t : TypeId} {size : Nat} {xs cs : List Value} (h : w.ownsRow base e size (.slice (some ⟨g, 0, none⟩) m c) n xs) (hB : Hp w B cs t) (hn : 0 < n) (hte : t ≠ e) : g ≠ B := by
  rintro rfl
  rcases h.2 with ⟨_, h0⟩ | ⟨g', cap, cur, hv, _, hg, _⟩
  · omega
  · cases hv
    rw [show w.heap[g]? = _ from hB] at hg
    cases hg
    exact hte rfl
theorem stepA {w X : World} (h : Below w.heap.size w X) (o : Obj) : Below w.heap.size w (X.alloc o) := h.alloc h.size o
theorem Blk.kept {w w' : World} {row : Option Nat} {B : Nat} {cs : List Value} (h : Blk w B cs) (hg : w.grownBy w' row) (hne : some B ≠ row) : Blk w' B cs :=
  ⟨Nat.lt_of_lt_of_le h.lt hg.size, fun j v hv => (World.cell?_of_block (a := ⟨B, j, none⟩) (hg.block B h.lt hne)).trans (h.cell j v hv), fun j => (World.frozen?_of_block (a := ⟨B, j, none⟩) (hg.block B h.lt hne)).trans (h.free j)⟩
/-- A way: the index, and where its starts lie. -/
abbrev Wy := Nat × Sv
def encW (l : List Cd) (tb : Nat → Sh) (e : Nat) (x : Wy) : Array Value := #[.agg #[.int .i64 (wayF l tb e x.1).1.num, .int .i64 ((wayF l tb e x.1).1.den : Int), x.2.v]]
def PxW (l : List Cd) (tb : Nat → Sh) (p e n₀ : Nat) (x : Wy) (W : World) : Prop := (p - 1 ≤ x.1 ∧ x.1 < e) ∧ x.2.Rd W (wayF l tb e x.1).2 ∧ n₀ ≤ x.2.b

theorem nums_snoc (xs : List Int) (k : Int) : nums (xs ++ [k]) = nums xs ++ [.int .i64 k] := by simp [nums]
theorem rd_of_own {W : World} {base g m c : Nat} {xs : List Int} (h : W.ownsRow base 3 1 (.slice (some ⟨g, 0, none⟩) m c) m (nums xs)) (hm : 0 < m) (hm2 : m ≤ 30) : Sv.Rd ⟨g, 0, m, c⟩ W xs := by
  obtain ⟨A, c', e, hr⟩ := own_reads h (by omega)
  cases e
  refine ⟨hr, hm, hm2, ?_⟩
  rcases h.2 with ⟨_, h0⟩ | ⟨g', cap, cur, hv, _, _, hle, _⟩
  · omega
  · cases hv
    exact hle
theorem wayOk {l : List Cd} {tb : Nat → Sh} {p e n₀ k g m c base : Nat} {W : World} (h : W.ownsRow base 3 1 (.slice (some ⟨g, 0, none⟩) (m + 1) c) (m + 1) (nums ((tb k).2 ++ [(k : Int)]))) (hk : p - 1 ≤ k ∧ k < e) (hg : n₀ ≤ g) (hm : m + 1 ≤ 30) : PxW l tb p e n₀ (k, ⟨g, 0, m + 1, c⟩) W :=
  ⟨hk, rd_of_own h (by omega) hm, hg⟩

set_option maxRecDepth 100000 in
set_option maxHeartbeats 4000000 in
theorem ways_seq {l : List Cd} {n Ba Bh B13 B14 B8 B11 : Nat} {Bs : Nat → Nat} {tb : Nat → Sh} {sv : Nat → Sv} {p e : Nat} (n₀ B : Nat) (w : World) (hw : WEnv l n Ba Bh B13 B14 B8 B11 Bs tb sv p e w) (hn0 : n₀ = w.heap.size) (hp : 2 ≤ p) (he : p ≤ e) (hen : e ≤ n) (hn : n ≤ 24)
    (htb : ∀ k, 1 ≤ k → k ≤ n → Sml (tb k).1 ∧ (tb k).2.length ≤ 28) (hal : ∀ j k, j < k → k ≤ n → Sml (alo l j k)) :
    SeqP 7 56 #[.pointer (some ⟨B13, 0, none⟩), .pointer (some ⟨B14, 0, none⟩), .pointer (some ⟨B8, 0, none⟩), .pointer (some ⟨B11, 0, none⟩)] (encW l tb e) n₀ B 0 (PxW l tb p e B) (fun ys : List Wy => ys.map (·.1) = List.range' (p - 1) (e - (p - 1))) 100000 w := by
  subst hn0
  intro r J W hW hB hJ hY h0
  have hE := hw.later hW
  have HW := Lib.hid hW
  have HWE := Lib.hid hw
  have hsW := hW.size
  have HJ := Lib.hid hJ
  have HY := Lib.hid hY
  have HE := Lib.hid hE
  have q0 := hE.c13
  clear hJ hY hW hE
  refine callsIn_of_wp Try.func56 rfl trivial ?_ rfl
  simp only [Try.ntmps56, List.size_toArray, List.length_cons, List.length_nil, Nat.reduceAdd, Nat.reduceSub, Array.replicate_succ, Array.replicate_zero, List.push_toArray, List.append_toArray, List.nil_append, List.cons_append]
  have wp1 : IntKind.i64.wrap ((p : Int) - 1) = ((p - 1 : Nat) : Int) := by rw [i64_in (by omega) (by omega)]; omega
  gi_wp2
  gi_loopw [6] (fun v wr => ∃ (k : Nat) (pre : List Wy), p - 1 ≤ k ∧ k ≤ e ∧ v = .int .i64 k ∧ Aside (pre.map (·.1) = List.range' (p - 1) (k - (p - 1))) ∧ Aside (J pre wr) ∧ Aside (Below w.heap.size W wr))
    (fun v _ => e - (intOf v).toNat)
  case atStart => exact ⟨p - 1, [], Nat.le_refl _, by omega, rfl, by rw [Nat.sub_self]; rfl, h0, Below.refl _ _⟩
  case round =>
    obtain ⟨k, pre, hpk, hke, rfl, HP, HJs, HB⟩ := hrel
    clear h0
    have hBw : Below w.heap.size w wr := HW.out.trans HB.out
    have E := HWE.out.later hBw
    have q14 := E.c14
    by_cases hlt : k < e
    · have hlt' : (k : Int) < (e : Int) := by omega
      have hk1 : 1 ≤ k := by omega
      have hw1 : IntKind.i64.wrap ((k : Int) + 1) = (k : Int) + 1 := i64_in (by omega) (by omega)
      have g1 : (k : Int) < (n : Int) := by omega
      have g2 : (e : Int) < ((n : Int) + 1) := by omega
      have g3 : (k : Int) < ((n : Int) + 1) := by omega
      have hS : ∀ X, Below wr.heap.size wr X → Below wr.heap.size wr X ∧ X.cell? ⟨B8, 0, none⟩ = some (.slice (some ⟨Ba, 0, none⟩) n n) ∧ X.cell? ⟨B11, 0, none⟩ = some (.slice (some ⟨Bh, 0, none⟩) (n + 1) (n + 1)) ∧ X.cell? ⟨B14, 0, none⟩ = some (.int .i64 (e : Int)) ∧ X.cell? ⟨Ba, k, none⟩ = some (.slice (some ⟨Bs k, 0, none⟩) (n + 1) (n + 1)) ∧
          (X.cell? ⟨Bs k, e * 2, none⟩ = some (.int .i64 (alo l k e).num) ∧ X.cell? ⟨Bs k, e * 2 + 1, none⟩ = some (.int .i64 ((alo l k e).den : Int))) ∧ X.cell? ⟨Bh, k * 3 + 2, none⟩ = some (.slice (some ⟨(sv k).b, (sv k).o, none⟩) (sv k).m (sv k).c) := fun X hX => by
        have F := E.later hX
        exact ⟨hX, F.c8, F.c11, F.c14, F.al.row k (by omega), F.al.num k e hlt hen, (F.sh.num k hk1 (by omega)).2.2⟩
      have HS := Lib.hid hS
      have hC : ∀ X, Below wr.heap.size wr X → Calls Try.prog 57 #[.slice (some ⟨(sv k).b, (sv k).o, none⟩) (sv k).m (sv k).c] X fun e w' => (∃ v, e = .returned v ∧ w'.ownsRow X.heap.size 3 1 v (sv k).m (nums (tb k).2)) ∧ Below wr.heap.size wr w' ∧ Below X.heap.size X w' ∧ wr.heap.size ≤ X.heap.size := fun X hX => by
        have hr := (E.later hX).sh.rd k hk1 (by omega)
        refine (clone_calls X hr.1 (by have := hr.2; omega)).mono ?_
        rintro e w' ⟨⟨v, rfl, ho⟩, hb⟩
        exact ⟨⟨v, rfl, ho⟩, hX.trans (hb.mono hX.size), hb, hX.size⟩
      have HC := Lib.hid hC
      have hmm := (E.sh.rd k hk1 (by omega)).2
      obtain ⟨i0, hi0, hz0, hz1, hz2⟩ := info_parts info3
      clear hS hC
      gi_wp2_with fail
      refine wpIn_wide.2 ?_
      go_cut [7] (fun s7 wx => ∃ B7 g3 cap3 : Nat, s7 = .pointer (some ⟨B7, 0, none⟩) ∧ Aside (Hp wx B7 [.int .i64 (alo l k e).num, .int .i64 ((alo l k e).den : Int), .slice (some ⟨g3, 0, none⟩) ((sv k).m + 1) cap3] 103) ∧ Aside (wx.ownsRow wr.heap.size 3 1 (.slice (some ⟨g3, 0, none⟩) ((sv k).m + 1) cap3) ((sv k).m + 1) (nums (tb k).2 ++ [.int .i64 (k : Int)])) ∧ Aside (Below wr.heap.size wr wx) ∧ wr.heap.size ≤ B7 ∧ wr.heap.size ≤ g3 ∧ g3 ≠ B7)
      case first =>
        go_region_held3 (fun X => Below wr.heap.size wr X ∧ X.cell? ⟨B8, 0, none⟩ = some (.slice (some ⟨Ba, 0, none⟩) n n) ∧ X.cell? ⟨B11, 0, none⟩ = some (.slice (some ⟨Bh, 0, none⟩) (n + 1) (n + 1)) ∧ X.cell? ⟨B14, 0, none⟩ = some (.int .i64 (e : Int)) ∧ X.cell? ⟨Ba, k, none⟩ = some (.slice (some ⟨Bs k, 0, none⟩) (n + 1) (n + 1)) ∧
            (X.cell? ⟨Bs k, e * 2, none⟩ = some (.int .i64 (alo l k e).num) ∧ X.cell? ⟨Bs k, e * 2 + 1, none⟩ = some (.int .i64 ((alo l k e).den : Int))) ∧ X.cell? ⟨Bh, k * 3 + 2, none⟩ = some (.slice (some ⟨(sv k).b, (sv k).o, none⟩) (sv k).m (sv k).c))
          (first
            | with_reducible exact HS.out _ HB3.out
            | with_reducible exact HS.out _ (stepS3 HB3.out HLE.out _ _ _)
            | with_reducible exact HS.out _ (stepA HB3.out _)
            | with_reducible exact HS.out _ HB2.out
            | with_reducible exact HS.out _ (stepA HB2.out _)
            | with_reducible exact HS.out _ (stepA (stepA HB2.out _) _)
            | with_reducible exact HS.out _ (Below.refl _ _).drew
            | (refine HS.out _ ?_; go_grown; done)
            | fail)
          (first
            | (go_at_call 57; refine (HC.out _ (by go_grown)).mono ?_; rintro e' w2 ⟨⟨v2, rfl, hO⟩, hb2, hbx, hxs⟩; obtain ⟨g2, cap2, rfl, hg2lo, hg2hi⟩ := hO.form hmm.1; have HO := Lib.hid (own_less hO hxs); (try simp only [drew_size, World.size_alloc] at hg2lo); have HB2 := Lib.hid hb2; have HBX := Lib.hid hbx; have HG2 := Lib.hid (And.intro hg2lo hg2hi); clear hO hb2 hbx hg2lo hg2hi hxs)
            | (rw [if_pos (by rfl)]; refine wp_append_own _ (.tmp 27) (.tmp 29) 38 rfl wr.heap.size 3 i0 (.int .i64 0) 1 8 Try.underlying38 hi0 hz0 hz1 hz2 rfl (by decide) (.slice (some ⟨g2, 0, none⟩) (sv k).m cap2) (sv k).m (nums (tb k).2) rfl (by first | exact HO.out | exact own_alloc HO.out _ | exact own_alloc (own_alloc HO.out _) _) _ 1 1 [.int .i64 (k : Int)] rfl rfl (one_cell (Blk.one (by repeat (first | with_reducible exact Blk.new _ _ _ | with_reducible exact Blk.at_new1 _ _ _ _ | with_reducible refine Blk.drew ?_ | with_reducible refine Blk.alloc ?_ _ | with_reducible refine Blk.later ?_ HBX.out)))) (by intro u hu; simp at hu; subst hu; rfl) (by unfold maxLen; omega) (by omega) (by have := HB2.out.size; simp; omega) ?_; intro v3 w3 hown3 hgrow3 _; obtain ⟨g3, cap3, rfl, hg3, _⟩ := hown3.form (by omega); have HO3 := Lib.hid hown3; have HG3 := Lib.hid hg3; have hg2 := HG2.out; (first | (have HLE := Lib.hid (Nat.le_trans (show wr.heap.size ≤ wr.heap.size from Nat.le_refl _) (Nat.le_refl _)); refine with_fact (p := Hp w3 wr.heap.size [.int .i64 0, .int .i64 0, .slice none 0 0] 103) ?_ ?_; refine Hp.kept ?_ hgrow3 ?_; (repeat (first | with_reducible exact Hp.new _ _ _ | with_reducible exact Hp.at_new1 _ _ _ _ | with_reducible refine Hp.drew ?_ | with_reducible refine Hp.alloc ?_ _ | with_reducible refine Hp.later ?_ HBX.out)); (simp [Value.ownBlock]; omega); intro b7; have B7 := Lib.hid b7) | (have HLE := Lib.hid (Nat.le_trans (show wr.heap.size ≤ (wr.heap.size + 1) from Nat.le_succ _) (Nat.le_refl _)); refine with_fact (p := Hp w3 (wr.heap.size + 1) [.int .i64 0, .int .i64 0, .slice none 0 0] 103) ?_ ?_; refine Hp.kept ?_ hgrow3 ?_; (repeat (first | with_reducible exact Hp.new _ _ _ | with_reducible exact Hp.at_new1 _ _ _ _ | with_reducible refine Hp.drew ?_ | with_reducible refine Hp.alloc ?_ _ | with_reducible refine Hp.later ?_ HBX.out)); (simp [Value.ownBlock]; omega); intro b7; have B7 := Lib.hid b7) | (have HLE := Lib.hid (Nat.le_trans (show wr.heap.size ≤ w2.heap.size from HB2.out.size) (Nat.le_refl _)); refine with_fact (p := Hp w3 w2.heap.size [.int .i64 0, .int .i64 0, .slice none 0 0] 103) ?_ ?_; refine Hp.kept ?_ hgrow3 ?_; (repeat (first | with_reducible exact Hp.new _ _ _ | with_reducible exact Hp.at_new1 _ _ _ _ | with_reducible refine Hp.drew ?_ | with_reducible refine Hp.alloc ?_ _ | with_reducible refine Hp.later ?_ HBX.out)); (simp [Value.ownBlock]; omega); intro b7; have B7 := Lib.hid b7) | (have HLE := Lib.hid (Nat.le_trans (show wr.heap.size ≤ (w2.heap.size + 1) from Nat.le_trans HB2.out.size (Nat.le_succ _)) (Nat.le_refl _)); refine with_fact (p := Hp w3 (w2.heap.size + 1) [.int .i64 0, .int .i64 0, .slice none 0 0] 103) ?_ ?_; refine Hp.kept ?_ hgrow3 ?_; (repeat (first | with_reducible exact Hp.new _ _ _ | with_reducible exact Hp.at_new1 _ _ _ _ | with_reducible refine Hp.drew ?_ | with_reducible refine Hp.alloc ?_ _ | with_reducible refine Hp.later ?_ HBX.out)); (simp [Value.ownBlock]; omega); intro b7; have B7 := Lib.hid b7) | skip); have HB3 := Lib.hid ((show Below wr.heap.size wr _ from by first | with_reducible exact HB2.out | with_reducible exact stepA HB2.out _ | with_reducible exact stepA (stepA HB2.out _) _).grown hgrow3 (by have := HB2.out.size; simp; omega) (fun j hj => own_base' HO.out j hj)); clear hown3 hgrow3 hg3 hg2; (first | (have q7 := B7.out.blk.three; have f7 := B7.out.free 0; have f8 := B7.out.free 1; have f9 := B7.out.free 2; have z7 := B7.out.lt) | skip))
            | fail)
        all_goals
          go_wp2_with fail
          go_meet
          first
            | (have hne := own_ne HO3.out B7.out (by omega) (by decide); exact ⟨_, _, _, rfl, ((B7.out.set 0 _).set 1 _).set 2 _, own_set (own_set (own_set HO3.out hne 0 _) hne 1 _) hne 2 _, stepS3 HB3.out HLE.out _ _ _, HLE.out, HG3.out, hne⟩)
            | (have hlt3 := HO3.out.form (by omega); obtain ⟨g', c', ee, _, hlt4⟩ := hlt3; cases ee; exact ⟨_, _, _, rfl, Hp.new _ _ _, own_alloc HO3.out _, stepA HB3.out _, HB3.out.size, HG3.out, by omega⟩)
            | fail
      case rest =>
        obtain ⟨B7, g3, cap3, rfl, H7, HO, HB7, hz7, hz3, hne⟩ := hcut
        have HML := Lib.hid (E.sh.rd k hk1 (by omega)).1.1.symm
        have htk := htb k hk1 (by omega)
        have hak := hal k e hlt hen
        have EW : ∀ X, Below wc.heap.size wc X → WEnv l n Ba Bh B13 B14 B8 B11 Bs tb sv p e X := fun X hX => E.later (HB7.out.trans (hX.mono HB7.out.size))
        have hS2 : ∀ X, Below wc.heap.size wc X → Below wc.heap.size wc X ∧ (X.cell? ⟨B7, 0, none⟩ = some (.int .i64 (alo l k e).num) ∧ X.cell? ⟨B7, 1, none⟩ = some (.int .i64 ((alo l k e).den : Int))) ∧ X.cell? ⟨B11, 0, none⟩ = some (.slice (some ⟨Bh, 0, none⟩) (n + 1) (n + 1)) ∧ (X.cell? ⟨Bh, k * 3, none⟩ = some (.int .i64 (tb k).1.num) ∧ X.cell? ⟨Bh, k * 3 + 1, none⟩ = some (.int .i64 ((tb k).1.den : Int))) := fun X hX => by
          have F := EW X hX
          have h7 := (H7.out.later hX).blk.three
          exact ⟨hX, ⟨h7.1, h7.2.1⟩, F.c11, (F.sh.num k hk1 (by omega)).1, (F.sh.num k hk1 (by omega)).2.1⟩
        have HS2 := Lib.hid hS2
        have HEW := Lib.hid EW
        have C53 : ∀ W, Gives 53 #[rv (alo l k e), rv (tb k).1] (.bool (decide (alo l k e < (tb k).1))) W := less_calls (by have := hak; unfold Sml at this; omega) (by have := hak; unfold Sml at this; omega) (by have := htk.1; unfold Sml at this; omega) (by have := htk.1; unfold Sml at this; omega)
        obtain ⟨dd, hdd⟩ : ∃ dd, decide (alo l k e < (tb k).1) = dd := ⟨_, rfl⟩
        rw [hdd] at C53
        unfold rv at C53
        have H53 := Lib.hid C53
        have HDD := Lib.hid hdd
        clear hS2 EW C53 hdd HS HC q14
        gi_wp2_with fail
        refine wpIn_wide.2 ?_
        go_region_held3 (fun X => Below wc.heap.size wc X ∧ (X.cell? ⟨B7, 0, none⟩ = some (.int .i64 (alo l k e).num) ∧ X.cell? ⟨B7, 1, none⟩ = some (.int .i64 ((alo l k e).den : Int))) ∧ X.cell? ⟨B11, 0, none⟩ = some (.slice (some ⟨Bh, 0, none⟩) (n + 1) (n + 1)) ∧ (X.cell? ⟨Bh, k * 3, none⟩ = some (.int .i64 (tb k).1.num) ∧ X.cell? ⟨Bh, k * 3 + 1, none⟩ = some (.int .i64 ((tb k).1.den : Int))))
          (first
            | with_reducible exact HS2.out _ (Below.refl _ _).drew
            | with_reducible exact HS2.out _ HBY.out
            | fail)
          (first
            | (go_at_call 53; (with_reducible refine (Gives.c (H53.out _)).mono ?_); rintro e' wy ⟨rfl, hb⟩; have HBY := Lib.hid ((Below.refl wc.heap.size wc).drew.trans hb))
            | fail)
        all_goals
          cases dd with
          | true =>
            have hq : (wayF l tb e k).1 = (tb k).1 := by unfold wayF; exact if_pos (of_decide_eq_true HDD.out)
            have hb5 : Below wr.heap.size wr ((wy.setCell ⟨B7, 0, none⟩ (.int .i64 (tb k).1.num)).setCell ⟨B7, 1, none⟩ (.int .i64 ((tb k).1.den : Int))) := below2 (HB7.out.trans (HBY.out.mono HB7.out.size)) hz7 _ _
            have ho5 : (((wy.setCell ⟨B7, 0, none⟩ (.int .i64 (tb k).1.num)).setCell ⟨B7, 1, none⟩ (.int .i64 ((tb k).1.den : Int)))).ownsRow wr.heap.size 3 1 (.slice (some ⟨g3, 0, none⟩) ((sv k).m + 1) cap3) ((sv k).m + 1) (nums ((tb k).2 ++ [(k : Int)])) := by rw [nums_snoc]; exact own_set (own_set (own_later HO.out HBY.out) hne 0 _) hne 1 _
            have hpx : PxW l tb p e B (k, ⟨g3, 0, (sv k).m + 1, cap3⟩) ((wy.setCell ⟨B7, 0, none⟩ (.int .i64 (tb k).1.num)).setCell ⟨B7, 1, none⟩ (.int .i64 ((tb k).1.den : Int))) := wayOk ho5 ⟨hpk, hlt⟩ (Nat.le_trans hB (Nat.le_trans HB.out.size hz3)) (by have := HML.out; omega)
            have j5 := HJ.out _ _ _ none HJs.out (grow_below hb5) (by simp)
            obtain ⟨fn, tmps, assign, body, hy, hR⟩ := HY.out pre (k, ⟨g3, 0, (sv k).m + 1, cap3⟩) ((wy.setCell ⟨B7, 0, none⟩ (.int .i64 (tb k).1.num)).setCell ⟨B7, 1, none⟩ (.int .i64 ((tb k).1.den : Int))) j5 hpx (by have h1 := congrArg List.length HP.out; simp at h1; omega)
            have HR := Lib.hid hR
            unfold encW at hy
            dsimp only at hy
            rw [hq] at hy
            unfold Sv.v at hy
            dsimp only at hy
            have HB5 := Lib.hid hb5
            have q7 := (H7.out.later HBY.out).blk.three
            have f7 := (H7.out.later HBY.out).free 0
            have f8 := (H7.out.later HBY.out).free 1
            have z7 := (H7.out.later HBY.out).lt
            have c11 := (HS2.out _ HBY.out).2.2
            clear hR hq hb5 ho5 hpx j5
            gi_wp2
            refine HR.out.mono ?_
            rintro e' W6 ⟨rfl, hJ6, hk6⟩
            have HJ6 := Lib.hid hJ6
            have HB6 := Lib.hid (HB.out.trans ((HB5.out.mono hBw.size).trans hk6.low))
            clear hJ6 hk6 hy q7 f7 f8 z7 c11
            gi_wp2
            go_roundw
            case rel =>
              refine ⟨k + 1, pre ++ [(k, (⟨g3, 0, (sv k).m + 1, cap3⟩ : Sv))], by omega, by omega, by go_num, ?_, HJ6.out, HB6.out⟩
              show List.map (fun x => x.1) (pre ++ [(k, (⟨g3, 0, (sv k).m + 1, cap3⟩ : Sv))]) = _
              rw [List.map_append, HP.out, show k + 1 - (p - 1) = (k - (p - 1)) + 1 by omega, List.range'_concat]
              simp
              omega
            case measure => simp [intOf]; omega
          | false =>
            have hq : (wayF l tb e k).1 = (alo l k e) := by unfold wayF; exact if_neg (of_decide_eq_false HDD.out)
            have hb5 : Below wr.heap.size wr wy := HB7.out.trans (HBY.out.mono HB7.out.size)
            have ho5 : (wy).ownsRow wr.heap.size 3 1 (.slice (some ⟨g3, 0, none⟩) ((sv k).m + 1) cap3) ((sv k).m + 1) (nums ((tb k).2 ++ [(k : Int)])) := by rw [nums_snoc]; exact own_later HO.out HBY.out
            have hpx : PxW l tb p e B (k, ⟨g3, 0, (sv k).m + 1, cap3⟩) wy := wayOk ho5 ⟨hpk, hlt⟩ (Nat.le_trans hB (Nat.le_trans HB.out.size hz3)) (by have := HML.out; omega)
            have j5 := HJ.out _ _ _ none HJs.out (grow_below hb5) (by simp)
            obtain ⟨fn, tmps, assign, body, hy, hR⟩ := HY.out pre (k, ⟨g3, 0, (sv k).m + 1, cap3⟩) wy j5 hpx (by have h1 := congrArg List.length HP.out; simp at h1; omega)
            have HR := Lib.hid hR
            unfold encW at hy
            dsimp only at hy
            rw [hq] at hy
            unfold Sv.v at hy
            dsimp only at hy
            have HB5 := Lib.hid hb5
            have q7 := (H7.out.later HBY.out).blk.three
            have f7 := (H7.out.later HBY.out).free 0
            have f8 := (H7.out.later HBY.out).free 1
            have z7 := (H7.out.later HBY.out).lt
            have c11 := (HS2.out _ HBY.out).2.2
            clear hR hq hb5 ho5 hpx j5
            gi_wp2
            refine HR.out.mono ?_
            rintro e' W6 ⟨rfl, hJ6, hk6⟩
            have HJ6 := Lib.hid hJ6
            have HB6 := Lib.hid (HB.out.trans ((HB5.out.mono hBw.size).trans hk6.low))
            clear hJ6 hk6 hy q7 f7 f8 z7 c11
            gi_wp2
            go_roundw
            case rel =>
              refine ⟨k + 1, pre ++ [(k, (⟨g3, 0, (sv k).m + 1, cap3⟩ : Sv))], by omega, by omega, by go_num, ?_, HJ6.out, HB6.out⟩
              show List.map (fun x => x.1) (pre ++ [(k, (⟨g3, 0, (sv k).m + 1, cap3⟩ : Sv))]) = _
              rw [List.map_append, HP.out, show k + 1 - (p - 1) = (k - (p - 1)) + 1 by omega, List.range'_concat]
              simp
              omega
            case measure => simp [intOf]; omega
    · obtain rfl : k = e := by omega
      gi_wp2
      go_end0
      exact ⟨⟨_, rfl⟩, pre, HP.out, HJs.out⟩
end Go.Proofs.Ytjncoableanmpaa
