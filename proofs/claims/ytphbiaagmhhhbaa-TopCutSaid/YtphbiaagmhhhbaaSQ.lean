/- The contract of known. -/
import Derived.Test.YtphbiaagmhhhbaaSP
import Derived.Test.YtphbiaagmhhhbaaHP
namespace Go.Proofs.Ytphbiaagmhhhbaa
open Go.RowKit Go.Lib Go.Shelf
attribute [local go_sem] Oper.semAt_some

/-- What is known: the growths, and the numbers of the measurements that bound them. -/
structure KS where
  lo : Int
  hi : Int
  b0 : Int
  b1 : Int

/-- One measurement more: what is known then, and whether nothing is left. -/
def kstep (y0 y1 : Int) (i : Int) (s : KS) : KS × Bool :=
  if y1 < y0 then (⟨y0, y1, i, i⟩, true)
  else
    let s1 : KS := if s.lo < y0 then ⟨y0, s.hi, i, s.b1⟩ else s
    let s2 : KS := if y1 < s1.hi then ⟨s1.lo, y1, s1.b0, i⟩ else s1
    (s2, decide (s2.hi < s2.lo))
section
variable (c lo hi off : Int) (l : List (Int × Int))
def kone (i : Nat) (s : KS) : KS × Bool :=
  kstep (fitLo c lo hi off (mAt l i).1 (mAt l i).2) (fitHi c lo hi off (mAt l i).1 (mAt l i).2) i s
def kgo : KS → List Nat → KS × Bool
  | s, [] => (s, false)
  | s, i :: r => if (kone c lo hi off l i s).2 then kone c lo hi off l i s else kgo (kone c lo hi off l i s).1 r
theorem kgo_snoc (s : KS) (p : List Nat) (i : Nat) (h : (kgo c lo hi off l s p).2 = false) : kgo c lo hi off l s (p ++ [i]) = kone c lo hi off l i (kgo c lo hi off l s p).1 := by
  induction p generalizing s with
  | nil =>
    simp only [List.nil_append, kgo]
    by_cases h2 : (kone c lo hi off l i s).2 = true
    · rw [if_pos h2]
    · rw [if_neg h2]; rw [Prod.ext_iff]; exact ⟨rfl, by simpa using h2⟩
  | cons x p ih =>
    simp only [List.cons_append, kgo] at h ⊢
    by_cases h2 : (kone c lo hi off l x s).2 = true
    · rw [if_pos h2] at h; rw [h] at h2; cases h2
    · rw [if_neg h2] at h; rw [if_neg h2, if_neg h2]; exact ih _ h
theorem kgo_more (s : KS) (p q : List Nat) (h : (kgo c lo hi off l s p).2 = true) : kgo c lo hi off l s (p ++ q) = kgo c lo hi off l s p := by
  induction p generalizing s with
  | nil => simp [kgo] at h
  | cons x p ih =>
    simp only [List.cons_append, kgo] at h ⊢
    by_cases h2 : (kone c lo hi off l x s).2 = true
    · rw [if_pos h2, if_pos h2]
    · rw [if_neg h2] at h; rw [if_neg h2, if_neg h2]; exact ih _ h
end
theorem diffIx_more (l : List (Int × Int)) (k m : Nat) : ∃ q, diffIx l (k + m) = diffIx l k ++ q := by
  induction m with
  | zero => exact ⟨[], by simp⟩
  | succ m ih =>
    obtain ⟨q, hq⟩ := ih
    rw [show k + (m + 1) = (k + m) + 1 from by omega]
    simp only [diffIx]
    split
    · exact ⟨q, hq⟩
    · exact ⟨q ++ [k + m], by rw [hq, List.append_assoc]⟩

/-- What is known behind all measurements. -/
def knownF (c lo hi off : Int) (l : List (Int × Int)) : KS := (kgo c lo hi off l ⟨lo, hi, -1, -1⟩ (diffIx l l.length)).1

theorem eg97 : ∀ args w, (callFunc 97 args).run Try.prog w = .ok (.enter 97 args) w := enters_of Try.func97 (by kernel_rfl) rfl

/-- The cells that a round finds. -/
def KInv (w0 : Nat) (c t lo hi off : Int) (s : KS) (W : World) : Prop :=
  Hp W w0 [.int .i64 c, .int .i64 t, .int .i64 lo, .int .i64 hi] 28 ∧ Hp W (w0 + 1) [.int .i64 off] 3 ∧ Hp W (w0 + 1 + 1) [.int .i64 s.lo, .int .i64 s.hi] 26 ∧ Hp W (w0 + 1 + 1 + 1) [.int .i64 s.b0, .int .i64 s.b1] 102

theorem kinv_own {β : Type} (w0 : Nat) (c t lo hi off : Int) (f : β → KS) : Own (fun s W => KInv w0 c t lo hi off (f s) W) := fun _ X Y row hs hg hr =>
  ⟨hp_own w0 28 (fun (_ : Unit) => _) () X Y row hs.1 hg hr, hp_own (w0 + 1) 3 (fun (_ : Unit) => _) () X Y row hs.2.1 hg hr, hp_own (w0 + 1 + 1) 26 (fun (_ : Unit) => _) () X Y row hs.2.2.1 hg hr, hp_own (w0 + 1 + 1 + 1) 102 (fun (_ : Unit) => _) () X Y row hs.2.2.2 hg hr⟩

/-- What a round has left: all that the law of the loop asks. -/
structure KAll (B : Nat) (w : World) (c t lo hi off : Int) (s : KS) (W W' : World) : Prop where
  others : KeepsFrom B W W'
  kp : KpIx w.heap.size (w.heap.size + 1 + 1 + 1 + 1) W W'
  inv : KInv w.heap.size c t lo hi off s W'
  size : w.heap.size + 4 < W'.heap.size
  below : Below w.heap.size w W'
theorem keepsFrom_below {B : Nat} {W w1 : World} (hb : Below W.heap.size W w1) : KeepsFrom B W w1 := ⟨hb.size, fun k _ _ hk _ => (hb.block k (Array.getElem?_eq_some_iff.1 hk).1).trans hk⟩
section
variable {B : Nat} {w : World} {c t lo hi off : Int} {s : KS} {W W' : World}
theorem KAll.call {w1 : World} (h : KInv w.heap.size c t lo hi off s W) (hz : w.heap.size + 4 < W.heap.size) (hB : Below w.heap.size w W) (hb : Below W.heap.size W w1) : KAll B w c t lo hi off s W w1 :=
  ⟨keepsFrom_below hb, ⟨hb.mono hB.size, hb.block _ hz⟩, ⟨h.1.later hb, h.2.1.later hb, h.2.2.1.later hb, h.2.2.2.later hb⟩, Nat.lt_of_lt_of_le hz hb.size, hB.trans (hb.mono hB.size)⟩
theorem KAll.alloc (h : KAll B w c t lo hi off s W W') (o : Obj) : KAll B w c t lo hi off s W (W'.alloc o) :=
  ⟨h.others.trans ((KeepsOthers.alloc _ _).from _), h.kp.trans ⟨(Below.refl _ W').alloc h.below.size _, Below.heap_alloc _ _ _ h.size⟩, ⟨h.inv.1.alloc _, h.inv.2.1.alloc _, h.inv.2.2.1.alloc _, h.inv.2.2.2.alloc _⟩, by have := h.size; simp; omega, h.below.alloc h.below.size _⟩
theorem KAll.drew (h : KAll B w c t lo hi off s W W') : KAll B w c t lo hi off s W W'.drew :=
  ⟨h.others.trans ((KeepsOthers.drew _).from _), h.kp.trans ⟨(Below.refl _ W').drew, rfl⟩, h.inv, h.size, h.below.drew⟩
theorem KpIx.setCell {n₀ Bs k j : Nat} {A A' : World} (h : KpIx n₀ Bs A A') (hk : n₀ ≤ k) (hne : Bs ≠ k) (v : Value) : KpIx n₀ Bs A (A'.setCell ⟨k, j, none⟩ v) :=
  ⟨h.1.setCell (p := ⟨k, j, none⟩) hk v, (Below.heap_setCell A' ⟨k, j, none⟩ v Bs hne).trans h.2⟩
theorem KAll.sx0 (h : KAll B w c t lo hi off s W W') (v : Int) : KAll B w c t lo hi off { s with lo := v } W (W'.setCell ⟨w.heap.size + 1 + 1, 0, none⟩ (.int .i64 v)) :=
  ⟨h.others.trans ((KeepsOthers.setCell _ _ _).from _), h.kp.setCell (by omega) (by omega) _, ⟨h.inv.1.other (by omega) _ _, h.inv.2.1.other (by omega) _ _, h.inv.2.2.1.set 0 _, h.inv.2.2.2.other (by omega) _ _⟩, by simpa using h.size, h.below.setCell (p := ⟨w.heap.size + 1 + 1, 0, none⟩) (by simp; omega) _⟩
theorem KAll.sx1 (h : KAll B w c t lo hi off s W W') (v : Int) : KAll B w c t lo hi off { s with hi := v } W (W'.setCell ⟨w.heap.size + 1 + 1, 1, none⟩ (.int .i64 v)) :=
  ⟨h.others.trans ((KeepsOthers.setCell _ _ _).from _), h.kp.setCell (by omega) (by omega) _, ⟨h.inv.1.other (by omega) _ _, h.inv.2.1.other (by omega) _ _, h.inv.2.2.1.set 1 _, h.inv.2.2.2.other (by omega) _ _⟩, by simpa using h.size, h.below.setCell (p := ⟨w.heap.size + 1 + 1, 1, none⟩) (by simp; omega) _⟩
theorem KAll.sb0 (h : KAll B w c t lo hi off s W W') (v : Int) : KAll B w c t lo hi off { s with b0 := v } W (W'.setCell ⟨w.heap.size + 1 + 1 + 1, 0, none⟩ (.int .i64 v)) :=
  ⟨h.others.trans ((KeepsOthers.setCell _ _ _).from _), h.kp.setCell (by omega) (by omega) _, ⟨h.inv.1.other (by omega) _ _, h.inv.2.1.other (by omega) _ _, h.inv.2.2.1.other (by omega) _ _, h.inv.2.2.2.set 0 _⟩, by simpa using h.size, h.below.setCell (p := ⟨w.heap.size + 1 + 1 + 1, 0, none⟩) (by simp; omega) _⟩
theorem KAll.sb1 (h : KAll B w c t lo hi off s W W') (v : Int) : KAll B w c t lo hi off { s with b1 := v } W (W'.setCell ⟨w.heap.size + 1 + 1 + 1, 1, none⟩ (.int .i64 v)) :=
  ⟨h.others.trans ((KeepsOthers.setCell _ _ _).from _), h.kp.setCell (by omega) (by omega) _, ⟨h.inv.1.other (by omega) _ _, h.inv.2.1.other (by omega) _ _, h.inv.2.2.1.other (by omega) _ _, h.inv.2.2.2.set 1 _⟩, by simpa using h.size, h.below.setCell (p := ⟨w.heap.size + 1 + 1 + 1, 1, none⟩) (by simp; omega) _⟩
end

set_option maxRecDepth 100000 in
set_option maxHeartbeats 4000000 in
theorem known_calls {c t lo hi off : Int} (h : Sound c t lo hi) (A : Option Addr) (n cap : Nat) (l : List (Int × Int)) (w : World) (hl : ReadsM w A n l) (hn : n ≤ 1000)
    (hf : ∀ j, j < l.length → FineM off (mAt l j).1 (mAt l j).2) :
    Gives 71 #[.agg #[.int .i64 c, .int .i64 t, .int .i64 lo, .int .i64 hi], .int .i64 off, .slice A n cap] (.tuple #[.agg #[.int .i64 (knownF c lo hi off l).lo, .int .i64 (knownF c lo hi off l).hi], .agg #[.int .i64 (knownF c lo hi off l).b0, .int .i64 (knownF c lo hi off l).b1]]) w := by
  unfold Gives
  obtain rfl : l.length = n := hl.1
  have H := Lib.hid h
  have HL := Lib.hid hl
  have HF := Lib.hid hf
  clear h hl hf
  refine (callsIn_wide (n := 8)).1 ?_
  refine callsIn_of_wp_marks Try.func71 rfl trivial ?_ rfl
  simp only [Try.ntmps71, List.size_toArray, List.length_cons, List.length_nil, Nat.reduceAdd, Nat.reduceSub, Array.replicate_succ, Array.replicate_zero, List.push_toArray, List.append_toArray, List.nil_append, List.cons_append]
  gi_wp2_with (refine ⟨trivial, ?_⟩; gi_at_call 89; refine (callsIn_wide.2 (different_calls _ _ _ _)).mono ?_; rintro e w' ⟨rfl, rfl⟩)
  have hB0 : Below w.heap.size w (((((w.alloc (.cells #[.int .i64 c, .int .i64 t, .int .i64 lo, .int .i64 hi] 28)).alloc (.cells #[.int .i64 off] 3)).alloc (.cells #[.int .i64 lo, .int .i64 hi] 26)).alloc (.cells #[.int .i64 (-1), .int .i64 (-1)] 102)).alloc (.cells #[.slice A l.length cap] 55)) := by go_grown
  have k0 : Hp (((((w.alloc (.cells #[.int .i64 c, .int .i64 t, .int .i64 lo, .int .i64 hi] 28)).alloc (.cells #[.int .i64 off] 3)).alloc (.cells #[.int .i64 lo, .int .i64 hi] 26)).alloc (.cells #[.int .i64 (-1), .int .i64 (-1)] 102)).alloc (.cells #[.slice A l.length cap] 55)) w.heap.size [.int .i64 c, .int .i64 t, .int .i64 lo, .int .i64 hi] 28 := ((((Hp.new w _ 28).alloc _).alloc _).alloc _).alloc _
  have k1 : Hp (((((w.alloc (.cells #[.int .i64 c, .int .i64 t, .int .i64 lo, .int .i64 hi] 28)).alloc (.cells #[.int .i64 off] 3)).alloc (.cells #[.int .i64 lo, .int .i64 hi] 26)).alloc (.cells #[.int .i64 (-1), .int .i64 (-1)] 102)).alloc (.cells #[.slice A l.length cap] 55)) (w.heap.size + 1) [.int .i64 off] 3 := ((Hp.alloc (by simpa using Hp.new (w.alloc _) [.int .i64 off] 3) _).alloc _).alloc _
  have k2 : Hp (((((w.alloc (.cells #[.int .i64 c, .int .i64 t, .int .i64 lo, .int .i64 hi] 28)).alloc (.cells #[.int .i64 off] 3)).alloc (.cells #[.int .i64 lo, .int .i64 hi] 26)).alloc (.cells #[.int .i64 (-1), .int .i64 (-1)] 102)).alloc (.cells #[.slice A l.length cap] 55)) (w.heap.size + 1 + 1) [.int .i64 lo, .int .i64 hi] 26 := (Hp.alloc (by simpa using Hp.new ((w.alloc _).alloc _) [.int .i64 lo, .int .i64 hi] 26) _).alloc _
  have k3 : Hp (((((w.alloc (.cells #[.int .i64 c, .int .i64 t, .int .i64 lo, .int .i64 hi] 28)).alloc (.cells #[.int .i64 off] 3)).alloc (.cells #[.int .i64 lo, .int .i64 hi] 26)).alloc (.cells #[.int .i64 (-1), .int .i64 (-1)] 102)).alloc (.cells #[.slice A l.length cap] 55)) (w.heap.size + 1 + 1 + 1) [.int .i64 (-1), .int .i64 (-1)] 102 := Hp.alloc (by simpa using Hp.new (((w.alloc _).alloc _).alloc _) [.int .i64 (-1), .int .i64 (-1)] 102) _
  have k4 : Hp (((((w.alloc (.cells #[.int .i64 c, .int .i64 t, .int .i64 lo, .int .i64 hi] 28)).alloc (.cells #[.int .i64 off] 3)).alloc (.cells #[.int .i64 lo, .int .i64 hi] 26)).alloc (.cells #[.int .i64 (-1), .int .i64 (-1)] 102)).alloc (.cells #[.slice A l.length cap] 55)) (w.heap.size + 1 + 1 + 1 + 1) [.slice A l.length cap] 55 := by simpa using Hp.new ((((w.alloc _).alloc _).alloc _).alloc _) [.slice A l.length cap] 55
  have hsz : (((((w.alloc (.cells #[.int .i64 c, .int .i64 t, .int .i64 lo, .int .i64 hi] 28)).alloc (.cells #[.int .i64 off] 3)).alloc (.cells #[.int .i64 lo, .int .i64 hi] 26)).alloc (.cells #[.int .i64 (-1), .int .i64 (-1)] 102)).alloc (.cells #[.slice A l.length cap] 55)).heap.size = w.heap.size + 5 := by simp
  generalize (((((w.alloc (.cells #[.int .i64 c, .int .i64 t, .int .i64 lo, .int .i64 hi] 28)).alloc (.cells #[.int .i64 off] 3)).alloc (.cells #[.int .i64 lo, .int .i64 hi] 26)).alloc (.cells #[.int .i64 (-1), .int .i64 (-1)] 102)).alloc (.cells #[.slice A l.length cap] 55)) = W0 at hB0 k0 k1 k2 k3 k4 hsz ⊢
  refine wpIn_rangeFunc_ownH (α := Ix l) rfl (by decide) (gf := 97) (lb := #[.pointer (some ⟨w.heap.size + 1 + 1 + 1 + 1, 0, none⟩)]) rfl trivial eg97
    (diff_stops 7 (by decide) (w.heap.size + 1 + 1 + 1 + 1) w.heap.size A cap l (by omega) W0 (by omega) (by omega) (k4.cell rfl) (fun h0 => by
      obtain ⟨b, o, e, hc⟩ := HL.out.2.2 h0
      exact ⟨b, o, e, World.block_lt_of_cell? w _ (hc 0 h0).1, fun j hj => ⟨(hB0.cell (p := ⟨b, o + j * 2, none⟩) (World.block_lt_of_cell? w _ (hc j hj).1)).trans (hc j hj).1, (hB0.cell (p := ⟨b, o + j * 2 + 1, none⟩) (World.block_lt_of_cell? w _ (hc j hj).2)).trans (hc j hj).2⟩⟩))
    (fun h k => h.trans k) (fun W l o o' h1 h2 h3 h4 => KpIx.putObj (w := W0) (by omega) (by omega) W l o o' h1 h2 h3 h4) (Below.refl _ _) (fun _ => rfl)
    (fun pre W => ((kgo c lo hi off l ⟨lo, hi, -1, -1⟩ (pre.map (·.1))).2 = false ∧ KInv w.heap.size c t lo hi off (kgo c lo hi off l ⟨lo, hi, -1, -1⟩ (pre.map (·.1))).1 W ∧ w.heap.size + 4 < W.heap.size) ∧ Below w.heap.size w W)
    (fun cc pre W => (cc = .ret ∧ (kgo c lo hi off l ⟨lo, hi, -1, -1⟩ (pre.map (·.1))).2 = true ∧ KInv w.heap.size c t lo hi off (kgo c lo hi off l ⟨lo, hi, -1, -1⟩ (pre.map (·.1))).1 W) ∧ Below w.heap.size w W)
    (OwnFrom.and (OwnFrom.and (fun _ _ _ _ hs _ _ => hs) (OwnFrom.and (Own.from (kinv_own _ _ _ _ _ _ _) _) (fun _ _ _ _ hs hg _ => Nat.lt_of_lt_of_le hs hg.size))) (ownFrom_below (Nat.le_refl _) (by omega)))
    (fun cc => OwnFrom.and (OwnFrom.and (fun _ _ _ _ hs _ _ => hs) (OwnFrom.and (fun _ _ _ _ hs _ _ => hs) (Own.from (kinv_own _ _ _ _ _ _ _) _))) (ownFrom_below (Nat.le_refl _) (by omega)))
    ⟨⟨rfl, ⟨k0, k1, k2, k3⟩, by omega⟩, hB0⟩
    (fun x a' W => ∃ Bx, w.heap.size + 4 < Bx ∧ Hp W Bx [.int .i64 (mAt l x.1).1, .int .i64 (mAt l x.1).2] 80 ∧ a' = { tmps := #[Value.agg #[Value.int IntKind.i64 c, Value.int IntKind.i64 t, Value.int IntKind.i64 lo, Value.int IntKind.i64 hi], Value.int IntKind.i64 off, Value.slice A l.length cap, Value.pointer (some ⟨w.heap.size, 0, none⟩), Value.pointer (some ⟨w.heap.size + 1, 0, none⟩), undef, Value.pointer (some ⟨w.heap.size + 1 + 1, 0, none⟩), Value.pointer (some ⟨w.heap.size + 1 + 1 + 1, 0, none⟩), Value.int IntKind.i64 (x.1 : Int), Value.pointer (some ⟨Bx, 0, none⟩), undef, Value.pointer (some ⟨w.heap.size, 2, none⟩), Value.agg #[Value.int IntKind.i64 lo, Value.int IntKind.i64 hi], Value.agg #[Value.int IntKind.i64 (-1), Value.int IntKind.i64 (-1)], Value.slice A l.length cap, Value.func (Fn.func 97) #[] #[Value.pointer (some ⟨w.heap.size + 1 + 1 + 1 + 1, 0, none⟩)], Value.int IntKind.i64 (x.1 : Int), Value.agg #[Value.int IntKind.i64 (mAt l x.1).1, Value.int IntKind.i64 (mAt l x.1).2], undef, undef, undef, undef, undef, undef, undef, undef, undef, undef, undef, undef, undef, undef, undef, undef, undef, undef, undef, undef, undef, undef, undef, undef, undef, undef, undef, undef, undef, undef, undef, undef, undef, undef, undef, undef, undef, undef, undef, undef, undef, undef], defers := [] })
    (fun x a' _ X Y row hs hg hr => by obtain ⟨Bx, h1, h2, h3⟩ := hs; exact ⟨Bx, h1, hp_own Bx 80 (fun (_ : Unit) => [.int .i64 (mAt l x.1).1, .int .i64 (mAt l x.1).2]) () X Y row h2 hg (fun r e => (hr r e).2), h3⟩)
    ?assign ?body ?done ?stop
  case assign =>
    rintro r pre x W K ⟨⟨h1, h2, hz⟩, hB⟩ hK
    unfold encIx
    gi_wp2
    exact hK _ _ ((KeepsOthers.alloc _ _).from _) ⟨(Below.refl _ W).alloc hB.size _, Below.heap_alloc W _ _ (by omega)⟩ ⟨⟨h1, ⟨h2.1.alloc _, h2.2.1.alloc _, h2.2.2.1.alloc _, h2.2.2.2.alloc _⟩, by simp; omega⟩, hB.alloc hB.size _⟩ ⟨W.heap.size, hz, Hp.new W _ 80, rfl⟩
  case body =>
    rintro r pre x a' W hr0 _ ⟨⟨h1, h2, hz⟩, hB⟩ ⟨Bx, hBx, bX, rfl⟩ _
    have hk := kgo_snoc c lo hi off l ⟨lo, hi, -1, -1⟩ (pre.map (·.1)) x.1 h1
    have hmap : (pre ++ [x]).map (fun x => x.1) = pre.map (fun x => x.1) ++ [x.1] := by simp
    have hfx := HF.out x.1 x.2
    generalize (kgo c lo hi off l ⟨lo, hi, -1, -1⟩ (pre.map (·.1))).1 = st at h2 hk
    obtain ⟨s0, s1, s2, s3⟩ := st
    unfold kone at hk
    have q0 := h2.1.blk.four
    have q1 := h2.2.1.blk.one
    have q3 := bX.blk.two
    obtain ⟨i, hix⟩ := x
    dsimp only at hk hmap hfx q3 bX
    have hfit := fits_calls H.out hfx
    unfold Gives at hfit
    generalize mAt l i = m at hfx hfit q3 bX hk
    obtain ⟨m0, m1⟩ := m
    dsimp only at hfx hfit q3 bX hk
    generalize fitLo c lo hi off m0 m1 = y0 at hk hfit
    generalize fitHi c lo hi off m0 m1 = y1 at hk hfit
    have HM := Lib.hid hmap
    have HI := Lib.hid h2
    have BX := Lib.hid bX
    clear hmap h1 h2 bX k0 k1 k2 k3 k4 hB0
    by_cases hA : y1 < y0
    · have HK := Lib.hid (hk.trans (if_pos hA))
      clear hk
      gi_wp2_with (refine ⟨trivial, ?_⟩; gi_at_call 75; refine (CallsIn.inRound r (callsIn_wide.2 (hfit _))).mono ?_; rintro e w1 ⟨rfl, hb⟩; have r2 := (HI.out.2.2.1.later hb).blk; have r3 := (HI.out.2.2.2.later hb).blk; have r2c := r2.two; have r2f := r2.free2; have r3c := r3.two; have r3f := r3.free2; have z2 := r2.lt; have z3 := r3.lt)
      have K := (((((KAll.call HI.out hz hB hb).sx0 y0).sx1 y1).sb0 i).sb1 i).alloc (.cells #[.int .i64 y0, .int .i64 y1] 26) (B := W0.heap.size)
      have e1 : (kgo c lo hi off l ⟨lo, hi, -1, -1⟩ ((pre ++ [(⟨i, hix⟩ : Ix l)]).map (fun x => x.1))) = (⟨y0, y1, i, i⟩, true) := by rw [HM.out]; exact HK.out
      exact ⟨K.others, ⟨rfl, by rw [e1], by rw [e1]; exact K.inv⟩, K.below⟩
    · rw [show kstep y0 y1 (i : Int) ⟨s0, s1, s2, s3⟩ = _ from if_neg hA] at hk
      by_cases hC : s0 < y0
      · simp only [if_pos hC] at hk
        by_cases hD : y1 < s1
        · simp only [if_pos hD] at hk
          by_cases hE : y1 < y0
          · exact absurd hE hA
          · have HK := Lib.hid (hk.trans (congrArg (Prod.mk (⟨y0, y1, i, i⟩ : KS)) (decide_eq_false hE)))
            clear hk
            gi_wp2_with (refine ⟨trivial, ?_⟩; gi_at_call 75; refine (CallsIn.inRound r (callsIn_wide.2 (hfit _))).mono ?_; rintro e w1 ⟨rfl, hb⟩; have r2 := (HI.out.2.2.1.later hb).blk; have r3 := (HI.out.2.2.2.later hb).blk; have r2c := r2.two; have r2f := r2.free2; have r3c := r3.two; have r3f := r3.free2; have z2 := r2.lt; have z3 := r3.lt)
            have K := (((((KAll.call HI.out hz hB hb).sx0 y0).sb0 i).sx1 y1).sb1 i).alloc (.cells #[.int .i64 y0, .int .i64 y1] 26) (B := W0.heap.size)
            have e1 : (kgo c lo hi off l ⟨lo, hi, -1, -1⟩ ((pre ++ [(⟨i, hix⟩ : Ix l)]).map (fun x => x.1))) = (⟨y0, y1, i, i⟩, false) := by rw [HM.out]; exact HK.out
            exact ⟨K.others, K.kp, ⟨by rw [e1], by rw [e1]; exact K.inv, K.size⟩, K.below⟩
        · simp only [if_neg hD] at hk
          by_cases hE : s1 < y0
          · have HK := Lib.hid (hk.trans (congrArg (Prod.mk (⟨y0, s1, i, s3⟩ : KS)) (decide_eq_true hE)))
            clear hk
            gi_wp2_with (refine ⟨trivial, ?_⟩; gi_at_call 75; refine (CallsIn.inRound r (callsIn_wide.2 (hfit _))).mono ?_; rintro e w1 ⟨rfl, hb⟩; have r2 := (HI.out.2.2.1.later hb).blk; have r3 := (HI.out.2.2.2.later hb).blk; have r2c := r2.two; have r2f := r2.free2; have r3c := r3.two; have r3f := r3.free2; have z2 := r2.lt; have z3 := r3.lt)
            gi_region
            all_goals
              gi_wp2
              have K := ((((((((KAll.call HI.out hz hB hb).sx0 y0).sb0 i).sx0 y0).sx1 s1).sb0 i).sb1 s3).alloc (.cells #[.int .i64 y0, .int .i64 y1] 26) (B := W0.heap.size)).drew
              have e1 : (kgo c lo hi off l ⟨lo, hi, -1, -1⟩ ((pre ++ [(⟨i, hix⟩ : Ix l)]).map (fun x => x.1))) = (⟨y0, s1, i, s3⟩, true) := by rw [HM.out]; exact HK.out
              exact ⟨K.others, ⟨rfl, by rw [e1], by rw [e1]; exact K.inv⟩, K.below⟩
          · have HK := Lib.hid (hk.trans (congrArg (Prod.mk (⟨y0, s1, i, s3⟩ : KS)) (decide_eq_false hE)))
            clear hk
            gi_wp2_with (refine ⟨trivial, ?_⟩; gi_at_call 75; refine (CallsIn.inRound r (callsIn_wide.2 (hfit _))).mono ?_; rintro e w1 ⟨rfl, hb⟩; have r2 := (HI.out.2.2.1.later hb).blk; have r3 := (HI.out.2.2.2.later hb).blk; have r2c := r2.two; have r2f := r2.free2; have r3c := r3.two; have r3f := r3.free2; have z2 := r2.lt; have z3 := r3.lt)
            have K := (((KAll.call HI.out hz hB hb).sx0 y0).sb0 i).alloc (.cells #[.int .i64 y0, .int .i64 y1] 26) (B := W0.heap.size)
            have e1 : (kgo c lo hi off l ⟨lo, hi, -1, -1⟩ ((pre ++ [(⟨i, hix⟩ : Ix l)]).map (fun x => x.1))) = (⟨y0, s1, i, s3⟩, false) := by rw [HM.out]; exact HK.out
            exact ⟨K.others, K.kp, ⟨by rw [e1], by rw [e1]; exact K.inv, K.size⟩, K.below⟩
      · simp only [if_neg hC] at hk
        by_cases hD : y1 < s1
        · simp only [if_pos hD] at hk
          by_cases hE : y1 < s0
          · have HK := Lib.hid (hk.trans (congrArg (Prod.mk (⟨s0, y1, s2, i⟩ : KS)) (decide_eq_true hE)))
            clear hk
            gi_wp2_with (refine ⟨trivial, ?_⟩; gi_at_call 75; refine (CallsIn.inRound r (callsIn_wide.2 (hfit _))).mono ?_; rintro e w1 ⟨rfl, hb⟩; have r2 := (HI.out.2.2.1.later hb).blk; have r3 := (HI.out.2.2.2.later hb).blk; have r2c := r2.two; have r2f := r2.free2; have r3c := r3.two; have r3f := r3.free2; have z2 := r2.lt; have z3 := r3.lt)
            gi_region
            all_goals
              gi_wp2
              have K := ((((((((KAll.call HI.out hz hB hb).sx1 y1).sb1 i).sx0 s0).sx1 y1).sb0 s2).sb1 i).alloc (.cells #[.int .i64 y0, .int .i64 y1] 26) (B := W0.heap.size)).drew
              have e1 : (kgo c lo hi off l ⟨lo, hi, -1, -1⟩ ((pre ++ [(⟨i, hix⟩ : Ix l)]).map (fun x => x.1))) = (⟨s0, y1, s2, i⟩, true) := by rw [HM.out]; exact HK.out
              exact ⟨K.others, ⟨rfl, by rw [e1], by rw [e1]; exact K.inv⟩, K.below⟩
          · have HK := Lib.hid (hk.trans (congrArg (Prod.mk (⟨s0, y1, s2, i⟩ : KS)) (decide_eq_false hE)))
            clear hk
            gi_wp2_with (refine ⟨trivial, ?_⟩; gi_at_call 75; refine (CallsIn.inRound r (callsIn_wide.2 (hfit _))).mono ?_; rintro e w1 ⟨rfl, hb⟩; have r2 := (HI.out.2.2.1.later hb).blk; have r3 := (HI.out.2.2.2.later hb).blk; have r2c := r2.two; have r2f := r2.free2; have r3c := r3.two; have r3f := r3.free2; have z2 := r2.lt; have z3 := r3.lt)
            have K := (((KAll.call HI.out hz hB hb).sx1 y1).sb1 i).alloc (.cells #[.int .i64 y0, .int .i64 y1] 26) (B := W0.heap.size)
            have e1 : (kgo c lo hi off l ⟨lo, hi, -1, -1⟩ ((pre ++ [(⟨i, hix⟩ : Ix l)]).map (fun x => x.1))) = (⟨s0, y1, s2, i⟩, false) := by rw [HM.out]; exact HK.out
            exact ⟨K.others, K.kp, ⟨by rw [e1], by rw [e1]; exact K.inv, K.size⟩, K.below⟩
        · simp only [if_neg hD] at hk
          by_cases hE : s1 < s0
          · have HK := Lib.hid (hk.trans (congrArg (Prod.mk (⟨s0, s1, s2, s3⟩ : KS)) (decide_eq_true hE)))
            clear hk
            gi_wp2_with (refine ⟨trivial, ?_⟩; gi_at_call 75; refine (CallsIn.inRound r (callsIn_wide.2 (hfit _))).mono ?_; rintro e w1 ⟨rfl, hb⟩; have r2 := (HI.out.2.2.1.later hb).blk; have r3 := (HI.out.2.2.2.later hb).blk; have r2c := r2.two; have r2f := r2.free2; have r3c := r3.two; have r3f := r3.free2; have z2 := r2.lt; have z3 := r3.lt)
            gi_region
            all_goals
              gi_wp2
              have K := ((((((KAll.call HI.out hz hB hb).sx0 s0).sx1 s1).sb0 s2).sb1 s3).alloc (.cells #[.int .i64 y0, .int .i64 y1] 26) (B := W0.heap.size)).drew
              have e1 : (kgo c lo hi off l ⟨lo, hi, -1, -1⟩ ((pre ++ [(⟨i, hix⟩ : Ix l)]).map (fun x => x.1))) = (⟨s0, s1, s2, s3⟩, true) := by rw [HM.out]; exact HK.out
              exact ⟨K.others, ⟨rfl, by rw [e1], by rw [e1]; exact K.inv⟩, K.below⟩
          · have HK := Lib.hid (hk.trans (congrArg (Prod.mk (⟨s0, s1, s2, s3⟩ : KS)) (decide_eq_false hE)))
            clear hk
            gi_wp2_with (refine ⟨trivial, ?_⟩; gi_at_call 75; refine (CallsIn.inRound r (callsIn_wide.2 (hfit _))).mono ?_; rintro e w1 ⟨rfl, hb⟩; have r2 := (HI.out.2.2.1.later hb).blk; have r3 := (HI.out.2.2.2.later hb).blk; have r2c := r2.two; have r2f := r2.free2; have r3c := r3.two; have r3f := r3.free2; have z2 := r2.lt; have z3 := r3.lt)
            have K := (KAll.call HI.out hz hB hb).alloc (.cells #[.int .i64 y0, .int .i64 y1] 26) (B := W0.heap.size)
            have e1 : (kgo c lo hi off l ⟨lo, hi, -1, -1⟩ ((pre ++ [(⟨i, hix⟩ : Ix l)]).map (fun x => x.1))) = (⟨s0, s1, s2, s3⟩, false) := by rw [HM.out]; exact HK.out
            exact ⟨K.others, K.kp, ⟨by rw [e1], by rw [e1]; exact K.inv, K.size⟩, K.below⟩
  case done =>
    rintro D ys W hD hS ⟨⟨_, hI, hz⟩, hB⟩ hK
    have hst : (kgo c lo hi off l ⟨lo, hi, -1, -1⟩ (ys.map (fun x => x.1))).1 = knownF c lo hi off l := by rw [hS]; rfl
    rw [hst] at hI
    clear hst
    generalize hkn : knownF c lo hi off l = st at hI
    obtain ⟨s0, s1, s2, s3⟩ := st
    have HKN := Lib.hid hkn
    clear hkn
    have r2 := hI.2.2.1.blk
    have r3 := hI.2.2.2.blk
    have r2c := r2.two
    have r2f := r2.free2
    have r3c := r3.two
    have r3f := r3.free2
    have HK := Lib.hid hK
    have HI := Lib.hid hI
    have HB := Lib.hid hB
    clear hK hI hB k0 k1 k2 k3 k4 hB0 r2 r3
    dsimp only at r2c r3c
    gi_wp2
    gi_region
    all_goals
      gi_wp2
      have K := (((((KAll.call HI.out hz HB.out (Below.refl _ _)).sx0 s0).sx1 s1).sb0 s2).sb1 s3).drew (B := W0.heap.size)
      have hK' := K.others.same D _ hD HK.out rfl
      refine ⟨by simp, .inl ⟨_, _, rfl, run_takeDeferred hK', ?_⟩⟩
      have g2 := (K.inv.2.2.1.kept (grownBy_putObj' _ D (.deferred none)) (by intro e; cases e; omega)).blk.two
      have g3 := (K.inv.2.2.2.kept (grownBy_putObj' _ D (.deferred none)) (by intro e; cases e; omega)).blk.two
      refine ⟨.tuple #[.agg #[.int .i64 s0, .int .i64 s1], .agg #[.int .i64 s2, .int .i64 s3]], ?_, by rw [HKN.out], K.below.trans (belowK_b (w := w) (Nat.le_refl _) _ D _ _ (by omega) hK' rfl rfl)⟩
      simp [results, Try.f71, go_sem, g2, g3]
  case stop =>
    rintro D cc pre W hD ⟨k, hk, hp⟩ ⟨⟨rfl, hex, hI⟩, hB⟩ hK
    have hst : (kgo c lo hi off l ⟨lo, hi, -1, -1⟩ (pre.map (fun x => x.1))).1 = knownF c lo hi off l := by
      obtain ⟨q, hq⟩ := diffIx_more l k (l.length - k)
      rw [show k + (l.length - k) = l.length from by omega] at hq
      unfold knownF
      rw [hq, ← hp, kgo_more _ _ _ _ _ _ _ _ hex]
    rw [hst] at hI
    clear hst
    generalize hkn : knownF c lo hi off l = st at hI
    obtain ⟨s0, s1, s2, s3⟩ := st
    have HKN := Lib.hid hkn
    clear hkn
    gi_wp2
    refine ⟨by simp, .inl ⟨_, _, rfl, run_takeDeferred hK, ?_⟩⟩
    have g2 := (hI.2.2.1.kept (grownBy_putObj' _ D (.deferred none)) (by intro e; cases e; omega)).blk.two
    have g3 := (hI.2.2.2.kept (grownBy_putObj' _ D (.deferred none)) (by intro e; cases e; omega)).blk.two
    refine ⟨.tuple #[.agg #[.int .i64 s0, .int .i64 s1], .agg #[.int .i64 s2, .int .i64 s3]], ?_, by rw [HKN.out], hB.trans (belowK_b (w := w) (Nat.le_refl _) _ D _ _ (by omega) hK rfl rfl)⟩
    simp [results, Try.f71, go_sem, g2, g3]
end Go.Proofs.Ytphbiaagmhhhbaa
