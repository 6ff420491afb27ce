/- The least share: greatest over the ways to divide. -/
import Derived.Test.YtjncoableanmpaaLS
namespace Go.Proofs.Ytjncoableanmpaa
open Go.RowKit Go.Lib Go.Shelf
attribute [local go_sem] Oper.semAt_some
theorem eg56 : ∀ args w, (callFunc 56 args).run Try.prog w = .ok (.enter 56 args) w := enters_of Try.func56 (by kernel_rfl) rfl

/-- A share in Go. -/
abbrev shv (q : Rat) (v : Value) : Value := .agg #[.int .i64 q.num, .int .i64 (q.den : Int), v]
set_option maxRecDepth 100000 in
theorem div2_calls {p q : Rat} (hp : Sml p) (hq : Sml q) (u v : Sv) (w : World) : Gives 59 #[shv p u.v, shv q v.v] (.bool (decide (p < q))) w := by
  unfold Gives shv Sv.v
  have HC : ∀ W, Gives 53 #[.agg #[.int .i64 p.num, .int .i64 (p.den : Int)], .agg #[.int .i64 q.num, .int .i64 (q.den : Int)]] (.bool (decide (p < q))) W := less_calls (by unfold Sml at hp; omega) (by unfold Sml at hp; omega) (by unfold Sml at hq; omega) (by unfold Sml at hq; omega)
  generalize decide (p < q) = r at HC
  have HC := Lib.hid HC
  clear hp hq
  go_enter Try.func59, Try.ntmps59
  go_wp2_with (go_at_call 53; (with_reducible refine (Gives.c (HC.out _)).mono ?_); rintro e w1 ⟨rfl, hb⟩)
  go_ret
  exact ⟨rfl, (((Below.refl _ _).alloc (Nat.le_refl _) _).alloc (by simp) _).trans (hb.mono (by simp; omega))⟩

/-- The way so far. -/
def pickW (f : Nat → Sh) (b : Option Wy) (x : Wy) : Option Wy :=
  match b with
  | none => some x
  | some y => if (f x.1).1 < (f y.1).1 then some x else some y
def stW (f : Nat → Sh) (pre : List Wy) : Option Wy := pre.foldl (pickW f) none
theorem stW_snoc (f : Nat → Sh) (pre : List Wy) (x : Wy) : stW f (pre ++ [x]) = pickW f (stW f pre) x := by
  unfold stW
  rw [List.foldl_append]
  rfl
theorem stW_map (f : Nat → Sh) (pre : List Wy) : (stW f pre).map (fun x => f x.1) = leastS (pre.map (fun x => f x.1)) := by
  have key : ∀ (q p : List Wy), (stW f p).map (fun x => f x.1) = leastS (p.map (fun x => f x.1)) → (stW f (p ++ q)).map (fun x => f x.1) = leastS ((p ++ q).map (fun x => f x.1)) := by
    intro q
    induction q with
    | nil => intro p h; simpa using h
    | cons y q ih =>
      intro p h
      have := ih (p ++ [y]) ?_
      · simpa using this
      · rw [stW_snoc, List.map_append, show List.map (fun x => f x.1) [y] = [f y.1] from rfl, leastS_snoc, ← h]
        cases hs : stW f p with
        | none => rfl
        | some z =>
          show Option.map _ (if (f y.1).1 < (f z.1).1 then some y else some z) = (if (f y.1).1 < (f z.1).1 then some (f y.1) else some (f z.1))
          split <;> rfl
  simpa using key pre [] rfl
theorem stW_mem (f : Nat → Sh) (pre : List Wy) (x : Wy) (h : stW f pre = some x) : x ∈ pre := by
  have key : ∀ (q p : List Wy), (∀ x, stW f p = some x → x ∈ p) → ∀ x, stW f (p ++ q) = some x → x ∈ p ++ q := by
    intro q
    induction q with
    | nil => intro p h; simpa using h
    | cons y q ih =>
      intro p h
      have := ih (p ++ [y]) ?_
      · simpa using this
      · intro x hx
        rw [stW_snoc] at hx
        cases hs : stW f p with
        | none => rw [hs] at hx; cases hx; simp
        | some z =>
          rw [hs] at hx
          have hx : (if (f y.1).1 < (f z.1).1 then some y else some z) = some x := hx
          split at hx
          · cases hx; simp
          · cases hx; simp [h _ hs]
  have h2 := key pre [] (by intro x hx; cases hx) x (by simpa using h)
  simpa using h2

def wyCells (f : Nat → Sh) : Option Wy → List Value
  | none => [.int .i64 0, .int .i64 0, .slice none 0 0]
  | some x => [.int .i64 (f x.1).1.num, .int .i64 ((f x.1).1.den : Int), x.2.v]
def WInv (f : Nat → Sh) (w0 : Nat) (st : Option Wy) (W : World) : Prop :=
  Hp W w0 [.func (.func 59) #[] #[]] 109 ∧ Hp W (w0 + 1) (wyCells f st) 103 ∧ Hp W (w0 + 1 + 1) [.bool st.isSome] 4
theorem winv_own {β : Type} (f : Nat → Sh) (w0 : Nat) (g : β → Option Wy) : Own (fun s W => WInv f w0 (g s) W) := fun _ X Y row hs hg hr =>
  ⟨hp_own w0 109 (fun (_ : Unit) => _) () X Y row hs.1 hg hr, hp_own (w0 + 1) 103 (fun (_ : Unit) => _) () X Y row hs.2.1 hg hr, hp_own (w0 + 1 + 1) 4 (fun (_ : Unit) => _) () X Y row hs.2.2 hg hr⟩
theorem rd_own {β : Type} (g : β → Sv) (h : β → List Int) : Own (fun s W => (g s).Rd W (h s)) := fun s X Y row hs hg hr => by
  refine ⟨⟨hs.1.1, hs.1.2.1, fun h0 => ?_⟩, hs.2⟩
  obtain ⟨b, o, e, hc⟩ := hs.1.2.2 h0
  exact ⟨b, o, e, fun j hj => cell_kept (hc j hj) hg hr⟩
/-- A way is stored as the one so far. -/
def putWy (f : Nat → Sh) (w0 : Nat) (x : Wy) (W : World) : World :=
  (((W.setCell ⟨w0 + 1, 0, none⟩ (.int .i64 (f x.1).1.num)).setCell ⟨w0 + 1, 1, none⟩ (.int .i64 ((f x.1).1.den : Int))).setCell ⟨w0 + 1, 2, none⟩ x.2.v).setCell ⟨w0 + 1 + 1, 0, none⟩ (.bool true)
theorem wstep {f : Nat → Sh} {w0 : Nat} {st : Option Wy} {W : World} (h : WInv f w0 st W) (x : Wy) : WInv f w0 (some x) (putWy f w0 x W) := by
  obtain ⟨h1, h2, h3⟩ := h
  refine ⟨?_, ?_, ?_⟩
  · exact (((h1.other (by omega) _ _).other (by omega) _ _).other (by omega) _ _).other (by omega) _ _
  · cases st with
    | none => exact (((h2.set 0 _).set 1 _).set 2 _).other (by omega) _ _
    | some y => exact (((h2.set 0 _).set 1 _).set 2 _).other (by omega) _ _
  · exact (((h3.other (by omega) _ _).other (by omega) _ _).other (by omega) _ _).set 0 _
theorem kp_putW {f : Nat → Sh} {w0 : Nat} {W W' : World} (h : KpG w0 (w0 + 5) 0 W W') (x : Wy) : KpG w0 (w0 + 5) 0 W (putWy f w0 x W') :=
  (((h.setCell (by omega) (by omega) _).setCell (by omega) (by omega) _).setCell (by omega) (by omega) _).setCell (by omega) (by omega) _
theorem keeps_putW {f : Nat → Sh} {w0 B : Nat} {W W' : World} (h : KeepsFrom B W W') (x : Wy) : KeepsFrom B W (putWy f w0 x W') :=
  (((h.trans ((KeepsOthers.setCell _ _ _).from _)).trans ((KeepsOthers.setCell _ _ _).from _)).trans ((KeepsOthers.setCell _ _ _).from _)).trans ((KeepsOthers.setCell _ _ _).from _)
theorem rd_kp {s : Sv} {n₀ B : Nat} {W W' : World} {xs : List Int} (h : s.Rd W xs) (hk : KpG n₀ B 0 W W') (hB : B ≤ s.b) (hB0 : 0 < B) : s.Rd W' xs := by
  refine ⟨⟨h.1.1, h.1.2.1, fun h0 => ?_⟩, h.2⟩
  obtain ⟨b, o, e, hc⟩ := h.1.2.2 h0
  cases e
  refine ⟨s.b, s.o, rfl, fun j hj => ?_⟩
  have hlt := World.block_lt_of_cell? W _ (hc j hj)
  rw [World.cell?_of_block (w := W) (w' := W') (a := ⟨s.b, s.o + j, none⟩)]
  · exact hc j hj
  · have hg := Array.getElem?_eq_getElem hlt
    rw [hk.high s.b _ hB (by omega) hg, hg]
/-- What is known of the way so far. -/
def KeepW (f : Nat → Sh) (B : Nat) (st : Option Wy) (W : World) : Prop := ∀ x, st = some x → (x.2.Rd W (f x.1).2 ∧ B ≤ x.2.b) ∧ Sml (f x.1).1
theorem keepW_own {β : Type} (f : Nat → Sh) (B : Nat) (g : β → Option Wy) : Own (fun s W => KeepW f B (g s) W) := fun _ X Y row hs hg hr x hx =>
  ⟨⟨rd_own (fun (_ : Unit) => x.2) (fun _ => (f x.1).2) () X Y row (hs x hx).1.1 hg hr, (hs x hx).1.2⟩, (hs x hx).2⟩
theorem KeepW.later {f : Nat → Sh} {B : Nat} {st : Option Wy} {W W' : World} (h : KeepW f B st W) (hb : Below W.heap.size W W') : KeepW f B st W' := fun x hx => ⟨⟨(h x hx).1.1.later hb, (h x hx).1.2⟩, (h x hx).2⟩
theorem KeepW.one {f : Nat → Sh} {n₀ B : Nat} {x : Wy} {W W' : World} (h1 : x.2.Rd W (f x.1).2 ∧ B ≤ x.2.b) (h2 : Sml (f x.1).1) (hk : KpG n₀ B 0 W W') (hB : 0 < B) : KeepW f B (some x) W' := fun y hy => by
  cases hy
  exact ⟨⟨rd_kp h1.1 hk h1.2 hB, h1.2⟩, h2⟩

set_option maxRecDepth 100000 in
set_option maxHeartbeats 8000000 in
theorem least_calls {l : List Cd} {n Ba Bh B13 B14 B8 B11 : Nat} {Bs : Nat → Nat} {tb : Nat → Sh} {sv : Nat → Sv} {p e : Nat} (w : World) (hw : WEnv l n Ba Bh B13 B14 B8 B11 Bs tb sv p e w) (hp : 2 ≤ p) (he : p ≤ e) (hen : e ≤ n) (hn : n ≤ 24)
    (htb : ∀ k, 1 ≤ k → k ≤ n → Sml (tb k).1 ∧ (tb k).2.length ≤ 28) (hal : ∀ j k, j < k → k ≤ n → Sml (alo l j k)) :
    Calls Try.prog 58 #[.func (.func 56) #[] #[.pointer (some ⟨B13, 0, none⟩), .pointer (some ⟨B14, 0, none⟩), .pointer (some ⟨B8, 0, none⟩), .pointer (some ⟨B11, 0, none⟩)], .func (.func 59) #[] #[]] w
      fun e' w' => (∃ (r : Sh) (s : Sv), leastS ((List.range' (p - 1) (e - (p - 1))).map (wayF l tb e)) = some r ∧ e' = .returned (.tuple #[shv r.1 s.v, .bool true]) ∧ s.Rd w' r.2 ∧ w.heap.size ≤ s.b) ∧ Below w.heap.size w w' := by
  obtain ⟨f, hf⟩ : ∃ f, wayF l tb e = f := ⟨_, rfl⟩
  have hseq := fun (B : Nat) => ways_seq w.heap.size B w hw rfl hp he hen hn htb hal
  have hsm : ∀ k, p - 1 ≤ k → k < e → Sml (f k).1 := fun k h1 h2 => by
    rw [← hf]
    unfold wayF
    dsimp only
    split
    · exact (htb k (by omega) (by omega)).1
    · exact hal k e h2 hen
  have hpx : ∀ B x W, PxW l tb p e B x W → (p - 1 ≤ x.1 ∧ x.1 < e) ∧ x.2.Rd W (f x.1).2 ∧ B ≤ x.2.b := fun B x W h => by
    rw [← hf]; exact h
  have hec : ∀ x, encW l tb e x = #[shv (f x.1).1 x.2.v] := fun x => by rw [← hf]; rfl
  rw [hf]
  have HSM := Lib.hid hsm
  have HPX := Lib.hid hpx
  have HEC := Lib.hid hec
  clear hw htb hal hsm hpx hec
  refine (callsIn_wide (n := 8)).1 ?_
  refine callsIn_of_wp_marks Try.func58 rfl trivial ?_ rfl
  simp only [Try.ntmps58, List.size_toArray, List.length_cons, List.length_nil, Nat.reduceAdd, Nat.reduceSub, Array.replicate_succ, Array.replicate_zero, List.push_toArray, List.append_toArray, List.nil_append, List.cons_append]
  gi_wp2_with fail
  have k0 : WInv f w.heap.size none (((w.alloc (.cells #[.func (.func 59) #[] #[]] 109)).alloc (.cells #[.int .i64 0, .int .i64 0, .slice none 0 0] 103)).alloc (.cells #[.bool false] 4)) :=
    ⟨((Hp.new w [.func (.func 59) #[] #[]] 109).alloc _).alloc _, Hp.alloc (by simpa [wyCells] using Hp.new (w.alloc _) (wyCells f none) 103) _, by simpa using Hp.new ((w.alloc _).alloc _) [.bool false] 4⟩
  have hB0 : Below w.heap.size w (((w.alloc (.cells #[.func (.func 59) #[] #[]] 109)).alloc (.cells #[.int .i64 0, .int .i64 0, .slice none 0 0] 103)).alloc (.cells #[.bool false] 4)) := by go_grown
  have hsz : (((w.alloc (.cells #[.func (.func 59) #[] #[]] 109)).alloc (.cells #[.int .i64 0, .int .i64 0, .slice none 0 0] 103)).alloc (.cells #[.bool false] 4)).heap.size = w.heap.size + 3 := by simp
  generalize (((w.alloc (.cells #[.func (.func 59) #[] #[]] 109)).alloc (.cells #[.int .i64 0, .int .i64 0, .slice none 0 0] 103)).alloc (.cells #[.bool false] 4)) = W0 at k0 hB0 hsz ⊢
  refine range_ownP (α := Wy) (a := { tmps := #[Value.func (Fn.func 56) #[] #[.pointer (some ⟨B13, 0, none⟩), .pointer (some ⟨B14, 0, none⟩), .pointer (some ⟨B8, 0, none⟩), .pointer (some ⟨B11, 0, none⟩)], Value.func (Fn.func 59) #[] #[], undef, Value.pointer (some ⟨w.heap.size, 0, none⟩), Value.pointer (some ⟨w.heap.size + 1, 0, none⟩), Value.pointer (some ⟨w.heap.size + 1 + 1, 0, none⟩), undef, Value.func (Fn.func 56) #[] #[.pointer (some ⟨B13, 0, none⟩), .pointer (some ⟨B14, 0, none⟩), .pointer (some ⟨B8, 0, none⟩), .pointer (some ⟨B11, 0, none⟩)], undef, undef, undef, undef, undef, undef, undef, undef, undef, undef, undef, undef], defers := [] }) (n₀ := w.heap.size) (B := w.heap.size + 5) (rx := 0) (N := 100000) rfl eg56 (by omega) (.inl (by omega)) (by omega) (hseq (w.heap.size + 5)) hB0 (fun _ => rfl)
    (fun pre W' => (WInv f w.heap.size (stW f pre) W' ∧ KeepW f (w.heap.size + 5) (stW f pre) W') ∧ (Below w.heap.size w W' ∧ w.heap.size + 2 < W'.heap.size))
    (OwnFrom.and (OwnFrom.and (Own.from (winv_own f _ _) _) (Own.from (keepW_own f _ _) _)) (OwnFrom.and (ownFrom_below (Nat.le_refl _) (by omega)) (fun _ _ _ _ hs hg _ => Nat.lt_of_lt_of_le hs hg.size)))
    ⟨⟨k0, fun x hx => by cases hx⟩, hB0, by omega⟩
    (fun x a' W' => (∃ Bx, w.heap.size + 2 < Bx ∧ Hp W' Bx (wyCells f (some x)) 103 ∧ a' = { tmps := #[Value.func (Fn.func 56) #[] #[.pointer (some ⟨B13, 0, none⟩), .pointer (some ⟨B14, 0, none⟩), .pointer (some ⟨B8, 0, none⟩), .pointer (some ⟨B11, 0, none⟩)], Value.func (Fn.func 59) #[] #[], undef, Value.pointer (some ⟨w.heap.size, 0, none⟩), Value.pointer (some ⟨w.heap.size + 1, 0, none⟩), Value.pointer (some ⟨w.heap.size + 1 + 1, 0, none⟩), Value.pointer (some ⟨Bx, 0, none⟩), Value.func (Fn.func 56) #[] #[.pointer (some ⟨B13, 0, none⟩), .pointer (some ⟨B14, 0, none⟩), .pointer (some ⟨B8, 0, none⟩), .pointer (some ⟨B11, 0, none⟩)], shv (f x.1).1 x.2.v, undef, undef, undef, undef, undef, undef, undef, undef, undef, undef, undef], defers := [] }) ∧ (x.2.Rd W' (f x.1).2 ∧ w.heap.size + 5 ≤ x.2.b) ∧ Sml (f x.1).1)
    (fun x a' _ X Y row hs hg hr => by obtain ⟨⟨Bx, h1, h2, h3⟩, h4, h5⟩ := hs; exact ⟨⟨Bx, h1, hp_own Bx 103 (fun (_ : Unit) => wyCells f (some x)) () X Y row h2 hg (fun r e => (hr r e).2), h3⟩, ⟨rd_own (fun (_ : Unit) => x.2) (fun _ => (f x.1).2) () X Y row h4.1 hg (fun r e => (hr r e).2), h4.2⟩, h5⟩)
    ?assign ?body ?done
  case assign =>
    rintro l' pre x W' K ⟨⟨h1, h1b⟩, hB, hs⟩ hpx hK
    rw [HEC.out]
    have hpx := HPX.out _ _ _ hpx
    have hsmx := HSM.out _ hpx.1.1 hpx.1.2
    gi_wp2
    exact hK _ _ ((KeepsOthers.alloc _ _).from _) ((KpG.refl _ _ _ _).alloc (by omega) _) ⟨⟨⟨h1.1.alloc _, h1.2.1.alloc _, h1.2.2.alloc _⟩, h1b.later ((Below.refl _ _).alloc (Nat.le_refl _) _)⟩, hB.alloc (by omega) _, by simp; omega⟩ ⟨⟨W'.heap.size, hs, Hp.new W' _ 103, rfl⟩, ⟨hpx.2.1.later ((Below.refl _ _).alloc (Nat.le_refl _) _), hpx.2.2⟩, hsmx⟩
  case body =>
    rintro l' pre x a' W' ⟨⟨h1, h1b⟩, hB', hs⟩ ⟨⟨Bx, hBx, bX, rfl⟩, hrx, hsx⟩ hlen
    have hsn := stW_snoc f pre x
    generalize hst : stW f pre = st at h1 h1b hsn
    have HSN := Lib.hid hsn
    have q1 : W'.cell? ⟨w.heap.size, 0, none⟩ = some (.func (.func 59) #[] #[]) := h1.1.cell rfl
    have q3 : W'.cell? ⟨w.heap.size + 1 + 1, 0, none⟩ = some (.bool st.isSome) := h1.2.2.cell rfl
    have f3 := h1.2.2.free 0
    have z3 := h1.2.2.lt
    have qx : W'.cell? ⟨Bx, 0, none⟩ = _ ∧ _ := bX.blk.three
    have f20 := h1.2.1.free 0
    have f21 := h1.2.1.free 1
    have f22 := h1.2.1.free 2
    have z2 := h1.2.1.lt
    have H1 := Lib.hid h1
    have H1B := Lib.hid h1b
    have HB' := Lib.hid hB'
    have HRX := Lib.hid hrx
    have HSX := Lib.hid hsx
    clear hsn h1 hB' h1b hrx hsx hst
    cases st with
    | none =>
      have q2 : W'.cell? ⟨w.heap.size + 1, 0, none⟩ = _ ∧ _ := H1.out.2.1.blk.three
      dsimp only [Option.isSome] at q3
      gi_wp2_with fail
      refine ⟨(fun _ h => by cases h), ?_⟩
      gi_wp2_with fail
      rw [HSN.out]
      have kk : KpG w.heap.size (w.heap.size + 5) 0 W' (putWy f w.heap.size x W') := kp_putW (KpG.refl _ _ _ _) x
      have e : pickW f none x = some x := rfl
      rw [e]
      exact ⟨keeps_putW (KeepsFrom.refl _ _) x, kk, ⟨wstep H1.out x, KeepW.one HRX.out HSX.out kk (by omega)⟩, HB'.out.trans kk.low⟩
    | some y =>
      have hky := H1B.out y rfl
      have HC : ∀ X, Gives 59 #[shv (f x.1).1 x.2.v, shv (f y.1).1 y.2.v] (.bool (decide ((f x.1).1 < (f y.1).1))) X := div2_calls HSX.out hky.2 x.2 y.2
      have q2 : W'.cell? ⟨w.heap.size + 1, 0, none⟩ = _ ∧ _ := H1.out.2.1.blk.three
      dsimp only [Option.isSome] at q3
      cases hd : decide ((f x.1).1 < (f y.1).1) with
      | true =>
        rw [hd] at HC
        have HC := Lib.hid HC
        have e : pickW f (some y) x = some x := if_pos (of_decide_eq_true hd)
        have HE := Lib.hid e
        clear hky e
        gi_wp2_with (refine ⟨trivial, ?_⟩; gi_at_call 59; (with_reducible refine (CallsIn.inRound l' (callsIn_wide.2 (Gives.c (HC.out _)))).mono ?_); rintro e w1 ⟨rfl, hb⟩; replace qx := (bX.later hb).blk.three; have q2 := (H1.out.2.1.later hb).blk.three; have f20 := (H1.out.2.1.later hb).free 0; have f21 := (H1.out.2.1.later hb).free 1; have f22 := (H1.out.2.1.later hb).free 2; have z2 := (H1.out.2.1.later hb).lt; have q3 := (H1.out.2.2.later hb).blk.one; have f3 := (H1.out.2.2.later hb).free 0; have z3 := (H1.out.2.2.later hb).lt)
        rw [HSN.out, HE.out]
        have kk : KpG w.heap.size (w.heap.size + 5) 0 W' (putWy f w.heap.size x w1) := kp_putW (KpG.of_below HB'.out.size hb) x
        exact ⟨keeps_putW (keeps_below hb) x, kk, ⟨wstep (st := some y) ⟨H1.out.1.later hb, H1.out.2.1.later hb, H1.out.2.2.later hb⟩ x, KeepW.one HRX.out HSX.out kk (by omega)⟩, HB'.out.trans kk.low⟩
      | false =>
        rw [hd] at HC
        have HC := Lib.hid HC
        have e : pickW f (some y) x = some y := if_neg (of_decide_eq_false hd)
        have HE := Lib.hid e
        clear hky e
        gi_wp2_with (refine ⟨trivial, ?_⟩; gi_at_call 59; (with_reducible refine (CallsIn.inRound l' (callsIn_wide.2 (Gives.c (HC.out _)))).mono ?_); rintro e w1 ⟨rfl, hb⟩)
        rw [HSN.out, HE.out]
        exact ⟨keeps_below hb, KpG.of_below HB'.out.size hb, ⟨⟨H1.out.1.later hb, H1.out.2.1.later hb, H1.out.2.2.later hb⟩, H1B.out.later hb⟩, HB'.out.trans (hb.mono HB'.out.size), Nat.lt_of_lt_of_le hs hb.size⟩
  case done =>
    rintro D ys W' hD hS ⟨⟨h1, h1b⟩, hB', hs⟩ hK
    have hmap := stW_map f ys
    have hmm : ys.map (fun x => f x.1) = (List.range' (p - 1) (e - (p - 1))).map f := by rw [← hS, List.map_map]; rfl
    rw [hmm] at hmap
    cases hst : stW f ys with
    | none =>
      rw [hst] at hmap
      rcases leastS_spec ((List.range' (p - 1) (e - (p - 1))).map f) with ⟨h, _⟩ | ⟨b, h, _⟩
      · rw [List.map_eq_nil_iff] at h
        have := congrArg List.length h
        simp at this
        omega
      · rw [h] at hmap
        cases hmap
    | some y =>
      rw [hst] at hmap h1 h1b
      have hky := h1b y rfl
      have HMAP := Lib.hid (show leastS _ = some (f y.1) from hmap.symm)
      have q2 : W'.cell? ⟨w.heap.size + 1, 0, none⟩ = _ ∧ _ := h1.2.1.blk.three
      have f20 := h1.2.1.free 0
      have f21 := h1.2.1.free 1
      have f22 := h1.2.1.free 2
      have q3 : W'.cell? ⟨w.heap.size + 1 + 1, 0, none⟩ = some (.bool true) := h1.2.2.cell rfl
      have f3 := h1.2.2.free 0
      have z2 := h1.2.1.lt
      have z3 := h1.2.2.lt
      have HK := Lib.hid hK
      have HI := Lib.hid h1
      have HB := Lib.hid hB'
      have HKY := Lib.hid hky
      clear hK h1 hB' k0 hB0 h1b hky hmap hmm hst
      gi_wp2
      gi_region
      all_goals
        gi_wp2
        have kk : KpG w.heap.size (w.heap.size + 5) 0 W' (putWy f w.heap.size y W') := kp_putW (KpG.refl _ _ _ _) y
        have kg := wstep HI.out y
        have krd := rd_kp HKY.out.1.1 kk HKY.out.1.2 (by omega)
        have kd := (keeps_putW (f := f) (w0 := w.heap.size) (KeepsFrom.refl W0.heap.size W') y).same D _ hD HK.out rfl
        change bodyPostM _ _ _ _ _ _ _ (putWy f w.heap.size y W').drew
        generalize putWy f w.heap.size y W' = wf at kk kg kd krd
        refine ⟨by simp, .inl ⟨_, _, rfl, run_takeDeferred (w := wf.drew) kd, ?_⟩⟩
        have G2 : Hp (wf.drew.putObj D (.deferred none)) (w.heap.size + 1) (wyCells f (some y)) 103 := (kg.2.1.drewN 1).kept (grownBy_putObj' _ D (.deferred none)) (by intro e; cases e; omega)
        have G3 : Hp (wf.drew.putObj D (.deferred none)) (w.heap.size + 1 + 1) [.bool true] 4 := (kg.2.2.drewN 1).kept (grownBy_putObj' _ D (.deferred none)) (by intro e; cases e; omega)
        have GR : y.2.Rd (wf.drew.putObj D (.deferred none)) (f y.1).2 := rd_own (fun (_ : Unit) => y.2) (fun _ => (f y.1).2) () wf.drew _ (some D) (krd.later (Below.refl _ _).drew) (grownBy_putObj' _ D (.deferred none)) (fun r e => by cases e; exact ⟨_, kd, rfl⟩)
        have g2 : (wf.drew.putObj D (.deferred none)).cell? ⟨w.heap.size + 1, 0, none⟩ = _ ∧ _ := G2.blk.three
        have g3 := G3.blk.one
        refine ⟨.tuple #[shv (f y.1).1 y.2.v, .bool true], ?_, ⟨f y.1, y.2, HMAP.out, rfl, GR, by have := HKY.out.1.2; omega⟩, ((HB.out.trans kk.low).drew).trans (belowK_b (w := w) (Nat.le_refl _) _ D _ _ (by omega) (show wf.drew.heap[D]? = _ from kd) rfl rfl)⟩
        simp [results, Try.f58, go_sem, g2, g3]
end Go.Proofs.Ytjncoableanmpaa
