/- Next where there is a strip: a good one. -/
import Derived.Test.YtpnkbjdeiedhlaaLU
namespace Go.Proofs.Ytpnkbjdeiedhlaa
open Go.RowKit Go.Lib Go.Shelf
open St
attribute [local go_sem] Oper.semAt_some

theorem Held.hp {w : World} {B : Nat} {cs : List Value} {t : TypeId} (h : Hp w B cs t) : Held w (fun W => Hp W B cs t) := fun _ hW => h.later hW
theorem Held.allocH {w : World} {P : World → Prop} (h : Held w P) (cs : List Value) (t : TypeId) : Held (w.alloc (.cells cs.toArray t)) (fun W => P W ∧ Hp W w.heap.size cs t) := (h.alloc _).with (.hp (Hp.new w cs t))
/-- The boxes of Next. -/
structure EnvN (w0 : World) (rc : List Value) (s : St) (nd S Nn P B : Nat) (W : World) : Prop where
  hr : Hp W w0.heap.size rc 24
  h2 : Hp W (w0.heap.size + 1) [.slice none 0 0] 31
  h3 : Hp W (w0.heap.size + 1 + 1) [.int .i64 0] 3
  h4 : Hp W (w0.heap.size + 1 + 1 + 1) [.int .i64 0] 32
  hs : Hp W S s.cs 80
  hn : Hp W Nn [.int .i64 (nd : Int)] 3
  hp : Hp W P [.map (some B)] 97
  hne : w0.heap.size + 1 + 1 + 1 < S ∧ S < Nn ∧ Nn < B ∧ B < P
  hg : Below w0.heap.size w0 W
theorem EnvN.grown {w0 : World} {rc : List Value} {s : St} {nd S Nn P B : Nat} {W X : World} (h : EnvN w0 rc s nd S Nn P B W) (hg : W.grownBy X (some B)) : EnvN w0 rc s nd S Nn P B X := by
  have hn := h.hne
  have hk : ∀ k, k ≠ B → some k ≠ some B := fun k hk e => hk (by cases e; rfl)
  exact ⟨h.hr.kept hg (hk _ (by omega)), h.h2.kept hg (hk _ (by omega)), h.h3.kept hg (hk _ (by omega)), h.h4.kept hg (hk _ (by omega)), h.hs.kept hg (hk _ (by omega)), h.hn.kept hg (hk _ (by omega)), h.hp.kept hg (hk _ (by omega)), hn, h.hg.grown hg h.hg.size (fun k e => by cases e; omega)⟩
theorem EnvN.own {β : Type} {w0 : World} {rc : List Value} {s : St} {nd S Nn P B b : Nat} (hb : w0.heap.size ≤ b) : OwnFrom b (fun (_ : β) W => EnvN w0 rc s nd S Nn P B W) := by
  intro _ X Y row h hg hr
  have hne : ∀ k cs t, Hp X k cs t → some k ≠ row := fun k cs t hk e => by
    obtain ⟨_, o, ho, hc⟩ := hr k e.symm
    rw [show X.heap[k]? = _ from hk] at ho
    cases ho
    cases hc
  exact ⟨h.hr.kept hg (hne _ _ _ h.hr), h.h2.kept hg (hne _ _ _ h.h2), h.h3.kept hg (hne _ _ _ h.h3), h.h4.kept hg (hne _ _ _ h.h4), h.hs.kept hg (hne _ _ _ h.hs), h.hn.kept hg (hne _ _ _ h.hn), h.hp.kept hg (hne _ _ _ h.hp), h.hne,
    h.hg.grown hg h.hg.size (fun k e => Nat.le_trans hb (hr k e).1)⟩
theorem cells_obj {W : World} {b o : Nat} {v : Value} (h : W.cell? ⟨b, o, none⟩ = some v) : ∃ ob, W.heap[b]? = some ob ∧ ob.isCells = true := by
  cases hb : W.heap[b]? with
  | none => simp [World.cell?, hb] at h
  | some ob =>
    cases ob <;> simp [World.cell?, hb, Obj.isCells] at h ⊢
theorem Reads.own {β : Type} {A : Option Addr} {n : Nat} {l : List Int} {b : Nat} : OwnFrom b (fun (_ : β) W => Reads W A n l) := by
  intro _ X Y row h hg hr
  refine ⟨h.1, h.2.1, fun h0 => ?_⟩
  obtain ⟨k, off, e, hc⟩ := h.2.2 h0
  refine ⟨k, off, e, fun j hj => ?_⟩
  have h1 := hc j hj
  rw [← h1]
  refine World.cell?_of_block (a := ⟨k, off + j, none⟩) (hg.block k (World.block_lt_of_cell? X _ h1) (fun e' => ?_))
  obtain ⟨_, o, ho, hco⟩ := hr k e'.symm
  obtain ⟨ob, h2, h3⟩ := cells_obj h1
  rw [h2] at ho
  cases ho
  rw [h3] at hco
  cases hco
theorem hp_ownF {β : Type} {B b : Nat} {t : TypeId} {cs : List Value} : OwnFrom b (fun (_ : β) W => Hp W B cs t) := by
  intro _ X Y row h hg hr
  refine h.kept hg (fun e => ?_)
  obtain ⟨_, o, ho, hc⟩ := hr B e.symm
  rw [show X.heap[B]? = _ from h] at ho
  cases ho
  cases hc

/-- Between two operations of region 8. -/
def Inv8 (W : World) (m nd B : Nat) (s x z y1 y2 : St) (r1 r2 c4 : Bool) (Fr : Value → Value → Value → Value → Value → Value → Value → Value → Value → Value → Value → Value → Value → Value → Value → Value → Value → Value → Act) (Lst : Nat → Bool) (a : Act) (X : World) : Prop := ∃ t24 t25 t26 t27 t28 t29 t30 t31 t32 t33 t34 t35 t36 t37 t38 t39 t40 t41 : Value, a = Fr t24 t25 t26 t27 t28 t29 t30 t31 t32 t33 t34 t35 t36 t37 t38 t39 t40 t41 ∧ (W.grownBy X (some B) ∧ Mq m B X) ∧ ((Lst 0 = true → t24 = pv B) ∧ (Lst 1 = true → t25 = s.v) ∧ (Lst 2 = true → t26 = x.v) ∧ (Lst 3 = true → t27 = y1.v) ∧ (Lst 4 = true → t28 = .int .i64 (nd : Int)) ∧ (Lst 5 = true → t29 = .int .i64 (m : Int))) ∧ ((Lst 6 = true → t30 = .bool r1) ∧ (Lst 7 = true → t31 = .bool r1) ∧ (Lst 8 = true → r1 = true → t32 = pv B) ∧ (Lst 9 = true → r1 = true → t33 = s.v) ∧ (Lst 10 = true → r1 = true → t34 = s.v) ∧ (Lst 11 = true → r1 = true → t35 = x.v)) ∧ ((Lst 12 = true → r1 = true → t36 = z.v) ∧ (Lst 13 = true → r1 = true → t37 = y2.v) ∧ (Lst 14 = true → r1 = true → t38 = .int .i64 (nd : Int)) ∧ (Lst 15 = true → r1 = true → t39 = .int .i64 (m : Int)) ∧ (Lst 16 = true → r1 = true → t40 = .bool r2) ∧ (Lst 17 = true → t41 = .bool c4))
/-- The boxes while the results are written. -/
structure FinN (w0 : World) (rc : List Value) (s : St) (S Bx : Nat) (x : St) (W0 W : World) (v2 v3 : Value) (X : World) : Prop where
  hr : Hp X w0.heap.size rc 24
  hs : Hp X S s.cs 80
  hx : Hp X Bx x.cs 80
  h2 : Hp X (w0.heap.size + 1) [v2] 31
  h3 : Hp X (w0.heap.size + 1 + 1) [v3] 3
  h4 : Hp X (w0.heap.size + 1 + 1 + 1) [.int .i64 0] 32
  hd : w0.heap.size + 1 + 1 + 1 < S ∧ w0.heap.size + 1 + 1 + 1 < Bx ∧ w0.heap.size + 1 + 1 + 1 < W0.heap.size
  hg : Below w0.heap.size w0 X
  hk : KeepsFrom W0.heap.size W X
  hz : W0.heap.size ≤ W.heap.size ∧ W.heap.size ≤ X.heap.size
theorem FinN.later {w0 : World} {rc : List Value} {s : St} {S Bx : Nat} {x : St} {W0 W : World} {v2 v3 : Value} {X Y : World} (h : FinN w0 rc s S Bx x W0 W v2 v3 X) (hb : Below X.heap.size X Y) : FinN w0 rc s S Bx x W0 W v2 v3 Y :=
  ⟨h.hr.later hb, h.hs.later hb, h.hx.later hb, h.h2.later hb, h.h3.later hb, h.h4.later hb, h.hd, h.hg.trans (hb.mono h.hg.size), h.hk.trans (KeepsFrom.of_grownBy (grow_of hb none) (fun _ e => by cases e)), h.hz.1, Nat.le_trans h.hz.2 hb.size⟩
theorem FinN.set2 {w0 : World} {rc : List Value} {s : St} {S Bx : Nat} {x : St} {W0 W : World} {v2 v3 : Value} {X : World} (h : FinN w0 rc s S Bx x W0 W v2 v3 X) (v : Value) : FinN w0 rc s S Bx x W0 W v v3 (X.setCell ⟨w0.heap.size + 1, 0, none⟩ v) := by
  have hd := h.hd
  exact ⟨h.hr.other (by omega) 0 v, h.hs.other (by omega) 0 v, h.hx.other (by omega) 0 v, h.h2.set 0 v, h.h3.other (by omega) 0 v, h.h4.other (by omega) 0 v, hd, h.hg.setCell (p := ⟨w0.heap.size + 1, 0, none⟩) (by show w0.heap.size ≤ w0.heap.size + 1; omega) v, h.hk.trans (KeepsFrom.of_grownBy (grown_cell X _ 0 v) (fun j e => by cases e; omega)), h.hz.1, by simpa using h.hz.2⟩
theorem FinN.set3 {w0 : World} {rc : List Value} {s : St} {S Bx : Nat} {x : St} {W0 W : World} {v2 v3 : Value} {X : World} (h : FinN w0 rc s S Bx x W0 W v2 v3 X) (v : Value) : FinN w0 rc s S Bx x W0 W v2 v (X.setCell ⟨w0.heap.size + 1 + 1, 0, none⟩ v) := by
  have hd := h.hd
  exact ⟨h.hr.other (by omega) 0 v, h.hs.other (by omega) 0 v, h.hx.other (by omega) 0 v, h.h2.other (by omega) 0 v, h.h3.set 0 v, h.h4.other (by omega) 0 v, hd, h.hg.setCell (p := ⟨w0.heap.size + 1 + 1, 0, none⟩) (by show w0.heap.size ≤ w0.heap.size + 1 + 1; omega) v, h.hk.trans (KeepsFrom.of_grownBy (grown_cell X _ 0 v) (fun j e => by cases e; omega)), h.hz.1, by simpa using h.hz.2⟩
theorem FinN.set4 {w0 : World} {rc : List Value} {s : St} {S Bx : Nat} {x : St} {W0 W : World} {v2 v3 : Value} {X : World} (h : FinN w0 rc s S Bx x W0 W v2 v3 X) : FinN w0 rc s S Bx x W0 W v2 v3 (X.setCell ⟨w0.heap.size + 1 + 1 + 1, 0, none⟩ (.int .i64 0)) := by
  have hd := h.hd
  exact ⟨h.hr.other (by omega) 0 _, h.hs.other (by omega) 0 _, h.hx.other (by omega) 0 _, h.h2.other (by omega) 0 _, h.h3.other (by omega) 0 _, h.h4.set 0 _, hd, h.hg.setCell (p := ⟨w0.heap.size + 1 + 1 + 1, 0, none⟩) (by show w0.heap.size ≤ w0.heap.size + 1 + 1 + 1; omega) _, h.hk.trans (KeepsFrom.of_grownBy (grown_cell X _ 0 _) (fun j e => by cases e; omega)), h.hz.1, by simpa using h.hz.2⟩
theorem Reads.otherB {w : World} {A : Option Addr} {n : Nat} {l : List Int} {B b : Nat} (h : Reads w A n l) (hf : ∀ p, A = some p → b ≤ p.block) (hB : B < b) (i : Nat) (v : Value) : Reads (w.setCell ⟨B, i, none⟩ v) A n l := by
  refine ⟨h.1, h.2.1, fun h0 => ?_⟩
  obtain ⟨k, off, e, hc⟩ := h.2.2 h0
  refine ⟨k, off, e, fun j hj => ?_⟩
  have := hf _ e
  rw [World.cell?_setCell_other _ _ _ _ (by intro e'; cases e'; simp at this; omega)]
  exact hc j hj
/-- Between two operations of region 9. -/
def Inv9 (w : World) (rc : List Value) (s : St) (S Bx : Nat) (x : St) (W0 W : World) (lst : List Int) (lf : Nat) (Fr : Value → Value → Value → Value → Value → Value → Act) (Lst : Nat → Bool) (a : Act) (X : World) : Prop := ∃ t42 t43 t44 t45 t46 t47 : Value, a = Fr t42 t43 t44 t45 t46 t47 ∧ FinN w rc s S Bx x W0 W (if Lst 6 = true then t44 else .slice none 0 0) (if Lst 7 = true then t47 else .int .i64 0) X ∧
  ((Lst 0 = true → t42 = .agg rc.toArray) ∧ (Lst 1 = true → t43 = x.v) ∧ (Lst 2 = true → ∃ A' k c', t44 = .slice A' k c' ∧ Reads X A' k lst ∧ Fresh W.heap.size A' k c') ∧ (Lst 3 = true → t45 = s.v)) ∧ ((Lst 4 = true → t46 = x.v) ∧ (Lst 5 = true → t47 = .int .i64 (lf : Int)) ∧ (Lst 6 = true → Lst 2 = true) ∧ (Lst 7 = true → Lst 5 = true))

set_option maxRecDepth 100000 in
set_option maxHeartbeats 8000000 in
theorem Next_good {N L : Nat} (hN : N ≤ 16) (hL : L ≤ 2) (A : Option Addr) (n c : Nat) (l : List Tst) (w : World) (hl : ReadsT w A n l) (hn : n ≤ 1000) (s : St) (hs : 2 ≤ s.tubes ∧ s.tubes ≤ 16)
    (h66 : ∀ W, ReadsT W A n l → Gives 66 #[rec N L A n c] (.tuple #[s.v, .int .i64 0]) W) :
    Calls Try.prog 30 #[rec N L A n c] w fun e w' => ∃ (x : Sx s) (A' : Option Addr) (m c' : Nat), ((both (ndF s - 1) s x.1 = true ∧ Fresh w.heap.size A' m c') ∧ e = .returned (.tuple #[.slice A' m c', .int .i64 (leftF s x.1 : Int), .int .i64 0])) ∧ Reads w' A' m (chK L l x.1 N).2 ∧ Below w.heap.size w w' := by
  have hmm := @run_makeMap Try.prog
  have I : Held ((((w.alloc (.cells #[.int .i64 (N : Int), .int .i64 (L : Int), .slice A n c] 24)).alloc (.cells #[.slice none 0 0] 31)).alloc (.cells #[.int .i64 0] 3)).alloc (.cells #[.int .i64 0] 32)) (fun W => ((Below w.heap.size w W ∧ ReadsT W A n l) ∧ Hp W w.heap.size [.int .i64 (N : Int), .int .i64 (L : Int), .slice A n c] 24) ∧ (Hp W (w.heap.size + 1) [.slice none 0 0] 31 ∧ Hp W (w.heap.size + 1 + 1) [.int .i64 0] 3 ∧ Hp W (w.heap.size + 1 + 1 + 1) [.int .i64 0] 32) ∧ w.heap.size + 1 + 1 + 1 < W.heap.size) := by
    have I1 := ((Held.from (w0 := w) (Below.refl w.heap.size w) (Nat.le_refl _)).with (.readsT hl)).allocH [Value.int .i64 (N : Int), .int .i64 (L : Int), .slice A n c] 24
    have I2 := I1.allocH [Value.slice none 0 0] 31
    have I3 := I2.allocH [Value.int .i64 0] 3
    have I4 := I3.allocH [Value.int .i64 0] 32
    intro W hW
    have h := I4 W hW
    simp only [World.size_alloc] at h
    exact ⟨h.1.1.1, ⟨h.1.1.2, h.1.2, h.2⟩, h.2.lt⟩
  have H66 := Lib.hid h66
  have h64 : ∀ W, Gives 64 #[s.v] (.int .i64 (ndF s : Int)) W := fun W => needed_calls hs.2 W
  have hnd : 1 ≤ ndF s := by
    rcases Nat.eq_zero_or_pos (ndF s) with h | h
    · have := (ndF_spec s).1
      rw [h] at this
      have h2 : s.tubes ≤ 1 := this
      omega
    · exact h
  have hex : ∃ x : Sx s, both (ndF s - 1) s x.1 = true := by
    have h := (ndF_spec s).1
    obtain ⟨k, hk⟩ : ∃ k, ndF s = k + 1 := ⟨ndF s - 1, by omega⟩
    rw [hk] at h ⊢
    rcases h with h | ⟨x, hx, h1, h2⟩
    · omega
    · exact ⟨⟨x, hx⟩, by unfold both; rw [Nat.add_sub_cancel, winB_iff.2 h1, winB_iff.2 h2]; rfl⟩
  have hpot : ndF s ≤ 48 := by
    have h1 := ndF_pot s
    have h2 := hs.2
    unfold pot at h1
    unfold tubes at h2
    omega
  generalize ndF s = nd at h64 hnd hex hpot ⊢
  obtain ⟨m, hm⟩ : ∃ m, nd = m + 1 := ⟨nd - 1, by omega⟩
  have hm1 : nd - 1 = m := by omega
  rw [hm1] at hex ⊢
  have H64 := Lib.hid h64
  have HEX := Lib.hid hex
  have H2 := Lib.hid hs
  have HND := Lib.hid hm
  have HRT := Lib.hid hl
  clear hl h66 h64 hex hm hm1 hs
  refine (callsIn_wide (n := 8)).1 ?_
  refine callsIn_of_wp_marks Try.func30 rfl trivial ?_ rfl
  simp only [Try.ntmps30, List.size_toArray, List.length_cons, List.length_nil, Nat.reduceAdd, Nat.reduceSub, Array.replicate_succ, Array.replicate_zero, List.push_toArray, List.append_toArray, List.nil_append, List.cons_append]
  refine wpIn_wide.2 ?_
  go_wp2_with fail
  generalize World.alloc _ _ = w1 at I ⊢
  have q1 := I.now.1.2.blk.three
  have q4 := I.now.2.1.2.2.blk.one
  have f4 := I.now.2.1.2.2.free 0
  have z4 := I.now.2.1.2.2.lt
  go_upto_region 2 with (go_at_call 66; (with_reducible refine (Gives.c (H66.out _ I.now.1.1.2)).mono ?_); rintro e' w2 ⟨rfl, hb⟩; replace I := I.next hb; clear hb q1 q4 f4 z4; have q4 := I.now.2.1.2.2.blk.one; have f4 := I.now.2.1.2.2.free 0; have z4 := I.now.2.1.2.2.lt)
  have hS := I.now.2.2
  have K1 := (I.now.1.1.1.setCell (p := ⟨w.heap.size + 1 + 1 + 1, 0, none⟩) (by show w.heap.size ≤ w.heap.size + 1 + 1 + 1; omega) (.int .i64 0))
  have K2 := (I.now.1.2.other (B' := w.heap.size + 1 + 1 + 1) (by omega) 0 (.int .i64 0))
  have K3 := (I.now.2.1.1.other (B' := w.heap.size + 1 + 1 + 1) (by omega) 0 (.int .i64 0))
  have K4 := (I.now.2.1.2.1.other (B' := w.heap.size + 1 + 1 + 1) (by omega) 0 (.int .i64 0))
  have K5 := (I.now.2.1.2.2.set 0 (.int .i64 0))
  have hz : (w2.setCell ⟨w.heap.size + 1 + 1 + 1, 0, none⟩ (.int .i64 0)).heap.size = w2.heap.size := by simp
  clear I q4 f4 z4
  generalize World.setCell _ _ _ = w4 at K1 K2 K3 K4 K5 hz ⊢
  change Hp w4 _ [.int .i64 0] 32 at K5
  have I := (((((Held.from (b := w.heap.size) K1 K1.size).with (.hp K2)).with (.hp K3)).with (.hp K4)).with (.hp K5)).allocH s.cs 80
  rw [hz] at I
  clear K1 K2 K3 K4 K5
  change Held (w4.alloc (.cells #[.int .i64 (s.a : Int), .int .i64 (s.b : Int), .int .i64 (s.c : Int)] 80)) _ at I
  generalize World.alloc _ _ = w5 at I ⊢
  have q4 := I.now.1.2.blk.one
  have q5 := I.now.2.blk.three
  go_upto_region 5 with (go_at_call 64; (with_reducible refine (Gives.c (H64.out _)).mono ?_); rintro e' w6 ⟨rfl, hb⟩; replace I := I.next hb; clear hb q4 q5)
  have hNn := I.now.2.lt
  have I2 := I.allocH [.int .i64 (nd : Int)] 3
  clear I
  change Held (w6.alloc (.cells #[.int .i64 (nd : Int)] 3)) _ at I2
  have hB := I2.now.2.lt
  generalize World.alloc _ _ = w7 at I2 hB ⊢
  have I3 := (I2.alloc (.map #[] 0)).with (fun W (hW : Below _ _ W) => (MapD.made w7).later hW)
  have hP := I3.now.2.lt
  have I4 := I3.allocH [.map (some w7.heap.size)] 97
  simp only [World.size_alloc] at I4 hP
  clear I2 I3
  change Held ((w7.alloc (.map #[] 0)).alloc (.cells #[.map (some w7.heap.size)] 97)) _ at I4
  go_upto_region 6 with fail
  clear hmm
  have hO : w.heap.size + 1 + 1 + 1 < w2.heap.size ∧ w2.heap.size < w6.heap.size ∧ w6.heap.size < w7.heap.size ∧ w7.heap.size < w7.heap.size + 1 := ⟨hS, hNn, hB, by omega⟩
  generalize World.alloc _ _ = w8 at I4 ⊢
  have hE8 : EnvN w [.int .i64 (N : Int), .int .i64 (L : Int), .slice A n c] s nd w2.heap.size w6.heap.size (w7.heap.size + 1) w7.heap.size w8 := by
    have h := I4.now
    exact ⟨h.1.1.1.1.1.1.1.2, h.1.1.1.1.1.1.2, h.1.1.1.1.1.2, h.1.1.1.1.2, h.1.1.1.2, h.1.1.2, h.2, hO, h.1.1.1.1.1.1.1.1⟩
  have hM8 : Mq m w7.heap.size w8 := ⟨fun _ _ => none, I4.now.1.2, fun _ _ _ _ h => (by cases h), fun _ _ _ => rfl⟩
  clear I4 hS hNn hB hP
  generalize w2.heap.size = S at hE8 hO ⊢
  generalize w6.heap.size = Nn at hE8 hO ⊢
  generalize w7.heap.size + 1 = P at hE8 hO ⊢
  generalize w7.heap.size = B at hE8 hM8 hO ⊢
  have q5 := hE8.hs.blk.three
  go_upto_region 6 with fail
  go_cut [22] from 13 (fun s22 wx => s22 = .func (.func 83) #[] #[.pointer (some ⟨w8.heap.size, 0, none⟩)] ∧ wx = w8.alloc (.cells s.cs.toArray 80))
  case first =>
    go_wp2_with (go_at_call 67; (with_reducible refine (strips_calls _ _).mono ?_); rintro e' w9 ⟨rfl, rfl⟩)
    go_meet
    exact ⟨rfl, rfl⟩
  case rest =>
    obtain ⟨rfl, hwc⟩ := hcut
    obtain ⟨W0, hW0⟩ : ∃ W0, W0 = wc := ⟨_, rfl⟩
    rw [← hW0] at hwc ⊢
    have hE0 := hE8.grown (World.grownBy_alloc w8 (.cells s.cs.toArray 80) (some B))
    have hM0 := hM8.kept (Below.heap_alloc w8 (.cells s.cs.toArray 80) B hM8.lt)
    have hb0 := Hp.new w8 s.cs 80
    have hBBs := hM8.lt
    have hsz8 : w8.heap.size < (w8.alloc (.cells s.cs.toArray 80)).heap.size := by simp
    rw [← hwc] at hE0 hM0 hb0 hsz8
    generalize w8.heap.size = Bs at hb0 hsz8 hBBs ⊢
    clear hwc hE8 hM8 q5
    have hBW : B < W0.heap.size := hM0.lt
    have hwW : w.heap.size ≤ W0.heap.size := hE0.hg.size
    have hqW : w.heap.size + 1 + 1 + 1 < W0.heap.size := hE0.h4.lt
    clear hW0
    go_wp2_with fail
    refine (wpIn_wide (n := 8)).1 ?_
    refine wpIn_rangeFunc_ownH (α := Sx s) rfl (by decide) (gf := 83) (lb := #[.pointer (some ⟨Bs, 0, none⟩)]) rfl trivial eg83
      (strips_stops 7 (by decide) Bs s H2.out.2 W0 hb0)
      (fun h k => KpS.trans h k) (fun W l o o' h1 _ _ _ => KpS.putObj (w := W0) hsz8 W l o' h1) (Below.refl _ _) (fun _ => rfl)
      (fun pre W => ((∀ x ∈ pre, both m s x.1 = false) ∧ (Mq m B W ∧ EnvN w [.int .i64 (N : Int), .int .i64 (L : Int), .slice A n c] s nd S Nn P B W)) ∧ W0.heap.size ≤ W.heap.size)
      (fun cc _ W => (cc = .ret) ∧ ∃ (x : Sx s) (A' : Option Addr) (k c' : Nat), (both m s x.1 = true ∧ Fresh w.heap.size A' k c') ∧ (Reads W A' k (chK L l x.1 N).2 ∧ Hp W (w.heap.size + 1) [.slice A' k c'] 31) ∧ (Hp W (w.heap.size + 1 + 1) [.int .i64 (leftF s x.1 : Int)] 3 ∧ Hp W (w.heap.size + 1 + 1 + 1) [.int .i64 0] 32) ∧ Below w.heap.size w W)
      (OwnFrom.and (OwnFrom.and (fun _ _ _ _ hs _ _ => hs) (OwnFrom.and (Mp.own hBW) (EnvN.own hwW))) (fun _ _ _ _ hs hg _ => Nat.le_trans hs hg.size))
      (fun cc => OwnFrom.and (fun _ _ _ _ hs _ _ => hs) (fun pre X Y row hs hg hr => by
        obtain ⟨x, A', k, c', h1, ⟨h2, h3⟩, ⟨h4, h5⟩, h6⟩ := hs
        exact ⟨x, A', k, c', h1, ⟨Reads.own pre X Y row h2 hg hr, hp_ownF pre X Y row h3 hg hr⟩, ⟨hp_ownF pre X Y row h4 hg hr, hp_ownF pre X Y row h5 hg hr⟩, h6.grown hg h6.size (fun k e => Nat.le_trans hwW (hr k e).1)⟩))
      ⟨⟨fun x hx => (by cases hx), hM0, hE0⟩, Nat.le_refl _⟩
      (fun x a' W => ∃ Bx, W0.heap.size ≤ Bx ∧ Hp W Bx x.1.cs 80 ∧ a' = ({ tmps := #[rec N L A n c, .pointer (some ⟨w.heap.size, 0, none⟩), .pointer (some ⟨w.heap.size + 1, 0, none⟩), .pointer (some ⟨w.heap.size + 1 + 1, 0, none⟩), .pointer (some ⟨w.heap.size + 1 + 1 + 1, 0, none⟩), .pointer (some ⟨S, 0, none⟩), .pointer (some ⟨Nn, 0, none⟩), .pointer (some ⟨P, 0, none⟩), .pointer (some ⟨Bx, 0, none⟩), .tuple #[s.v, .int .i64 0], rec N L A n c, .tuple #[s.v, .int .i64 0], s.v, u13, u14, u15, u16, u17, u18, u19, u20, u21, .func (.func 83) #[] #[.pointer (some ⟨Bs, 0, none⟩)], x.1.v, u24, u25, u26, u27, u28, u29, u30, u31, u32, u33, u34, u35, u36, u37, u38, u39, u40, u41, u42, u43, u44, u45, u46, u47], defers := [] } : Act))
      (fun x a' _ X Y row hs hg hr => by obtain ⟨Bx, h1, h2, h3⟩ := hs; exact ⟨Bx, h1, hp_own Bx 80 (fun (_ : Unit) => x.1.cs) () X Y row h2 hg (fun r e => (hr r e).2), h3⟩)
      ?assign ?body ?done ?stop
    case assign =>
      rintro r pre x W K ⟨⟨h1, h2, h3⟩, h4⟩ hK
      unfold encS
      gi_wp2
      exact hK _ _ ((KeepsOthers.alloc _ _).from _) (Below.heap_alloc W _ _ (Nat.lt_of_lt_of_le hsz8 h4)) ⟨⟨h1, h2.kept (Below.heap_alloc W _ _ (Nat.lt_of_lt_of_le hBW h4)), h3.grown (World.grownBy_alloc _ _ _)⟩, Nat.le_trans h4 (by simp)⟩ ⟨W.heap.size, h4, Hp.new W _ 80, rfl⟩
    case body =>
      rintro l' pre x a' W hr0 _ ⟨⟨hpre, hMp, hE⟩, hsz⟩ ⟨Bx, hBx, bX, rfl⟩ _
      dsimp only
      have hxl := x.2
      have htb := H2.out.2
      have h69a : ∀ X, Gives 69 #[s.v, x.1.v] (s.aft x.1).v X := fun X => after_calls (by omega) hxl X
      have h70 : ∀ X, Gives 70 #[s.v, x.1.v] (s.rst x.1).v X := fun X => rest_calls (by omega) hxl X
      have h69b : ∀ X, Gives 69 #[s.v, (s.rst x.1).v] (s.aft (s.rst x.1)).v X := fun X => after_calls (by omega) (rst_le s x.1) X
      have h72 : ∀ X, Gives 72 #[s.v, x.1.v] (.int .i64 (leftF s x.1 : Int)) X := fun X => left_calls htb hxl X
      have h71 : ∀ X, ReadsT X A n l → Calls Try.prog 71 #[rec N L A n c, x.1.v] X fun e w' => ∃ A' m c', e = .returned (.slice A' m c') ∧ (Reads w' A' m (chK L l x.1 N).2 ∧ Fresh X.heap.size A' m c') ∧ Below X.heap.size X w' := fun X h => chosen_calls hN hL A n c l x.1 (by have := hxl.1; have := hxl.2.1; have := hxl.2.2; unfold tubes at htb ⊢; omega) X h hn
      have hbo : both m s x.1 = (winB m (s.aft x.1) && winB m (s.aft (s.rst x.1))) := rfl
      have hat := aft_tubes hxl
      generalize s.aft (s.rst x.1) = y2 at h69b hbo hat
      generalize s.rst x.1 = z at h69b h70
      generalize s.aft x.1 = y1 at h69a hbo hat
      have hme := HND.out
      have he1 : ∀ X, Mq m B X → Calls Try.prog 68 #[pv B, y1.v, .int .i64 (m : Int)] X fun e W' => e = .returned (.bool (winB m y1)) ∧ Mq m B W' ∧ X.grownBy W' (some B) := fun X hX => enough_calls B m (by omega) y1 (by omega) _ X hX
      have he2 : ∀ X, Mq m B X → Calls Try.prog 68 #[pv B, y2.v, .int .i64 (m : Int)] X fun e W' => e = .returned (.bool (winB m y2)) ∧ Mq m B W' ∧ X.grownBy W' (some B) := fun X hX => enough_calls B m (by omega) y2 (by omega) _ X hX
      have wN1 : IntKind.i64.wrap ((nd : Int) - 1) = (m : Int) := by rw [i64_in (by omega) (by omega)]; omega
      generalize winB m y1 = r1 at he1 hbo
      generalize winB m y2 = r2 at he2 hbo
      obtain ⟨c4, hc4⟩ : ∃ c4, (r1 && r2) = c4 := ⟨_, rfl⟩
      rw [hc4] at hbo
      have H69a := Lib.hid h69a
      have H69b := Lib.hid h69b
      have H70 := Lib.hid h70
      have H71 := Lib.hid h71
      have H72 := Lib.hid h72
      have HE1 := Lib.hid he1
      have HE2 := Lib.hid he2
      have HC4 := Lib.hid hc4
      have HBO := Lib.hid hbo
      have HE := Lib.hid hE
      have HMp := Lib.hid hMp
      have HPRE := Lib.hid hpre
      have HX := Lib.hid bX
      have hneX : some Bx ≠ some B := fun e => by cases e; omega
      clear h69a h69b h70 h71 h72 he1 he2 hc4 hbo hE hMp hpre bX hxl htb hat hme
      gi_upto_region 8 with fail
      gi_cut [41] from 13 (fun s41 wx => s41 = .bool c4 ∧ Aside (W.grownBy wx (some B) ∧ Mq m B wx))
      case first =>
        refine region_inv (by kernel_rfl) (Inv8 W m nd B s x.1 z y1 y2 r1 r2 c4 (fun t24 t25 t26 t27 t28 t29 t30 t31 t32 t33 t34 t35 t36 t37 t38 t39 t40 t41 => ({ tmps := #[rec N L A n c, .pointer (some ⟨w.heap.size, 0, none⟩), .pointer (some ⟨w.heap.size + 1, 0, none⟩), .pointer (some ⟨w.heap.size + 1 + 1, 0, none⟩), .pointer (some ⟨w.heap.size + 1 + 1 + 1, 0, none⟩), .pointer (some ⟨S, 0, none⟩), .pointer (some ⟨Nn, 0, none⟩), .pointer (some ⟨P, 0, none⟩), .pointer (some ⟨Bx, 0, none⟩), .tuple #[s.v, .int .i64 0], rec N L A n c, .tuple #[s.v, .int .i64 0], s.v, u13, u14, u15, u16, u17, u18, u19, u20, u21, .func (.func 83) #[] #[.pointer (some ⟨Bs, 0, none⟩)], x.1.v, t24, t25, t26, t27, t28, t29, t30, t31, t32, t33, t34, t35, t36, t37, t38, t39, t40, t41, u42, u43, u44, u45, u46, u47], defers := [] } : Act))) (ac_of (by kernel_rfl)) ?stepR ?doneR ?h0R
        case h0R => exact ⟨_, _, _, _, _, _, _, _, _, _, _, _, _, _, _, _, _, _, rfl, ⟨grow_of (Below.refl _ _).drew _, HMp.out.kept rfl⟩, ⟨fun h => (by cases h), fun h => (by cases h), fun h => (by cases h), fun h => (by cases h), fun h => (by cases h), fun h => (by cases h)⟩, ⟨fun h => (by cases h), fun h => (by cases h), fun h _ => (by cases h), fun h _ => (by cases h), fun h _ => (by cases h), fun h _ => (by cases h)⟩, ⟨fun h _ => (by cases h), fun h _ => (by cases h), fun h _ => (by cases h), fun h _ => (by cases h), fun h _ => (by cases h), fun h => (by cases h)⟩⟩
        case doneR =>
          rintro Lst a X hL ⟨t24, t25, t26, t27, t28, t29, t30, t31, t32, t33, t34, t35, t36, t37, t38, t39, t40, t41, rfl, hG, ⟨h0, h1, h2, h3, h4, h5⟩, ⟨h6, h7, h8, h9, h10, h11⟩, ⟨h12, h13, h14, h15, h16, h17⟩⟩
          dsimp only
          obtain rfl := h17 (hL 17 (by show 17 < 18; decide))
          have HG := Lib.hid hG
          clear hG h0 h1 h2 h3 h4 h5 h6 h7 h8 h9 h10 h11 h12 h13 h14 h15 h16 hL
          gi_wp2
          gi_meet
          exact ⟨rfl, HG.out⟩
        case stepR =>
          rintro Lst a X i o ho hdep hLi ⟨t24, t25, t26, t27, t28, t29, t30, t31, t32, t33, t34, t35, t36, t37, t38, t39, t40, t41, rfl, ⟨hG, hMq⟩, ⟨h0, h1, h2, h3, h4, h5⟩, ⟨h6, h7, h8, h9, h10, h11⟩, ⟨h12, h13, h14, h15, h16, h17⟩⟩ K hK
          have hi := (Array.getElem?_eq_some_iff.1 ho).1
          have hiK : i < 18 := hi
          dsimp only at hK ⊢
          have HG := Lib.hid hG
          have HMq := Lib.hid hMq
          have hEX := HE.out.grown hG
          have r7 := hEX.hp.blk.one
          have r5 := hEX.hs.blk.three
          have r6 := hEX.hn.blk.one
          have r8 := (HX.out.kept hG hneX).blk.three
          clear hG hMq hEX hi
          have hcase : i = 0 ∨ i = 1 ∨ i = 2 ∨ i = 3 ∨ i = 4 ∨ i = 5 ∨ i = 6 ∨ i = 7 ∨ i = 8 ∨ i = 9 ∨ i = 10 ∨ i = 11 ∨ i = 12 ∨ i = 13 ∨ i = 14 ∨ i = 15 ∨ i = 16 ∨ i = 17 := by omega
          rcases hcase with rfl | rfl | rfl | rfl | rfl | rfl | rfl | rfl | rfl | rfl | rfl | rfl | rfl | rfl | rfl | rfl | rfl | rfl
          · simp only [List.getElem?_toArray, List.getElem?_cons_zero, Option.some.injEq] at ho
            subst ho
            clear hdep
            rw [if_pos (by rfl)]
            gi_wp2
            exact ⟨_, _, _, _, _, _, _, _, _, _, _, _, _, _, _, _, _, _, rfl, ⟨HG.out, HMq.out⟩, ⟨fun _ => rfl, h1, h2, h3, h4, h5⟩, ⟨h6, h7, h8, h9, h10, h11⟩, ⟨h12, h13, h14, h15, h16, h17⟩⟩
          · simp only [List.getElem?_toArray, List.getElem?_cons_zero, List.getElem?_cons_succ, Option.some.injEq] at ho
            subst ho
            clear hdep
            rw [if_pos (by rfl)]
            gi_wp2
            exact ⟨_, _, _, _, _, _, _, _, _, _, _, _, _, _, _, _, _, _, rfl, ⟨HG.out, HMq.out⟩, ⟨h0, fun _ => rfl, h2, h3, h4, h5⟩, ⟨h6, h7, h8, h9, h10, h11⟩, ⟨h12, h13, h14, h15, h16, h17⟩⟩
          · simp only [List.getElem?_toArray, List.getElem?_cons_zero, List.getElem?_cons_succ, Option.some.injEq] at ho
            subst ho
            clear hdep
            rw [if_pos (by rfl)]
            gi_wp2
            exact ⟨_, _, _, _, _, _, _, _, _, _, _, _, _, _, _, _, _, _, rfl, ⟨HG.out, HMq.out⟩, ⟨h0, h1, fun _ => rfl, h3, h4, h5⟩, ⟨h6, h7, h8, h9, h10, h11⟩, ⟨h12, h13, h14, h15, h16, h17⟩⟩
          · simp only [List.getElem?_toArray, List.getElem?_cons_zero, List.getElem?_cons_succ, Option.some.injEq] at ho
            subst ho
            obtain rfl := h1 (hdep ⟨1, Ground.data⟩ (by simp) rfl)
            obtain rfl := h2 (hdep ⟨2, Ground.data⟩ (by simp) rfl)
            clear hdep
            rw [if_pos (by rfl)]
            gi_wp2_with (refine ⟨trivial, ?_⟩; gi_at_call 69; (with_reducible refine (CallsIn.inRound l' (callsIn_wide.2 (Gives.c (H69a.out _)))).mono ?_); rintro e1 wa ⟨rfl, hb1⟩; have HB1 := Lib.hid hb1; clear hb1)
            exact ⟨_, _, _, _, _, _, _, _, _, _, _, _, _, _, _, _, _, _, rfl, ⟨HG.out.trans (grow_of HB1.out _), HMq.out.kept (HB1.out.block B HMq.out.lt)⟩, ⟨h0, fun _ => rfl, fun _ => rfl, fun _ => rfl, h4, h5⟩, ⟨h6, h7, h8, h9, h10, h11⟩, ⟨h12, h13, h14, h15, h16, h17⟩⟩
          · simp only [List.getElem?_toArray, List.getElem?_cons_zero, List.getElem?_cons_succ, Option.some.injEq] at ho
            subst ho
            clear hdep
            rw [if_pos (by rfl)]
            gi_wp2
            exact ⟨_, _, _, _, _, _, _, _, _, _, _, _, _, _, _, _, _, _, rfl, ⟨HG.out, HMq.out⟩, ⟨h0, h1, h2, h3, fun _ => rfl, h5⟩, ⟨h6, h7, h8, h9, h10, h11⟩, ⟨h12, h13, h14, h15, h16, h17⟩⟩
          · simp only [List.getElem?_toArray, List.getElem?_cons_zero, List.getElem?_cons_succ, Option.some.injEq] at ho
            subst ho
            obtain rfl := h4 (hdep ⟨4, Ground.data⟩ (by simp) rfl)
            clear hdep
            rw [if_pos (by rfl)]
            gi_wp2
            exact ⟨_, _, _, _, _, _, _, _, _, _, _, _, _, _, _, _, _, _, rfl, ⟨HG.out, HMq.out⟩, ⟨h0, h1, h2, h3, fun _ => rfl, fun _ => rfl⟩, ⟨h6, h7, h8, h9, h10, h11⟩, ⟨h12, h13, h14, h15, h16, h17⟩⟩
          · simp only [List.getElem?_toArray, List.getElem?_cons_zero, List.getElem?_cons_succ, Option.some.injEq] at ho
            subst ho
            obtain rfl := h0 (hdep ⟨0, Ground.data⟩ (by simp) rfl)
            obtain rfl := h3 (hdep ⟨3, Ground.data⟩ (by simp) rfl)
            obtain rfl := h5 (hdep ⟨5, Ground.data⟩ (by simp) rfl)
            clear hdep
            rw [if_pos (by rfl)]
            gi_wp2_with (refine ⟨trivial, ?_⟩; gi_at_call 68; (with_reducible refine (CallsIn.inRound l' (callsIn_wide.2 (HE1.out _ HMq.out))).mono ?_); rintro e1 wa ⟨rfl, hm1, hb1⟩; have HB1 := Lib.hid hb1; have HM1 := Lib.hid hm1; clear hb1 hm1)
            exact ⟨_, _, _, _, _, _, _, _, _, _, _, _, _, _, _, _, _, _, rfl, ⟨HG.out.trans HB1.out, HM1.out⟩, ⟨fun _ => rfl, h1, h2, fun _ => rfl, h4, fun _ => rfl⟩, ⟨fun _ => rfl, h7, h8, h9, h10, h11⟩, ⟨h12, h13, h14, h15, h16, h17⟩⟩
          · simp only [List.getElem?_toArray, List.getElem?_cons_zero, List.getElem?_cons_succ, Option.some.injEq] at ho
            subst ho
            obtain rfl := h6 (hdep ⟨6, Ground.data⟩ (by simp) rfl)
            clear hdep
            rw [if_pos (by rfl)]
            gi_wp2
            exact ⟨_, _, _, _, _, _, _, _, _, _, _, _, _, _, _, _, _, _, rfl, ⟨HG.out, HMq.out⟩, ⟨h0, h1, h2, h3, h4, h5⟩, ⟨fun _ => rfl, fun _ => rfl, h8, h9, h10, h11⟩, ⟨h12, h13, h14, h15, h16, h17⟩⟩
          · simp only [List.getElem?_toArray, List.getElem?_cons_zero, List.getElem?_cons_succ, Option.some.injEq] at ho
            subst ho
            obtain rfl := h7 (hdep ⟨7, Ground.guard⟩ (by simp) rfl)
            cases hgd : r1 with
            | false =>
              subst hgd
              clear hdep
              rw [if_neg (by intro h; exact absurd (show false = true from h) Bool.false_ne_true)]
              refine ⟨fun _ _ => trivial, hK _ _ ?_⟩
              exact ⟨_, _, _, _, _, _, _, _, _, _, _, _, _, _, _, _, _, _, rfl, ⟨HG.out, HMq.out⟩, ⟨h0, h1, h2, h3, h4, h5⟩, ⟨h6, fun _ => rfl, fun _ h => (by cases h), h9, h10, h11⟩, ⟨h12, h13, h14, h15, h16, h17⟩⟩
            | true =>
              subst hgd
              clear hdep
              rw [if_pos (by rfl)]
              gi_wp2
              exact ⟨_, _, _, _, _, _, _, _, _, _, _, _, _, _, _, _, _, _, rfl, ⟨HG.out, HMq.out⟩, ⟨h0, h1, h2, h3, h4, h5⟩, ⟨h6, fun _ => rfl, fun _ _ => rfl, (fun a b => h9 a (by first | exact b | trivial)), (fun a b => h10 a (by first | exact b | trivial)), (fun a b => h11 a (by first | exact b | trivial))⟩, ⟨(fun a b => h12 a (by first | exact b | trivial)), (fun a b => h13 a (by first | exact b | trivial)), (fun a b => h14 a (by first | exact b | trivial)), (fun a b => h15 a (by first | exact b | trivial)), (fun a b => h16 a (by first | exact b | trivial)), h17⟩⟩
          · simp only [List.getElem?_toArray, List.getElem?_cons_zero, List.getElem?_cons_succ, Option.some.injEq] at ho
            subst ho
            obtain rfl := h7 (hdep ⟨7, Ground.guard⟩ (by simp) rfl)
            cases hgd : r1 with
            | false =>
              subst hgd
              clear hdep
              rw [if_neg (by intro h; exact absurd (show false = true from h) Bool.false_ne_true)]
              refine ⟨fun _ _ => trivial, hK _ _ ?_⟩
              exact ⟨_, _, _, _, _, _, _, _, _, _, _, _, _, _, _, _, _, _, rfl, ⟨HG.out, HMq.out⟩, ⟨h0, h1, h2, h3, h4, h5⟩, ⟨h6, fun _ => rfl, h8, fun _ h => (by cases h), h10, h11⟩, ⟨h12, h13, h14, h15, h16, h17⟩⟩
            | true =>
              subst hgd
              clear hdep
              rw [if_pos (by rfl)]
              gi_wp2
              exact ⟨_, _, _, _, _, _, _, _, _, _, _, _, _, _, _, _, _, _, rfl, ⟨HG.out, HMq.out⟩, ⟨h0, h1, h2, h3, h4, h5⟩, ⟨h6, fun _ => rfl, (fun a b => h8 a (by first | exact b | trivial)), fun _ _ => rfl, (fun a b => h10 a (by first | exact b | trivial)), (fun a b => h11 a (by first | exact b | trivial))⟩, ⟨(fun a b => h12 a (by first | exact b | trivial)), (fun a b => h13 a (by first | exact b | trivial)), (fun a b => h14 a (by first | exact b | trivial)), (fun a b => h15 a (by first | exact b | trivial)), (fun a b => h16 a (by first | exact b | trivial)), h17⟩⟩
          · simp only [List.getElem?_toArray, List.getElem?_cons_zero, List.getElem?_cons_succ, Option.some.injEq] at ho
            subst ho
            obtain rfl := h7 (hdep ⟨7, Ground.guard⟩ (by simp) rfl)
            cases hgd : r1 with
            | false =>
              subst hgd
              clear hdep
              rw [if_neg (by intro h; exact absurd (show false = true from h) Bool.false_ne_true)]
              refine ⟨fun _ _ => trivial, hK _ _ ?_⟩
              exact ⟨_, _, _, _, _, _, _, _, _, _, _, _, _, _, _, _, _, _, rfl, ⟨HG.out, HMq.out⟩, ⟨h0, h1, h2, h3, h4, h5⟩, ⟨h6, fun _ => rfl, h8, h9, fun _ h => (by cases h), h11⟩, ⟨h12, h13, h14, h15, h16, h17⟩⟩
            | true =>
              subst hgd
              clear hdep
              rw [if_pos (by rfl)]
              gi_wp2
              exact ⟨_, _, _, _, _, _, _, _, _, _, _, _, _, _, _, _, _, _, rfl, ⟨HG.out, HMq.out⟩, ⟨h0, h1, h2, h3, h4, h5⟩, ⟨h6, fun _ => rfl, (fun a b => h8 a (by first | exact b | trivial)), (fun a b => h9 a (by first | exact b | trivial)), fun _ _ => rfl, (fun a b => h11 a (by first | exact b | trivial))⟩, ⟨(fun a b => h12 a (by first | exact b | trivial)), (fun a b => h13 a (by first | exact b | trivial)), (fun a b => h14 a (by first | exact b | trivial)), (fun a b => h15 a (by first | exact b | trivial)), (fun a b => h16 a (by first | exact b | trivial)), h17⟩⟩
          · simp only [List.getElem?_toArray, List.getElem?_cons_zero, List.getElem?_cons_succ, Option.some.injEq] at ho
            subst ho
            obtain rfl := h7 (hdep ⟨7, Ground.guard⟩ (by simp) rfl)
            cases hgd : r1 with
            | false =>
              subst hgd
              clear hdep
              rw [if_neg (by intro h; exact absurd (show false = true from h) Bool.false_ne_true)]
              refine ⟨fun _ _ => trivial, hK _ _ ?_⟩
              exact ⟨_, _, _, _, _, _, _, _, _, _, _, _, _, _, _, _, _, _, rfl, ⟨HG.out, HMq.out⟩, ⟨h0, h1, h2, h3, h4, h5⟩, ⟨h6, fun _ => rfl, h8, h9, h10, fun _ h => (by cases h)⟩, ⟨h12, h13, h14, h15, h16, h17⟩⟩
            | true =>
              subst hgd
              clear hdep
              rw [if_pos (by rfl)]
              gi_wp2
              exact ⟨_, _, _, _, _, _, _, _, _, _, _, _, _, _, _, _, _, _, rfl, ⟨HG.out, HMq.out⟩, ⟨h0, h1, h2, h3, h4, h5⟩, ⟨h6, fun _ => rfl, (fun a b => h8 a (by first | exact b | trivial)), (fun a b => h9 a (by first | exact b | trivial)), (fun a b => h10 a (by first | exact b | trivial)), fun _ _ => rfl⟩, ⟨(fun a b => h12 a (by first | exact b | trivial)), (fun a b => h13 a (by first | exact b | trivial)), (fun a b => h14 a (by first | exact b | trivial)), (fun a b => h15 a (by first | exact b | trivial)), (fun a b => h16 a (by first | exact b | trivial)), h17⟩⟩
          · simp only [List.getElem?_toArray, List.getElem?_cons_zero, List.getElem?_cons_succ, Option.some.injEq] at ho
            subst ho
            obtain rfl := h7 (hdep ⟨7, Ground.guard⟩ (by simp) rfl)
            cases hgd : r1 with
            | false =>
              subst hgd
              clear hdep
              rw [if_neg (by intro h; exact absurd (show false = true from h) Bool.false_ne_true)]
              refine ⟨fun _ _ => trivial, hK _ _ ?_⟩
              exact ⟨_, _, _, _, _, _, _, _, _, _, _, _, _, _, _, _, _, _, rfl, ⟨HG.out, HMq.out⟩, ⟨h0, h1, h2, h3, h4, h5⟩, ⟨h6, fun _ => rfl, h8, h9, h10, h11⟩, ⟨fun _ h => (by cases h), h13, h14, h15, h16, h17⟩⟩
            | true =>
              subst hgd
              obtain rfl := h10 (hdep ⟨10, Ground.data⟩ (by simp) rfl) rfl
              obtain rfl := h11 (hdep ⟨11, Ground.data⟩ (by simp) rfl) rfl
              clear hdep
              rw [if_pos (by rfl)]
              gi_wp2_with (refine ⟨trivial, ?_⟩; gi_at_call 70; (with_reducible refine (CallsIn.inRound l' (callsIn_wide.2 (Gives.c (H70.out _)))).mono ?_); rintro e1 wa ⟨rfl, hb1⟩; have HB1 := Lib.hid hb1; clear hb1)
              exact ⟨_, _, _, _, _, _, _, _, _, _, _, _, _, _, _, _, _, _, rfl, ⟨HG.out.trans (grow_of HB1.out _), HMq.out.kept (HB1.out.block B HMq.out.lt)⟩, ⟨h0, h1, h2, h3, h4, h5⟩, ⟨h6, fun _ => rfl, (fun a b => h8 a (by first | exact b | trivial)), (fun a b => h9 a (by first | exact b | trivial)), fun _ _ => rfl, fun _ _ => rfl⟩, ⟨fun _ _ => rfl, (fun a b => h13 a (by first | exact b | trivial)), (fun a b => h14 a (by first | exact b | trivial)), (fun a b => h15 a (by first | exact b | trivial)), (fun a b => h16 a (by first | exact b | trivial)), h17⟩⟩
          · simp only [List.getElem?_toArray, List.getElem?_cons_zero, List.getElem?_cons_succ, Option.some.injEq] at ho
            subst ho
            obtain rfl := h7 (hdep ⟨7, Ground.guard⟩ (by simp) rfl)
            cases hgd : r1 with
            | false =>
              subst hgd
              clear hdep
              rw [if_neg (by intro h; exact absurd (show false = true from h) Bool.false_ne_true)]
              refine ⟨fun _ _ => trivial, hK _ _ ?_⟩
              exact ⟨_, _, _, _, _, _, _, _, _, _, _, _, _, _, _, _, _, _, rfl, ⟨HG.out, HMq.out⟩, ⟨h0, h1, h2, h3, h4, h5⟩, ⟨h6, fun _ => rfl, h8, h9, h10, h11⟩, ⟨h12, fun _ h => (by cases h), h14, h15, h16, h17⟩⟩
            | true =>
              subst hgd
              obtain rfl := h9 (hdep ⟨9, Ground.data⟩ (by simp) rfl) rfl
              obtain rfl := h12 (hdep ⟨12, Ground.data⟩ (by simp) rfl) rfl
              clear hdep
              rw [if_pos (by rfl)]
              gi_wp2_with (refine ⟨trivial, ?_⟩; gi_at_call 69; (with_reducible refine (CallsIn.inRound l' (callsIn_wide.2 (Gives.c (H69b.out _)))).mono ?_); rintro e1 wa ⟨rfl, hb1⟩; have HB1 := Lib.hid hb1; clear hb1)
              exact ⟨_, _, _, _, _, _, _, _, _, _, _, _, _, _, _, _, _, _, rfl, ⟨HG.out.trans (grow_of HB1.out _), HMq.out.kept (HB1.out.block B HMq.out.lt)⟩, ⟨h0, h1, h2, h3, h4, h5⟩, ⟨h6, fun _ => rfl, (fun a b => h8 a (by first | exact b | trivial)), fun _ _ => rfl, (fun a b => h10 a (by first | exact b | trivial)), (fun a b => h11 a (by first | exact b | trivial))⟩, ⟨fun _ _ => rfl, fun _ _ => rfl, (fun a b => h14 a (by first | exact b | trivial)), (fun a b => h15 a (by first | exact b | trivial)), (fun a b => h16 a (by first | exact b | trivial)), h17⟩⟩
          · simp only [List.getElem?_toArray, List.getElem?_cons_zero, List.getElem?_cons_succ, Option.some.injEq] at ho
            subst ho
            obtain rfl := h7 (hdep ⟨7, Ground.guard⟩ (by simp) rfl)
            cases hgd : r1 with
            | false =>
              subst hgd
              clear hdep
              rw [if_neg (by intro h; exact absurd (show false = true from h) Bool.false_ne_true)]
              refine ⟨fun _ _ => trivial, hK _ _ ?_⟩
              exact ⟨_, _, _, _, _, _, _, _, _, _, _, _, _, _, _, _, _, _, rfl, ⟨HG.out, HMq.out⟩, ⟨h0, h1, h2, h3, h4, h5⟩, ⟨h6, fun _ => rfl, h8, h9, h10, h11⟩, ⟨h12, h13, fun _ h => (by cases h), h15, h16, h17⟩⟩
            | true =>
              subst hgd
              clear hdep
              rw [if_pos (by rfl)]
              gi_wp2
              exact ⟨_, _, _, _, _, _, _, _, _, _, _, _, _, _, _, _, _, _, rfl, ⟨HG.out, HMq.out⟩, ⟨h0, h1, h2, h3, h4, h5⟩, ⟨h6, fun _ => rfl, (fun a b => h8 a (by first | exact b | trivial)), (fun a b => h9 a (by first | exact b | trivial)), (fun a b => h10 a (by first | exact b | trivial)), (fun a b => h11 a (by first | exact b | trivial))⟩, ⟨(fun a b => h12 a (by first | exact b | trivial)), (fun a b => h13 a (by first | exact b | trivial)), fun _ _ => rfl, (fun a b => h15 a (by first | exact b | trivial)), (fun a b => h16 a (by first | exact b | trivial)), h17⟩⟩
          · simp only [List.getElem?_toArray, List.getElem?_cons_zero, List.getElem?_cons_succ, Option.some.injEq] at ho
            subst ho
            obtain rfl := h7 (hdep ⟨7, Ground.guard⟩ (by simp) rfl)
            cases hgd : r1 with
            | false =>
              subst hgd
              clear hdep
              rw [if_neg (by intro h; exact absurd (show false = true from h) Bool.false_ne_true)]
              refine ⟨fun _ _ => trivial, hK _ _ ?_⟩
              exact ⟨_, _, _, _, _, _, _, _, _, _, _, _, _, _, _, _, _, _, rfl, ⟨HG.out, HMq.out⟩, ⟨h0, h1, h2, h3, h4, h5⟩, ⟨h6, fun _ => rfl, h8, h9, h10, h11⟩, ⟨h12, h13, h14, fun _ h => (by cases h), h16, h17⟩⟩
            | true =>
              subst hgd
              obtain rfl := h14 (hdep ⟨14, Ground.data⟩ (by simp) rfl) rfl
              clear hdep
              rw [if_pos (by rfl)]
              gi_wp2
              exact ⟨_, _, _, _, _, _, _, _, _, _, _, _, _, _, _, _, _, _, rfl, ⟨HG.out, HMq.out⟩, ⟨h0, h1, h2, h3, h4, h5⟩, ⟨h6, fun _ => rfl, (fun a b => h8 a (by first | exact b | trivial)), (fun a b => h9 a (by first | exact b | trivial)), (fun a b => h10 a (by first | exact b | trivial)), (fun a b => h11 a (by first | exact b | trivial))⟩, ⟨(fun a b => h12 a (by first | exact b | trivial)), (fun a b => h13 a (by first | exact b | trivial)), fun _ _ => rfl, fun _ _ => rfl, (fun a b => h16 a (by first | exact b | trivial)), h17⟩⟩
          · simp only [List.getElem?_toArray, List.getElem?_cons_zero, List.getElem?_cons_succ, Option.some.injEq] at ho
            subst ho
            obtain rfl := h7 (hdep ⟨7, Ground.guard⟩ (by simp) rfl)
            cases hgd : r1 with
            | false =>
              subst hgd
              clear hdep
              rw [if_neg (by intro h; exact absurd (show false = true from h) Bool.false_ne_true)]
              refine ⟨fun _ _ => trivial, hK _ _ ?_⟩
              exact ⟨_, _, _, _, _, _, _, _, _, _, _, _, _, _, _, _, _, _, rfl, ⟨HG.out, HMq.out⟩, ⟨h0, h1, h2, h3, h4, h5⟩, ⟨h6, fun _ => rfl, h8, h9, h10, h11⟩, ⟨h12, h13, h14, h15, fun _ h => (by cases h), h17⟩⟩
            | true =>
              subst hgd
              obtain rfl := h8 (hdep ⟨8, Ground.data⟩ (by simp) rfl) rfl
              obtain rfl := h13 (hdep ⟨13, Ground.data⟩ (by simp) rfl) rfl
              obtain rfl := h15 (hdep ⟨15, Ground.data⟩ (by simp) rfl) rfl
              clear hdep
              rw [if_pos (by rfl)]
              gi_wp2_with (refine ⟨trivial, ?_⟩; gi_at_call 68; (with_reducible refine (CallsIn.inRound l' (callsIn_wide.2 (HE2.out _ HMq.out))).mono ?_); rintro e1 wa ⟨rfl, hm1, hb1⟩; have HB1 := Lib.hid hb1; have HM1 := Lib.hid hm1; clear hb1 hm1)
              exact ⟨_, _, _, _, _, _, _, _, _, _, _, _, _, _, _, _, _, _, rfl, ⟨HG.out.trans HB1.out, HM1.out⟩, ⟨h0, h1, h2, h3, h4, h5⟩, ⟨h6, fun _ => rfl, fun _ _ => rfl, (fun a b => h9 a (by first | exact b | trivial)), (fun a b => h10 a (by first | exact b | trivial)), (fun a b => h11 a (by first | exact b | trivial))⟩, ⟨(fun a b => h12 a (by first | exact b | trivial)), fun _ _ => rfl, (fun a b => h14 a (by first | exact b | trivial)), fun _ _ => rfl, fun _ _ => rfl, h17⟩⟩
          · simp only [List.getElem?_toArray, List.getElem?_cons_zero, List.getElem?_cons_succ, Option.some.injEq] at ho
            subst ho
            obtain rfl := h7 (hdep ⟨7, Ground.data⟩ (by simp) rfl)
            rw [if_pos (by rfl)]
            cases hgd : r1 with
            | false =>
              subst hgd
              clear hdep
              have hv := HC4.out
              gi_wp2
              exact ⟨_, _, _, _, _, _, _, _, _, _, _, _, _, _, _, _, _, _, rfl, ⟨HG.out, HMq.out⟩, ⟨h0, h1, h2, h3, h4, h5⟩, ⟨h6, fun _ => rfl, (fun _ b => (by cases b)), (fun _ b => (by cases b)), (fun _ b => (by cases b)), (fun _ b => (by cases b))⟩, ⟨(fun _ b => (by cases b)), (fun _ b => (by cases b)), (fun _ b => (by cases b)), (fun _ b => (by cases b)), (fun _ b => (by cases b)), fun _ => (by rw [← hv]; first | done | rfl)⟩⟩
            | true =>
              subst hgd
              obtain rfl := h16 (hdep ⟨16, Ground.data⟩ (by simp) rfl) rfl
              clear hdep
              have hv := HC4.out
              gi_wp2
              exact ⟨_, _, _, _, _, _, _, _, _, _, _, _, _, _, _, _, _, _, rfl, ⟨HG.out, HMq.out⟩, ⟨h0, h1, h2, h3, h4, h5⟩, ⟨h6, fun _ => rfl, (fun a b => h8 a (by first | exact b | trivial)), (fun a b => h9 a (by first | exact b | trivial)), (fun a b => h10 a (by first | exact b | trivial)), (fun a b => h11 a (by first | exact b | trivial))⟩, ⟨(fun a b => h12 a (by first | exact b | trivial)), (fun a b => h13 a (by first | exact b | trivial)), (fun a b => h14 a (by first | exact b | trivial)), (fun a b => h15 a (by first | exact b | trivial)), fun _ _ => rfl, fun _ => (by rw [← hv]; first | done | rfl)⟩⟩
      case rest =>
        obtain ⟨rfl, hG⟩ := hcut
        have hgW := hG.out.1
        have hEF := HE.out.grown hgW
        have hkf : KeepsFrom W0.heap.size W wc := KeepsFrom.of_grownBy hgW (fun j e => by cases e; exact hBW)
        have hks : KpS Bs W wc := hgW.block Bs (by omega) (fun e => by cases e; omega)
        have hszF := hgW.size
        have hXc := HX.out.kept hgW hneX
        cases c4 with
        | false =>
          have HF := Lib.hid (And.intro hkf (And.intro hks (And.intro hEF hG.out.2)))
          clear hgW hEF hkf hks hXc
          gi_wp2
          exact ⟨HF.out.1, HF.out.2.1, ⟨fun y hy => (by
            rw [List.mem_append, List.mem_singleton] at hy
            rcases hy with hy | hy
            · exact HPRE.out y hy
            · rw [hy]; exact HBO.out), HF.out.2.2.2, HF.out.2.2.1⟩, Nat.le_trans hsz hszF⟩
        | true =>
          have hO := hEF.hne
          have hfin : FinN w [.int .i64 (N : Int), .int .i64 (L : Int), .slice A n c] s S Bx x.1 W0 W (.slice none 0 0) (.int .i64 0) wc := ⟨hEF.hr, hEF.hs, hXc, hEF.h2, hEF.h3, hEF.h4, ⟨hO.1, Nat.lt_of_lt_of_le hqW hBx, hqW⟩, hEF.hg, hkf, hsz, hszF⟩
          have HFN := Lib.hid hfin
          have HFD := Lib.hid (hfin.later (Below.refl wc.heap.size wc).drew)
          clear hgW hEF hkf hks hXc hfin hO
          gi_upto_region 9 with fail
          gi_cut [44] from 13 (fun s44 wx => ∃ A' k c', s44 = .slice A' k c' ∧ Aside (Reads wx A' k (chK L l x.1 N).2 ∧ Fresh W.heap.size A' k c') ∧ Aside (FinN w [.int .i64 (N : Int), .int .i64 (L : Int), .slice A n c] s S Bx x.1 W0 W (.slice A' k c') (.int .i64 (leftF s x.1 : Int)) wx))
          case first =>
            refine region_inv (by kernel_rfl) (Inv9 w [.int .i64 (N : Int), .int .i64 (L : Int), .slice A n c] s S Bx x.1 W0 W (chK L l x.1 N).2 (leftF s x.1) (fun t42 t43 t44 t45 t46 t47 => ({ tmps := #[rec N L A n c, .pointer (some ⟨w.heap.size, 0, none⟩), .pointer (some ⟨w.heap.size + 1, 0, none⟩), .pointer (some ⟨w.heap.size + 1 + 1, 0, none⟩), .pointer (some ⟨w.heap.size + 1 + 1 + 1, 0, none⟩), .pointer (some ⟨S, 0, none⟩), .pointer (some ⟨Nn, 0, none⟩), .pointer (some ⟨P, 0, none⟩), .pointer (some ⟨Bx, 0, none⟩), .tuple #[s.v, .int .i64 0], rec N L A n c, .tuple #[s.v, .int .i64 0], s.v, u13, u14, u15, u16, u17, u18, u19, u20, u21, u22, u23, u24, u25, u26, u27, u28, u29, u30, u31, u32, u33, u34, u35, u36, u37, u38, u39, u40, .bool true, t42, t43, t44, t45, t46, t47], defers := [] } : Act))) (ac_of (by kernel_rfl)) ?stepR ?doneR ?h0R
            case h0R => exact ⟨_, _, _, _, _, _, rfl, HFD.out, ⟨fun h => (by cases h), fun h => (by cases h), fun h => (by cases h), fun h => (by cases h)⟩, ⟨fun h => (by cases h), fun h => (by cases h), fun h => (by cases h), fun h => (by cases h)⟩⟩
            case doneR =>
              rintro Lst a X hL ⟨t42, t43, t44, t45, t46, t47, rfl, hF, ⟨h0, h1, h2, h3⟩, ⟨h4, h5, h6, h7⟩⟩
              dsimp only
              obtain ⟨A1, k1, cc1, rfl, hr1, hf1⟩ := h2 (hL 2 (by show 2 < 9; decide))
              obtain rfl := h5 (hL 5 (by show 5 < 9; decide))
              rw [hL 6 (by show 6 < 9; decide), hL 7 (by show 7 < 9; decide), if_pos rfl, if_pos rfl] at hF
              have HF := Lib.hid hF
              have HR1 := Lib.hid (And.intro hr1 hf1)
              clear hF hr1 hf1 h0 h1 h2 h3 h4 h5 h6 h7 hL
              gi_wp2
              gi_meet
              exact ⟨A1, k1, cc1, rfl, HR1.out, HF.out⟩
            case stepR =>
              rintro Lst a X i o ho hdep hLi ⟨t42, t43, t44, t45, t46, t47, rfl, hF, ⟨h0, h1, h2, h3⟩, ⟨h4, h5, h6, h7⟩⟩ K hK
              have hi := (Array.getElem?_eq_some_iff.1 ho).1
              have hiK : i < 9 := hi
              dsimp only at hK ⊢
              have HF := Lib.hid hF
              have r1 := hF.hr.blk.three
              have r5 := hF.hs.blk.three
              have r8 := hF.hx.blk.three
              clear hF hi
              have hcase : i = 0 ∨ i = 1 ∨ i = 2 ∨ i = 3 ∨ i = 4 ∨ i = 5 ∨ i = 6 ∨ i = 7 ∨ i = 8 := by omega
              rcases hcase with rfl | rfl | rfl | rfl | rfl | rfl | rfl | rfl | rfl
              · simp only [List.getElem?_toArray, List.getElem?_cons_zero, Option.some.injEq] at ho
                subst ho
                rw [if_pos (by rfl)]
                clear hdep
                gi_wp2
                exact ⟨_, _, _, _, _, _, rfl, HF.out, ⟨fun _ => rfl, h1, h2, h3⟩, ⟨h4, h5, h6, h7⟩⟩
              · simp only [List.getElem?_toArray, List.getElem?_cons_zero, List.getElem?_cons_succ, Option.some.injEq] at ho
                subst ho
                rw [if_pos (by rfl)]
                clear hdep
                gi_wp2
                exact ⟨_, _, _, _, _, _, rfl, HF.out, ⟨h0, fun _ => rfl, h2, h3⟩, ⟨h4, h5, h6, h7⟩⟩
              · simp only [List.getElem?_toArray, List.getElem?_cons_zero, List.getElem?_cons_succ, Option.some.injEq] at ho
                subst ho
                rw [if_pos (by rfl)]
                obtain rfl := h0 (hdep ⟨0, Ground.data⟩ (by simp) rfl)
                obtain rfl := h1 (hdep ⟨1, Ground.data⟩ (by simp) rfl)
                clear hdep
                have hf : Lst 6 = false := by
                  cases hb : Lst 6 with
                  | false => rfl
                  | true => rw [h6 hb] at hLi; cases hLi
                gi_wp2_with (refine ⟨trivial, ?_⟩; gi_at_call 71; (with_reducible refine (CallsIn.inRound l' (callsIn_wide.2 (H71.out _ (HRT.out.later HF.out.hg)))).mono ?_); rintro e1 wa ⟨A1, k1, cc1, rfl, ⟨hr1, hf1⟩, hb1⟩; have HB1 := Lib.hid hb1; have HR1 := Lib.hid hr1; have HF1 := Lib.hid hf1; clear hb1 hr1 hf1)
                have HF2 := HF.out.later HB1.out
                rw [hf] at HF2
                refine ⟨_, _, _, _, _, _, rfl, ?_, ⟨fun _ => rfl, fun _ => rfl, fun _ => ⟨A1, k1, cc1, rfl, HR1.out, fun p hp => Nat.le_trans HF.out.hz.2 (HF1.out.1 p hp), HF1.out.2⟩, h3⟩, ⟨h4, h5, fun _ => rfl, h7⟩⟩
                show FinN _ _ _ _ _ _ _ _ (if (6 == 2 || Lst 6) = true then _ else _) _ _
                rw [hf]
                exact HF2
              · simp only [List.getElem?_toArray, List.getElem?_cons_zero, List.getElem?_cons_succ, Option.some.injEq] at ho
                subst ho
                rw [if_pos (by rfl)]
                clear hdep
                gi_wp2
                exact ⟨_, _, _, _, _, _, rfl, HF.out, ⟨h0, h1, h2, fun _ => rfl⟩, ⟨h4, h5, h6, h7⟩⟩
              · simp only [List.getElem?_toArray, List.getElem?_cons_zero, List.getElem?_cons_succ, Option.some.injEq] at ho
                subst ho
                rw [if_pos (by rfl)]
                clear hdep
                gi_wp2
                exact ⟨_, _, _, _, _, _, rfl, HF.out, ⟨h0, h1, h2, h3⟩, ⟨fun _ => rfl, h5, h6, h7⟩⟩
              · simp only [List.getElem?_toArray, List.getElem?_cons_zero, List.getElem?_cons_succ, Option.some.injEq] at ho
                subst ho
                rw [if_pos (by rfl)]
                obtain rfl := h3 (hdep ⟨3, Ground.data⟩ (by simp) rfl)
                obtain rfl := h4 (hdep ⟨4, Ground.data⟩ (by simp) rfl)
                clear hdep
                have hf : Lst 7 = false := by
                  cases hb : Lst 7 with
                  | false => rfl
                  | true => rw [h7 hb] at hLi; cases hLi
                gi_wp2_with (refine ⟨trivial, ?_⟩; gi_at_call 72; (with_reducible refine (CallsIn.inRound l' (callsIn_wide.2 (Gives.c (H72.out _)))).mono ?_); rintro e1 wa ⟨rfl, hb1⟩; have HB1 := Lib.hid hb1; clear hb1)
                have HF2 := HF.out.later HB1.out
                rw [hf] at HF2
                refine ⟨_, _, _, _, _, _, rfl, ?_, ⟨h0, h1, fun h => (by obtain ⟨A', k, c', g1, g2, g3⟩ := h2 h; exact ⟨A', k, c', g1, g2.later HB1.out, g3⟩), fun _ => rfl⟩, ⟨fun _ => rfl, fun _ => rfl, h6, fun _ => rfl⟩⟩
                show FinN _ _ _ _ _ _ _ _ _ (if (7 == 5 || Lst 7) = true then _ else _) _
                rw [hf]
                exact HF2
              · simp only [List.getElem?_toArray, List.getElem?_cons_zero, List.getElem?_cons_succ, Option.some.injEq] at ho
                subst ho
                rw [if_pos (by rfl)]
                have d2 := hdep ⟨2, Ground.data⟩ (by simp) rfl
                obtain ⟨A1, k1, cc1, e1, hr1, hf1⟩ := h2 d2
                subst e1
                clear hdep
                have HR1 := Lib.hid hr1
                have HF1 := Lib.hid hf1
                clear hr1 hf1
                have q2 := HF.out.h2.blk.one
                have f2 := HF.out.h2.free 0
                have z2 := HF.out.h2.lt
                rw [hLi] at q2
                gi_wp2
                have hzz := HF.out.hz
                have hdd := HF.out.hd
                refine ⟨_, _, _, _, _, _, rfl, HF.out.set2 _, ⟨h0, h1, fun _ => ⟨A1, k1, cc1, rfl, HR1.out.otherB HF1.out.1 (by omega) 0 _, HF1.out⟩, h3⟩, ⟨h4, h5, fun _ => d2, h7⟩⟩
              · simp only [List.getElem?_toArray, List.getElem?_cons_zero, List.getElem?_cons_succ, Option.some.injEq] at ho
                subst ho
                rw [if_pos (by rfl)]
                have d5 := hdep ⟨5, Ground.data⟩ (by simp) rfl
                obtain rfl := h5 d5
                clear hdep
                have q3 := HF.out.h3.blk.one
                have f3 := HF.out.h3.free 0
                have z3 := HF.out.h3.lt
                rw [hLi] at q3
                gi_wp2
                have hzz := HF.out.hz
                have hdd := HF.out.hd
                refine ⟨_, _, _, _, _, _, rfl, HF.out.set3 _, ⟨h0, h1, fun h => (by obtain ⟨A', k, c', g1, g2, g3⟩ := h2 h; exact ⟨A', k, c', g1, g2.otherB g3.1 (by omega) 0 _, g3⟩), h3⟩, ⟨h4, fun _ => rfl, h6, fun _ => d5⟩⟩
              · simp only [List.getElem?_toArray, List.getElem?_cons_zero, List.getElem?_cons_succ, Option.some.injEq] at ho
                subst ho
                rw [if_pos (by rfl)]
                clear hdep
                have q4 := HF.out.h4.blk.one
                have f4 := HF.out.h4.free 0
                have z4 := HF.out.h4.lt
                gi_wp2
                have hzz := HF.out.hz
                have hdd := HF.out.hd
                refine ⟨_, _, _, _, _, _, rfl, HF.out.set4, ⟨h0, h1, fun h => (by obtain ⟨A', k, c', g1, g2, g3⟩ := h2 h; exact ⟨A', k, c', g1, g2.otherB g3.1 (by omega) 0 _, g3⟩), h3⟩, ⟨h4, h5, h6, h7⟩⟩
          case rest =>
            obtain ⟨A1, k1, cc1, rfl, HR1, HF1⟩ := hcut
            gi_wp2
            exact ⟨HF1.out.hk, rfl, x, A1, k1, cc1, ⟨HBO.out, fun p hp => Nat.le_trans (Nat.le_trans hwW hsz) (HR1.out.2.1 p hp), HR1.out.2.2⟩, ⟨HR1.out.1, HF1.out.h2⟩, ⟨HF1.out.h3, HF1.out.h4⟩, HF1.out.hg⟩
    case done =>
      rintro D ys W hD hS ⟨⟨hpre, hMp, hE⟩, hsz⟩ hK
      obtain ⟨x, hx⟩ := HEX.out
      have := hpre x (hS x)
      rw [hx] at this
      cases this
    case stop =>
      rintro D cc pre W hD _ ⟨rfl, x, A', k, c', hb, ⟨h1, h2⟩, ⟨h3, h4⟩, hg⟩ hK
      have k2 := (h2.kept (row := some D) ⟨rfl, rfl, rfl, by simp [World.putObj], fun j _ hj => World.putObj_heap_other (fun e => hj (by rw [e]))⟩ (fun e => by cases e; omega) : Hp (W.putObj D (.deferred none)) _ _ _).blk.one
      have k3 := (h3.kept (row := some D) ⟨rfl, rfl, rfl, by simp [World.putObj], fun j _ hj => World.putObj_heap_other (fun e => hj (by rw [e]))⟩ (fun e => by cases e; omega) : Hp (W.putObj D (.deferred none)) _ _ _).blk.one
      have k4 := (h4.kept (row := some D) ⟨rfl, rfl, rfl, by simp [World.putObj], fun j _ hj => World.putObj_heap_other (fun e => hj (by rw [e]))⟩ (fun e => by cases e; omega) : Hp (W.putObj D (.deferred none)) _ _ _).blk.one
      have kr : Reads (W.putObj D (.deferred none)) A' k (chK L l x.1 N).2 := Reads.own (b := D) () W _ (some D) h1 ⟨rfl, rfl, rfl, by simp [World.putObj], fun j _ hj => World.putObj_heap_other (fun e => hj (by rw [e]))⟩ (fun j e => by cases e; exact ⟨Nat.le_refl _, _, hK, rfl⟩)
      have kb : Below w.heap.size w (W.putObj D (.deferred none)) := hg.grown (row := some D) ⟨rfl, rfl, rfl, by simp [World.putObj], fun j _ hj => World.putObj_heap_other (fun e => hj (by rw [e]))⟩ hg.size (fun j e => by cases e; omega)
      have HF := Lib.hid (And.intro hb (And.intro kr kb))
      have HK := Lib.hid hK
      clear hb kr kb h1 h2 h3 h4 hg hK
      refine wpIn_wide.2 ?_
      go_wp2_with fail
      refine ⟨by simp, .inl ⟨_, _, rfl, run_takeDeferred HK.out, ?_⟩⟩
      exact ⟨.tuple #[.slice A' k c', .int .i64 (leftF s x.1 : Int), .int .i64 0], by simp [results, Try.f30, go_sem, k2, k3, k4], x, A', k, c', ⟨HF.out.1, rfl⟩, HF.out.2.1, HF.out.2.2⟩
end Go.Proofs.Ytpnkbjdeiedhlaa
