/- Divide: the table of single errors. -/
import Derived.Test.YtjncoableanmpaaLV
namespace Go.Proofs.Ytjncoableanmpaa
open Go.RowKit Go.Lib Go.Shelf
attribute [local go_sem] field89_0 field89_2

/-- A row of the table. -/
abbrev rowV (n B : Nat) : Value := .slice (some ⟨B, 0, none⟩) (n + 1) (n + 1)
/-- The table with jr rows, of which jn are filled. -/
structure T0 (l : List Cd) (n Ba B8 lo : Nat) (Bs : Nat → Nat) (jr jn : Nat) (W : World) : Prop where
  ba : ∃ cs : List Value, cs.length = n ∧ Blk W Ba cs ∧ ∀ i, i < jr → cs[i]? = some (rowV n (Bs i))
  num : ∀ i e, i < jn → i < e → e ≤ n → W.cell? ⟨Bs i, e * 2, none⟩ = some (.int .i64 (alo l i e).num) ∧ W.cell? ⟨Bs i, e * 2 + 1, none⟩ = some (.int .i64 ((alo l i e).den : Int))
  low : ∀ i, i < jr → lo < Bs i
  inj : ∀ i k, i < k → k < jr → Bs i ≠ Bs k
  b8 : Blk W B8 [.slice (some ⟨Ba, 0, none⟩) n n]
  ne : Ba ≠ B8 ∧ Ba ≤ lo ∧ B8 ≤ lo
section
variable {l : List Cd} {n Ba B8 lo : Nat} {Bs : Nat → Nat} {jr jn : Nat} {W W' : World}
theorem T0.later (h : T0 l n Ba B8 lo Bs jr jn W) (hb : Below W.heap.size W W') : T0 l n Ba B8 lo Bs jr jn W' := by
  obtain ⟨cs, h1, h2, h3⟩ := h.ba
  exact ⟨⟨cs, h1, h2.later hb, h3⟩, fun i e a b c => ⟨(hb.cell (p := ⟨Bs i, e * 2, none⟩) (World.block_lt_of_cell? W _ (h.num i e a b c).1)).trans (h.num i e a b c).1, (hb.cell (p := ⟨Bs i, e * 2 + 1, none⟩) (World.block_lt_of_cell? W _ (h.num i e a b c).2)).trans (h.num i e a b c).2⟩, h.low, h.inj, h.b8.later hb, h.ne⟩
/-- The j-th cell of the table's first block. -/
theorem T0.cell (h : T0 l n Ba B8 lo Bs jr jn W) {j : Nat} (hj : j < n) : W.cell? ⟨Ba, j, none⟩ = some (valAt W ⟨Ba, j, none⟩) ∧ W.frozen? ⟨Ba, j, none⟩ = false ∧ Ba < W.heap.size := by
  obtain ⟨cs, h1, h2, h3⟩ := h.ba
  exact ⟨valAt_of (h2.cell j _ (List.getElem?_eq_getElem (by omega))), h2.free j, h2.lt⟩
theorem T0.row (h : T0 l n Ba B8 lo Bs jr jn W) {j : Nat} (hj : j < jr) : W.cell? ⟨Ba, j, none⟩ = some (rowV n (Bs j)) := by
  obtain ⟨cs, h1, h2, h3⟩ := h.ba
  exact h2.cell j _ (h3 j hj)
/-- A row is set. -/
theorem T0.set (h : T0 l n Ba B8 lo Bs jr jn W) (hj : jr < n) (hjn : jn ≤ jr) {B : Nat} (hB : lo < B) (hnew : ∀ i, i < jr → Bs i ≠ B) : T0 l n Ba B8 lo (fun i => if i = jr then B else Bs i) (jr + 1) jn (W.setCell ⟨Ba, jr, none⟩ (rowV n B)) := by
  obtain ⟨cs, h1, h2, h3⟩ := h.ba
  refine ⟨⟨cs.set jr (rowV n B), by simp [h1], h2.set jr (by omega) _, fun i hi => ?_⟩, fun i e a b c => ?_, fun i hi => ?_, fun i k a b => ?_, h.b8.other h.ne.1 _ _, h.ne⟩
  · by_cases e : i = jr
    · subst e
      rw [List.getElem?_set_self (by omega), if_pos rfl]
    · rw [List.getElem?_set_ne (by omega), if_neg e]
      exact h3 i (by omega)
  · have hij : i ≠ jr := by omega
    have hl := h.low i (by omega)
    have := h.ne
    try dsimp only
    rw [if_neg hij, World.cell?_setCell_other _ _ _ _ (by intro e; cases e; omega), World.cell?_setCell_other _ _ _ _ (by intro e; cases e; omega)]
    exact h.num i e a b c
  · try dsimp only
    split
    · exact hB
    · exact h.low i (by omega)
  · try dsimp only
    by_cases e : k = jr
    · rw [if_pos e, if_neg (by omega)]
      exact hnew i (by omega)
    · rw [if_neg e, if_neg (by omega)]
      exact h.inj i k a (by omega)
/-- A row that is being filled: up to the column e. -/
def T1 (l : List Cd) (n Ba B8 lo : Nat) (Bs : Nat → Nat) (j e : Nat) (W : World) : Prop :=
  T0 l n Ba B8 lo Bs (j + 1) j W ∧ ∃ ds : List Value, ds.length = (n + 1) * 2 ∧ Blk W (Bs j) ds ∧ ∀ e', j < e' → e' < e → ds[e' * 2]? = some (.int .i64 (alo l j e').num) ∧ ds[e' * 2 + 1]? = some (.int .i64 ((alo l j e').den : Int))
theorem T1.later {j e : Nat} (h : T1 l n Ba B8 lo Bs j e W) (hb : Below W.heap.size W W') : T1 l n Ba B8 lo Bs j e W' := by
  obtain ⟨h0, ds, h1, h2, h3⟩ := h
  exact ⟨h0.later hb, ds, h1, h2.later hb, h3⟩
theorem T1.vals {j e : Nat} (h : T1 l n Ba B8 lo Bs j e W) {e' : Nat} (he : e' ≤ n) : (W.cell? ⟨Bs j, e' * 2, none⟩ = some (valAt W ⟨Bs j, e' * 2, none⟩) ∧ W.cell? ⟨Bs j, e' * 2 + 1, none⟩ = some (valAt W ⟨Bs j, e' * 2 + 1, none⟩)) ∧ W.frozen? ⟨Bs j, e' * 2, none⟩ = false ∧ W.frozen? ⟨Bs j, e' * 2 + 1, none⟩ = false := by
  obtain ⟨h0, ds, h1, h2, h3⟩ := h
  exact ⟨⟨valAt_of (h2.cell _ _ (List.getElem?_eq_getElem (by omega))), valAt_of (h2.cell _ _ (List.getElem?_eq_getElem (by omega)))⟩, h2.free _, h2.free _⟩
/-- A column is filled. -/
theorem T1.set {j e : Nat} (h : T1 l n Ba B8 lo Bs j e W) (he : e ≤ n) : T1 l n Ba B8 lo Bs j (e + 1) ((W.setCell ⟨Bs j, e * 2, none⟩ (.int .i64 (alo l j e).num)).setCell ⟨Bs j, e * 2 + 1, none⟩ (.int .i64 ((alo l j e).den : Int))) := by
  obtain ⟨h0, ds, h1, h2, h3⟩ := h
  obtain ⟨cs, c1, c2, c3⟩ := h0.ba
  have hl := h0.low j (by omega)
  have hn := h0.ne
  refine ⟨⟨⟨cs, c1, (c2.other (by omega) _ _).other (by omega) _ _, c3⟩, fun i e' a b c => ?_, h0.low, h0.inj, (h0.b8.other (by omega) _ _).other (by omega) _ _, h0.ne⟩, (ds.set (e * 2) _).set (e * 2 + 1) _, by simp [h1], (h2.set (e * 2) (by omega) _).set (e * 2 + 1) (by simp; omega) _, fun e' a b => ?_⟩
  · have hne := h0.inj i j a (by omega)
    rw [World.cell?_setCell_other _ _ _ _ (by intro e; exact hne (congrArg Addr.block e).symm), World.cell?_setCell_other _ _ _ _ (by intro e; exact hne (congrArg Addr.block e).symm), World.cell?_setCell_other _ _ _ _ (by intro e; exact hne (congrArg Addr.block e).symm), World.cell?_setCell_other _ _ _ _ (by intro e; exact hne (congrArg Addr.block e).symm)]
    exact h0.num i e' a b c
  · by_cases ee : e' = e
    · subst ee
      rw [List.getElem?_set_ne (by omega), List.getElem?_set_self (by omega), List.getElem?_set_self (by simp; omega)]
      exact ⟨rfl, rfl⟩
    · rw [List.getElem?_set_ne (by omega), List.getElem?_set_ne (by omega), List.getElem?_set_ne (by omega), List.getElem?_set_ne (by omega)]
      exact h3 e' a (by omega)
theorem T1.done {j : Nat} (h : T1 l n Ba B8 lo Bs j (n + 1) W) : T0 l n Ba B8 lo Bs (j + 1) (j + 1) W := by
  obtain ⟨h0, ds, h1, h2, h3⟩ := h
  refine ⟨h0.ba, fun i e a b c => ?_, h0.low, h0.inj, h0.b8, h0.ne⟩
  by_cases ee : i = j
  · subst ee
    have := h3 e b (by omega)
    exact ⟨h2.cell _ _ this.1, h2.cell _ _ this.2⟩
  · exact h0.num i e (by omega) b c
end
theorem below2' {b0 B : Nat} {w w1 : World} (h : Below b0 w w1) (hB : b0 ≤ B) (i j : Nat) (a b : Value) : Below b0 w ((w1.setCell ⟨B, i, none⟩ a).setCell ⟨B, j, none⟩ b) :=
  (h.setCell (p := ⟨B, i, none⟩) hB _).setCell (p := ⟨B, j, none⟩) hB _
def upd {β : Type} (f : Nat → β) (e : Nat) (x : β) : Nat → β := fun i => if i = e then x else f i
theorem upd_same {β : Type} (f : Nat → β) (e : Nat) (x : β) : upd f e x e = x := if_pos rfl
theorem upd_ne {β : Type} (f : Nat → β) {e i : Nat} (x : β) (h : i ≠ e) : upd f e x i = f i := if_neg h
theorem Sv.Rd.other {s : Sv} {W : World} {xs : List Int} (h : s.Rd W xs) {B : Nat} (hne : s.b ≠ B) (i : Nat) (v : Value) : s.Rd (W.setCell ⟨B, i, none⟩ v) xs := by
  refine ⟨⟨h.1.1, h.1.2.1, fun h0 => ?_⟩, h.2⟩
  obtain ⟨b, o, e, hc⟩ := h.1.2.2 h0
  cases e
  exact ⟨s.b, s.o, rfl, fun j hj => by rw [World.cell?_setCell_other _ _ _ _ (by intro e; exact hne (congrArg Addr.block e).symm)]; exact hc j hj⟩
/-- The shares below the index k. -/
structure S0 (n Bh B11 lo : Nat) (tb : Nat → Sh) (sv : Nat → Sv) (k : Nat) (W : World) : Prop where
  bh : ∃ ds : List Value, ds.length = (n + 1) * 3 ∧ Blk W Bh ds ∧ ∀ e, 1 ≤ e → e < k → ds[e * 3]? = some (.int .i64 (tb e).1.num) ∧ ds[e * 3 + 1]? = some (.int .i64 ((tb e).1.den : Int)) ∧ ds[e * 3 + 2]? = some (sv e).v
  rd : ∀ e, 1 ≤ e → e < k → (sv e).Rd W (tb e).2
  low : ∀ e, 1 ≤ e → e < k → lo < (sv e).b
  b11 : Blk W B11 [.slice (some ⟨Bh, 0, none⟩) (n + 1) (n + 1)]
  ne : Bh ≠ B11 ∧ Bh ≤ lo ∧ B11 ≤ lo
section
variable {n Bh B11 lo k : Nat} {tb : Nat → Sh} {sv : Nat → Sv} {W W' : World}
theorem S0.later (h : S0 n Bh B11 lo tb sv k W) (hb : Below W.heap.size W W') : S0 n Bh B11 lo tb sv k W' := by
  obtain ⟨ds, h1, h2, h3⟩ := h.bh
  exact ⟨⟨ds, h1, h2.later hb, h3⟩, fun e a b => (h.rd e a b).later hb, h.low, h.b11.later hb, h.ne⟩
theorem S0.vals (h : S0 n Bh B11 lo tb sv k W) {e : Nat} (he : e ≤ n) : (W.cell? ⟨Bh, e * 3, none⟩ = some (valAt W ⟨Bh, e * 3, none⟩) ∧ W.cell? ⟨Bh, e * 3 + 1, none⟩ = some (valAt W ⟨Bh, e * 3 + 1, none⟩) ∧ W.cell? ⟨Bh, e * 3 + 2, none⟩ = some (valAt W ⟨Bh, e * 3 + 2, none⟩)) ∧ W.frozen? ⟨Bh, e * 3, none⟩ = false ∧ W.frozen? ⟨Bh, e * 3 + 1, none⟩ = false ∧ W.frozen? ⟨Bh, e * 3 + 2, none⟩ = false := by
  obtain ⟨ds, h1, h2, h3⟩ := h.bh
  exact ⟨⟨valAt_of (h2.cell _ _ (List.getElem?_eq_getElem (by omega))), valAt_of (h2.cell _ _ (List.getElem?_eq_getElem (by omega))), valAt_of (h2.cell _ _ (List.getElem?_eq_getElem (by omega)))⟩, h2.free _, h2.free _, h2.free _⟩
/-- A share is set, and it reads in a later world. -/
theorem S0.putA (h : S0 n Bh B11 lo tb sv k W) {e k' : Nat} (he : e ≤ n) (hk : ∀ i, 1 ≤ i → i < k' → i ≠ e → i < k) {r : Sh} {s : Sv} {X : World}
    (hX : Below W.heap.size (((W.setCell ⟨Bh, e * 3, none⟩ (.int .i64 r.1.num)).setCell ⟨Bh, e * 3 + 1, none⟩ (.int .i64 (r.1.den : Int))).setCell ⟨Bh, e * 3 + 2, none⟩ s.v) X) (hr : s.Rd X r.2) (hs : lo < s.b) :
    S0 n Bh B11 lo (upd tb e r) (upd sv e s) k' X := by
  obtain ⟨ds, h1, h2, h3⟩ := h.bh
  have hn := h.ne
  have hX3 : Below (((W.setCell ⟨Bh, e * 3, none⟩ (.int .i64 r.1.num)).setCell ⟨Bh, e * 3 + 1, none⟩ (.int .i64 (r.1.den : Int))).setCell ⟨Bh, e * 3 + 2, none⟩ s.v).heap.size (((W.setCell ⟨Bh, e * 3, none⟩ (.int .i64 r.1.num)).setCell ⟨Bh, e * 3 + 1, none⟩ (.int .i64 (r.1.den : Int))).setCell ⟨Bh, e * 3 + 2, none⟩ s.v) X := by simpa using hX
  refine ⟨⟨((ds.set (e * 3) _).set (e * 3 + 1) _).set (e * 3 + 2) _, by simp [h1], (((h2.set (e * 3) (by omega) _).set (e * 3 + 1) (by simp; omega) _).set (e * 3 + 2) (by simp; omega) _).later hX3, fun i a b => ?_⟩, fun i a b => ?_, fun i a b => ?_, (((h.b11.other (by omega) _ _).other (by omega) _ _).other (by omega) _ _).later hX3, h.ne⟩
  · by_cases ee : i = e
    · subst ee
      rw [upd_same, upd_same, List.getElem?_set_ne (by omega), List.getElem?_set_ne (by omega), List.getElem?_set_self (by omega), List.getElem?_set_ne (by omega), List.getElem?_set_self (by simp; omega), List.getElem?_set_self (by simp; omega)]
      exact ⟨rfl, rfl, rfl⟩
    · rw [upd_ne _ _ ee, upd_ne _ _ ee]
      simp only [List.getElem?_set]
      rw [if_neg (by omega), if_neg (by omega), if_neg (by omega), if_neg (by omega), if_neg (by omega), if_neg (by omega), if_neg (by omega), if_neg (by omega), if_neg (by omega)]
      exact h3 i a (hk i a b ee)
  · by_cases ee : i = e
    · subst ee
      rw [upd_same, upd_same]
      exact hr
    · rw [upd_ne _ _ ee, upd_ne _ _ ee]
      have := h.low i a (hk i a b ee)
      exact ((((h.rd i a (hk i a b ee)).other (by omega) _ _).other (by omega) _ _).other (by omega) _ _).later hX3
  · by_cases ee : i = e
    · subst ee
      rw [upd_same]
      exact hs
    · rw [upd_ne _ _ ee]
      exact h.low i a (hk i a b ee)
/-- A share is set. -/
theorem S0.put (h : S0 n Bh B11 lo tb sv k W) {e k' : Nat} (he : e ≤ n) (hk : ∀ i, 1 ≤ i → i < k' → i ≠ e → i < k) {r : Sh} {s : Sv} (hr : s.Rd W r.2) (hs : lo < s.b) :
    S0 n Bh B11 lo (upd tb e r) (upd sv e s) k' (((W.setCell ⟨Bh, e * 3, none⟩ (.int .i64 r.1.num)).setCell ⟨Bh, e * 3 + 1, none⟩ (.int .i64 (r.1.den : Int))).setCell ⟨Bh, e * 3 + 2, none⟩ s.v) := by
  have hn := h.ne
  exact h.putA he hk (Below.refl _ _) (((hr.other (by omega) _ _).other (by omega) _ _).other (by omega) _ _) hs
end
/-- Three cells of a block. -/
theorem below3' {b0 B : Nat} {w w1 : World} (h : Below b0 w w1) (hB : b0 ≤ B) (i j k : Nat) (x y z : Value) : Below b0 w (((w1.setCell ⟨B, i, none⟩ x).setCell ⟨B, j, none⟩ y).setCell ⟨B, k, none⟩ z) :=
  ((h.setCell (p := ⟨B, i, none⟩) hB _).setCell (p := ⟨B, j, none⟩) hB _).setCell (p := ⟨B, k, none⟩) hB _
theorem Sv.Rd.one (w : World) (x : Int) (t : TypeId) : Sv.Rd ⟨w.heap.size, 0, 1, 1⟩ (w.alloc (.cells #[.int .i64 x] t)) [x] := by
  refine ⟨⟨rfl, by dsimp only; omega, fun _ => ⟨w.heap.size, 0, rfl, fun j hj => ?_⟩⟩, by dsimp only; omega, by dsimp only; omega, by dsimp only; omega⟩
  have : j = 0 := by have : j < 1 := hj; omega
  subst this
  exact (Blk.new w [.int .i64 x] t).cell 0 _ rfl
theorem reads_sub {w : World} {b off n : Nat} {l : List Cd} (h : ReadsC w (some ⟨b, off, none⟩) n l) {j e : Nat} (h1 : j < e) (h2 : e ≤ n) : ReadsC w (some ⟨b, off + j * 3, none⟩) (e - j) (sub l j e) := by
  refine ⟨sub_len (by rw [h.1]; exact h2), by have := h.2.1; omega, fun _ => ⟨b, off + j * 3, rfl, fun i hi => ?_⟩⟩
  have := h.at (j := j + i) (by omega)
  rw [show off + (j + i) * 3 = off + j * 3 + i * 3 by omega] at this
  rw [sub_at hi]
  exact this

/-- The number in a box. -/
def boxN (v : Value) (W : World) : Nat :=
  match v with
  | .pointer (some a) => (intOf (valAt W a)).toNat
  | _ => 0
theorem boxN_of {W : World} {B q : Nat} (h : Blk W B [.int .i64 (q : Int)]) : boxN (.pointer (some ⟨B, 0, none⟩)) W = q := by
  show (intOf ((W.cell? ⟨B, 0, none⟩).getD undef)).toNat = q
  rw [h.one]
  rfl
theorem alo_sml {l : List Cd} (hg : Good l) {a e : Nat} (h1 : a < e) (h2 : e ≤ l.length) : Sml (alo l a e) := by
  have hs := sub_good hg h1 h2
  obtain ⟨t, ht, e, _⟩ := bestC_spec hs.pos
  unfold alo
  rw [e]
  exact clm_bd hs ht
theorem dF_sml {l : List Cd} (hg : Good l) (k : Nat) : ∀ e, 1 ≤ e → e ≤ l.length → Sml (dF l k e).1 ∧ (dF l k e).2.length ≤ k + 1 := by
  induction k with
  | zero => exact fun e h1 h2 => ⟨alo_sml hg h1 h2, by simp [dF]⟩
  | succ k ih =>
    intro e h1 h2
    unfold dF
    rcases leastS_spec ((List.range' (k + 1) (e - (k + 1))).map (wayF l (dF l k) e)) with ⟨_, h⟩ | ⟨b, h, hb, _⟩
    · rw [h]
      exact ⟨⟨by decide, by decide, by decide⟩, by simp⟩
    · rw [h]
      obtain ⟨a, ha, rfl⟩ := List.mem_map.1 hb
      rw [List.mem_range'_1] at ha
      have := ih a (by omega) (by omega)
      refine ⟨?_, ?_⟩
      · show Sml (if _ then _ else _)
        split
        · exact this.1
        · exact alo_sml hg (by omega) h2
      · show ((dF l k a).2 ++ [(a : Int)]).length ≤ _
        simp
        exact this.2
theorem dF_succ {l : List Cd} {k e : Nat} {r : Sh} {tb : Nat → Sh} (h : leastS ((List.range' (k + 1) (e - (k + 1))).map (wayF l tb e)) = some r) (ht : ∀ i, k + 1 ≤ i → i < e → tb i = dF l k i) : dF l (k + 1) e = r := by
  have : (List.range' (k + 1) (e - (k + 1))).map (wayF l tb e) = (List.range' (k + 1) (e - (k + 1))).map (wayF l (dF l k) e) := List.map_congr_left fun i hi => by
    rw [List.mem_range'_1] at hi
    unfold wayF
    rw [ht i hi.1 (by omega)]
  unfold dF
  rw [← this, h]
  rfl
end Go.Proofs.Ytjncoableanmpaa
