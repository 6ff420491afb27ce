/- What codes prove: the contract of claim. -/
import Derived.Test.YtjncoableanmpaaLC
import Derived.Deep.DeepCutAuto
import Derived.DeepKeys
namespace Go.Proofs.Ytjncoableanmpaa
open Go.RowKit Go.Lib Go.Shelf

theorem guard87 : Try.prog.eqGuardType Try.prog.depth 87 = false := by kernel_rfl
theorem und87 : Try.prog.underlying 87 = some (.array 3 3) := by kernel_rfl
theorem und3 : Try.prog.underlying 3 = some (.int .i64) := by kernel_rfl
theorem info3 : (Try.prog.info? 3).map (fun i => (i.zero, i.size, i.bytes)) = some (some (.int .i64 0), 1, 8) := by kernel_rfl
theorem run_eq87 (x0 x1 x2 y0 y1 y2 : Int) (w : World) : (Go.binOp .eql 87 (Value.agg #[.int .i64 x0, .int .i64 x1, .int .i64 x2]) (Value.agg #[.int .i64 y0, .int .i64 y1, .int .i64 y2])).run Try.prog w = .ok (.bool ((x0 == y0) && ((x1 == y1) && (x2 == y2)))) w := by
  obtain ⟨i0, hi, _, _, _⟩ := info_parts info3
  rw [run_eql_struct, show (10000 : Nat) = 9999 + 1 from rfl, run_equalIn_array w 9999 _ _ und87 hi]
  have hc : Try.prog.cellsOf 3 = 1 := by kernel_rfl
  rw [hc]
  simp only [Op.eqItems, List.range, List.range.loop]
  by_cases h0 : x0 = y0
  · by_cases h1 : x1 = y1
    · by_cases h2 : x2 = y2
      · simp [go_sem, h0, h1, h2]
      · simp [go_sem, h0, h1, h2]
    · simp [go_sem, h0, h1]
  · simp [go_sem, h0]
theorem run_max3 {P : Program} (w : World) (ts : Array TypeId) (t : TypeId) (k k' k'' : IntKind) (x y z : Int) :
    (Builtin.max_ ts t #[.int k x, .int k' y, .int k'' z]).run P w = .ok (.int k (max (max x y) z)) w := by
  have e : ∀ a b : Int, (if a < b then b else a) = max a b := fun a b => by
    split <;> omega
  have h2 : ∀ (k k' : IntKind) (x y : Int), Builtin.max2 (.int k x) (.int k' y) = pure (.int k (max x y)) := fun k k' x y => by
    simp only [Builtin.max2]
    rw [e]
  have h3 : Builtin.max_ ts t #[.int k x, .int k' y, .int k'' z] = (Builtin.max2 (.int k x) (.int k' y) >>= fun s => Builtin.max2 s (.int k'' z) >>= fun s => pure s) := by
    simp only [Builtin.max_, List.foldlM_cons, List.foldlM_nil]
  rw [h3, h2]
  simp only [pure_bind, h2]
  rfl
attribute [local go_sem] run_max3
attribute [local go_sem high] run_eq87

/-- A slice that reads as a list of codes. -/
def ReadsC (w : World) (A : Option Addr) (n : Nat) (l : List Cd) : Prop :=
  l.length = n ∧ n ≤ 17592186044416 ∧ (0 < n → ∃ b off, A = some ⟨b, off, none⟩ ∧ ∀ j, j < n → w.cell? ⟨b, off + j * 3, none⟩ = some (.int .i64 (cAt l j).1) ∧ w.cell? ⟨b, off + j * 3 + 1, none⟩ = some (.int .i64 (cAt l j).2.1) ∧ w.cell? ⟨b, off + j * 3 + 2, none⟩ = some (.int .i64 (cAt l j).2.2))
theorem ReadsC.later {w w1 : World} {A : Option Addr} {n : Nat} {l : List Cd} (h : ReadsC w A n l) (hb : Below w.heap.size w w1) : ReadsC w1 A n l := by
  refine ⟨h.1, h.2.1, fun h0 => ?_⟩
  obtain ⟨b, off, e, hc⟩ := h.2.2 h0
  exact ⟨b, off, e, fun j hj => ⟨(hb.cell (p := ⟨b, off + j * 3, none⟩) (World.block_lt_of_cell? w _ (hc j hj).1)).trans (hc j hj).1, (hb.cell (p := ⟨b, off + j * 3 + 1, none⟩) (World.block_lt_of_cell? w _ (hc j hj).2.1)).trans (hc j hj).2.1, (hb.cell (p := ⟨b, off + j * 3 + 2, none⟩) (World.block_lt_of_cell? w _ (hc j hj).2.2)).trans (hc j hj).2.2⟩⟩
theorem Held.readsC {w : World} {A : Option Addr} {n : Nat} {l : List Cd} (h : ReadsC w A n l) : Held w (fun W => ReadsC W A n l) := fun _ hW => h.later hW
/-- The j-th code of a list that is read. -/
theorem ReadsC.at {w : World} {b off n : Nat} {l : List Cd} (h : ReadsC w (some ⟨b, off, none⟩) n l) {j : Nat} (hj : j < n) : w.cell? ⟨b, off + j * 3, none⟩ = some (.int .i64 (cAt l j).1) ∧ w.cell? ⟨b, off + j * 3 + 1, none⟩ = some (.int .i64 (cAt l j).2.1) ∧ w.cell? ⟨b, off + j * 3 + 2, none⟩ = some (.int .i64 (cAt l j).2.2) := by
  obtain ⟨b', off', e, hc⟩ := h.2.2 (by omega)
  cases e
  exact hc j hj

/-- What a claim is in Go. -/
def clv (x : Cl) : Value := .agg #[.int .i64 x.off.num, .int .i64 (x.off.den : Int), .bool x.up, .int .i64 (x.who.1 : Int), .int .i64 (x.who.2.1 : Int), .int .i64 (x.who.2.2 : Int)]

theorem blk3_0 (w : World) (cs : List Value) (t : TypeId) (o o' : Obj) : Blk (((w.alloc (.cells cs.toArray t)).alloc o).alloc o').drew w.heap.size cs := (((Blk.new w cs t).alloc o).alloc o').drew
theorem blk3_1 (w : World) (cs : List Value) (t : TypeId) (o o' : Obj) : Blk (((w.alloc o).alloc (.cells cs.toArray t)).alloc o').drew (w.heap.size + 1) cs := (Blk.alloc (by simpa using Blk.new (w.alloc o) cs t) o').drew
theorem blk3_2 (w : World) (cs : List Value) (t : TypeId) (o o' : Obj) : Blk (((w.alloc o).alloc o').alloc (.cells cs.toArray t)).drew (w.heap.size + 1 + 1) cs := Blk.drew (by simpa using Blk.new ((w.alloc o).alloc o') cs t)
theorem below3 (w : World) (o o' o'' : Obj) : Below w.heap.size w (((w.alloc o).alloc o').alloc o'').drew := ((((Below.refl _ _).alloc (Nat.le_refl _) _).alloc (by simp) _).alloc (by simp; omega) _).drew
theorem Blk.six {w : World} {B : Nat} {a b c d e f : Value} (h : Blk w B [a, b, c, d, e, f]) : w.cell? ⟨B, 0, none⟩ = some a ∧ w.cell? ⟨B, 1, none⟩ = some b ∧ w.cell? ⟨B, 2, none⟩ = some c ∧ w.cell? ⟨B, 3, none⟩ = some d ∧ w.cell? ⟨B, 4, none⟩ = some e ∧ w.cell? ⟨B, 5, none⟩ = some f := ⟨h.cell 0 _ rfl, h.cell 1 _ rfl, h.cell 2 _ rfl, h.cell 3 _ rfl, h.cell 4 _ rfl, h.cell 5 _ rfl⟩
theorem Blk.free6 {w : World} {B : Nat} {cs : List Value} (h : Blk w B cs) : w.frozen? ⟨B, 0, none⟩ = false ∧ w.frozen? ⟨B, 1, none⟩ = false ∧ w.frozen? ⟨B, 2, none⟩ = false ∧ w.frozen? ⟨B, 3, none⟩ = false ∧ w.frozen? ⟨B, 4, none⟩ = false ∧ w.frozen? ⟨B, 5, none⟩ = false := ⟨h.free 0, h.free 1, h.free 2, h.free 3, h.free 4, h.free 5⟩
theorem Blk.vals6 {w : World} {B : Nat} {a b c d e f : Value} (h : Blk w B [a, b, c, d, e, f]) : (w.cell? ⟨B, 0, none⟩ = some (valAt w ⟨B, 0, none⟩) ∧ w.cell? ⟨B, 1, none⟩ = some (valAt w ⟨B, 1, none⟩) ∧ w.cell? ⟨B, 2, none⟩ = some (valAt w ⟨B, 2, none⟩) ∧ w.cell? ⟨B, 3, none⟩ = some (valAt w ⟨B, 3, none⟩) ∧ w.cell? ⟨B, 4, none⟩ = some (valAt w ⟨B, 4, none⟩) ∧ w.cell? ⟨B, 5, none⟩ = some (valAt w ⟨B, 5, none⟩)) ∧ w.frozen? ⟨B, 0, none⟩ = false ∧ w.frozen? ⟨B, 1, none⟩ = false ∧ w.frozen? ⟨B, 2, none⟩ = false ∧ w.frozen? ⟨B, 3, none⟩ = false ∧ w.frozen? ⟨B, 4, none⟩ = false ∧ w.frozen? ⟨B, 5, none⟩ = false :=
  ⟨⟨valAt_of (h.cell 0 _ rfl), valAt_of (h.cell 1 _ rfl), valAt_of (h.cell 2 _ rfl), valAt_of (h.cell 3 _ rfl), valAt_of (h.cell 4 _ rfl), valAt_of (h.cell 5 _ rfl)⟩, h.free6⟩
/-- Six cells of a block are written. -/
def set6 (w : World) (B : Nat) (x0 x1 x2 x3 x4 x5 : Value) : World := (((((w.setCell ⟨B, 0, none⟩ x0).setCell ⟨B, 1, none⟩ x1).setCell ⟨B, 2, none⟩ x2).setCell ⟨B, 3, none⟩ x3).setCell ⟨B, 4, none⟩ x4).setCell ⟨B, 5, none⟩ x5
theorem Blk.put6 {w : World} {B : Nat} {a b c d e f : Value} (h : Blk w B [a, b, c, d, e, f]) (x0 x1 x2 x3 x4 x5 : Value) : Blk ((((((w.setCell ⟨B, 0, none⟩ x0).setCell ⟨B, 1, none⟩ x1).setCell ⟨B, 2, none⟩ x2).setCell ⟨B, 3, none⟩ x3).setCell ⟨B, 4, none⟩ x4).setCell ⟨B, 5, none⟩ x5) B [x0, x1, x2, x3, x4, x5] :=
  (((((h.set 0 (by simp) x0).set 1 (by simp) x1).set 2 (by simp) x2).set 3 (by simp) x3).set 4 (by simp) x4).set 5 (by simp) x5
theorem below6 {b0 B : Nat} {w w1 : World} (h : Below b0 w w1) (hB : b0 ≤ B) (x0 x1 x2 x3 x4 x5 : Value) : Below b0 w ((((((w1.setCell ⟨B, 0, none⟩ x0).setCell ⟨B, 1, none⟩ x1).setCell ⟨B, 2, none⟩ x2).setCell ⟨B, 3, none⟩ x3).setCell ⟨B, 4, none⟩ x4).setCell ⟨B, 5, none⟩ x5) :=
  (((((h.setCell (p := ⟨B, 0, none⟩) hB _).setCell (p := ⟨B, 1, none⟩) hB _).setCell (p := ⟨B, 2, none⟩) hB _).setCell (p := ⟨B, 3, none⟩) hB _).setCell (p := ⟨B, 4, none⟩) hB _).setCell (p := ⟨B, 5, none⟩) hB _
theorem mul_ab {a b : Int} {A B : Nat} (h1 : a.natAbs ≤ A) (h2 : b.natAbs ≤ B) : (a * b).natAbs ≤ A * B := by
  rw [Int.natAbs_mul]
  exact Nat.mul_le_mul h1 h2

set_option maxRecDepth 100000 in
set_option maxHeartbeats 4000000 in
theorem claim_three {b off n c : Nat} {l : List Cd} {i j k : Nat} (hij : i < j) (hjk : j < k) (hk : k < n) (w : World) (hl : ReadsC w (some ⟨b, off, none⟩) n l) (_hr : n ≤ 1000000)
    (t1 : Tame (cAt l i)) (t2 : Tame (cAt l j)) (t3 : Tame (cAt l k)) (s1 : (cAt l i).1 < (cAt l j).1) (s2 : (cAt l j).1 < (cAt l k).1) :
    Gives 52 #[.agg #[.int .i64 (i : Int), .int .i64 (j : Int), .int .i64 (k : Int)], .slice (some ⟨b, off, none⟩) n c] (clv (clm l (i, j, k))) w := by
  unfold Gives clv clm
  dsimp only
  rw [if_neg (show ¬ i = k by omega)]
  dsimp only
  have I : Held ((w.alloc (.cells [Value.int .i64 (i : Int), .int .i64 (j : Int), .int .i64 (k : Int)].toArray 87)).alloc (.cells [Value.int .i64 0, .int .i64 0, .bool false, .int .i64 0, .int .i64 0, .int .i64 0].toArray 89)) (fun W => Below w.heap.size w W ∧ ReadsC W (some ⟨b, off, none⟩) n l ∧ Blk W w.heap.size [Value.int .i64 (i : Int), .int .i64 (j : Int), .int .i64 (k : Int)] ∧ Blk W (w.heap.size + 1) [Value.int .i64 0, .int .i64 0, .bool false, .int .i64 0, .int .i64 0, .int .i64 0]) :=
    fun W hW => by
      have h1 : Below w.heap.size w W := (((Below.refl _ _).alloc (Nat.le_refl _) _).alloc (by simp) _).trans (hW.mono (by simp; omega))
      exact ⟨h1, hl.later h1, ((Blk.new w _ 87).alloc _).later hW, Blk.later (by simpa using Blk.new (w.alloc _) [Value.int .i64 0, .int .i64 0, .bool false, .int .i64 0, .int .i64 0, .int .i64 0] 89) hW⟩
  generalize hA : cAt l i = a at t1 s1 ⊢
  generalize hB : cAt l j = bb at t2 s1 s2 ⊢
  generalize hC : cAt l k = cc at t3 s2 ⊢
  have hi : i < n := by omega
  have hj : j < n := by omega
  have g1 : (i : Int) < (n : Int) := by omega
  have g2 : (j : Int) < (n : Int) := by omega
  have g3 : (k : Int) < (n : Int) := by omega
  have m1 : 0 < bb.1 - a.1 ∧ bb.1 - a.1 ≤ 20000 := by have := t1.s0; have := t2.s1; omega
  have m2 : 0 < cc.1 - bb.1 ∧ cc.1 - bb.1 ≤ 20000 := by have := t2.s0; have := t3.s1; omega
  have m3 : bb.1 - a.1 + (cc.1 - bb.1) ≤ 20000 := by have := t1.s0; have := t3.s1; omega
  have b1 := mul_bd (a := bb.2.2) (b := bb.1 - a.1 + (cc.1 - bb.1)) (A := 10000) (B := 20000) (by have := t2.l0; have := t2.l1; omega) t2.h1 (by omega) m3
  have b2 := mul_bd (a := a.2.1) (b := cc.1 - bb.1) (A := 10000) (B := 20000) t1.l0 (by have := t1.l1; have := t1.h1; omega) (by omega) m2.2
  have b3 := mul_bd (a := cc.2.1) (b := bb.1 - a.1) (A := 10000) (B := 20000) t3.l0 (by have := t3.l1; have := t3.h1; omega) (by omega) m1.2
  have b4 := mul_bd (a := a.2.2) (b := cc.1 - bb.1) (A := 10000) (B := 20000) (by have := t1.l0; have := t1.l1; omega) t1.h1 (by omega) m2.2
  have b5 := mul_bd (a := cc.2.2) (b := bb.1 - a.1) (A := 10000) (B := 20000) (by have := t3.l0; have := t3.l1; omega) t3.h1 (by omega) m1.2
  have b6 := mul_bd (a := bb.2.1) (b := bb.1 - a.1 + (cc.1 - bb.1)) (A := 10000) (B := 20000) t2.l0 (by have := t2.l1; have := t2.h1; omega) (by omega) m3
  have hup : upF a bb cc = bb.2.2 * ((bb.1 - a.1) + (cc.1 - bb.1)) - a.2.1 * (cc.1 - bb.1) - cc.2.1 * (bb.1 - a.1) := rfl
  have hdn : downF a bb cc = a.2.2 * (cc.1 - bb.1) + cc.2.2 * (bb.1 - a.1) - bb.2.1 * ((bb.1 - a.1) + (cc.1 - bb.1)) := rfl
  unfold three1
  generalize upF a bb cc = up at hup ⊢
  generalize downF a bb cc = dn at hdn ⊢
  generalize hlf : bb.1 - a.1 = lf at m1 m3 b1 b3 b5 b6 hup hdn ⊢
  generalize hrt : cc.1 - bb.1 = rt at m2 m3 b1 b2 b4 b6 hup hdn ⊢
  have u1 : IntKind.i64.wrap (bb.1 - a.1) = lf := by rw [hlf]; exact i64_in (by omega) (by omega)
  have u2 : IntKind.i64.wrap (cc.1 - bb.1) = rt := by rw [hrt]; exact i64_in (by omega) (by omega)
  generalize hwh : lf + rt = wh at m3 b1 b6 hup hdn ⊢
  have u3 : IntKind.i64.wrap (lf + rt) = wh := by rw [hwh]; exact i64_in (by omega) (by omega)
  have u4 : IntKind.i64.wrap (bb.2.2 * wh) = bb.2.2 * wh := i64_in (by omega) (by omega)
  have u5 : IntKind.i64.wrap (a.2.1 * rt) = a.2.1 * rt := i64_in (by omega) (by omega)
  have u6 : IntKind.i64.wrap (cc.2.1 * lf) = cc.2.1 * lf := i64_in (by omega) (by omega)
  have u7 : IntKind.i64.wrap (a.2.2 * rt) = a.2.2 * rt := i64_in (by omega) (by omega)
  have u8 : IntKind.i64.wrap (cc.2.2 * lf) = cc.2.2 * lf := i64_in (by omega) (by omega)
  have u9 : IntKind.i64.wrap (bb.2.1 * wh) = bb.2.1 * wh := i64_in (by omega) (by omega)
  have v1 : IntKind.i64.wrap (bb.2.2 * wh - a.2.1 * rt) = bb.2.2 * wh - a.2.1 * rt := i64_in (by omega) (by omega)
  have v2 : IntKind.i64.wrap (bb.2.2 * wh - a.2.1 * rt - cc.2.1 * lf) = up := by rw [hup]; exact i64_in (by omega) (by omega)
  have v3 : IntKind.i64.wrap (a.2.2 * rt + cc.2.2 * lf) = a.2.2 * rt + cc.2.2 * lf := i64_in (by omega) (by omega)
  have v4 : IntKind.i64.wrap (a.2.2 * rt + cc.2.2 * lf - bb.2.1 * wh) = dn := by rw [hdn]; exact i64_in (by omega) (by omega)
  have v5 : IntKind.i64.wrap (2 * wh) = 2 * wh := i64_in (by omega) (by omega)
  have HC : ∀ W, Gives 38 #[.agg #[.int .i64 (max 0 (max up dn)), .int .i64 (2 * wh)]] (rv (fr (max 0 (max up dn)) (2 * wh))) W := fun W => plain_calls (by omega) (by omega) (by omega) W
  generalize hmx : max 0 (max up dn) = mx at HC ⊢
  generalize fr mx (2 * wh) = q at HC ⊢
  have HC := Lib.hid HC
  clear b1 b2 b3 b4 b5 b6 m1 m2 m3 hup hdn hlf hrt hwh t1 t2 t3 s1 s2
  clear hl
  go_enter Try.func52, Try.ntmps52
  go_wp2_with fail
  generalize World.alloc _ _ = w1 at I ⊢
  have hS : ∀ W, Below w1.heap.size w1 W → Below w1.heap.size w1 W ∧ (W.cell? ⟨w.heap.size, 0, none⟩ = some (.int .i64 (i : Int)) ∧ W.cell? ⟨w.heap.size, 1, none⟩ = some (.int .i64 (j : Int)) ∧ W.cell? ⟨w.heap.size, 2, none⟩ = some (.int .i64 (k : Int))) ∧
      (W.cell? ⟨b, off + i * 3, none⟩ = some (.int .i64 a.1) ∧ W.cell? ⟨b, off + i * 3 + 1, none⟩ = some (.int .i64 a.2.1) ∧ W.cell? ⟨b, off + i * 3 + 2, none⟩ = some (.int .i64 a.2.2)) ∧
      (W.cell? ⟨b, off + j * 3, none⟩ = some (.int .i64 bb.1) ∧ W.cell? ⟨b, off + j * 3 + 1, none⟩ = some (.int .i64 bb.2.1) ∧ W.cell? ⟨b, off + j * 3 + 2, none⟩ = some (.int .i64 bb.2.2)) ∧
      (W.cell? ⟨b, off + k * 3, none⟩ = some (.int .i64 cc.1) ∧ W.cell? ⟨b, off + k * 3 + 1, none⟩ = some (.int .i64 cc.2.1) ∧ W.cell? ⟨b, off + k * 3 + 2, none⟩ = some (.int .i64 cc.2.2)) := fun W hW => by
    have h := (I.next hW).now
    refine ⟨hW, h.2.2.1.three, ?_, ?_, ?_⟩
    · have := h.2.1.at hi; rwa [hA] at this
    · have := h.2.1.at hj; rwa [hB] at this
    · have := h.2.1.at hk; rwa [hC] at this
  have HS := Lib.hid hS
  have q0 := HS.out _ (Below.refl _ _)
  clear hS hA hB hC
  go_cut [5, 6, 7] (fun s5 s6 s7 wx => ∃ B5 B6 B7 : Nat, s5 = .pointer (some ⟨B5, 0, none⟩) ∧ s6 = .pointer (some ⟨B6, 0, none⟩) ∧ s7 = .pointer (some ⟨B7, 0, none⟩) ∧ Aside (Blk wx B5 [.int .i64 a.1, .int .i64 a.2.1, .int .i64 a.2.2]) ∧ Aside (Blk wx B6 [.int .i64 bb.1, .int .i64 bb.2.1, .int .i64 bb.2.2]) ∧ Aside (Blk wx B7 [.int .i64 cc.1, .int .i64 cc.2.1, .int .i64 cc.2.2]) ∧ Aside (Below w1.heap.size w1 wx))
  case first =>
    go_region_held3 (fun W => Below w1.heap.size w1 W ∧ (W.cell? ⟨w.heap.size, 0, none⟩ = some (.int .i64 (i : Int)) ∧ W.cell? ⟨w.heap.size, 1, none⟩ = some (.int .i64 (j : Int)) ∧ W.cell? ⟨w.heap.size, 2, none⟩ = some (.int .i64 (k : Int))) ∧
      (W.cell? ⟨b, off + i * 3, none⟩ = some (.int .i64 a.1) ∧ W.cell? ⟨b, off + i * 3 + 1, none⟩ = some (.int .i64 a.2.1) ∧ W.cell? ⟨b, off + i * 3 + 2, none⟩ = some (.int .i64 a.2.2)) ∧
      (W.cell? ⟨b, off + j * 3, none⟩ = some (.int .i64 bb.1) ∧ W.cell? ⟨b, off + j * 3 + 1, none⟩ = some (.int .i64 bb.2.1) ∧ W.cell? ⟨b, off + j * 3 + 2, none⟩ = some (.int .i64 bb.2.2)) ∧
      (W.cell? ⟨b, off + k * 3, none⟩ = some (.int .i64 cc.1) ∧ W.cell? ⟨b, off + k * 3 + 1, none⟩ = some (.int .i64 cc.2.1) ∧ W.cell? ⟨b, off + k * 3 + 2, none⟩ = some (.int .i64 cc.2.2)))
      (first | exact HS.out _ (by go_grown) | fail)
      (fail)
    all_goals
      go_wp2_with fail
      go_meet
      exact ⟨_, _, _, rfl, rfl, rfl, by first | exact blk3_0 .. | exact blk3_1 .. | exact blk3_2 .., by first | exact blk3_0 .. | exact blk3_1 .. | exact blk3_2 .., by first | exact blk3_0 .. | exact blk3_1 .. | exact blk3_2 .., below3 ..⟩
  case rest =>
    obtain ⟨B5, B6, B7, rfl, rfl, rfl, H5, H6, H7, HB⟩ := hcut
    have J := (((I.next HB.out).with (.blk H5.out)).with (.blk H6.out)).with (.blk H7.out)
    clear H5 H6 H7 HB HS q0
    have e1 : ((j : Int) == (i : Int)) = false := beq_eq_false_iff_ne.2 (by omega)
    have e2 : ¬ (j : Int) = (i : Int) := by omega
    have e3 : ¬ j = i := by omega
    have q0 := J.now.1.1.1.2.2.1.three
    have q5 := J.now.1.1.2.three
    have q6 := J.now.1.2.three
    have q7 := J.now.2.three
    have hgt := guard87
    go_wp2_with fail
    go_quiet (fail)
    replace J := J.next (below_drewN' (Below.refl _ _) nq)
    generalize World.drewN _ _ = w3 at J ⊢
    have q0 := J.now.1.1.1.2.2.1.three
    have qr := J.now.1.1.1.2.2.2.vals6
    have q5 := J.now.1.1.2.three
    have q6 := J.now.1.2.three
    have q7 := J.now.2.three
    go_wp2_with fail
    go_region_with (go_at_call 38; (with_reducible refine (Gives.c (HC.out _)).mono ?_); rintro e w4 ⟨rfl, hb⟩; replace J := J.next ((Below.refl _ _).drew.trans hb); clear hb qr q0 q5 q6 q7; have q0 := J.now.1.1.1.2.2.1.three; have qr := J.now.1.1.1.2.2.2.vals6; have zr := J.now.1.1.1.2.2.2.lt)
    all_goals
      have k6 := (J.now.1.1.1.2.2.2.put6 (.int .i64 q.num) (.int .i64 (q.den : Int)) (.bool (decide (dn < up))) (.int .i64 (i : Int)) (.int .i64 (j : Int)) (.int .i64 (k : Int))).six
      have kb := below6 J.now.1.1.1.1 (show w.heap.size ≤ w.heap.size + 1 by omega) (.int .i64 q.num) (.int .i64 (q.den : Int)) (.bool (decide (dn < up))) (.int .i64 (i : Int)) (.int .i64 (j : Int)) (.int .i64 (k : Int))
      generalize World.setCell _ _ _ = wf at k6 kb ⊢
      clear q0 qr zr
      go_wp2
      refine bodyPost_ret (v := .agg #[.int .i64 q.num, .int .i64 (q.den : Int), .bool (decide (dn < up)), .int .i64 (i : Int), .int .i64 (j : Int), .int .i64 (k : Int)]) (by simp [results, Try.results52, go_sem, k6]) rfl ⟨rfl, kb⟩

set_option maxRecDepth 100000 in
set_option maxHeartbeats 4000000 in
theorem claim_one {b off n c : Nat} {l : List Cd} {i : Nat} (hi : i < n) (w : World) (hl : ReadsC w (some ⟨b, off, none⟩) n l) (_hr : n ≤ 1000000) (t1 : Tame (cAt l i)) :
    Gives 52 #[.agg #[.int .i64 (i : Int), .int .i64 (i : Int), .int .i64 (i : Int)], .slice (some ⟨b, off, none⟩) n c] (clv (clm l (i, i, i))) w := by
  unfold Gives clv clm
  dsimp only
  rw [if_pos rfl]
  dsimp only
  have I : Held ((w.alloc (.cells [Value.int .i64 (i : Int), .int .i64 (i : Int), .int .i64 (i : Int)].toArray 87)).alloc (.cells [Value.int .i64 0, .int .i64 0, .bool false, .int .i64 0, .int .i64 0, .int .i64 0].toArray 89)) (fun W => Below w.heap.size w W ∧ ReadsC W (some ⟨b, off, none⟩) n l ∧ Blk W w.heap.size [Value.int .i64 (i : Int), .int .i64 (i : Int), .int .i64 (i : Int)] ∧ Blk W (w.heap.size + 1) [Value.int .i64 0, .int .i64 0, .bool false, .int .i64 0, .int .i64 0, .int .i64 0]) :=
    fun W hW => by
      have h1 : Below w.heap.size w W := (((Below.refl _ _).alloc (Nat.le_refl _) _).alloc (by simp) _).trans (hW.mono (by simp; omega))
      exact ⟨h1, hl.later h1, ((Blk.new w _ 87).alloc _).later hW, Blk.later (by simpa using Blk.new (w.alloc _) [Value.int .i64 0, .int .i64 0, .bool false, .int .i64 0, .int .i64 0, .int .i64 0] 89) hW⟩
  generalize hA : cAt l i = a at t1 ⊢
  have g1 : (i : Int) < (n : Int) := by omega
  unfold one1
  have u1 : IntKind.i64.wrap (a.2.2 - a.2.1) = a.2.2 - a.2.1 := i64_in (by have := t1.h1; have := t1.l0; have := t1.l1; omega) (by have := t1.h1; have := t1.l0; omega)
  have HC : ∀ W, Gives 38 #[.agg #[.int .i64 (a.2.2 - a.2.1), .int .i64 2]] (rv (fr (a.2.2 - a.2.1) 2)) W := fun W => plain_calls (by omega) (by omega) (by have := t1.h1; have := t1.l0; have := t1.l1; omega) W
  generalize fr (a.2.2 - a.2.1) 2 = q at HC ⊢
  generalize hdf : a.2.2 - a.2.1 = df at HC u1
  have u1 : IntKind.i64.wrap (a.2.2 - a.2.1) = df := by rw [hdf]; exact u1
  have HC := Lib.hid HC
  clear hl t1 hdf
  go_enter Try.func52, Try.ntmps52
  go_wp2_with fail
  generalize World.alloc _ _ = w1 at I ⊢
  have hS : ∀ W, Below w1.heap.size w1 W → Below w1.heap.size w1 W ∧ (W.cell? ⟨w.heap.size, 0, none⟩ = some (.int .i64 (i : Int)) ∧ W.cell? ⟨w.heap.size, 1, none⟩ = some (.int .i64 (i : Int)) ∧ W.cell? ⟨w.heap.size, 2, none⟩ = some (.int .i64 (i : Int))) ∧
      (W.cell? ⟨b, off + i * 3, none⟩ = some (.int .i64 a.1) ∧ W.cell? ⟨b, off + i * 3 + 1, none⟩ = some (.int .i64 a.2.1) ∧ W.cell? ⟨b, off + i * 3 + 2, none⟩ = some (.int .i64 a.2.2)) := fun W hW => by
    have h := (I.next hW).now
    refine ⟨hW, h.2.2.1.three, ?_⟩
    have := h.2.1.at hi; rwa [hA] at this
  have HS := Lib.hid hS
  have q0 := HS.out _ (Below.refl _ _)
  clear hS hA
  go_cut [5, 6, 7] (fun s5 s6 s7 wx => ∃ B5 B6 B7 : Nat, s5 = .pointer (some ⟨B5, 0, none⟩) ∧ s6 = .pointer (some ⟨B6, 0, none⟩) ∧ s7 = .pointer (some ⟨B7, 0, none⟩) ∧ Aside (Blk wx B5 [.int .i64 a.1, .int .i64 a.2.1, .int .i64 a.2.2]) ∧ Aside (Below w1.heap.size w1 wx))
  case first =>
    go_region_held3 (fun W => Below w1.heap.size w1 W ∧ (W.cell? ⟨w.heap.size, 0, none⟩ = some (.int .i64 (i : Int)) ∧ W.cell? ⟨w.heap.size, 1, none⟩ = some (.int .i64 (i : Int)) ∧ W.cell? ⟨w.heap.size, 2, none⟩ = some (.int .i64 (i : Int))) ∧
      (W.cell? ⟨b, off + i * 3, none⟩ = some (.int .i64 a.1) ∧ W.cell? ⟨b, off + i * 3 + 1, none⟩ = some (.int .i64 a.2.1) ∧ W.cell? ⟨b, off + i * 3 + 2, none⟩ = some (.int .i64 a.2.2)))
      (first | exact HS.out _ (by go_grown) | fail)
      (fail)
    all_goals
      go_wp2_with fail
      go_meet
      exact ⟨_, _, _, rfl, rfl, rfl, by first | exact blk3_0 .. | exact blk3_1 .. | exact blk3_2 .., below3 ..⟩
  case rest =>
    obtain ⟨B5, B6, B7, rfl, rfl, rfl, H5, HB⟩ := hcut
    have J := (I.next HB.out).with (.blk H5.out)
    clear H5 HB HS q0
    have q0 := J.now.1.2.2.1.three
    have qr := J.now.1.2.2.2.vals6
    have q5 := J.now.2.three
    have hgt := guard87
    go_wp2_with fail
    go_region_with (go_at_call 38; (with_reducible refine (Gives.c (HC.out _)).mono ?_); rintro e w4 ⟨rfl, hb⟩; replace J := J.next ((Below.refl _ _).drew.trans hb); clear hb qr q0 q5; have q0 := J.now.1.2.2.1.three; have qr := J.now.1.2.2.2.vals6; have zr := J.now.1.2.2.2.lt)
    all_goals
      have k6 := (J.now.1.2.2.2.put6 (.int .i64 q.num) (.int .i64 (q.den : Int)) (.bool false) (.int .i64 (i : Int)) (.int .i64 (i : Int)) (.int .i64 (i : Int))).six
      have kb := below6 J.now.1.1 (show w.heap.size ≤ w.heap.size + 1 by omega) (.int .i64 q.num) (.int .i64 (q.den : Int)) (.bool false) (.int .i64 (i : Int)) (.int .i64 (i : Int)) (.int .i64 (i : Int))
      generalize World.setCell _ _ _ = wf at k6 kb ⊢
      clear q0 qr zr
      go_wp2
      refine bodyPost_ret (v := .agg #[.int .i64 q.num, .int .i64 (q.den : Int), .bool false, .int .i64 (i : Int), .int .i64 (i : Int), .int .i64 (i : Int)]) (by simp [results, Try.results52, go_sem, k6]) rfl ⟨rfl, kb⟩

theorem claim_calls {b off n c : Nat} {l : List Cd} {t : Trio} (ht : TrioOk n t) (w : World) (hl : ReadsC w (some ⟨b, off, none⟩) n l) (hg : Good l) :
    Gives 52 #[.agg #[.int .i64 (t.1 : Int), .int .i64 (t.2.1 : Int), .int .i64 (t.2.2 : Int)], .slice (some ⟨b, off, none⟩) n c] (clv (clm l t)) w := by
  obtain ⟨i, j, k⟩ := t
  obtain ⟨h0, ⟨h1, h2⟩ | ⟨h1, h2⟩⟩ := ht
  · dsimp only at h0 h1 h2
    subst h1
    subst h2
    have e := hl.1
    have f := hg.few
    exact claim_one h0 w hl (by omega) (hg.tame _ (by omega))
  · dsimp only at h0 h1 h2
    have e := hl.1
    have f := hg.few
    exact claim_three h1 h2 h0 w hl (by omega) (hg.tame _ (by omega)) (hg.tame _ (by omega)) (hg.tame _ (by omega)) (hg.inc _ _ h1 (by omega)) (hg.inc _ _ h2 (by omega))
end Go.Proofs.Ytjncoableanmpaa
