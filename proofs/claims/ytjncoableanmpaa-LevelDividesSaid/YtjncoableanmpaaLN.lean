/- The contract of Best. -/
import Derived.Test.YtjncoableanmpaaLM
namespace Go.Proofs.Ytjncoableanmpaa
open Go.RowKit Go.Lib Go.Shelf

/-- What stands ahead of the last region of Best. -/
structure LQ (w : World) (B6 B7 B8 : Nat) (x : Cl) (g o : Rat) (W : World) : Prop where
  low : Below w.heap.size w W
  h6 : Blk W B6 [.int .i64 x.off.num, .int .i64 (x.off.den : Int), .bool x.up, .int .i64 (x.who.1 : Int), .int .i64 (x.who.2.1 : Int), .int .i64 (x.who.2.2 : Int)]
  h7 : Blk W B7 [.int .i64 g.num, .int .i64 (g.den : Int)]
  h8 : Blk W B8 [.int .i64 o.num, .int .i64 (o.den : Int)]
  h2 : ∃ p q r s, Blk W w.heap.size [p, q, r, s]
  h3 : ∃ p q, Blk W (w.heap.size + 1) [p, q]
  n6 : w.heap.size + 1 < B6
  n7 : w.heap.size + 1 < B7
  n8 : w.heap.size + 1 < B8
/-- Four cells of a block are written. -/
theorem Blk.put4 {w : World} {B : Nat} {a b c d : Value} (h : Blk w B [a, b, c, d]) (x0 x1 x2 x3 : Value) : Blk ((((w.setCell ⟨B, 0, none⟩ x0).setCell ⟨B, 1, none⟩ x1).setCell ⟨B, 2, none⟩ x2).setCell ⟨B, 3, none⟩ x3) B [x0, x1, x2, x3] :=
  (((h.set 0 (by simp) x0).set 1 (by simp) x1).set 2 (by simp) x2).set 3 (by simp) x3
theorem Blk.other4 {w : World} {B B' : Nat} {cs : List Value} (h : Blk w B cs) (hne : B' ≠ B) (x0 x1 x2 x3 : Value) : Blk ((((w.setCell ⟨B', 0, none⟩ x0).setCell ⟨B', 1, none⟩ x1).setCell ⟨B', 2, none⟩ x2).setCell ⟨B', 3, none⟩ x3) B cs :=
  (((h.other hne 0 x0).other hne 1 x1).other hne 2 x2).other hne 3 x3
theorem Blk.vals4 {w : World} {B : Nat} {a b c d : Value} (h : Blk w B [a, b, c, d]) : (w.cell? ⟨B, 0, none⟩ = some (valAt w ⟨B, 0, none⟩) ∧ w.cell? ⟨B, 1, none⟩ = some (valAt w ⟨B, 1, none⟩) ∧ w.cell? ⟨B, 2, none⟩ = some (valAt w ⟨B, 2, none⟩) ∧ w.cell? ⟨B, 3, none⟩ = some (valAt w ⟨B, 3, none⟩)) ∧ w.frozen? ⟨B, 0, none⟩ = false ∧ w.frozen? ⟨B, 1, none⟩ = false ∧ w.frozen? ⟨B, 2, none⟩ = false ∧ w.frozen? ⟨B, 3, none⟩ = false :=
  ⟨⟨valAt_of (h.cell 0 _ rfl), valAt_of (h.cell 1 _ rfl), valAt_of (h.cell 2 _ rfl), valAt_of (h.cell 3 _ rfl)⟩, h.free 0, h.free 1, h.free 2, h.free 3⟩
theorem below4 {b0 B : Nat} {w w1 : World} (h : Below b0 w w1) (hB : b0 ≤ B) (x0 x1 x2 x3 : Value) : Below b0 w ((((w1.setCell ⟨B, 0, none⟩ x0).setCell ⟨B, 1, none⟩ x1).setCell ⟨B, 2, none⟩ x2).setCell ⟨B, 3, none⟩ x3) :=
  (((h.setCell (p := ⟨B, 0, none⟩) hB _).setCell (p := ⟨B, 1, none⟩) hB _).setCell (p := ⟨B, 2, none⟩) hB _).setCell (p := ⟨B, 3, none⟩) hB _
section
variable {w : World} {B6 B7 B8 : Nat} {x : Cl} {g o : Rat} {W W' : World}
theorem LQ.later (h : LQ w B6 B7 B8 x g o W) (hb : Below W.heap.size W W') : LQ w B6 B7 B8 x g o W' :=
  ⟨h.low.trans (hb.mono h.low.size), h.h6.later hb, h.h7.later hb, h.h8.later hb, by obtain ⟨p, q, r, s, h2⟩ := h.h2; exact ⟨p, q, r, s, h2.later hb⟩, by obtain ⟨p, q, h3⟩ := h.h3; exact ⟨p, q, h3.later hb⟩, h.n6, h.n7, h.n8⟩
theorem LQ.put2 (h : LQ w B6 B7 B8 x g o W) (p q r s : Value) : LQ w B6 B7 B8 x g o ((((W.setCell ⟨w.heap.size, 0, none⟩ p).setCell ⟨w.heap.size, 1, none⟩ q).setCell ⟨w.heap.size, 2, none⟩ r).setCell ⟨w.heap.size, 3, none⟩ s) :=
  ⟨below4 h.low (Nat.le_refl _) _ _ _ _, h.h6.other4 (by have := h.n6; omega) _ _ _ _, h.h7.other4 (by have := h.n7; omega) _ _ _ _, h.h8.other4 (by have := h.n8; omega) _ _ _ _, by obtain ⟨a, b, c, d, h2⟩ := h.h2; exact ⟨_, _, _, _, h2.put4 p q r s⟩, by obtain ⟨a, b, h3⟩ := h.h3; exact ⟨_, _, h3.other4 (by omega) _ _ _ _⟩, h.n6, h.n7, h.n8⟩
theorem LQ.put3 (h : LQ w B6 B7 B8 x g o W) (p q : Value) : LQ w B6 B7 B8 x g o ((W.setCell ⟨w.heap.size + 1, 0, none⟩ p).setCell ⟨w.heap.size + 1, 1, none⟩ q) :=
  ⟨below2 h.low (by omega) _ _, h.h6.other2 (by have := h.n6; omega) _ _, h.h7.other2 (by have := h.n7; omega) _ _, h.h8.other2 (by have := h.n8; omega) _ _, by obtain ⟨a, b, c, d, h2⟩ := h.h2; exact ⟨_, _, _, _, h2.other2 (by omega) _ _⟩, by obtain ⟨a, b, h3⟩ := h.h3; exact ⟨_, _, h3.put2 p q⟩, h.n6, h.n7, h.n8⟩
theorem LQ.cells (h : LQ w B6 B7 B8 x g o W) : Below w.heap.size w W ∧ (W.cell? ⟨B6, 0, none⟩ = some (.int .i64 x.off.num) ∧ W.cell? ⟨B6, 1, none⟩ = some (.int .i64 (x.off.den : Int))) ∧ (W.cell? ⟨B7, 0, none⟩ = some (.int .i64 g.num) ∧ W.cell? ⟨B7, 1, none⟩ = some (.int .i64 (g.den : Int))) ∧ (W.cell? ⟨B8, 0, none⟩ = some (.int .i64 o.num) ∧ W.cell? ⟨B8, 1, none⟩ = some (.int .i64 (o.den : Int))) ∧
    ((W.cell? ⟨w.heap.size, 0, none⟩ = some (valAt W ⟨w.heap.size, 0, none⟩) ∧ W.cell? ⟨w.heap.size, 1, none⟩ = some (valAt W ⟨w.heap.size, 1, none⟩) ∧ W.cell? ⟨w.heap.size, 2, none⟩ = some (valAt W ⟨w.heap.size, 2, none⟩) ∧ W.cell? ⟨w.heap.size, 3, none⟩ = some (valAt W ⟨w.heap.size, 3, none⟩)) ∧ W.frozen? ⟨w.heap.size, 0, none⟩ = false ∧ W.frozen? ⟨w.heap.size, 1, none⟩ = false ∧ W.frozen? ⟨w.heap.size, 2, none⟩ = false ∧ W.frozen? ⟨w.heap.size, 3, none⟩ = false) ∧
    (W.cell? ⟨w.heap.size + 1, 0, none⟩ = some (valAt W ⟨w.heap.size + 1, 0, none⟩) ∧ W.cell? ⟨w.heap.size + 1, 1, none⟩ = some (valAt W ⟨w.heap.size + 1, 1, none⟩) ∧ W.frozen? ⟨w.heap.size + 1, 0, none⟩ = false ∧ W.frozen? ⟨w.heap.size + 1, 1, none⟩ = false) := by
  obtain ⟨p, q, r, s, h2⟩ := h.h2
  obtain ⟨p', q', h3⟩ := h.h3
  exact ⟨h.low, ⟨h.h6.cell 0 _ rfl, h.h6.cell 1 _ rfl⟩, h.h7.two, h.h8.two, h2.vals4, h3.vals⟩
end
/-- A line in Go. -/
abbrev lnv (p : Rat × Rat) : Value := .agg #[.int .i64 p.1.num, .int .i64 (p.1.den : Int), .int .i64 p.2.num, .int .i64 (p.2.den : Int)]
theorem num_den (q : Rat) : fr q.num q.den = q := by
  show Rat.divInt q.num q.den = q
  exact Rat.num_divInt_den q

set_option maxRecDepth 100000 in
set_option maxHeartbeats 8000000 in
theorem Best_calls {b off n c : Nat} {l : List Cd} (w : World) (hl : ReadsC w (some ⟨b, off, none⟩) n l) (hk : chk l = 0) (hcap : n ≤ c) :
    Gives 25 #[.slice (some ⟨b, off, none⟩) n c] (.tuple #[lnv (lineF l (bestC l)), rv (bestC l).off, .int .i64 0]) w := by
  unfold Gives
  have hg := chk_good hk
  have I : Held ((w.alloc (.cells [Value.int .i64 0, .int .i64 0, .int .i64 0, .int .i64 0].toArray 26)).alloc (.cells [Value.int .i64 0, .int .i64 0].toArray 24)) (fun W => ((Below w.heap.size w W ∧ ReadsC W (some ⟨b, off, none⟩) n l) ∧ Blk W w.heap.size [Value.int .i64 0, .int .i64 0, .int .i64 0, .int .i64 0]) ∧ Blk W (w.heap.size + 1) [Value.int .i64 0, .int .i64 0]) := fun W hW => by
    have h1 : Below w.heap.size w W := (((Below.refl _ _).alloc (Nat.le_refl _) _).alloc (by simp) _).trans (hW.mono (by simp; omega))
    exact ⟨⟨⟨h1, hl.later h1⟩, ((Blk.new w _ 26).alloc _).later hW⟩, Blk.later (by simpa using Blk.new (w.alloc _) [Value.int .i64 0, .int .i64 0] 24) hW⟩
  have hfit : Fits (bestC l).off.num (bestC l).off.den l := by
    have := lineOk_best hg
    refine fits_best hg this.ip (by have := (bestC l).off.den_pos; omega) ?_
    rw [num_den]
    exact Rat.le_refl
  have hlo := lineOk_best hg
  rw [hl.1] at hlo
  have C1 : ∀ W, ReadsC W (some ⟨b, off, none⟩) n l → Gives 15 #[.slice (some ⟨b, off, none⟩) n c] (.int .i64 0) W := fun W h => by have := check_calls (some ⟨b, off, none⟩) n c l W h; rwa [hk] at this
  have C2 : ∀ W, ReadsC W (some ⟨b, off, none⟩) n l → Gives 45 #[.slice (some ⟨b, off, none⟩) n c] (clv (bestC l)) W := fun W h => best_calls W h hg
  have C3 : ∀ W, ReadsC W (some ⟨b, off, none⟩) n l → Gives 60 #[clv (bestC l), .slice (some ⟨b, off, none⟩) n c] (.tuple #[rv (lineF l (bestC l)).1, rv (lineF l (bestC l)).2]) W := fun W h => line_calls (bestC l) W h hg hlo hfit hcap
  generalize lineF l (bestC l) = R at C3 ⊢
  generalize bestC l = x at C2 C3 ⊢
  obtain ⟨g, o⟩ := R
  dsimp only at C3 ⊢
  unfold clv rv at C3
  unfold clv at C2
  have HC1 := Lib.hid C1
  have HC2 := Lib.hid C2
  have HC3 := Lib.hid C3
  clear hl hk hg hfit hlo C1 C2 C3 hcap
  have e0 : ((0 : Int) == 0) = true := rfl
  go_enter Try.func25, Try.ntmps25
  go_wp2_with fail
  generalize World.alloc _ _ = w1 at I ⊢
  go_upto_region 5 with (first
    | (go_at_call 15; (with_reducible refine (Gives.c (HC1.out _ I.now.1.1.2)).mono ?_); rintro e w2 ⟨rfl, hb⟩; replace I := I.next hb; clear hb)
    | (go_at_call 45; (with_reducible refine (Gives.c (HC2.out _ I.now.1.1.2)).mono ?_); rintro e w3 ⟨rfl, hb⟩; replace I := I.next hb; clear hb))
  have I2 : Held (w3.alloc (.cells #[Value.int .i64 x.off.num, .int .i64 (x.off.den : Int), .bool x.up, .int .i64 (x.who.1 : Int), .int .i64 (x.who.2.1 : Int), .int .i64 (x.who.2.2 : Int)] 89)) (fun W => (((Below w.heap.size w W ∧ ReadsC W (some ⟨b, off, none⟩) n l) ∧ Blk W w.heap.size [Value.int .i64 0, .int .i64 0, .int .i64 0, .int .i64 0]) ∧ Blk W (w.heap.size + 1) [Value.int .i64 0, .int .i64 0]) ∧ Blk W w3.heap.size [Value.int .i64 x.off.num, .int .i64 (x.off.den : Int), .bool x.up, .int .i64 (x.who.1 : Int), .int .i64 (x.who.2.1 : Int), .int .i64 (x.who.2.2 : Int)]) :=
    I.allocB [Value.int .i64 x.off.num, .int .i64 (x.off.den : Int), .bool x.up, .int .i64 (x.who.1 : Int), .int .i64 (x.who.2.1 : Int), .int .i64 (x.who.2.2 : Int)] 89
  have z6 : w.heap.size + 1 < w3.heap.size := I.now.2.lt
  generalize w3.heap.size = B6 at I2 z6 ⊢
  generalize World.alloc _ _ = w4 at I2 ⊢
  have q6 := I2.now.2.six
  clear I
  go_upto_region 6 with (go_at_call 60; (with_reducible refine (Gives.c (HC3.out _ I2.now.1.1.1.2)).mono ?_); rintro e w5 ⟨rfl, hb⟩; replace I2 := I2.next hb; clear hb)
  have z7 : w.heap.size + 1 < w5.heap.size := I2.now.1.2.lt
  have L0 : LQ w B6 w5.heap.size (w5.heap.size + 1) x g o ((w5.alloc (.cells #[Value.int .i64 g.num, .int .i64 (g.den : Int)] 82)).alloc (.cells #[Value.int .i64 o.num, .int .i64 (o.den : Int)] 82)) :=
    ⟨(I2.now.1.1.1.1.alloc I2.now.1.1.1.1.size _).alloc (by have := I2.now.1.1.1.1.size; simp; omega) _, (I2.now.2.alloc _).alloc _, (Blk.new w5 [Value.int .i64 g.num, .int .i64 (g.den : Int)] 82).alloc _, by simpa using Blk.new (w5.alloc _) [Value.int .i64 o.num, .int .i64 (o.den : Int)] 82, ⟨_, _, _, _, (I2.now.1.1.2.alloc _).alloc _⟩, ⟨_, _, (I2.now.1.2.alloc _).alloc _⟩, z6, z7, by omega⟩
  have HL0 := Lib.hid L0
  have hO : ∀ a b W, Gives 39 #[.agg #[.int .i64 a, .int .i64 b]] (.agg #[.int .i64 a, .int .i64 b]) W := out_calls
  have HO := Lib.hid hO
  clear L0 I2 q6 hO
  generalize hB7 : w5.heap.size = B7 at HL0 ⊢
  generalize World.alloc _ _ = w6 at HL0 ⊢
  go_region_held3 (fun W => Below w.heap.size w W ∧ (W.cell? ⟨B6, 0, none⟩ = some (.int .i64 x.off.num) ∧ W.cell? ⟨B6, 1, none⟩ = some (.int .i64 (x.off.den : Int))) ∧ (W.cell? ⟨B7, 0, none⟩ = some (.int .i64 g.num) ∧ W.cell? ⟨B7, 1, none⟩ = some (.int .i64 (g.den : Int))) ∧ (W.cell? ⟨B7 + 1, 0, none⟩ = some (.int .i64 o.num) ∧ W.cell? ⟨B7 + 1, 1, none⟩ = some (.int .i64 (o.den : Int))) ∧
    ((W.cell? ⟨w.heap.size, 0, none⟩ = some (valAt W ⟨w.heap.size, 0, none⟩) ∧ W.cell? ⟨w.heap.size, 1, none⟩ = some (valAt W ⟨w.heap.size, 1, none⟩) ∧ W.cell? ⟨w.heap.size, 2, none⟩ = some (valAt W ⟨w.heap.size, 2, none⟩) ∧ W.cell? ⟨w.heap.size, 3, none⟩ = some (valAt W ⟨w.heap.size, 3, none⟩)) ∧ W.frozen? ⟨w.heap.size, 0, none⟩ = false ∧ W.frozen? ⟨w.heap.size, 1, none⟩ = false ∧ W.frozen? ⟨w.heap.size, 2, none⟩ = false ∧ W.frozen? ⟨w.heap.size, 3, none⟩ = false) ∧
    (W.cell? ⟨w.heap.size + 1, 0, none⟩ = some (valAt W ⟨w.heap.size + 1, 0, none⟩) ∧ W.cell? ⟨w.heap.size + 1, 1, none⟩ = some (valAt W ⟨w.heap.size + 1, 1, none⟩) ∧ W.frozen? ⟨w.heap.size + 1, 0, none⟩ = false ∧ W.frozen? ⟨w.heap.size + 1, 1, none⟩ = false))
    (first
      | with_reducible exact (HL0.out.later (Below.refl _ _).drew).cells
      | with_reducible exact HL1.out.cells
      | with_reducible exact HL2.out.cells
      | with_reducible exact HL3.out.cells
      | with_reducible exact (HL3.out.put2 _ _ _ _).cells
      | with_reducible exact ((HL3.out.put2 _ _ _ _).put3 _ _).cells
      | fail)
    (first
      | (go_at_call 39; (with_reducible refine (Gives.c (HO.out _ _ _)).mono ?_); rintro e wa ⟨rfl, hb⟩; first | have HL3 := Lib.hid (HL2.out.later hb) | have HL2 := Lib.hid (HL1.out.later hb) | have HL1 := Lib.hid ((HL0.out.later (Below.refl _ _).drew).later hb))
      | fail)
  have L4 := HL3.out.put2 (.int .i64 g.num) (.int .i64 (g.den : Int)) (.int .i64 o.num) (.int .i64 (o.den : Int))
  obtain ⟨p0, q0, r0, s0, h2⟩ := HL3.out.h2
  obtain ⟨p1, q1, h3⟩ := L4.h3
  have k2 := ((h2.put4 (.int .i64 g.num) (.int .i64 (g.den : Int)) (.int .i64 o.num) (.int .i64 (o.den : Int))).other2 (B' := w.heap.size + 1) (by omega) (.int .i64 x.off.num) (.int .i64 (x.off.den : Int))).four
  have k3 := (h3.put2 (.int .i64 x.off.num) (.int .i64 (x.off.den : Int))).two
  have kb := (L4.put3 (.int .i64 x.off.num) (.int .i64 (x.off.den : Int))).low
  clear L4 h2 h3
  generalize World.setCell _ _ _ = wf at k2 k3 kb ⊢
  go_wp2
  refine bodyPost_ret (v := .tuple #[lnv (g, o), rv x.off, .int .i64 0]) (by simp [results, Try.results25, go_sem, k2, k3]) rfl ⟨rfl, kb⟩
end Go.Proofs.Ytjncoableanmpaa
