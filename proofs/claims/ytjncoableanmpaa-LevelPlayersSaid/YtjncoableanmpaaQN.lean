/- The laws' helpers: twice what codes prove, the error of a line. -/
import Derived.Test.YtjncoableanmpaaQM
import Derived.Deep.DeepCutAuto
namespace Go.Proofs.Ytjncoableanmpaa
open Go.RowKit Go.Lib Go.Shelf
attribute [local go_sem] run_max3

/-- Twice what a trio proves: it may be less than nothing. -/
def twice (l : List Cd) (t : Trio) : Int × Int :=
  if t.1 = t.2.2 then ((cAt l t.1).2.2 - (cAt l t.1).2.1, 1)
  else (max (upF (cAt l t.1) (cAt l t.2.1) (cAt l t.2.2)) (downF (cAt l t.1) (cAt l t.2.1) (cAt l t.2.2)), (cAt l t.2.2).1 - (cAt l t.1).1)
theorem Reads.cell {w : World} {b off n : Nat} {l : List Int} (h : Reads w (some ⟨b, off, none⟩) n l) {j : Nat} (hj : j < n) : w.cell? ⟨b, off + j, none⟩ = some (.int .i64 (l[j]?.getD 0)) := by
  obtain ⟨b', off', e, hc⟩ := h.2.2 (by omega)
  cases e
  exact hc j hj

set_option maxRecDepth 100000 in
set_option maxHeartbeats 4000000 in
theorem proof_one {b off n c b2 o2 m c2 : Nat} {l : List Cd} {i : Nat} (w : World) (hl : ReadsC w (some ⟨b, off, none⟩) n l) (hN : Nice l) (hi : i < n) (hm : m = 1) (hcs : Reads w (some ⟨b2, o2, none⟩) m [(i : Int)]) :
    Gives 28 #[.slice (some ⟨b, off, none⟩) n c, .slice (some ⟨b2, o2, none⟩) m c2] (.agg #[.int .i64 (twice l (i, i, i)).1, .int .i64 (twice l (i, i, i)).2]) w := by
  unfold Gives twice
  rw [if_pos rfl]
  dsimp only
  have hlen := hl.1
  have hw := hN.want i (by omega)
  have I : Held (w.alloc (.cells [Value.int .i64 0, .int .i64 0].toArray 24)) (fun W => ((Below w.heap.size w W ∧ ReadsC W (some ⟨b, off, none⟩) n l) ∧ Reads W (some ⟨b2, o2, none⟩) m [(i : Int)]) ∧ Blk W w.heap.size [Value.int .i64 0, .int .i64 0]) :=
    (((Held.from (Below.refl _ _) (Nat.le_refl _)).with (.readsC hl)).with (.reads hcs)).allocB [Value.int .i64 0, .int .i64 0] 24
  have qx := hcs.cell (j := 0) (by omega)
  rw [Nat.add_zero] at qx
  have qx : w.cell? ⟨b2, o2, none⟩ = some (.int .i64 (i : Int)) := qx
  have ql := hl.at hi
  have zb : b < w.heap.size := World.block_lt_of_cell? w _ ql.1
  have zb2 : b2 < w.heap.size := World.block_lt_of_cell? w _ qx
  have e1 : ((m : Int) == 1) = true := beq_iff_eq.2 (by omega)
  have m0 : (0 : Int) < (m : Int) := by omega
  have i1 : (i : Int) < (n : Int) := by omega
  generalize cAt l i = cc at hw ql
  obtain ⟨s, lo, hi'⟩ := cc
  dsimp only at hw ql ⊢
  have v1 : IntKind.i64.wrap (hi' - lo) = hi' - lo := i64_in (by omega) (by omega)
  have I2 := I.allocB [.int .i64 s, .int .i64 lo, .int .i64 hi'] 68
  clear hl hcs hN hw hlen hi hm I
  go_enter Try.func28, Try.ntmps28
  go_wp2_with (go_at_call 27; (with_reducible refine (Gives.c (part_calls _ _ (World.alloc (World.alloc _ _) _))).mono ?_); rintro e w5 ⟨rfl, hb⟩; have I := I2.next hb; clear hb; have qr := I.now.1.2.two; have fr2 := I.now.1.2.free2)
  have k2 := (I.now.1.2.put2 (.int .i64 (hi' - lo)) (.int .i64 1)).two
  have kb := below2 I.now.1.1.1.1 (Nat.le_refl w.heap.size) (.int .i64 (hi' - lo)) (.int .i64 1)
  generalize World.setCell _ _ _ = wf at k2 kb ⊢
  refine bodyPost_ret (v := .agg #[.int .i64 (hi' - lo), .int .i64 1]) (by simp [results, Try.results28, go_sem, k2]) rfl ⟨rfl, kb⟩

set_option maxRecDepth 100000 in
set_option maxHeartbeats 8000000 in
theorem proof_three {b off n c b2 o2 m c2 : Nat} {l : List Cd} {i j k : Nat} (w : World) (hl : ReadsC w (some ⟨b, off, none⟩) n l) (hN : Nice l) (hij : i < j) (hjk : j < k) (hk : k < n) (hm : m = 3) (hcs : Reads w (some ⟨b2, o2, none⟩) m [(i : Int), (j : Int), (k : Int)]) :
    Gives 28 #[.slice (some ⟨b, off, none⟩) n c, .slice (some ⟨b2, o2, none⟩) m c2] (.agg #[.int .i64 (twice l (i, j, k)).1, .int .i64 (twice l (i, j, k)).2]) w := by
  unfold Gives twice
  rw [if_neg (by dsimp only; omega)]
  dsimp only
  unfold upF downF
  have hlen := hl.1
  have hw1 := hN.want i (by omega)
  have hw2 := hN.want j (by omega)
  have hw3 := hN.want k (by omega)
  have hs1 := hN.set i (by omega)
  have hs3 := hN.set k (by omega)
  have hi1 := hN.inc i j hij (by omega)
  have hi2 := hN.inc j k hjk (by omega)
  have I0 : Held w (fun W => (Below w.heap.size w W ∧ ReadsC W (some ⟨b, off, none⟩) n l) ∧ Reads W (some ⟨b2, o2, none⟩) m [(i : Int), (j : Int), (k : Int)]) :=
    ((Held.from (Below.refl _ _) (Nat.le_refl _)).with (.readsC hl)).with (.reads hcs)
  have hS : ∀ W, ReadsC W (some ⟨b, off, none⟩) n l → Reads W (some ⟨b2, o2, none⟩) m [(i : Int), (j : Int), (k : Int)] → (W.cell? ⟨b2, o2, none⟩ = some (.int .i64 (i : Int)) ∧ W.cell? ⟨b2, o2 + 1, none⟩ = some (.int .i64 (j : Int)) ∧ W.cell? ⟨b2, o2 + 2, none⟩ = some (.int .i64 (k : Int))) ∧ (W.cell? ⟨b, off + i * 3, none⟩ = some (.int .i64 (cAt l i).1) ∧ W.cell? ⟨b, off + i * 3 + 1, none⟩ = some (.int .i64 (cAt l i).2.1) ∧ W.cell? ⟨b, off + i * 3 + 2, none⟩ = some (.int .i64 (cAt l i).2.2)) ∧
      (W.cell? ⟨b, off + j * 3, none⟩ = some (.int .i64 (cAt l j).1) ∧ W.cell? ⟨b, off + j * 3 + 1, none⟩ = some (.int .i64 (cAt l j).2.1) ∧ W.cell? ⟨b, off + j * 3 + 2, none⟩ = some (.int .i64 (cAt l j).2.2)) ∧ (W.cell? ⟨b, off + k * 3, none⟩ = some (.int .i64 (cAt l k).1) ∧ W.cell? ⟨b, off + k * 3 + 1, none⟩ = some (.int .i64 (cAt l k).2.1) ∧ W.cell? ⟨b, off + k * 3 + 2, none⟩ = some (.int .i64 (cAt l k).2.2)) := fun W h1 h2 =>
    ⟨⟨by simpa using h2.cell (j := 0) (by omega), h2.cell (j := 1) (by omega), h2.cell (j := 2) (by omega)⟩, h1.at (by omega), h1.at (by omega), h1.at hk⟩
  have e1 : ((m : Int) == 1) = false := beq_eq_false_iff_ne.2 (by omega)
  have e1' : ¬ (m : Int) = 1 := by omega
  have m0 : (0 : Int) < (m : Int) := by omega
  have m1 : (1 : Int) < (m : Int) := by omega
  have m2 : (2 : Int) < (m : Int) := by omega
  have n1 : (i : Int) < (n : Int) := by omega
  have n2 : (j : Int) < (n : Int) := by omega
  have n3 : (k : Int) < (n : Int) := by omega
  generalize cAt l i = aa at hw1 hs1 hi1 hS
  generalize cAt l j = bb at hw2 hi1 hi2 hS
  generalize cAt l k = cc at hw3 hs3 hi2 hS
  obtain ⟨s1, lo1, hi1'⟩ := aa
  obtain ⟨s2, lo2, hi2'⟩ := bb
  obtain ⟨s3, lo3, hi3'⟩ := cc
  dsimp only at hw1 hw2 hw3 hs1 hs3 hi1 hi2 hS ⊢
  have x1 : s2 - s1 + (s3 - s2) = s3 - s1 := by omega
  rw [x1]
  have y7 : 0 < s3 - s1 ∧ s3 - s1 ≤ 16 := by omega
  have y8 : 0 < s2 - s1 ∧ s2 - s1 ≤ 16 := by omega
  have y9 : 0 < s3 - s2 ∧ s3 - s2 ≤ 16 := by omega
  have u7 : ∃ x, IntKind.i64.wrap (s3 - s1) = x ∧ s3 - s1 = x := ⟨_, i64_in (by omega) (by omega), rfl⟩
  have u8 : ∃ x, IntKind.i64.wrap (s2 - s1) = x ∧ s2 - s1 = x := ⟨_, i64_in (by omega) (by omega), rfl⟩
  obtain ⟨x7, u7, f7⟩ := u7
  obtain ⟨x8, u8, f8⟩ := u8
  obtain ⟨x9, f9⟩ : ∃ x, s3 - s2 = x := ⟨_, rfl⟩
  have u9 : IntKind.i64.wrap (x7 - x8) = x9 := by rw [i64_in (by omega) (by omega)]; omega
  rw [f7] at y7
  rw [f8] at y8
  rw [f9] at y9
  rw [f7, f8, f9]
  have p1 := mul_bd (a := hi2') (b := x7) (A := 50) (B := 16) (by omega) (by omega) (by omega) (by omega)
  have p2 := mul_bd (a := lo1) (b := x9) (A := 50) (B := 16) (by omega) (by omega) (by omega) (by omega)
  have p3 := mul_bd (a := lo3) (b := x8) (A := 50) (B := 16) (by omega) (by omega) (by omega) (by omega)
  have p4 := mul_bd (a := hi1') (b := x9) (A := 50) (B := 16) (by omega) (by omega) (by omega) (by omega)
  have p5 := mul_bd (a := hi3') (b := x8) (A := 50) (B := 16) (by omega) (by omega) (by omega) (by omega)
  have p6 := mul_bd (a := lo2) (b := x7) (A := 50) (B := 16) (by omega) (by omega) (by omega) (by omega)
  have w1 : IntKind.i64.wrap (hi2' * x7) = hi2' * x7 := i64_in (by omega) (by omega)
  have w2 : IntKind.i64.wrap (lo1 * x9) = lo1 * x9 := i64_in (by omega) (by omega)
  have w3 : IntKind.i64.wrap (lo3 * x8) = lo3 * x8 := i64_in (by omega) (by omega)
  have w4 : IntKind.i64.wrap (hi1' * x9) = hi1' * x9 := i64_in (by omega) (by omega)
  have w5 : IntKind.i64.wrap (hi3' * x8) = hi3' * x8 := i64_in (by omega) (by omega)
  have w6 : IntKind.i64.wrap (lo2 * x7) = lo2 * x7 := i64_in (by omega) (by omega)
  have w7 : IntKind.i64.wrap (hi2' * x7 - lo1 * x9) = hi2' * x7 - lo1 * x9 := i64_in (by omega) (by omega)
  have w8 : IntKind.i64.wrap (hi2' * x7 - lo1 * x9 - lo3 * x8) = hi2' * x7 - lo1 * x9 - lo3 * x8 := i64_in (by omega) (by omega)
  have w9 : IntKind.i64.wrap (hi1' * x9 + hi3' * x8) = hi1' * x9 + hi3' * x8 := i64_in (by omega) (by omega)
  have w10 : IntKind.i64.wrap (hi1' * x9 + hi3' * x8 - lo2 * x7) = hi1' * x9 + hi3' * x8 - lo2 * x7 := i64_in (by omega) (by omega)
  have HS := Lib.hid hS
  have I := I0.allocB2 [Value.int .i64 0, .int .i64 0] 24 [.int .i64 s1, .int .i64 lo1, .int .i64 hi1'] 68
  have ha := HS.out w hl hcs
  have zb : b < w.heap.size := World.block_lt_of_cell? w _ ha.2.1.1
  have zb2 : b2 < w.heap.size := World.block_lt_of_cell? w _ ha.1.1
  clear I0 hl hcs hN hw1 hw2 hw3 hs1 hs3 hi1 hi2 hlen hij hjk hk hm hS x1 y7 y8 y9 f7 f8 f9 p1 p2 p3 p4 p5 p6
  go_enter Try.func28, Try.ntmps28
  go_wp2_with fail
  clear ha zb zb2
  generalize World.alloc _ _ = wb at I ⊢
  have hS1 : ∀ X, Below wb.heap.size wb X → Below wb.heap.size wb X ∧ (X.cell? ⟨b2, o2 + 1, none⟩ = some (.int .i64 (j : Int)) ∧ X.cell? ⟨b2, o2 + 2, none⟩ = some (.int .i64 (k : Int))) ∧ (X.cell? ⟨b, off + j * 3, none⟩ = some (.int .i64 s2) ∧ X.cell? ⟨b, off + j * 3 + 1, none⟩ = some (.int .i64 lo2) ∧ X.cell? ⟨b, off + j * 3 + 2, none⟩ = some (.int .i64 hi2')) ∧ (X.cell? ⟨b, off + k * 3, none⟩ = some (.int .i64 s3) ∧ X.cell? ⟨b, off + k * 3 + 1, none⟩ = some (.int .i64 lo3) ∧ X.cell? ⟨b, off + k * 3 + 2, none⟩ = some (.int .i64 hi3')) := fun X hX => by
    have h := HS.out X (I X hX).1.1.1.2 (I X hX).1.1.2
    exact ⟨hX, h.1.2, h.2.2⟩
  have HS1 := Lib.hid hS1
  have HI := Lib.hid I
  clear hS1 I
  go_cut [6, 7] (fun s6 s7 wx => ∃ B6 B7 : Nat, s6 = .pointer (some ⟨B6, 0, none⟩) ∧ s7 = .pointer (some ⟨B7, 0, none⟩) ∧ Aside (Blk wx B6 [.int .i64 s2, .int .i64 lo2, .int .i64 hi2']) ∧ Aside (Blk wx B7 [.int .i64 s3, .int .i64 lo3, .int .i64 hi3']) ∧ Aside (Below wb.heap.size wb wx))
  case first =>
    go_region_held3 (fun X => Below wb.heap.size wb X ∧ (X.cell? ⟨b2, o2 + 1, none⟩ = some (.int .i64 (j : Int)) ∧ X.cell? ⟨b2, o2 + 2, none⟩ = some (.int .i64 (k : Int))) ∧ (X.cell? ⟨b, off + j * 3, none⟩ = some (.int .i64 s2) ∧ X.cell? ⟨b, off + j * 3 + 1, none⟩ = some (.int .i64 lo2) ∧ X.cell? ⟨b, off + j * 3 + 2, none⟩ = some (.int .i64 hi2')) ∧ (X.cell? ⟨b, off + k * 3, none⟩ = some (.int .i64 s3) ∧ X.cell? ⟨b, off + k * 3 + 1, none⟩ = some (.int .i64 lo3) ∧ X.cell? ⟨b, off + k * 3 + 2, none⟩ = some (.int .i64 hi3')))
      (first | exact HS1.out _ (by go_grown) | fail)
      (fail)
    all_goals
      go_wp2_with fail
      go_meet
      exact ⟨_, _, rfl, rfl, by first | exact blk2_0 .. | exact blk2_1 .., by first | exact blk2_0 .. | exact blk2_1 .., belowA2 ..⟩
  case rest =>
    obtain ⟨B6, B7, rfl, rfl, H6, H7, HBC⟩ := hcut
    have I := ((HI.out.next HBC.out).with (.blk H6.out)).with (.blk H7.out)
    clear HI H6 H7 HBC HS HS1
    have q5 := I.now.1.1.2.three
    have q6 := I.now.1.2.three
    have q7 := I.now.2.three
    go_upto_region 5 with fail
    go_quiet (fail)
    replace I := I.next (below_drewN' (Below.refl _ _) nq)
    generalize World.drewN _ _ = wd at I ⊢
    clear q5 q6 q7
    have q5 := I.now.1.1.2.three
    have q6 := I.now.1.2.three
    have q7 := I.now.2.three
    generalize hM : max (hi2' * x7 - lo1 * x9 - lo3 * x8) (hi1' * x9 + hi3' * x8 - lo2 * x7) = M
    go_wp2_with (go_at_call 27; (with_reducible refine (Gives.c (part_calls _ _ _)).mono ?_); rintro e w5 ⟨rfl, hb⟩; replace I := I.next hb; clear hb; have qr := I.now.1.1.1.2.two; have fr2 := I.now.1.1.1.2.free2)
    have k2 := (I.now.1.1.1.2.put2 (.int .i64 M) (.int .i64 x7)).two
    have kb := below2 I.now.1.1.1.1.1.1 (Nat.le_refl w.heap.size) (.int .i64 M) (.int .i64 x7)
    generalize World.setCell _ _ _ = wf at k2 kb ⊢
    refine bodyPost_ret (v := .agg #[.int .i64 M, .int .i64 x7]) (by simp [results, Try.results28, go_sem, k2]) rfl ⟨by rw [hM], kb⟩
end Go.Proofs.Ytjncoableanmpaa
