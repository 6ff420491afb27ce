/- works. -/
import Derived.Test.YtjncoableanmpaaLY
namespace Go.Proofs.Ytjncoableanmpaa
open Go.RowKit Go.Lib Go.Shelf

abbrev P2 (a b : Int) : Value := .agg #[.int .i64 a, .int .i64 b]
theorem w_best {b o c : Nat} (W : World) (h : ReadsC W (some ⟨b, o, none⟩) 3 lA) (hc : 3 ≤ c) : Gives 25 #[.slice (some ⟨b, o, none⟩) 3 c] (.tuple #[.agg #[.int .i64 15, .int .i64 1, .int .i64 5, .int .i64 2], P2 15 2, .int .i64 0]) W := by
  have := Best_calls (c := c) W h x_chk.1 hc
  rwa [x_best.1, x_best.2] at this
theorem w_bestB {b : Nat} (W : World) (h : ReadsC W (some ⟨b, 0, none⟩) 3 lB) : Gives 25 #[.slice (some ⟨b, 0, none⟩) 3 3] (.tuple #[lnv (lineF lB (bestC lB)), P2 9 1, .int .i64 0]) W := by
  have := Best_calls (c := 3) W h x_chk.2.1 (by omega)
  rwa [x_bestB] at this
theorem w_err {b o c : Nat} (W : World) (h : ReadsC W (some ⟨b, o, none⟩) 3 lA) : Gives 13 #[.slice (some ⟨b, o, none⟩) 3 c, .agg #[.int .i64 15, .int .i64 1, .int .i64 5, .int .i64 1]] (.tuple #[P2 10 1, .int .i64 0]) W := by
  have := error_calls _ 3 c lA 15 1 5 1 W h
  rwa [x_err] at this
theorem w_proof {b o c : Nat} (W : World) (h : ReadsC W (some ⟨b, o, none⟩) 3 lA) : Calls Try.prog 36 #[.slice (some ⟨b, o, none⟩) 3 c] W fun e w' => ∃ A m c', e = .returned (.tuple #[.slice A m c', .int .i64 0]) ∧ Reads w' A m [0, 1, 2] ∧ Below W.heap.size W w' :=
  (proof_calls W h x_chk.1).mono fun e w' ⟨⟨A, m, c', h1, h2, _⟩, hb⟩ => ⟨A, m, c', h1, by rw [x_who.1] at h2; exact h2, hb⟩
theorem w_proofC {b : Nat} (W : World) (h : ReadsC W (some ⟨b, 0, none⟩) 3 lC) : Calls Try.prog 36 #[.slice (some ⟨b, 0, none⟩) 3 3] W fun e w' => ∃ A m c', e = .returned (.tuple #[.slice A m c', .int .i64 0]) ∧ Reads w' A m [1] ∧ Below W.heap.size W w' :=
  (proof_calls W h x_chk.2.2).mono fun e w' ⟨⟨A, m, c', h1, h2, _⟩, hb⟩ => ⟨A, m, c', h1, by rw [x_who.2] at h2; exact h2, hb⟩
theorem w_gains {b o c : Nat} (W : World) (h : ReadsC W (some ⟨b, o, none⟩) 3 lA) (hc : 3 ≤ c) : Gives 17 #[.slice (some ⟨b, o, none⟩) 3 c, P2 8 1] (.tuple #[P2 14 1, P2 16 1, .int .i64 0]) W := by
  have := Gains_calls _ 3 c lA 8 1 W h hc
  rwa [x_gains] at this
theorem w_gains2 {b o c : Nat} (W : World) (h : ReadsC W (some ⟨b, o, none⟩) 3 lA) (hc : 3 ≤ c) : Gives 17 #[.slice (some ⟨b, o, none⟩) 3 c, P2 7 1] (.tuple #[P2 0 0, P2 0 0, .int .i64 11]) W := by
  have := Gains_calls _ 3 c lA 7 1 W h hc
  rwa [x_gains2] at this
theorem w_div {b o c : Nat} (W : World) (h : ReadsC W (some ⟨b, o, none⟩) 3 lA) (hc : 3 ≤ c) : Calls Try.prog 21 #[.slice (some ⟨b, o, none⟩) 3 c, .int .i64 2] W fun e w' => ∃ A c', e = .returned (.tuple #[.slice A 2 c', P2 0 1, .int .i64 0]) ∧ Below W.heap.size W w' :=
  (divide_calls (p := 2) W h x_chk.1 (by omega) hc).mono fun e w' ⟨⟨s, h1, h2⟩, hb⟩ => by
    have hm : s.m = 2 := by rw [← h2.1.1]; exact x_div.2
    refine ⟨some ⟨s.b, s.o, none⟩, s.c, ?_, hb⟩
    rw [h1]
    show Ending.returned (Value.tuple #[.slice (some ⟨s.b, s.o, none⟩) s.m s.c, rv (dF lA 1 3).1, .int .i64 0]) = _
    rw [x_div.1, hm]
theorem w_ver {b o c : Nat} {A : Option Addr} {m c2 : Nat} (W : World) (h : ReadsC W (some ⟨b, o, none⟩) 3 lA) (hr : Reads W A m [0, 1, 2]) : Gives 19 #[.slice (some ⟨b, o, none⟩) 3 c, .slice A m c2, P2 15 2] (.int .i64 0) W := by
  have := verify_calls _ 3 c lA A m c2 [0, 1, 2] 15 2 W h hr
  rwa [x_ver.1] at this
theorem w_ver2 {b o c : Nat} {A : Option Addr} {m c2 : Nat} (W : World) (h : ReadsC W (some ⟨b, o, none⟩) 3 lA) (hr : Reads W A m [0, 1, 2]) : Gives 19 #[.slice (some ⟨b, o, none⟩) 3 c, .slice A m c2, P2 8 1] (.int .i64 14) W := by
  have := verify_calls _ 3 c lA A m c2 [0, 1, 2] 8 1 W h hr
  rwa [x_ver.2] at this
theorem w_numbers {A B : Option Addr} {n m c1 c2 : Nat} {l : List Int} (W : World) (ha : Reads W A n l) (hb : Reads W B m l) : Gives 32 #[.slice A n c1, .slice B m c2] (.bool true) W := by
  have h := numbers_calls A B n m c1 c2 l l W ha hb
  rwa [decide_eq_true rfl] at h

theorem readsK3 (w : World) (a b c : Int) (t : TypeId) : Reads (w.alloc (.cells #[.int .i64 a, .int .i64 b, .int .i64 c] t)) (some ⟨w.heap.size, 0, none⟩) 3 [a, b, c] := readsK w [a, b, c] t (by simp)
theorem readsK1 (w : World) (a : Int) (t : TypeId) : Reads (w.alloc (.cells #[.int .i64 a] t)) (some ⟨w.heap.size, 0, none⟩) 1 [a] := readsK w [a] t (by simp)
theorem Held.allocB2 {w : World} {P : World → Prop} (h : Held w P) (cs : List Value) (t : TypeId) (ds : List Value) (u : TypeId) : Held ((w.alloc (.cells cs.toArray t)).alloc (.cells ds.toArray u)) (fun W => (P W ∧ Blk W w.heap.size cs) ∧ Blk W (w.heap.size + 1) ds) := by
  have := (h.allocB cs t).allocB ds u
  simpa using this

set_option maxRecDepth 1000000 in
set_option maxHeartbeats 8000000 in
theorem works_calls (w : World) : Gives 11 #[] (.bool true) w := by
  unfold Gives
  have I : Held w (fun W => Below w.heap.size w W) := .from (Below.refl _ _) (Nat.le_refl _)
  obtain ⟨x1, x2, x3, x4, hLB⟩ : ∃ x1 x2 x3 x4 : Int, ∀ (b : Nat) (W : World), ReadsC W (some ⟨b, 0, none⟩) 3 lB → Gives 25 #[.slice (some ⟨b, 0, none⟩) 3 3] (.tuple #[.agg #[.int .i64 x1, .int .i64 x2, .int .i64 x3, .int .i64 x4], P2 9 1, .int .i64 0]) W := ⟨_, _, _, _, fun _ W h => w_bestB W h⟩
  have HLB := Lib.hid hLB
  clear hLB
  go_enter Try.func11, Try.ntmps11
  go_upto_region 10 with (first
    | (go_at_call 34; (with_reducible refine (w_coding _ _ (readsK _ [10, 10, 40] _ (by decide))).mono ?_); rintro e w1 ⟨ab, ao, ac, rfl, hr, hac, hb⟩; replace I := ((I.alloc _).next hb).with (.readsC hr); clear hb hr)
    | (go_at_call 25; (with_reducible refine (Gives.c (w_best _ I.now.2 hac)).mono ?_); rintro e w2 ⟨rfl, hb⟩; replace I := I.next hb; clear hb)
    | (go_at_call 27; (with_reducible refine (Gives.c (part_calls 15 1 (World.alloc (World.alloc _ _) _))).mono ?_); rintro e w3 ⟨rfl, hb⟩; replace I := (I.allocB2 _ _ _ _).next hb; clear hb)
    | (go_at_call 27; (with_reducible refine (Gives.c (part_calls 5 1 _)).mono ?_); rintro e w4 ⟨rfl, hb⟩; replace I := I.next hb; clear hb)
    | (go_at_call 13; (with_reducible refine (Gives.c (w_err _ I.now.1.1.2)).mono ?_); rintro e w5 ⟨rfl, hb⟩; replace I := I.next hb; clear hb)
    | (go_at_call 35; (with_reducible refine (B_calls (World.alloc _ _)).mono ?_); rintro e w6 ⟨bb, rfl, hr, hb⟩; replace I := ((I.allocB _ _).next hb).with (.readsC hr); clear hb hr)
    | (go_at_call 25; (with_reducible refine (Gives.c (HLB.out _ _ I.now.2)).mono ?_); rintro e w7 ⟨rfl, hb⟩; replace I := I.next hb; clear hb)
    | (go_at_call 36; (with_reducible refine (w_proof (World.alloc (World.alloc _ _) _) (I.allocB2 _ _ _ _).now.1.1.1.1.1.1.2).mono ?_); rintro e w8 ⟨pA, pm, pc, rfl, hr, hb⟩; replace I := ((I.allocB2 _ _ _ _).next hb).with (.reads hr); clear hb hr)
    | (go_at_call 33; (with_reducible refine (C_calls _).mono ?_); rintro e w9 ⟨bc, rfl, hr, hb⟩; replace I := (I.next hb).with (.readsC hr); clear hb hr)
    | (go_at_call 36; (with_reducible refine (w_proofC _ I.now.2).mono ?_); rintro e w10 ⟨qA, qm, qc, rfl, hr, hb⟩; replace I := (I.next hb).with (.reads hr); clear hb hr)
    | (go_at_call 27; (with_reducible refine (Gives.c (part_calls 8 1 _)).mono ?_); rintro e w11 ⟨rfl, hb⟩; replace I := I.next hb; clear hb)
    | (go_at_call 17; (with_reducible refine (Gives.c (w_gains _ I.now.1.1.1.1.1.1.1.1.1.2 hac)).mono ?_); rintro e w12 ⟨rfl, hb⟩; replace I := I.next hb; clear hb)
    | (go_at_call 27; (with_reducible refine (Gives.c (part_calls 7 1 (World.alloc (World.alloc _ _) _))).mono ?_); rintro e w13 ⟨rfl, hb⟩; replace I := (I.allocB2 _ _ _ _).next hb; clear hb)
    | (go_at_call 17; (with_reducible refine (Gives.c (w_gains2 _ I.now.1.1.1.1.1.1.1.1.1.1.1.2 hac)).mono ?_); rintro e w14 ⟨rfl, hb⟩; replace I := I.next hb; clear hb)
    | (go_at_call 21; (with_reducible refine (w_div (World.alloc (World.alloc _ _) _) (I.allocB2 _ _ _ _).now.1.1.1.1.1.1.1.1.1.1.1.1.1.2 hac).mono ?_); rintro e w15 ⟨dA, dc, rfl, hb⟩; replace I := (I.allocB2 _ _ _ _).next hb; clear hb))
  have J := I.allocB [.int .i64 0, .int .i64 1] 24
  clear I
  generalize World.alloc _ _ = wz at J ⊢
  have hS1 : ∀ X, Below wz.heap.size wz X → Below wz.heap.size wz X ∧ (X.cell? ⟨w2.heap.size + 1, 0, none⟩ = some (.int .i64 15) ∧ X.cell? ⟨w2.heap.size + 1, 1, none⟩ = some (.int .i64 2)) ∧ (X.cell? ⟨w5.heap.size, 0, none⟩ = some (.int .i64 10) ∧ X.cell? ⟨w5.heap.size, 1, none⟩ = some (.int .i64 1)) ∧ (X.cell? ⟨w7.heap.size + 1, 0, none⟩ = some (.int .i64 9) ∧ X.cell? ⟨w7.heap.size + 1, 1, none⟩ = some (.int .i64 1)) := fun X hX => ⟨hX, (J X hX).1.1.1.1.1.1.1.1.1.1.1.1.2.two, (J X hX).1.1.1.1.1.1.1.1.1.1.1.2.two, (J X hX).1.1.1.1.1.1.1.1.2.two⟩
  have hS2 : ∀ X, Below wz.heap.size wz X → Below wz.heap.size wz X ∧ (X.cell? ⟨w2.heap.size, 0, none⟩ = some (.int .i64 15) ∧ X.cell? ⟨w2.heap.size, 1, none⟩ = some (.int .i64 1) ∧ X.cell? ⟨w2.heap.size, 2, none⟩ = some (.int .i64 5) ∧ X.cell? ⟨w2.heap.size, 3, none⟩ = some (.int .i64 2)) ∧ (X.cell? ⟨w12.heap.size, 0, none⟩ = some (.int .i64 14) ∧ X.cell? ⟨w12.heap.size, 1, none⟩ = some (.int .i64 1)) ∧ (X.cell? ⟨w12.heap.size + 1, 0, none⟩ = some (.int .i64 16) ∧ X.cell? ⟨w12.heap.size + 1, 1, none⟩ = some (.int .i64 1)) ∧ (X.cell? ⟨w15.heap.size, 0, none⟩ = some (.int .i64 0) ∧ X.cell? ⟨w15.heap.size, 1, none⟩ = some (.int .i64 1)) := fun X hX => ⟨hX, (J X hX).1.1.1.1.1.1.1.1.1.1.1.1.1.2.four, (J X hX).1.1.1.1.2.two, (J X hX).1.1.1.2.two, (J X hX).2.two⟩
  have h0 : ∀ X, Below wz.heap.size wz X → Below w.heap.size w X := fun X hX => (J X hX).1.1.1.1.1.1.1.1.1.1.1.1.1.1.1
  have hA : ∀ X, Below wz.heap.size wz X → ReadsC X (some ⟨ab, ao, none⟩) 3 lA := fun X hX => (J X hX).1.1.1.1.1.1.1.1.1.1.1.1.1.1.2
  have hp : ∀ X, Below wz.heap.size wz X → Reads X pA pm [0, 1, 2] := fun X hX => (J X hX).1.1.1.1.1.1.1.2
  have hq : ∀ X, Below wz.heap.size wz X → Reads X qA qm [1] := fun X hX => (J X hX).1.1.1.1.1.2
  have HS1 := Lib.hid hS1
  have HS2 := Lib.hid hS2
  have H0 := Lib.hid h0
  have HA := Lib.hid hA
  have HP := Lib.hid hp
  have HQ := Lib.hid hq
  clear J hS1 hS2 h0 hA hp hq
  have hgt := guard24
  have hst := stood24
  have hgt2 := guard26
  have hst2 := stood26
  go_region_held3 (fun X => Below wz.heap.size wz X ∧ (X.cell? ⟨w2.heap.size + 1, 0, none⟩ = some (.int .i64 15) ∧ X.cell? ⟨w2.heap.size + 1, 1, none⟩ = some (.int .i64 2)) ∧ (X.cell? ⟨w5.heap.size, 0, none⟩ = some (.int .i64 10) ∧ X.cell? ⟨w5.heap.size, 1, none⟩ = some (.int .i64 1)) ∧ (X.cell? ⟨w7.heap.size + 1, 0, none⟩ = some (.int .i64 9) ∧ X.cell? ⟨w7.heap.size + 1, 1, none⟩ = some (.int .i64 1)))
    (first
      | with_reducible exact HS1.out _ (Below.refl _ _).drew
      | with_reducible exact HS1.out _ HB.out
      | fail)
    (first
      | (go_at_call 27; (with_reducible refine (Gives.c (part_calls _ _ _)).mono ?_); rintro e' wy ⟨rfl, hb⟩; first | have HB := Lib.hid (HB.out.trans (hb.mono HB.out.size)) | have HB := Lib.hid ((Below.refl wz.heap.size wz).drew.trans hb))
      | fail)
  rename_i hh
  clear hh hb HS1
  go_wp2_with fail
  go_region_held3 (fun X => Below wz.heap.size wz X ∧ (X.cell? ⟨w2.heap.size, 0, none⟩ = some (.int .i64 15) ∧ X.cell? ⟨w2.heap.size, 1, none⟩ = some (.int .i64 1) ∧ X.cell? ⟨w2.heap.size, 2, none⟩ = some (.int .i64 5) ∧ X.cell? ⟨w2.heap.size, 3, none⟩ = some (.int .i64 2)) ∧ (X.cell? ⟨w12.heap.size, 0, none⟩ = some (.int .i64 14) ∧ X.cell? ⟨w12.heap.size, 1, none⟩ = some (.int .i64 1)) ∧ (X.cell? ⟨w12.heap.size + 1, 0, none⟩ = some (.int .i64 16) ∧ X.cell? ⟨w12.heap.size + 1, 1, none⟩ = some (.int .i64 1)) ∧ (X.cell? ⟨w15.heap.size, 0, none⟩ = some (.int .i64 0) ∧ X.cell? ⟨w15.heap.size, 1, none⟩ = some (.int .i64 1)))
    (first
      | with_reducible exact HS2.out _ HB.out.drew
      | with_reducible exact HS2.out _ HB2.out
      | with_reducible exact HS2.out _ (stepA HB2.out _)
      | fail)
    (first
      | (go_at_call 27; (with_reducible refine (Gives.c (part_calls _ _ _)).mono ?_); rintro e' wy ⟨rfl, hb⟩; first | have HB2 := Lib.hid (HB2.out.trans (hb.mono HB2.out.size)) | have HB2 := Lib.hid (HB.out.drew.trans (hb.mono HB.out.drew.size)))
      | (go_at_call 32; (with_reducible refine (Gives.c (w_numbers _ (HP.out _ (stepA HB2.out _)) (readsK3 _ 0 1 2 _))).mono ?_); rintro e' wy ⟨rfl, hb⟩; have HB2 := Lib.hid ((stepA HB2.out _).trans (hb.mono (stepA HB2.out _).size)))
      | (go_at_call 32; (with_reducible refine (Gives.c (w_numbers _ (HQ.out _ (stepA HB2.out _)) (readsK1 _ 1 _))).mono ?_); rintro e' wy ⟨rfl, hb⟩; have HB2 := Lib.hid ((stepA HB2.out _).trans (hb.mono (stepA HB2.out _).size)))
      | (go_at_call 19; (with_reducible refine (Gives.c (w_ver _ (HA.out _ HB2.out) (HP.out _ HB2.out))).mono ?_); rintro e' wy ⟨rfl, hb⟩; have HB2 := Lib.hid (HB2.out.trans (hb.mono HB2.out.size)))
      | (go_at_call 19; (with_reducible refine (Gives.c (w_ver2 _ (HA.out _ HB2.out) (HP.out _ HB2.out))).mono ?_); rintro e' wy ⟨rfl, hb⟩; have HB2 := Lib.hid (HB2.out.trans (hb.mono HB2.out.size)))
      | fail)
  go_wp2_with fail
  go_ret
  exact ⟨rfl, H0.out _ HB2.out⟩
end Go.Proofs.Ytjncoableanmpaa
