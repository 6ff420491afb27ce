/- The contract of works. -/
import Derived.Test.YtphbiaagmhhhbaaSV
import Derived.Deep.CutRange
namespace Go.Proofs.Ytphbiaagmhhhbaa
open Go.RowKit Go.Lib Go.Shelf

theorem Gives.c {f : Nat} {args : Array Value} {v : Value} {w : World} (h : Gives f args v w) : Calls Try.prog f args w (fun e w' => e = .returned v ∧ Below w.heap.size w w') := h

abbrev sv : Value := .agg #[.int .i64 100, .int .i64 10, .int .i64 3, .int .i64 5]

def Slc (x : Int) (l : List Int) (w : World) (e : Ending) (w' : World) : Prop :=
  ∃ A n c, e = .returned (.tuple #[.slice A n c, .int .i64 x]) ∧ Held w' (fun W => Reads W A n l) ∧ Below w.heap.size w w'

theorem slc_of {r : List Int × Int} {x : Int} {l : List Int} (hr : r = (l, x)) {w w' : World} {e : Ending} (h : ListOut r w e w') : Slc x l w e w' := by
  subst hr
  obtain ⟨⟨A, n, c, he, hl⟩, hb⟩ := h
  exact ⟨A, n, c, he, .reads hl, hb⟩

theorem w_cut (B : Nat) (W : World) (hB : Reads W (some ⟨B, 0, none⟩) 3 [0, 10, 25]) : Calls Try.prog 17 #[sv, .int .i64 4, .slice (some ⟨B, 0, none⟩) 3 3] W (Slc 0 [0, 100, 258] W) :=
  (cut_calls 100 10 3 5 4 _ 3 3 [0, 10, 25] W hB).mono fun _ _ h => slc_of ex_cut h
theorem w_play (B : Nat) (W : World) (hB : Reads W (some ⟨B, 0, none⟩) 3 [0, 100, 258]) : Calls Try.prog 18 #[sv, .int .i64 4, .slice (some ⟨B, 0, none⟩) 3 3] W (Slc 0 [0, 10, 25] W) :=
  (play_calls 100 10 3 5 4 _ 3 3 [0, 100, 258] W hB).mono fun _ _ h => slc_of ex_play h
theorem w_govern (W : World) : Calls Try.prog 36 #[sv, .int .i64 4, .int .i64 3] W (Slc 0 [10, 10, 11] W) :=
  (govern_calls 100 10 3 5 4 3 W).mono fun _ _ h => slc_of ex_govern h
theorem w_clash (B : Nat) (W : World) (hB : Blk W B [.int .i64 2, .int .i64 206, .int .i64 4, .int .i64 418]) : Calls Try.prog 41 #[sv, .int .i64 1, .slice (some ⟨B, 0, none⟩) 2 2] W (Slc 0 [0, 1] W) :=
  (Clash_calls 100 10 3 5 1 _ 2 2 _ W (readsM2 hB)).mono fun _ _ h => slc_of ex_clash h
theorem w_growths (B : Nat) (W : World) (hB : Blk W B [.int .i64 2, .int .i64 204, .int .i64 4, .int .i64 424]) : Gives 39 #[sv, .int .i64 1, .slice (some ⟨B, 0, none⟩) 2 2] (.tuple #[.agg #[.int .i64 4, .int .i64 4], .int .i64 0]) W := by
  have h := Growths_calls 100 10 3 5 1 _ 2 2 _ W (readsM2 hB)
  rw [ex_growths] at h
  exact h
theorem w_growths2 (B : Nat) (W : World) (hB : Blk W B [.int .i64 2, .int .i64 206, .int .i64 4, .int .i64 418]) : Gives 39 #[sv, .int .i64 1, .slice (some ⟨B, 0, none⟩) 2 2] (.tuple #[.agg #[.int .i64 0, .int .i64 0], .int .i64 15]) W := by
  have h := Growths_calls 100 10 3 5 1 _ 2 2 _ W (readsM2 hB)
  rw [ex_growths2] at h
  exact h
theorem w_verify (B : Nat) (A : Option Addr) (n c : Nat) (W : World) (hB : Blk W B [.int .i64 2, .int .i64 206, .int .i64 4, .int .i64 418]) (hr : Reads W A n [0, 1]) : Gives 44 #[sv, .int .i64 1, .slice (some ⟨B, 0, none⟩) 2 2, .slice A n c] (.int .i64 0) W := by
  have h := Verify_calls 100 10 3 5 1 _ A 2 2 n c _ _ W (readsM2 hB) hr
  rw [ex_verify] at h
  exact h
theorem w_numbers (A B : Option Addr) (n m c1 c2 : Nat) (l : List Int) (W : World) (ha : Reads W A n l) (hb : Reads W B m l) : Gives 35 #[.slice A n c1, .slice B m c2] (.bool true) W := by
  have h := numbers_calls A B n m c1 c2 l l W ha hb
  rw [decide_eq_true rfl] at h
  exact h

theorem guard26 : Try.prog.eqGuardType Try.prog.depth 26 = false := by kernel_rfl
theorem stood26 : Try.prog.stoodInHeld 26 = false := by kernel_rfl
theorem Held.start {w : World} {P : World → Prop} (_ : Held w P) (cs : List Value) (t : TypeId) : Held (w.alloc (.cells cs.toArray t)) (fun W => Below w.heap.size w W ∧ Blk W w.heap.size cs) :=
  (Held.from ((Below.refl _ _).alloc (Nat.le_refl _) _) (by simp)).with (.blk (Blk.new w cs t))
theorem Held.set2 {w w0 : World} {b : Nat} {x0 x1 x2 x3 : Value} (h : Held w (fun W => Below b w0 W ∧ Blk W b [x0, x1, x2, x3])) (y z : Value) : Held ((w.setCell ⟨b, 1, none⟩ y).setCell ⟨b, 3, none⟩ z) (fun W => Below b w0 W ∧ Blk W b [x0, y, x2, z]) := by
  have hb := h.now.1
  have k := h.now.2
  have hl := k.lt
  exact (Held.from ((hb.setCell (p := ⟨b, 1, none⟩) (Nat.le_refl _) y).setCell (p := ⟨b, 3, none⟩) (Nat.le_refl _) z) (by simp; omega)).with (.blk ((k.set 1 (by simp) y).set 3 (by simp) z))

theorem Held.set2a {w w0 : World} {b : Nat} {x0 x1 x2 x3 : Value} (h : Held w (fun W => Below b w0 W ∧ Blk W b [x0, x1, x2, x3])) (y z : Value) (cs : List Value) (t : TypeId) : Held (((w.setCell ⟨b, 1, none⟩ y).setCell ⟨b, 3, none⟩ z).alloc (.cells cs.toArray t)) (fun W => (Below b w0 W ∧ Blk W b [x0, y, x2, z]) ∧ Blk W w.heap.size cs) := by
  have h2 := (h.set2 y z).allocB cs t
  have e : ((w.setCell ⟨b, 1, none⟩ y).setCell ⟨b, 3, none⟩ z).heap.size = w.heap.size := by simp
  rw [e] at h2
  exact h2
theorem Held.join {w w0 : World} {P Q : World → Prop} (J : Held w0 P) (I : Held w Q) (hq : ∀ W, Q W → Below w0.heap.size w0 W) : Held w (fun W => P W ∧ Q W) := fun W hW => ⟨J W (hq W (I W hW)), I W hW⟩
theorem reads2 (w : World) (a b : Int) (t : TypeId) : Reads (w.alloc (.cells #[.int .i64 a, .int .i64 b] t)) (some ⟨w.heap.size, 0, none⟩) 2 [a, b] := by
  have k := Blk.new w [.int .i64 a, .int .i64 b] t
  refine ⟨rfl, by omega, fun _ => ⟨_, 0, rfl, fun j hj => ?_⟩⟩
  have : j = 0 ∨ j = 1 := by omega
  rcases this with rfl | rfl
  · exact k.cell 0 _ rfl
  · exact k.cell 1 _ rfl

set_option maxRecDepth 1000000 in
set_option maxHeartbeats 8000000 in
theorem works_calls (w : World) : Gives 29 #[] (.bool true) w := by
  unfold Gives
  have I : Held w (fun W => Below w.heap.size w W) := .from (Below.refl _ _) (Nat.le_refl _)
  go_enter Try.func29, Try.ntmps29
  go_upto_region 15 with (first
    | (go_at_call 49; (with_reducible refine (Gives.c (S_calls (World.alloc (World.setCell _ _ _) _))).mono ?_); rintro e w' ⟨rfl, hb⟩; replace I := (I.set2a _ _ _ _).next hb; clear hb)
    | (go_at_call 49; (with_reducible refine (Gives.c (S_calls (World.alloc _ (.cells #[_, _, _, _] _)))).mono ?_); rintro e w' ⟨rfl, hb⟩; have J := I; replace I := (I.start _ _).next hb; have q2 := I.now.2.four; have f2 := I.now.2.free; clear hb)
    | (go_at_call 39; (with_reducible refine (Gives.c (w_growths _ _ I.now.2)).mono ?_); rintro e w' ⟨rfl, hb⟩; replace I := I.next hb; clear q2 f2; have q2 := I.now.2.four; have f2 := I.now.2.free; have z2 := I.now.2.lt; clear hb)
    | (go_at_call 39; (with_reducible refine (Gives.c (w_growths2 _ _ I.now.1.2)).mono ?_); rintro e w' ⟨rfl, hb⟩; replace I := I.next hb; clear q2 f2; clear hb)
    | (go_at_call 41; (with_reducible refine (w_clash _ _ I.now.1.2).mono ?_); rintro e w' ⟨oA, on, oc, rfl, hr, hb⟩; replace I := J.join ((I.next hb).with hr) (fun _ h => h.1.1.1); clear hb hr J; have qa := I.now.1.1.1.1.1.1.1.2.two; have qb := I.now.1.1.1.1.1.1.2.two; have qc := I.now.1.1.1.1.1.2.two)
    | (go_at_call 49; (with_reducible refine (Gives.c (S_calls (World.alloc _ _))).mono ?_); rintro e w' ⟨rfl, hb⟩; replace I := (I.allocB _ _).next hb; clear hb)
    | (go_at_call 49; (with_reducible refine (Gives.c (S_calls _)).mono ?_); rintro e w' ⟨rfl, hb⟩; replace I := I.next hb; clear hb)
    | (go_at_call 22; (with_reducible refine (Gives.c (Length_calls ex_length _)).mono ?_); rintro e w' ⟨rfl, hb⟩; replace I := I.next hb; clear hb)
    | (go_at_call 25; (with_reducible refine (Gives.c (Place_calls ex_place _)).mono ?_); rintro e w' ⟨rfl, hb⟩; replace I := I.next hb; clear hb)
    | (go_at_call 30; (with_reducible refine (Gives.c (Arrival_calls ex_arrival _)).mono ?_); rintro e w' ⟨rfl, hb⟩; replace I := I.next hb; clear hb)
    | (go_at_call 19; (with_reducible refine (Gives.c (Drift_calls ex_drift _)).mono ?_); rintro e w' ⟨rfl, hb⟩; replace I := I.next hb; clear hb)
    | (go_at_call 17; (with_reducible refine (w_cut _ _ (reads3 _ _ _ _ _)).mono ?_); rintro e w' ⟨dA, dn, dc, rfl, hr, hb⟩; replace I := ((I.alloc _).next hb).with hr; clear hb hr)
    | (go_at_call 18; (with_reducible refine (w_play _ _ (reads3 _ _ _ _ _)).mono ?_); rintro e w' ⟨pA, pn, pc, rfl, hr, hb⟩; replace I := ((I.alloc _).next hb).with hr; clear hb hr)
    | (go_at_call 36; (with_reducible refine (w_govern _).mono ?_); rintro e w' ⟨rA, rn, rc, rfl, hr, hb⟩; replace I := (I.next hb).with hr; clear hb hr))
  have hgt := guard26
  have hst := stood26
  go_wp2_with (first
    | (go_at_call 49; (with_reducible refine (Gives.c (S_calls _)).mono ?_); rintro e w1 ⟨rfl, hb⟩; replace I := I.next hb; clear hb)
    | (go_at_call 35; have ra := (I.alloc (.cells #[.int .i64 0, .int .i64 100, .int .i64 258] 3)).now.1.1.1.1.2; (with_reducible refine (Gives.c (w_numbers dA _ dn 3 dc 3 [0, 100, 258] _ ra (reads3 _ _ _ _ _))).mono ?_); rintro e w1 ⟨rfl, hb⟩; replace I := (I.alloc _).next hb; clear ra; clear qa qb qc; clear hb)
    | (go_at_call 35; have ra := (I.alloc (.cells #[.int .i64 0, .int .i64 10, .int .i64 25] 3)).now.1.1.1.2; (with_reducible refine (Gives.c (w_numbers pA _ pn 3 pc 3 [0, 10, 25] _ ra (reads3 _ _ _ _ _))).mono ?_); rintro e w1 ⟨rfl, hb⟩; replace I := (I.alloc _).next hb; clear ra; have qq := I.now.1.1.2.two; clear hb)
    | (go_at_call 35; have ra := (I.alloc (.cells #[.int .i64 10, .int .i64 10, .int .i64 11] 3)).now.1.2; (with_reducible refine (Gives.c (w_numbers rA _ rn 3 rc 3 [10, 10, 11] _ ra (reads3 _ _ _ _ _))).mono ?_); rintro e w1 ⟨rfl, hb⟩; replace I := (I.alloc _).next hb; clear ra; clear qq; have qx := I.now.2.1.2.two; clear hb)
    | (go_at_call 35; have ra := (I.alloc (.cells #[.int .i64 0, .int .i64 1] 3)).now.2.2; (with_reducible refine (Gives.c (w_numbers oA _ on 2 oc 2 [0, 1] _ ra (reads2 _ _ _ _))).mono ?_); rintro e w1 ⟨rfl, hb⟩; replace I := (I.alloc _).next hb; clear ra; clear qx; clear hb)
    | (go_at_call 44; have ra := I.now.2.1.1.2; have rb := I.now.2.2; (with_reducible refine (Gives.c (w_verify _ oA on oc _ ra rb)).mono ?_); rintro e w1 ⟨rfl, hb⟩; replace I := I.next hb; clear ra rb hb))
  go_ret
  exact ⟨rfl, I.now.1.1.1.1.1.1.1.1⟩
end Go.Proofs.Ytphbiaagmhhhbaa
