/- SpoolKnown: the examples of the chapter answer as stated: the call returns true, whatever the state. -/
import Derived.Test.YtphbiaagmhhhbaaSX
namespace Go.Proofs.Ytphbiaagmhhhbaa
open Go.ChangeShapes Go.WideShapes Go.ChangeAt Go.RowKit Go.Lib Go.Shelf

theorem kn_length : lengthF 100 10 3 5 2 = (203, 205, 0) := by decide +kernel
theorem kn_arrival : arrivalF 100 10 3 5 203 = (20, 20, 0) := by decide +kernel
theorem kn_clash : clashF 100 10 3 5 1 [(4, 437)] = ([0], 0) := by decide +kernel

theorem readsM1 (w : World) (a b : Int) (t : TypeId) : ReadsM (w.alloc (.cells #[.int .i64 a, .int .i64 b] t)) (some ⟨w.heap.size, 0, none⟩) 1 [(a, b)] := by
  have k := Blk.new w [.int .i64 a, .int .i64 b] t
  refine ⟨rfl, by omega, fun _ => ⟨_, 0, rfl, fun j hj => ?_⟩⟩
  obtain rfl : j = 0 := by omega
  exact ⟨k.cell 0 _ rfl, k.cell 1 _ rfl⟩
theorem reads1 (w : World) (a : Int) (t : TypeId) : Reads (w.alloc (.cells #[.int .i64 a] t)) (some ⟨w.heap.size, 0, none⟩) 1 [a] := by
  have k := Blk.new w [.int .i64 a] t
  refine ⟨rfl, by omega, fun _ => ⟨_, 0, rfl, fun j hj => ?_⟩⟩
  obtain rfl : j = 0 := by omega
  exact k.cell 0 _ rfl
theorem kn_clash_calls (B : Nat) (W : World) (hB : ReadsM W (some ⟨B, 0, none⟩) 1 [(4, 437)]) : Calls Try.prog 41 #[sv, .int .i64 1, .slice (some ⟨B, 0, none⟩) 1 1] W (Slc 0 [0] W) :=
  (Clash_calls 100 10 3 5 1 _ 1 1 _ W hB).mono fun _ _ h => slc_of kn_clash h

set_option maxRecDepth 1000000 in
set_option maxHeartbeats 4000000 in
theorem known_law (w : World) : Gives 16 #[] (.bool true) w := by
  unfold Gives
  have I : Held w (fun W => Below w.heap.size w W) := .from (Below.refl _ _) (Nat.le_refl _)
  have hgt := guard26
  have hst := stood26
  go_enter Try.func16, Try.ntmps16
  go_wp2_with (first
    | (go_at_call 49; (with_reducible refine (Gives.c (S_calls (World.alloc _ _))).mono ?_); rintro e w' ⟨rfl, hb⟩; replace I := (I.allocB _ _).next hb; clear hb)
    | (go_at_call 49; (with_reducible refine (Gives.c (S_calls _)).mono ?_); rintro e w' ⟨rfl, hb⟩; replace I := I.next hb; clear hb)
    | (go_at_call 22; (with_reducible refine (Gives.c (Length_calls kn_length _)).mono ?_); rintro e w' ⟨rfl, hb⟩; replace I := I.next hb; clear hb)
    | (go_at_call 30; (with_reducible refine (Gives.c (Arrival_calls kn_arrival _)).mono ?_); rintro e w' ⟨rfl, hb⟩; replace I := I.next hb; clear hb)
    | (go_at_call 41; (with_reducible refine (kn_clash_calls _ _ (readsM1 _ _ _ _)).mono ?_); rintro e w' ⟨oA, on, oc, rfl, hr, hb⟩; replace I := ((I.alloc _).next hb).with hr; have qa := I.now.1.1.2.two; have qb := I.now.1.2.two; clear hb hr)
    | (go_at_call 35; have ra := (I.alloc (.cells #[.int .i64 0] 3)).now.2; (with_reducible refine (Gives.c (w_numbers oA _ on 1 oc 1 [0] _ ra (reads1 _ _ _))).mono ?_); rintro e w1 ⟨rfl, hb⟩; replace I := (I.alloc _).next hb; clear ra qa qb hb)
    | (go_at_call 29; (with_reducible refine (Gives.c (works_calls _)).mono ?_); rintro e w1 ⟨rfl, hb⟩; replace I := I.next hb; clear hb))
  go_ret
  exact ⟨rfl, I.now.1.1.1⟩

theorem known_own : ownKnob Try.prog.godebug = none := by kernel_rfl

set_option maxRecDepth 100000 in
theorem known_lifted (os : Os) (started : os.Started) (H : Type) (enc : TypeId × Value → H) :
    ReturnsInHanded {} Try.checked os 16 .any (Rows.spoolKnownSpec.pre6 enc Try.prog Try.f16 Rows.spoolKnownRow.domain false) (Rows.spoolKnownSpec.post enc Try.prog Try.f16 false true false false) := by
  refine returnsInHanded_of_change (C := Try.checked) known_own started (by kernel_rfl) Try.func16
    (ChangeSpec.witness6 (enc := enc) (C := Try.checked) false ⟨#[], #[], []⟩ 8 (by kernel_rfl) (by kernel_rfl) (by kernel_rfl) (by kernel_rfl)) ?_
  intro W base args ds gs before hval0 hW hcnd _
  have hW' := hW
  obtain ⟨p, q, hA, hV, rfl, hfz, hnd⟩ := hW
  rw [Try.params16] at hA
  obtain ⟨rfl, rfl, rfl⟩ := trodAll_none hA
  obtain ⟨rfl, rfl⟩ := trodVars_none hV
  refine (known_law W).mono fun e W' ⟨he, hb⟩ => ?_
  subst he
  exact ⟨_, rfl, post_true hW' rfl rfl rfl (by decide) hb⟩

theorem known_over : Rows.spoolKnownRow.holds Try.pinned (OpenSpec.ofChange Rows.spoolKnownSpec) :=
  OpenClaim.holds_of_wide 16 Try.f16 rfl rfl rfl rfl rfl rfl rfl ⟨rfl, rfl, rfl, rfl, rfl⟩ rfl rfl rfl rfl rfl (by kernel_rfl) Try.func16 (by kernel_rfl)
    (of_decide_eq_true (by kernel_rfl)) (by unfold Func.isWrapper; first | (rw [if_pos (by decide +kernel)]; kernel_rfl) | (rw [if_neg (by decide +kernel)]; exact ⟨rfl, rfl⟩))
    (fun os started H enc _ => known_lifted os started H enc)

/-- SpoolKnown returns true. -/
theorem spoolKnown_holds : Rows.SpoolKnownSaid := known_over
#print axioms spoolKnown_holds
end Go.Proofs.Ytphbiaagmhhhbaa
