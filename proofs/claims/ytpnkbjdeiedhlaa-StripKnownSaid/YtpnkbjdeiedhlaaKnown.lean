/- StripKnown: the examples of the chapter answer as stated: the call returns true, whatever the state. -/
import Derived.Test.YtpnkbjdeiedhlaaSX
namespace Go.Proofs.Ytpnkbjdeiedhlaa
open Go.ChangeShapes Go.WideShapes Go.ChangeAt Go.RowKit Go.Lib Go.Shelf
open St

theorem kn_weight : WtF [2, 0] 3 = 8 ∧ WtE [2, 0] 3 = 0 := by decide +kernel
theorem kn_bound : askF bndF [0, 2] = 1 ∧ gchk [0, 2] = 0 := by decide +kernel
theorem kn_tab : tabF 0 5 = 16 := by decide +kernel
theorem kn_ver : vfF 4 1 lX [3] = (0, 14) := by decide +kernel
theorem kn_st : stK 0 [] 1 = ⟨0, 0, 1⟩ ∧ rchk 1 0 [] = 0 := by decide +kernel
theorem k_weight (W : World) : Gives 24 #[.slice (some ⟨W.heap.size, 0, none⟩) 2 2, .int .i64 3] (.tuple #[.int .i64 8, .int .i64 0]) (W.alloc (.cells #[.int .i64 2, .int .i64 0] 3)) := by
  have h := Weight_calls _ 2 2 _ 3 _ (readsK2 W 2 0 3)
  rwa [kn_weight.1, kn_weight.2] at h
theorem k_bound (W : World) : Gives 26 #[.slice (some ⟨W.heap.size, 0, none⟩) 2 2] (.tuple #[.int .i64 1, .int .i64 0]) (W.alloc (.cells #[.int .i64 0, .int .i64 2] 3)) := by
  have h := Bound_calls _ 2 2 _ _ (readsK2 W 0 2 3)
  rwa [kn_bound.1, kn_bound.2] at h
theorem k_tab (W : World) : Gives 34 #[.int .i64 0, .int .i64 5] (.tuple #[.int .i64 16, .int .i64 0]) W := by
  have h := Table_calls (L := 0) (S := 5) (by omega) (by omega) W
  rwa [kn_tab] at h
theorem k_ver {A : Option Addr} {W : World} (h : ReadsT W A 2 lX) : Gives 32 #[rec 4 1 A 2 2, .slice (some ⟨W.heap.size, 0, none⟩) 1 1] (.tuple #[.int .i64 0, .int .i64 14]) (W.alloc (.cells #[.int .i64 3] 3)) := by
  have h := Verify_good (N := 4) (L := 1) (by omega) (by omega) A 2 2 lX _ 1 1 [3] _ (h.later ((Below.refl _ _).alloc (Nat.le_refl _) _)) wk_state.2 (by omega) (readsK1 W 3 3)
  rw [kn_ver] at h
  exact h
theorem k_next (W : World) : Gives 30 #[rec 1 0 none 0 0] (.tuple #[.slice none 0 0, .int .i64 0, .int .i64 23]) W := by
  have hl : ReadsT W none 0 [] := ⟨rfl, by omega, fun h => absurd h (by omega)⟩
  refine Next_err 1 0 none 0 0 [] W hl ⟨0, 0, 1⟩ 23 (by decide) (fun X hX => ?_)
  have := open_good (N := 1) (L := 0) (by omega) (by omega) none 0 0 [] X hX kn_st.2 (by omega)
  rw [kn_st.1] at this
  exact this

set_option maxRecDepth 1000000 in
set_option maxHeartbeats 8000000 in
theorem known_law (w : World) : Gives 13 #[] (.bool true) w := by
  unfold Gives
  have I : Held w (fun W => Below w.heap.size w W) := .from (Below.refl _ _) (Nat.le_refl _)
  go_enter Try.func13, Try.ntmps13
  go_wp2_with (first
    | (go_at_call 24; (with_reducible refine (Gives.c (k_weight _)).mono ?_); rintro e w1 ⟨rfl, hb⟩; replace I := (I.alloc _).next hb; clear hb)
    | (go_at_call 26; (with_reducible refine (Gives.c (k_bound _)).mono ?_); rintro e w2 ⟨rfl, hb⟩; replace I := (I.alloc _).next hb; clear hb)
    | (go_at_call 34; (with_reducible refine (Gives.c (k_tab _)).mono ?_); rintro e w3 ⟨rfl, hb⟩; replace I := I.next hb; clear hb)
    | (go_at_call 46; (with_reducible refine (X_calls _).mono ?_); rintro e w4 ⟨xA, rfl, hr, hb⟩; replace I := I.next hb; clear hb)
    | (go_at_call 32; (with_reducible refine (Gives.c (k_ver hr)).mono ?_); rintro e w5 ⟨rfl, hb⟩; replace I := (I.alloc _).next hb; clear hb hr)
    | (go_at_call 30; (with_reducible refine (Gives.c (k_next _)).mono ?_); rintro e w6 ⟨rfl, hb⟩; replace I := I.next hb; clear hb)
    | (go_at_call 15; (with_reducible refine (Gives.c (works_calls _)).mono ?_); rintro e w7 ⟨rfl, hb⟩; replace I := I.next hb; clear hb))
  go_ret
  exact ⟨rfl, I.now⟩

theorem known_own : ownKnob Try.prog.godebug = none := by kernel_rfl

set_option maxRecDepth 100000 in
theorem known_lifted (os : Os) (started : os.Started) (H : Type) (enc : TypeId × Value → H) :
    ReturnsInHanded {} Try.checked os 13 .any (Rows.stripKnownSpec.pre6 enc Try.prog Try.f13 Rows.stripKnownRow.domain false) (Rows.stripKnownSpec.post enc Try.prog Try.f13 false true false false) := by
  refine returnsInHanded_of_change (C := Try.checked) known_own started (by kernel_rfl) Try.func13
    (ChangeSpec.witness6 (enc := enc) (C := Try.checked) false ⟨#[], #[], []⟩ 8 (by kernel_rfl) (by kernel_rfl) (by kernel_rfl) (by kernel_rfl)) ?_
  intro W base args ds gs before hval0 hW hcnd _
  have hW' := hW
  obtain ⟨p, q, hA, hV, rfl, hfz, hnd⟩ := hW
  rw [Try.params13] at hA
  obtain ⟨rfl, rfl, rfl⟩ := trodAll_none hA
  obtain ⟨rfl, rfl⟩ := trodVars_none hV
  refine (known_law W).mono fun e W' ⟨he, hb⟩ => ?_
  subst he
  exact ⟨_, rfl, post_true hW' rfl rfl rfl (by decide) hb⟩

theorem known_over : Rows.stripKnownRow.holds Try.pinned (OpenSpec.ofChange Rows.stripKnownSpec) :=
  OpenClaim.holds_of_wide 13 Try.f13 rfl rfl rfl rfl rfl rfl rfl ⟨rfl, rfl, rfl, rfl, rfl⟩ rfl rfl rfl rfl rfl (by kernel_rfl) Try.func13 (by kernel_rfl)
    (of_decide_eq_true (by kernel_rfl)) (by unfold Func.isWrapper; first | (rw [if_pos (by decide +kernel)]; kernel_rfl) | (rw [if_neg (by decide +kernel)]; exact ⟨rfl, rfl⟩))
    (fun os started H enc _ => known_lifted os started H enc)

/-- StripKnown returns true. -/
theorem stripKnown_holds : Rows.StripKnownSaid := known_over
#print axioms stripKnown_holds
end Go.Proofs.Ytpnkbjdeiedhlaa
