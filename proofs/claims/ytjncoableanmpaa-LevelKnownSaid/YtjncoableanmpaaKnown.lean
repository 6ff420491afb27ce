/- LevelKnown: the examples of the chapter answer as stated: the call returns true, whatever the state. -/
import Derived.Test.YtjncoableanmpaaSX
namespace Go.Proofs.Ytjncoableanmpaa
open Go.ChangeShapes Go.WideShapes Go.ChangeAt Go.RowKit Go.Lib Go.Shelf

theorem kn_best : rv (bestC lC).off = P2 15 1 := by kernel_rfl
theorem kn_gains : gainsV lA 15 2 = .tuple #[P2 15 1, P2 15 1, .int .i64 0] := by kernel_rfl
theorem kn_div : rv (dF lA 2 3).1 = P2 0 1 := by kernel_rfl
theorem kn_check : chk [(1, 2, 2), (1, 3, 3)] = 7 := by decide +kernel
theorem k_best {b : Nat} (W : World) (h : ReadsC W (some ⟨b, 0, none⟩) 3 lC) : Gives 25 #[.slice (some ⟨b, 0, none⟩) 3 3] (.tuple #[lnv (lineF lC (bestC lC)), P2 15 1, .int .i64 0]) W := by
  have := Best_calls (c := 3) W h x_chk.2.2 (by omega)
  rwa [kn_best] at this
theorem k_gains {b o c : Nat} (W : World) (h : ReadsC W (some ⟨b, o, none⟩) 3 lA) (hc : 3 ≤ c) : Gives 17 #[.slice (some ⟨b, o, none⟩) 3 c, P2 15 2] (.tuple #[P2 15 1, P2 15 1, .int .i64 0]) W := by
  have := Gains_calls _ 3 c lA 15 2 W h hc
  rwa [kn_gains] at this
theorem k_div {b o c : Nat} (W : World) (h : ReadsC W (some ⟨b, o, none⟩) 3 lA) (hc : 3 ≤ c) : Calls Try.prog 21 #[.slice (some ⟨b, o, none⟩) 3 c, .int .i64 3] W fun e w' => ∃ A m c', e = .returned (.tuple #[.slice A m c', P2 0 1, .int .i64 0]) ∧ Below W.heap.size W w' :=
  (divide_calls (p := 3) W h x_chk.1 (by omega) hc).mono fun e w' ⟨⟨s, h1, h2⟩, hb⟩ => by
    refine ⟨some ⟨s.b, s.o, none⟩, s.m, s.c, ?_, hb⟩
    rw [h1]
    show Ending.returned (Value.tuple #[.slice (some ⟨s.b, s.o, none⟩) s.m s.c, rv (dF lA 2 3).1, .int .i64 0]) = _
    rw [kn_div]
theorem readsC2 (w : World) (x y : Cd) (t : TypeId) : ReadsC (w.alloc (.cells #[.int .i64 x.1, .int .i64 x.2.1, .int .i64 x.2.2, .int .i64 y.1, .int .i64 y.2.1, .int .i64 y.2.2] t)) (some ⟨w.heap.size, 0, none⟩) 2 [x, y] := by
  have k := Blk.new w [.int .i64 x.1, .int .i64 x.2.1, .int .i64 x.2.2, .int .i64 y.1, .int .i64 y.2.1, .int .i64 y.2.2] t
  refine ⟨rfl, by omega, fun _ => ⟨_, 0, rfl, fun j hj => ?_⟩⟩
  have : j = 0 ∨ j = 1 := by omega
  rcases this with rfl | rfl
  · exact ⟨k.cell 0 _ rfl, k.cell 1 _ rfl, k.cell 2 _ rfl⟩
  · exact ⟨k.cell 3 _ rfl, k.cell 4 _ rfl, k.cell 5 _ rfl⟩
theorem readsAt3 (w : World) (B : Nat) (h : w.heap.size = B) (a b c : Int) (t : TypeId) : Reads (w.alloc (.cells #[.int .i64 a, .int .i64 b, .int .i64 c] t)) (some ⟨B, 0, none⟩) 3 [a, b, c] := by
  subst h
  exact readsK3 w a b c t
theorem k_check (B : Nat) (W : World) (h : ReadsC W (some ⟨B, 0, none⟩) 2 [(1, 2, 2), (1, 3, 3)]) : Gives 15 #[.slice (some ⟨B, 0, none⟩) 2 2] (.int .i64 7) W := by
  have := check_calls _ 2 2 _ W h
  rwa [kn_check] at this

set_option maxRecDepth 1000000 in
set_option maxHeartbeats 8000000 in
theorem known_law (w : World) : Gives 10 #[] (.bool true) w := by
  unfold Gives
  have I : Held w (fun W => Below w.heap.size w W) := .from (Below.refl _ _) (Nat.le_refl _)
  obtain ⟨x1, x2, x3, x4, hLC⟩ : ∃ x1 x2 x3 x4 : Int, ∀ (b : Nat) (W : World), ReadsC W (some ⟨b, 0, none⟩) 3 lC → Gives 25 #[.slice (some ⟨b, 0, none⟩) 3 3] (.tuple #[.agg #[.int .i64 x1, .int .i64 x2, .int .i64 x3, .int .i64 x4], P2 15 1, .int .i64 0]) W := ⟨_, _, _, _, fun _ W h => k_best W h⟩
  have HLC := Lib.hid hLC
  clear hLC
  go_enter Try.func10, Try.ntmps10
  go_upto_region 4 with (first
    | (go_at_call 33; (with_reducible refine (C_calls _).mono ?_); rintro e w9 ⟨bc, rfl, hr, hb⟩; replace I := (I.next hb).with (.readsC hr); clear hb hr)
    | (go_at_call 25; (with_reducible refine (Gives.c (HLC.out _ _ I.now.2)).mono ?_); rintro e w7 ⟨rfl, hb⟩; replace I := I.next hb; clear hb)
    | (go_at_call 34; (with_reducible refine (w_coding _ (World.alloc (World.alloc (World.alloc _ _) _) _) (readsAt3 _ _ (by simp) 10 10 40 _)).mono ?_); rintro e w1 ⟨ab, ao, ac, rfl, hr, hac, hb⟩; replace I := (((I.allocB2 _ _ _ _).alloc _).next hb).with (.readsC hr); clear hb hr)
    | (go_at_call 27; (with_reducible refine (Gives.c (part_calls 15 2 _)).mono ?_); rintro e w3 ⟨rfl, hb⟩; replace I := I.next hb; clear hb)
    | (go_at_call 17; (with_reducible refine (Gives.c (k_gains _ I.now.2 hac)).mono ?_); rintro e w12 ⟨rfl, hb⟩; replace I := I.next hb; clear hb)
    | (go_at_call 21; (with_reducible refine (k_div _ I.now.2 (by assumption)).mono ?_); rintro e w15 ⟨dA, dm, dc, rfl, hb⟩; replace I := I.next hb; clear hb))
  have J := I.allocB [.int .i64 0, .int .i64 1] 24
  clear I
  generalize World.alloc _ _ = wz at J ⊢
  have hS1 : ∀ X, Below wz.heap.size wz X → Below wz.heap.size wz X ∧ (X.cell? ⟨w7.heap.size + 1, 0, none⟩ = some (.int .i64 15) ∧ X.cell? ⟨w7.heap.size + 1, 1, none⟩ = some (.int .i64 1)) ∧ (X.cell? ⟨w12.heap.size, 0, none⟩ = some (.int .i64 15) ∧ X.cell? ⟨w12.heap.size, 1, none⟩ = some (.int .i64 1)) ∧ (X.cell? ⟨w12.heap.size + 1, 0, none⟩ = some (.int .i64 15) ∧ X.cell? ⟨w12.heap.size + 1, 1, none⟩ = some (.int .i64 1)) ∧ (X.cell? ⟨w15.heap.size, 0, none⟩ = some (.int .i64 0) ∧ X.cell? ⟨w15.heap.size, 1, none⟩ = some (.int .i64 1)) := fun X hX => ⟨hX, (J X hX).1.1.1.1.1.2.two, (J X hX).1.1.1.2.two, (J X hX).1.1.2.two, (J X hX).2.two⟩
  have h0 : ∀ X, Below wz.heap.size wz X → Below w.heap.size w X := fun X hX => (J X hX).1.1.1.1.1.1.1.1
  have HS1 := Lib.hid hS1
  have H0 := Lib.hid h0
  clear J hS1 h0
  have hgt := guard24
  have hst := stood24
  go_region_held3 (fun X => Below wz.heap.size wz X ∧ (X.cell? ⟨w7.heap.size + 1, 0, none⟩ = some (.int .i64 15) ∧ X.cell? ⟨w7.heap.size + 1, 1, none⟩ = some (.int .i64 1)) ∧ (X.cell? ⟨w12.heap.size, 0, none⟩ = some (.int .i64 15) ∧ X.cell? ⟨w12.heap.size, 1, none⟩ = some (.int .i64 1)) ∧ (X.cell? ⟨w12.heap.size + 1, 0, none⟩ = some (.int .i64 15) ∧ X.cell? ⟨w12.heap.size + 1, 1, none⟩ = some (.int .i64 1)) ∧ (X.cell? ⟨w15.heap.size, 0, none⟩ = some (.int .i64 0) ∧ X.cell? ⟨w15.heap.size, 1, none⟩ = some (.int .i64 1)))
    (first
      | with_reducible exact HS1.out _ (Below.refl _ _).drew
      | with_reducible exact HS1.out _ HB.out
      | with_reducible exact HS1.out _ (stepA HB.out _)
      | fail)
    (first
      | (go_at_call 27; (with_reducible refine (Gives.c (part_calls _ _ _)).mono ?_); rintro e' wy ⟨rfl, hb⟩; first | have HB := Lib.hid (HB.out.trans (hb.mono HB.out.size)) | have HB := Lib.hid ((Below.refl wz.heap.size wz).drew.trans hb))
      | (go_at_call 31; (with_reducible refine (Gives.c (code_calls _ _ _ _)).mono ?_); rintro e' wy ⟨rfl, hb⟩; have HB := Lib.hid (HB.out.trans (hb.mono HB.out.size)))
      | (go_at_call 15; (with_reducible refine (Gives.c (k_check _ _ (readsC2 _ (1, 2, 2) (1, 3, 3) _))).mono ?_); rintro e' wy ⟨rfl, hb⟩; have HB := Lib.hid ((stepA HB.out _).trans (hb.mono (stepA HB.out _).size)))
      | (go_at_call 11; (with_reducible refine (Gives.c (works_calls _)).mono ?_); rintro e' wy ⟨rfl, hb⟩; have HB := Lib.hid (HB.out.trans (hb.mono HB.out.size)))
      | fail)
  go_wp2_with fail
  go_ret
  exact ⟨rfl, H0.out _ HB.out⟩

theorem known_own : ownKnob Try.prog.godebug = none := by kernel_rfl

set_option maxRecDepth 100000 in
theorem known_lifted (os : Os) (started : os.Started) (H : Type) (enc : TypeId × Value → H) :
    ReturnsInHanded {} Try.checked os 10 .any (Rows.levelKnownSpec.pre6 enc Try.prog Try.f10 Rows.levelKnownRow.domain false) (Rows.levelKnownSpec.post enc Try.prog Try.f10 false true false false) := by
  refine returnsInHanded_of_change (C := Try.checked) known_own started (by kernel_rfl) Try.func10
    (ChangeSpec.witness6 (enc := enc) (C := Try.checked) false ⟨#[], #[], []⟩ 8 (by kernel_rfl) (by kernel_rfl) (by kernel_rfl) (by kernel_rfl)) ?_
  intro W base args ds gs before hval0 hW hcnd _
  have hW' := hW
  obtain ⟨p, q, hA, hV, rfl, hfz, hnd⟩ := hW
  rw [Try.params10] at hA
  obtain ⟨rfl, rfl, rfl⟩ := trodAll_none hA
  obtain ⟨rfl, rfl⟩ := trodVars_none hV
  refine (known_law W).mono fun e W' ⟨he, hb⟩ => ?_
  subst he
  exact ⟨_, rfl, post_true hW' rfl rfl rfl (by decide) hb⟩

theorem known_over : Rows.levelKnownRow.holds Try.pinned (OpenSpec.ofChange Rows.levelKnownSpec) :=
  OpenClaim.holds_of_wide 10 Try.f10 rfl rfl rfl rfl rfl rfl rfl ⟨rfl, rfl, rfl, rfl, rfl⟩ rfl rfl rfl rfl rfl (by kernel_rfl) Try.func10 (by kernel_rfl)
    (of_decide_eq_true (by kernel_rfl)) (by unfold Func.isWrapper; first | (rw [if_pos (by decide +kernel)]; kernel_rfl) | (rw [if_neg (by decide +kernel)]; exact ⟨rfl, rfl⟩))
    (fun os started H enc _ => known_lifted os started H enc)

/-- LevelKnown returns true. -/
theorem levelKnown_holds : Rows.LevelKnownSaid := known_over
#print axioms levelKnown_holds
end Go.Proofs.Ytjncoableanmpaa
