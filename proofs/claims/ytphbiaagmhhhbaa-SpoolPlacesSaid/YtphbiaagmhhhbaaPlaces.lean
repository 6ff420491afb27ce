/- SpoolPlaces: checks, lengths and places answer as the reference: the call returns true at every spool, number of turns and time. -/
import Derived.Test.YtphbiaagmhhhbaaRC
import Derived.Deep.CutRange
namespace Go.Proofs.Ytphbiaagmhhhbaa
open Go.ChangeShapes Go.WideShapes Go.ChangeAt Go.RowKit Go.Lib Go.Shelf

set_option maxRecDepth 1000000 in
set_option maxHeartbeats 4000000 in
theorem places_walk (c t lo hi n x a b e a2 b2 e2 : Int) (h1 : lengthF c t lo hi n = (a, b, e)) (h2 : placeF c t lo hi x = (a2, b2, e2)) (w : World) :
    Gives 4 #[.agg #[.int .i64 c, .int .i64 t, .int .i64 lo, .int .i64 hi], .int .i64 n, .int .i64 x] (.bool true) w := by
  unfold Gives
  have I : Held w (fun W => Below w.heap.size w W) := .from (Below.refl _ _) (Nat.le_refl _)
  have hgt := guard26
  have hst := stood26
  have H1 := Lib.hid h1
  have H2 := Lib.hid h2
  clear h1 h2
  go_enter Try.func4, Try.ntmps4
  go_upto_region 5 with (first
    | (go_at_call 22; (with_reducible refine (Gives.c (Length_calls H1.out (World.alloc _ _))).mono ?_); rintro e w1 ⟨rfl, hb⟩; replace I := (I.allocB _ _).next hb; have q := I.now.2.four; have z := I.now.2.lt; clear hb)
    | (go_at_call 24; (with_reducible refine (Gives.c (given_calls _ _ _ _ (World.alloc _ _))).mono ?_); rintro e w2 ⟨rfl, hb⟩; replace I := (I.allocB _ _).next hb; clear hb)
    | (go_at_call 23; (with_reducible refine (Gives.c (rLength_calls H1.out _)).mono ?_); rintro e w3 ⟨rfl, hb⟩; replace I := I.next hb; clear q z; have q := I.now.1.2.four; have z := I.now.1.2.lt; clear hb)
    | (go_at_call 25; (with_reducible refine (Gives.c (Place_calls H2.out (World.alloc _ _))).mono ?_); rintro e w4 ⟨rfl, hb⟩; replace I := (I.allocB _ _).next hb; clear q z; have q := I.now.1.1.2.four; have z := I.now.1.1.2.lt; clear hb)
    | (go_at_call 26; (with_reducible refine (Gives.c (rPlace_calls H2.out _)).mono ?_); rintro e w5 ⟨rfl, hb⟩; replace I := I.next hb; clear hb))
  have I2 := I.allocB [.int .i64 a2, .int .i64 b2] 26
  clear I q z H1 H2
  generalize hW : World.alloc _ _ = W0 at I2 ⊢
  clear hW
  have hS : ∀ W, Below W0.heap.size W0 W → (Below W0.heap.size W0 W ∧ (W.cell? ⟨w.heap.size, 0, none⟩ = some (.int .i64 c) ∧ W.cell? ⟨w.heap.size, 1, none⟩ = some (.int .i64 t) ∧ W.cell? ⟨w.heap.size, 2, none⟩ = some (.int .i64 lo) ∧ W.cell? ⟨w.heap.size, 3, none⟩ = some (.int .i64 hi)) ∧ (W.cell? ⟨w1.heap.size, 0, none⟩ = some (.int .i64 a) ∧ W.cell? ⟨w1.heap.size, 1, none⟩ = some (.int .i64 b)) ∧ (W.cell? ⟨w3.heap.size, 0, none⟩ = some (.int .i64 a) ∧ W.cell? ⟨w3.heap.size, 1, none⟩ = some (.int .i64 b)) ∧ (W.cell? ⟨w4.heap.size, 0, none⟩ = some (.int .i64 a2) ∧ W.cell? ⟨w4.heap.size, 1, none⟩ = some (.int .i64 b2)) ∧ (W.cell? ⟨w5.heap.size, 0, none⟩ = some (.int .i64 a2) ∧ W.cell? ⟨w5.heap.size, 1, none⟩ = some (.int .i64 b2))) := fun W hW => ⟨hW, (I2 W hW).1.1.1.1.2.four, (I2 W hW).1.1.1.2.two, (I2 W hW).1.1.2.two, (I2 W hW).1.2.two, (I2 W hW).2.two⟩
  have HS := Lib.hid hS
  have HI := Lib.hid (fun W hW => (I2 W hW).1.1.1.1.1)
  clear hS I2
  go_region_held3 (fun W => Below W0.heap.size W0 W ∧ (W.cell? ⟨w.heap.size, 0, none⟩ = some (.int .i64 c) ∧ W.cell? ⟨w.heap.size, 1, none⟩ = some (.int .i64 t) ∧ W.cell? ⟨w.heap.size, 2, none⟩ = some (.int .i64 lo) ∧ W.cell? ⟨w.heap.size, 3, none⟩ = some (.int .i64 hi)) ∧ (W.cell? ⟨w1.heap.size, 0, none⟩ = some (.int .i64 a) ∧ W.cell? ⟨w1.heap.size, 1, none⟩ = some (.int .i64 b)) ∧ (W.cell? ⟨w3.heap.size, 0, none⟩ = some (.int .i64 a) ∧ W.cell? ⟨w3.heap.size, 1, none⟩ = some (.int .i64 b)) ∧ (W.cell? ⟨w4.heap.size, 0, none⟩ = some (.int .i64 a2) ∧ W.cell? ⟨w4.heap.size, 1, none⟩ = some (.int .i64 b2)) ∧ (W.cell? ⟨w5.heap.size, 0, none⟩ = some (.int .i64 a2) ∧ W.cell? ⟨w5.heap.size, 1, none⟩ = some (.int .i64 b2)))
    (first
      | exact HS.out _ (below_drewN' (Below.refl _ _) 1)
      | (rename_i hh _ _; exact HS.out _ (hh.1.trans (hb.mono hh.1.size)))
      | fail)
    (first
      | (go_at_call 27; (with_reducible refine (Gives.c (check_calls _ _ _ _ _)).mono ?_); rintro e w' ⟨rfl, hb⟩)
      | (go_at_call 24; (with_reducible refine (Gives.c (given_calls _ _ _ _ _)).mono ?_); rintro e w' ⟨rfl, hb⟩)
      | (go_at_call 28; (with_reducible refine (Gives.c (rcheck_calls _ _ _ _ _)).mono ?_); rintro e w' ⟨rfl, hb⟩)
      | (go_at_call 29; (with_reducible refine (Gives.c (works_calls _)).mono ?_); rintro e w' ⟨rfl, hb⟩)
      | fail)
  go_wp2
  go_ret
  rename_i hh
  exact ⟨rfl, HI.out _ hh.1⟩

theorem places_law (c t lo hi n x : Int) (w : World) : Gives 4 #[.agg #[.int .i64 c, .int .i64 t, .int .i64 lo, .int .i64 hi], .int .i64 n, .int .i64 x] (.bool true) w :=
  places_walk c t lo hi n x _ _ _ _ _ _ rfl rfl w

theorem places_own : ownKnob Try.prog.godebug = none := by kernel_rfl

set_option maxRecDepth 100000 in
theorem places_lifted (os : Os) (started : os.Started) (H : Type) (enc : TypeId × Value → H) :
    ReturnsInHanded {} Try.checked os 4 .any (Rows.spoolPlacesSpec.pre6 enc Try.prog Try.f4 Rows.spoolPlacesRow.domain false) (Rows.spoolPlacesSpec.post enc Try.prog Try.f4 false true false false) := by
  refine returnsInHanded_of_change (C := Try.checked) places_own started (by kernel_rfl) Try.func4
    (ChangeSpec.witness6 (enc := enc) (C := Try.checked) false ⟨#[], #[.agg #[.int .i64 0, .int .i64 0, .int .i64 0, .int .i64 0], .int .i64 0, .int .i64 0], []⟩ 8 (by kernel_rfl) (by kernel_rfl) (by kernel_rfl) (by kernel_rfl)) ?_
  intro W base args ds gs before hval0 hW hcnd _
  have hval : ∀ (j : Nat) t v, Try.f4.params[j]? = some t → args[j]? = some v → Value.okWide Try.prog W .any base t v := hval0
  have hW' := hW
  obtain ⟨p, q, hA, hV, rfl, hfz, hnd⟩ := hW
  rw [Try.params4] at hA hval
  obtain ⟨v1, l1, d1, ds1, p1, q1, e1, rfl, rfl, h1, hA⟩ := trodAll_cons hA
  obtain ⟨v2, l2, d2, ds2, p2, q2, rfl, rfl, rfl, h2, hA⟩ := trodAll_cons hA
  obtain ⟨v3, l3, d3, ds3, p3, q3, rfl, rfl, rfl, h3, hA⟩ := trodAll_cons hA
  obtain ⟨rfl, rfl, rfl⟩ := trodAll_nil hA
  obtain ⟨rfl, rfl⟩ := trodVars_none hV
  obtain rfl : args = #[v1, v2, v3] := by cases args; simp_all
  obtain ⟨c, t, lo, hi, rfl⟩ := spool_arg (hval 0 28 v1 rfl rfl)
  obtain ⟨n, rfl⟩ := okWide_int Try.underlying3 (hval 1 3 v2 rfl rfl)
  obtain ⟨x, rfl⟩ := okWide_int Try.underlying3 (hval 2 3 v3 rfl rfl)
  refine (places_law c t lo hi n x W).mono fun e W' ⟨he, hb⟩ => ?_
  subst he
  exact ⟨_, rfl, post_true hW' rfl rfl rfl (by decide) hb⟩

theorem places_over : Rows.spoolPlacesRow.holds Try.pinned (OpenSpec.ofChange Rows.spoolPlacesSpec) :=
  OpenClaim.holds_of_wide 4 Try.f4 rfl rfl rfl rfl rfl rfl rfl ⟨rfl, rfl, rfl, rfl, rfl⟩ rfl rfl rfl rfl rfl (by kernel_rfl) Try.func4 (by kernel_rfl)
    (of_decide_eq_true (by kernel_rfl)) (by unfold Func.isWrapper; first | (rw [if_pos (by decide +kernel)]; kernel_rfl) | (rw [if_neg (by decide +kernel)]; exact ⟨rfl, rfl⟩))
    (fun os started H enc _ => places_lifted os started H enc)

/-- SpoolPlaces returns true. -/
theorem spoolPlaces_holds : Rows.SpoolPlacesSaid := places_over
#print axioms spoolPlaces_holds
end Go.Proofs.Ytphbiaagmhhhbaa
