/- SpoolGoverns: what a governor does is as the reference says: the call returns true at every spool, growth and number of turns. -/
import Derived.Test.YtphbiaagmhhhbaaRI
import Derived.Deep.CutRange
namespace Go.Proofs.Ytphbiaagmhhhbaa
open Go.ChangeShapes Go.WideShapes Go.ChangeAt Go.RowKit Go.Lib Go.Shelf

set_option maxRecDepth 1000000 in
set_option maxHeartbeats 4000000 in
theorem governs_walk (c t lo hi g n x : Int) (l : List Int) (h1 : governF c t lo hi g n = (l, x)) (w : World) :
    Gives 7 #[.agg #[.int .i64 c, .int .i64 t, .int .i64 lo, .int .i64 hi], .int .i64 g, .int .i64 n] (.bool true) w := by
  unfold Gives
  have I : Held w (fun W => Below w.heap.size w W) := .from (Below.refl _ _) (Nat.le_refl _)
  have H1 := Lib.hid h1
  clear h1
  go_enter Try.func7, Try.ntmps7
  go_wp2_with (first
    | (go_at_call 36; (with_reducible refine (govern_calls _ _ _ _ _ _ (World.alloc _ _)).mono ?_); intro e1 w1 hh; obtain ⟨A, m, cp, rfl, hr, hb⟩ := slc_of H1.out hh; replace I := ((I.allocB _ _).next hb).with hr; clear hb hr hh; have q := I.now.1.2.four; have z := I.now.1.2.lt)
    | (go_at_call 24; (with_reducible refine (Gives.c (given_calls _ _ _ _ _)).mono ?_); rintro e2 w2 ⟨rfl, hb⟩; replace I := I.next hb; clear hb q z)
    | (go_at_call 37; (with_reducible refine (rgovern_calls _ _ _ _ _ _ _).mono ?_); intro e3 w3 hh; obtain ⟨B, m2, cp2, rfl, hr, hb⟩ := slc_of H1.out hh; replace I := (I.next hb).with hr; clear hb hr hh)
    | (go_at_call 35; (with_reducible refine (Gives.c (w_numbers A B m m2 cp cp2 l _ I.now.1.2 I.now.2)).mono ?_); rintro e4 w4 ⟨rfl, hb⟩; replace I := I.next hb; clear hb)
    | (go_at_call 29; (with_reducible refine (Gives.c (works_calls _)).mono ?_); rintro e5 w5 ⟨rfl, hb⟩; replace I := I.next hb; clear hb))
  go_ret
  exact ⟨rfl, I.now.1.1.1⟩

theorem governs_law (c t lo hi g n : Int) (w : World) : Gives 7 #[.agg #[.int .i64 c, .int .i64 t, .int .i64 lo, .int .i64 hi], .int .i64 g, .int .i64 n] (.bool true) w :=
  governs_walk c t lo hi g n _ _ rfl w

theorem governs_own : ownKnob Try.prog.godebug = none := by kernel_rfl

set_option maxRecDepth 100000 in
theorem governs_lifted (os : Os) (started : os.Started) (H : Type) (enc : TypeId × Value → H) :
    ReturnsInHanded {} Try.checked os 7 .any (Rows.spoolGovernsSpec.pre6 enc Try.prog Try.f7 Rows.spoolGovernsRow.domain false) (Rows.spoolGovernsSpec.post enc Try.prog Try.f7 false true false false) := by
  refine returnsInHanded_of_change (C := Try.checked) governs_own started (by kernel_rfl) Try.func7
    (ChangeSpec.witness6 (enc := enc) (C := Try.checked) false ⟨#[], #[.agg #[.int .i64 0, .int .i64 0, .int .i64 0, .int .i64 0], .int .i64 0, .int .i64 0], []⟩ 8 (by kernel_rfl) (by kernel_rfl) (by kernel_rfl) (by kernel_rfl)) ?_
  intro W base args ds gs before hval0 hW hcnd _
  have hval : ∀ (j : Nat) t v, Try.f7.params[j]? = some t → args[j]? = some v → Value.okWide Try.prog W .any base t v := hval0
  have hW' := hW
  obtain ⟨p, q, hA, hV, rfl, hfz, hnd⟩ := hW
  rw [Try.params7] at hA hval
  obtain ⟨v1, l1, d1, ds1, p1, q1, e1, rfl, rfl, h1, hA⟩ := trodAll_cons hA
  obtain ⟨v2, l2, d2, ds2, p2, q2, rfl, rfl, rfl, h2, hA⟩ := trodAll_cons hA
  obtain ⟨v3, l3, d3, ds3, p3, q3, rfl, rfl, rfl, h3, hA⟩ := trodAll_cons hA
  obtain ⟨rfl, rfl, rfl⟩ := trodAll_nil hA
  obtain ⟨rfl, rfl⟩ := trodVars_none hV
  obtain rfl : args = #[v1, v2, v3] := by cases args; simp_all
  obtain ⟨c, t, lo, hi, rfl⟩ := spool_arg (hval 0 28 v1 rfl rfl)
  obtain ⟨g, rfl⟩ := okWide_int Try.underlying3 (hval 1 3 v2 rfl rfl)
  obtain ⟨n, rfl⟩ := okWide_int Try.underlying3 (hval 2 3 v3 rfl rfl)
  refine (governs_law c t lo hi g n W).mono fun e W' ⟨he, hb⟩ => ?_
  subst he
  exact ⟨_, rfl, post_true hW' rfl rfl rfl (by decide) hb⟩

theorem governs_over : Rows.spoolGovernsRow.holds Try.pinned (OpenSpec.ofChange Rows.spoolGovernsSpec) :=
  OpenClaim.holds_of_wide 7 Try.f7 rfl rfl rfl rfl rfl rfl rfl ⟨rfl, rfl, rfl, rfl, rfl⟩ rfl rfl rfl rfl rfl (by kernel_rfl) Try.func7 (by kernel_rfl)
    (of_decide_eq_true (by kernel_rfl)) (by unfold Func.isWrapper; first | (rw [if_pos (by decide +kernel)]; kernel_rfl) | (rw [if_neg (by decide +kernel)]; exact ⟨rfl, rfl⟩))
    (fun os started H enc _ => governs_lifted os started H enc)

/-- SpoolGoverns returns true. -/
theorem spoolGoverns_holds : Rows.SpoolGovernsSaid := governs_over
#print axioms spoolGoverns_holds
end Go.Proofs.Ytphbiaagmhhhbaa
