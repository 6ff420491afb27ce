/- SpoolArrivals: arrivals, and how far notes drift, answer as the reference: the call returns true at every spool, place, growth and time. -/
import Derived.Test.YtphbiaagmhhhbaaRH
import Derived.Deep.CutRange
namespace Go.Proofs.Ytphbiaagmhhhbaa
open Go.ChangeShapes Go.WideShapes Go.ChangeAt Go.RowKit Go.Lib Go.Shelf

set_option maxRecDepth 1000000 in
set_option maxHeartbeats 4000000 in
theorem arrivals_walk (c t lo hi n g x a b e a2 b2 e2 : Int) (h1 : arrivalF c t lo hi n = (a, b, e)) (h2 : driftF c t lo hi g x = (a2, b2, e2)) (w : World) :
    Gives 5 #[.agg #[.int .i64 c, .int .i64 t, .int .i64 lo, .int .i64 hi], .int .i64 n, .int .i64 g, .int .i64 x] (.bool true) w := by
  unfold Gives
  have I : Held w (fun W => Below w.heap.size w W) := .from (Below.refl _ _) (Nat.le_refl _)
  have hgt := guard26
  have hst := stood26
  have H1 := Lib.hid h1
  have H2 := Lib.hid h2
  clear h1 h2
  go_enter Try.func5, Try.ntmps5
  go_upto_region 5 with (first
    | (go_at_call 30; (with_reducible refine (Gives.c (Arrival_calls H1.out (World.alloc _ _))).mono ?_); rintro e w1 ⟨rfl, hb⟩; replace I := (I.allocB _ _).next hb; have q := I.now.2.four; have z := I.now.2.lt; clear hb)
    | (go_at_call 24; (with_reducible refine (Gives.c (given_calls _ _ _ _ (World.alloc _ _))).mono ?_); rintro e w2 ⟨rfl, hb⟩; replace I := (I.allocB _ _).next hb; clear hb)
    | (go_at_call 31; (with_reducible refine (Gives.c (rArrival_calls H1.out _)).mono ?_); rintro e w3 ⟨rfl, hb⟩; replace I := I.next hb; clear q z; have q := I.now.1.2.four; have z := I.now.1.2.lt; clear hb)
    | (go_at_call 19; (with_reducible refine (Gives.c (Drift_calls H2.out (World.alloc _ _))).mono ?_); rintro e w4 ⟨rfl, hb⟩; replace I := (I.allocB _ _).next hb; clear q z; have q := I.now.1.1.2.four; have z := I.now.1.1.2.lt; clear hb)
    | (go_at_call 32; (with_reducible refine (Gives.c (rDrift_calls H2.out _)).mono ?_); rintro e w5 ⟨rfl, hb⟩; replace I := I.next hb; clear hb))
  have I2 := I.allocB [.int .i64 a2, .int .i64 b2] 26
  clear I q z H1 H2
  generalize hW : World.alloc _ _ = W0 at I2 ⊢
  clear hW
  have q0 := I2.now.1.1.1.2.two
  have q1 := I2.now.1.1.2.two
  have q2 := I2.now.1.2.two
  have q3 := I2.now.2.two
  go_wp2_with (go_at_call 29; (with_reducible refine (Gives.c (works_calls _)).mono ?_); rintro e w' ⟨rfl, hb⟩; replace I2 := I2.next hb)
  go_ret
  exact ⟨rfl, I2.now.1.1.1.1.1⟩

theorem arrivals_law (c t lo hi n g x : Int) (w : World) : Gives 5 #[.agg #[.int .i64 c, .int .i64 t, .int .i64 lo, .int .i64 hi], .int .i64 n, .int .i64 g, .int .i64 x] (.bool true) w :=
  arrivals_walk c t lo hi n g x _ _ _ _ _ _ rfl rfl w

theorem arrivals_own : ownKnob Try.prog.godebug = none := by kernel_rfl

set_option maxRecDepth 100000 in
theorem arrivals_lifted (os : Os) (started : os.Started) (H : Type) (enc : TypeId × Value → H) :
    ReturnsInHanded {} Try.checked os 5 .any (Rows.spoolArrivalsSpec.pre6 enc Try.prog Try.f5 Rows.spoolArrivalsRow.domain false) (Rows.spoolArrivalsSpec.post enc Try.prog Try.f5 false true false false) := by
  refine returnsInHanded_of_change (C := Try.checked) arrivals_own started (by kernel_rfl) Try.func5
    (ChangeSpec.witness6 (enc := enc) (C := Try.checked) false ⟨#[], #[.agg #[.int .i64 0, .int .i64 0, .int .i64 0, .int .i64 0], .int .i64 0, .int .i64 0, .int .i64 0], []⟩ 8 (by kernel_rfl) (by kernel_rfl) (by kernel_rfl) (by kernel_rfl)) ?_
  intro W base args ds gs before hval0 hW hcnd _
  have hval : ∀ (j : Nat) t v, Try.f5.params[j]? = some t → args[j]? = some v → Value.okWide Try.prog W .any base t v := hval0
  have hW' := hW
  obtain ⟨p, q, hA, hV, rfl, hfz, hnd⟩ := hW
  rw [Try.params5] at hA hval
  obtain ⟨v1, l1, d1, ds1, p1, q1, e1, rfl, rfl, h1, hA⟩ := trodAll_cons hA
  obtain ⟨v2, l2, d2, ds2, p2, q2, rfl, rfl, rfl, h2, hA⟩ := trodAll_cons hA
  obtain ⟨v3, l3, d3, ds3, p3, q3, rfl, rfl, rfl, h3, hA⟩ := trodAll_cons hA
  obtain ⟨v4, l4, d4, ds4, p4, q4, rfl, rfl, rfl, h4, hA⟩ := trodAll_cons hA
  obtain ⟨rfl, rfl, rfl⟩ := trodAll_nil hA
  obtain ⟨rfl, rfl⟩ := trodVars_none hV
  obtain rfl : args = #[v1, v2, v3, v4] := by cases args; simp_all
  obtain ⟨c, t, lo, hi, rfl⟩ := spool_arg (hval 0 28 v1 rfl rfl)
  obtain ⟨n, rfl⟩ := okWide_int Try.underlying3 (hval 1 3 v2 rfl rfl)
  obtain ⟨g, rfl⟩ := okWide_int Try.underlying3 (hval 2 3 v3 rfl rfl)
  obtain ⟨x, rfl⟩ := okWide_int Try.underlying3 (hval 3 3 v4 rfl rfl)
  refine (arrivals_law c t lo hi n g x W).mono fun e W' ⟨he, hb⟩ => ?_
  subst he
  exact ⟨_, rfl, post_true hW' rfl rfl rfl (by decide) hb⟩

theorem arrivals_over : Rows.spoolArrivalsRow.holds Try.pinned (OpenSpec.ofChange Rows.spoolArrivalsSpec) :=
  OpenClaim.holds_of_wide 5 Try.f5 rfl rfl rfl rfl rfl rfl rfl ⟨rfl, rfl, rfl, rfl, rfl⟩ rfl rfl rfl rfl rfl (by kernel_rfl) Try.func5 (by kernel_rfl)
    (of_decide_eq_true (by kernel_rfl)) (by unfold Func.isWrapper; first | (rw [if_pos (by decide +kernel)]; kernel_rfl) | (rw [if_neg (by decide +kernel)]; exact ⟨rfl, rfl⟩))
    (fun os started H enc _ => arrivals_lifted os started H enc)

/-- SpoolArrivals returns true. -/
theorem spoolArrivals_holds : Rows.SpoolArrivalsSaid := arrivals_over
#print axioms spoolArrivals_holds
end Go.Proofs.Ytphbiaagmhhhbaa
