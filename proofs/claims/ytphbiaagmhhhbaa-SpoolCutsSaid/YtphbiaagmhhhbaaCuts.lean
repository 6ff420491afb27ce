/- SpoolCuts: notes are cut, and played, as the reference says: the call returns true at every spool, growth and list of numbers. -/
import Derived.Test.YtphbiaagmhhhbaaRI
import Derived.Deep.CutRange
namespace Go.Proofs.Ytphbiaagmhhhbaa
open Go.ChangeShapes Go.WideShapes Go.ChangeAt Go.RowKit Go.Lib Go.Shelf

theorem cuts_short {c t lo hi g : Int} {A : Option Addr} {n cap : Nat} (h : (8 < n ∧ n ≤ 100) ∨ 300 < n) (w : World) :
    Gives 6 #[.agg #[.int .i64 c, .int .i64 t, .int .i64 lo, .int .i64 hi], .int .i64 g, .slice A n cap] (.bool true) w := by
  unfold Gives
  have I : Held w (fun W => Below w.heap.size w W) := .from (Below.refl _ _) (Nat.le_refl _)
  rcases h with ⟨h1, h2⟩ | h1
  · have a1 : (8 : Int) < n := by omega
    have a2 : (n : Int) ≤ 100 := by omega
    clear h1 h2
    go_enter Try.func6, Try.ntmps6
    go_wp2_with (go_at_call 29; (with_reducible refine (Gives.c (works_calls (World.alloc _ _))).mono ?_); rintro e5 w5 ⟨rfl, hb⟩; replace I := (I.allocB _ _).next hb; clear hb)
    go_ret
    exact ⟨rfl, I.now.1⟩
  · have a1 : (8 : Int) < n := by omega
    have a2 : ¬ (n : Int) ≤ 100 := by omega
    have a3 : (300 : Int) < n := by omega
    clear h1
    go_enter Try.func6, Try.ntmps6
    go_wp2_with (go_at_call 29; (with_reducible refine (Gives.c (works_calls (World.alloc _ _))).mono ?_); rintro e5 w5 ⟨rfl, hb⟩; replace I := (I.allocB _ _).next hb; clear hb)
    go_ret
    exact ⟨rfl, I.now.1⟩

set_option maxRecDepth 1000000 in
set_option maxHeartbeats 4000000 in
theorem cuts_walk {c t lo hi g x y : Int} {A : Option Addr} {n cap : Nat} {l a b : List Int} {w : World} (hl : ReadsAny w A n l) (h1 : cutF c t lo hi g l = (a, x)) (h2 : playF c t lo hi g l = (b, y)) (h8 : n ≤ 8 ∨ (100 < n ∧ n ≤ 300)) :
    Gives 6 #[.agg #[.int .i64 c, .int .i64 t, .int .i64 lo, .int .i64 hi], .int .i64 g, .slice A n cap] (.bool true) w := by
  unfold Gives
  have I : Held w (fun W => Below w.heap.size w W ∧ Reads W A n l) := (Held.from (Below.refl _ _) (Nat.le_refl _)).with (.reads (hl.small (by omega)))
  have H1 := Lib.hid h1
  have H2 := Lib.hid h2
  clear h1 h2 hl
  rcases h8 with h8 | ⟨h8, h9⟩
  · have a1 : ¬ (8 : Int) < n := by omega
    have a3 : ¬ (300 : Int) < n := by omega
    clear h8
    go_enter Try.func6, Try.ntmps6
    go_wp2_with (first
      | (go_at_call 17; (with_reducible refine (cut_calls _ _ _ _ _ _ _ _ _ (World.alloc _ _) (I.allocB _ _).now.1.2).mono ?_); intro e1 w1 hh; obtain ⟨A1, m1, c1, rfl, hr, hb⟩ := slc_of H1.out hh; replace I := ((I.allocB _ _).next hb).with hr; clear hb hr hh; have q := I.now.1.2.four; have z := I.now.1.2.lt)
      | (go_at_call 24; (with_reducible refine (Gives.c (given_calls _ _ _ _ _)).mono ?_); rintro e2 w2 ⟨rfl, hb⟩; replace I := I.next hb; clear hb q z)
      | (go_at_call 33; (with_reducible refine (rcut_calls _ _ _ _ _ _ _ _ _ _ I.now.1.1.2).mono ?_); intro e3 w3 hh; obtain ⟨A2, m2, c2, rfl, hr, hb⟩ := slc_of H1.out hh; replace I := (I.next hb).with hr; clear hb hr hh; have q := I.now.1.1.2.four; have z := I.now.1.1.2.lt)
      | (go_at_call 18; (with_reducible refine (play_calls _ _ _ _ _ _ _ _ _ _ I.now.1.1.1.2).mono ?_); intro e4 w4 hh; obtain ⟨A3, m3, c3, rfl, hr, hb⟩ := slc_of H2.out hh; replace I := (I.next hb).with hr; clear hb hr hh q z; have q := I.now.1.1.1.2.four; have z := I.now.1.1.1.2.lt)
      | (go_at_call 34; (with_reducible refine (rplay_calls _ _ _ _ _ _ _ _ _ _ I.now.1.1.1.1.2).mono ?_); intro e5 w5 hh; obtain ⟨A4, m4, c4, rfl, hr, hb⟩ := slc_of H2.out hh; replace I := (I.next hb).with hr; clear hb hr hh)
      | (go_at_call 35; (with_reducible refine (Gives.c (w_numbers A1 A2 m1 m2 c1 c2 a _ I.now.1.1.1.2 I.now.1.1.2)).mono ?_); rintro e6 w6 ⟨rfl, hb⟩; replace I := I.next hb; clear hb)
      | (go_at_call 35; (with_reducible refine (Gives.c (w_numbers A3 A4 m3 m4 c3 c4 b _ I.now.1.2 I.now.2)).mono ?_); rintro e6 w6 ⟨rfl, hb⟩; replace I := I.next hb; clear hb)
      | (go_at_call 29; (with_reducible refine (Gives.c (works_calls _)).mono ?_); rintro e7 w7 ⟨rfl, hb⟩; replace I := I.next hb; clear hb))
    go_ret
    exact ⟨rfl, I.now.1.1.1.1.1.1⟩
  · have a1 : (8 : Int) < n := by omega
    have a2 : ¬ (n : Int) ≤ 100 := by omega
    have a3 : ¬ (300 : Int) < n := by omega
    clear h8 h9
    go_enter Try.func6, Try.ntmps6
    go_wp2_with (first
      | (go_at_call 17; (with_reducible refine (cut_calls _ _ _ _ _ _ _ _ _ (World.alloc _ _) (I.allocB _ _).now.1.2).mono ?_); intro e1 w1 hh; obtain ⟨A1, m1, c1, rfl, hr, hb⟩ := slc_of H1.out hh; replace I := ((I.allocB _ _).next hb).with hr; clear hb hr hh; have q := I.now.1.2.four; have z := I.now.1.2.lt)
      | (go_at_call 24; (with_reducible refine (Gives.c (given_calls _ _ _ _ _)).mono ?_); rintro e2 w2 ⟨rfl, hb⟩; replace I := I.next hb; clear hb q z)
      | (go_at_call 33; (with_reducible refine (rcut_calls _ _ _ _ _ _ _ _ _ _ I.now.1.1.2).mono ?_); intro e3 w3 hh; obtain ⟨A2, m2, c2, rfl, hr, hb⟩ := slc_of H1.out hh; replace I := (I.next hb).with hr; clear hb hr hh; have q := I.now.1.1.2.four; have z := I.now.1.1.2.lt)
      | (go_at_call 18; (with_reducible refine (play_calls _ _ _ _ _ _ _ _ _ _ I.now.1.1.1.2).mono ?_); intro e4 w4 hh; obtain ⟨A3, m3, c3, rfl, hr, hb⟩ := slc_of H2.out hh; replace I := (I.next hb).with hr; clear hb hr hh q z; have q := I.now.1.1.1.2.four; have z := I.now.1.1.1.2.lt)
      | (go_at_call 34; (with_reducible refine (rplay_calls _ _ _ _ _ _ _ _ _ _ I.now.1.1.1.1.2).mono ?_); intro e5 w5 hh; obtain ⟨A4, m4, c4, rfl, hr, hb⟩ := slc_of H2.out hh; replace I := (I.next hb).with hr; clear hb hr hh)
      | (go_at_call 35; (with_reducible refine (Gives.c (w_numbers A1 A2 m1 m2 c1 c2 a _ I.now.1.1.1.2 I.now.1.1.2)).mono ?_); rintro e6 w6 ⟨rfl, hb⟩; replace I := I.next hb; clear hb)
      | (go_at_call 35; (with_reducible refine (Gives.c (w_numbers A3 A4 m3 m4 c3 c4 b _ I.now.1.2 I.now.2)).mono ?_); rintro e6 w6 ⟨rfl, hb⟩; replace I := I.next hb; clear hb)
      | (go_at_call 29; (with_reducible refine (Gives.c (works_calls _)).mono ?_); rintro e7 w7 ⟨rfl, hb⟩; replace I := I.next hb; clear hb))
    go_ret
    exact ⟨rfl, I.now.1.1.1.1.1.1⟩

theorem cuts_law {c t lo hi g : Int} {A : Option Addr} {n cap : Nat} {l : List Int} {w : World} (hl : ReadsAny w A n l) :
    Gives 6 #[.agg #[.int .i64 c, .int .i64 t, .int .i64 lo, .int .i64 hi], .int .i64 g, .slice A n cap] (.bool true) w := by
  by_cases h : (8 < n ∧ n ≤ 100) ∨ 300 < n
  · exact cuts_short h w
  · exact cuts_walk hl rfl rfl (by omega)

theorem cuts_own : ownKnob Try.prog.godebug = none := by kernel_rfl

set_option maxRecDepth 100000 in
theorem cuts_lifted (os : Os) (started : os.Started) (H : Type) (enc : TypeId × Value → H) :
    ReturnsInHanded {} Try.checked os 6 .any (Rows.spoolCutsSpec.pre6 enc Try.prog Try.f6 Rows.spoolCutsRow.domain false) (Rows.spoolCutsSpec.post enc Try.prog Try.f6 false true false false) := by
  refine returnsInHanded_of_change (C := Try.checked) cuts_own started (by kernel_rfl) Try.func6
    (ChangeSpec.witness6 (enc := enc) (C := Try.checked) false ⟨#[], #[.agg #[.int .i64 0, .int .i64 0, .int .i64 0, .int .i64 0], .int .i64 0, .slice none 0 0], []⟩ 8 (by kernel_rfl) (by kernel_rfl) (by kernel_rfl) (by kernel_rfl)) ?_
  intro W base args ds gs before hval0 hW hcnd _
  have hval : ∀ (j : Nat) t v, Try.f6.params[j]? = some t → args[j]? = some v → Value.okWide Try.prog W .any base t v := hval0
  have hW' := hW
  obtain ⟨p, q, hA, hV, rfl, hfz, hnd⟩ := hW
  rw [Try.params6] at hA hval
  obtain ⟨v1, l1, d1, ds1, p1, q1, e1, rfl, rfl, h1, hA⟩ := trodAll_cons hA
  obtain ⟨v2, l2, d2, ds2, p2, q2, rfl, rfl, rfl, h2, hA⟩ := trodAll_cons hA
  obtain ⟨v3, l3, d3, ds3, p3, q3, rfl, rfl, rfl, h3, hA⟩ := trodAll_cons hA
  obtain ⟨rfl, rfl, rfl⟩ := trodAll_nil hA
  obtain ⟨rfl, rfl⟩ := trodVars_none hV
  obtain rfl : args = #[v1, v2, v3] := by cases args; simp_all
  obtain ⟨c, t, lo, hi, rfl⟩ := spool_arg (hval 0 28 v1 rfl rfl)
  obtain ⟨g, rfl⟩ := okWide_int Try.underlying3 (hval 1 3 v2 rfl rfl)
  obtain ⟨A, n, cap, l, rfl, hl⟩ := slice_arg (hval 2 32 v3 rfl rfl) h3
  refine (Gives.c (cuts_law (c := c) (t := t) (lo := lo) (hi := hi) (g := g) (cap := cap) hl)).mono fun e W' ⟨he, hb⟩ => ?_
  subst he
  exact ⟨_, rfl, post_true hW' rfl rfl rfl (by decide) hb⟩

theorem cuts_over : Rows.spoolCutsRow.holds Try.pinned (OpenSpec.ofChange Rows.spoolCutsSpec) :=
  OpenClaim.holds_of_wide 6 Try.f6 rfl rfl rfl rfl rfl rfl rfl ⟨rfl, rfl, rfl, rfl, rfl⟩ rfl rfl rfl rfl rfl (by kernel_rfl) Try.func6 (by kernel_rfl)
    (of_decide_eq_true (by kernel_rfl)) (by unfold Func.isWrapper; first | (rw [if_pos (by decide +kernel)]; kernel_rfl) | (rw [if_neg (by decide +kernel)]; exact ⟨rfl, rfl⟩))
    (fun os started H enc _ => cuts_lifted os started H enc)

/-- SpoolCuts returns true. -/
theorem spoolCuts_holds : Rows.SpoolCutsSaid := cuts_over
#print axioms spoolCuts_holds
end Go.Proofs.Ytphbiaagmhhhbaa
