/- SpoolGrowths: which growths fit measurements, and whether they clash, is as the reference says: the call returns true at every spool, error, list of measurements and clash. -/
import Derived.Test.YtphbiaagmhhhbaaRO
import Derived.Test.YtphbiaagmhhhbaaRI
import Derived.Deep.CutRange
namespace Go.Proofs.Ytphbiaagmhhhbaa
open Go.ChangeShapes Go.WideShapes Go.ChangeAt Go.RowKit Go.Lib Go.Shelf

theorem growths_short {c t lo hi off : Int} {A B : Option Addr} {n cap m cap2 : Nat} (h : (12 < n ∧ n ≤ 50) ∨ 200 < n ∨ 20 < m) (w : World) :
    Gives 8 #[.agg #[.int .i64 c, .int .i64 t, .int .i64 lo, .int .i64 hi], .int .i64 off, .slice A n cap, .slice B m cap2] (.bool true) w := by
  unfold Gives
  have I : Held w (fun W => Below w.heap.size w W) := .from (Below.refl _ _) (Nat.le_refl _)
  by_cases h1 : 12 < n
  · have a1 : (12 : Int) < n := by omega
    by_cases h2 : n ≤ 50
    · have a2 : (n : Int) ≤ 50 := by omega
      clear h1 h2 h
      go_enter Try.func8, Try.ntmps8
      go_wp2_with (go_at_call 29; (with_reducible refine (Gives.c (works_calls (World.alloc _ _))).mono ?_); rintro e5 w5 ⟨rfl, hb⟩; replace I := (I.allocB _ _).next hb; clear hb)
      go_ret
      exact ⟨rfl, I.now.1⟩
    · have a2 : ¬ (n : Int) ≤ 50 := by omega
      by_cases h3 : 200 < n
      · have a3 : (200 : Int) < n := by omega
        clear h1 h2 h3 h
        go_enter Try.func8, Try.ntmps8
        go_wp2_with (go_at_call 29; (with_reducible refine (Gives.c (works_calls (World.alloc _ _))).mono ?_); rintro e5 w5 ⟨rfl, hb⟩; replace I := (I.allocB _ _).next hb; clear hb)
        go_ret
        exact ⟨rfl, I.now.1⟩
      · have a3 : ¬ (200 : Int) < n := by omega
        have a4 : (20 : Int) < m := by omega
        clear h1 h2 h3 h
        go_enter Try.func8, Try.ntmps8
        go_wp2_with (go_at_call 29; (with_reducible refine (Gives.c (works_calls (World.alloc _ _))).mono ?_); rintro e5 w5 ⟨rfl, hb⟩; replace I := (I.allocB _ _).next hb; clear hb)
        go_ret
        exact ⟨rfl, I.now.1⟩
  · have a1 : ¬ (12 : Int) < n := by omega
    have a3 : ¬ (200 : Int) < n := by omega
    have a4 : (20 : Int) < m := by omega
    clear h1 h
    go_enter Try.func8, Try.ntmps8
    go_wp2_with (go_at_call 29; (with_reducible refine (Gives.c (works_calls (World.alloc _ _))).mono ?_); rintro e5 w5 ⟨rfl, hb⟩; replace I := (I.allocB _ _).next hb; clear hb)
    go_ret
    exact ⟨rfl, I.now.1⟩

theorem g_calls {c t lo hi off a b e : Int} {A : Option Addr} {n cap : Nat} {l : List (Int × Int)} (h : growthsF c t lo hi off l = (a, b, e)) (w : World) (hl : ReadsM w A n l) :
    Gives 39 #[.agg #[.int .i64 c, .int .i64 t, .int .i64 lo, .int .i64 hi], .int .i64 off, .slice A n cap] (.tuple #[.agg #[.int .i64 a, .int .i64 b], .int .i64 e]) w := by
  have hh := Growths_calls c t lo hi off A n cap l w hl
  rw [h] at hh
  exact hh

theorem clash_code {c t lo hi off g : Int} {l : List (Int × Int)} {k : List Int} (h : clashF c t lo hi off l = (k, g)) : (g = 0 → verifyF c t lo hi off l k = 0) ∧ (g ≠ 0 → k = []) := by
  have hz := h
  unfold clashF at hz
  split at hz
  · rename_i hm
    constructor
    · intro hg
      have := clash_verify hm (by rw [h]; exact hg)
      rw [h] at this
      exact this
    · intro hg
      split at hz
      · cases hz; rfl
      · cases hz; exact absurd rfl hg
  · rename_i hm
    cases hz
    exact ⟨fun hg => absurd hg hm, fun _ => rfl⟩

set_option maxRecDepth 1000000 in
set_option maxHeartbeats 8000000 in
theorem growths_walk {c t lo hi off a b e g : Int} {A B : Option Addr} {n cap m cap2 : Nat} {l : List (Int × Int)} {cl k : List Int} {w : World} (hl : ReadsM w A n l) (hr : Reads w B m cl) (h1 : growthsF c t lo hi off l = (a, b, e)) (h2 : clashF c t lo hi off l = (k, g)) (hn : n ≤ 12 ∨ (50 < n ∧ n ≤ 200)) (hm : m ≤ 20) :
    Gives 8 #[.agg #[.int .i64 c, .int .i64 t, .int .i64 lo, .int .i64 hi], .int .i64 off, .slice A n cap, .slice B m cap2] (.bool true) w := by
  unfold Gives
  have hgt := guard26
  have hst := stood26
  have I : Held w (fun W => (Below w.heap.size w W ∧ ReadsM W A n l) ∧ Reads W B m cl) := ((Held.from (Below.refl _ _) (Nat.le_refl _)).with (.readsM hl)).with (.reads hr)
  have H1 := Lib.hid h1
  have H2 := Lib.hid h2
  have h2' : (clashF c t lo hi off l).2 = g := by rw [h2]
  have H2E := Lib.hid h2'
  have hcc := clash_code h2
  generalize hv : verifyF c t lo hi off l cl = v
  have HV := Lib.hid hv
  have HCC := Lib.hid hcc
  clear h1 h2 h2' hl hr hcc hv
  have a4 : ¬ (20 : Int) < m := by omega
  have a3 : ¬ (200 : Int) < n := by omega
  have hn1 : (¬ (12 : Int) < n) ∨ ((12 : Int) < n ∧ ¬ (n : Int) ≤ 50) := by omega
  clear hn hm
  rcases hn1 with a1 | ⟨a1, a2⟩
  all_goals (
    go_enter Try.func8, Try.ntmps8
    go_upto_region 8 with (first
      | (go_at_call 24; (with_reducible refine (Gives.c (given_calls _ _ _ _ (World.alloc _ _))).mono ?_); rintro e1 w1 ⟨rfl, hb⟩; replace I := (I.allocB _ _).next hb; clear hb)
      | (go_at_call 38; (with_reducible refine (measures_calls _ _ _ _ _ I.now.1.1.2).mono ?_); rintro e2 w2 ⟨M, cm, rfl, hr, hb⟩; replace I := (I.next hb).with (.readsM hr); clear hr hb; have q := I.now.1.2.four; have z := I.now.1.2.lt)
      | (go_at_call 39; (with_reducible refine (Gives.c (g_calls H1.out _ (I.allocB [.int .i64 c, .int .i64 t, .int .i64 lo, .int .i64 hi] 43).now.1.1.1.1.2)).mono ?_); rintro e3 w3 ⟨rfl, hb⟩; replace I := (I.allocB _ _).next hb; clear hb q z; have q := I.now.2.four; have z := I.now.2.lt)
      | (go_at_call 40; (with_reducible refine (Gives.c (rGrowths_calls H1.out _ (I.allocB [.int .i64 a, .int .i64 b] 26).now.1.1.2)).mono ?_); rintro e4 w4 ⟨rfl, hb⟩; replace I := (I.allocB _ _).next hb; clear hb q z; have q := I.now.1.1.1.2.four; have z := I.now.1.1.1.2.lt)
      | (go_at_call 41; (with_reducible refine (Clash_calls _ _ _ _ _ _ _ _ _ _ (I.allocB [.int .i64 a, .int .i64 b] 26).now.1.1.1.1.1.1.2).mono ?_); intro e5 w5 hh; obtain ⟨K, mk, ck, rfl, hr, hb⟩ := slc_of H2.out hh; replace I := ((I.allocB _ _).next hb).with hr; clear hb hr hh q z; have q := I.now.1.1.1.2.four; have z := I.now.1.1.1.2.lt)
      | (go_at_call 42; (with_reducible refine (rClash_calls _ _ _ _ _ _ _ _ _ _ I.now.1.1.1.1.2).mono ?_); rintro e6 w6 ⟨⟨_, _, _, rfl⟩, hb⟩; rw [H2E.out]; replace I := I.next hb; clear hb q z))
    have qs := I.now.1.1.1.1.1.2.four
    have qx := I.now.1.1.1.2.four
    have qa := I.now.1.1.2.two
    have qb := I.now.1.2.two
    by_cases hg : g = 0
    · subst hg
      go_upto_region 10 with (go_at_call 43; (with_reducible refine (Gives.c (rVerify_calls _ _ _ _ _ _ _ _ _ _ _ _ _ _ I.now.1.1.1.1.2 I.now.2)).mono ?_); rintro e7 w7 ⟨rfl, hb⟩; rw [HCC.out.1 rfl]; replace I := I.next hb; clear hb)
      clear qa qb
      obtain ⟨W0, hW0⟩ : ∃ x, x = w7 := ⟨_, rfl⟩
      subst hW0
      clear qs qx
      have hS : ∀ W, Below W0.heap.size W0 W → Below W0.heap.size W0 W ∧ (W.cell? ⟨w.heap.size, 0, none⟩ = some (.int .i64 c) ∧ W.cell? ⟨w.heap.size, 1, none⟩ = some (.int .i64 t) ∧ W.cell? ⟨w.heap.size, 2, none⟩ = some (.int .i64 lo) ∧ W.cell? ⟨w.heap.size, 3, none⟩ = some (.int .i64 hi)) ∧ (W.cell? ⟨w2.heap.size, 0, none⟩ = some (.int .i64 c) ∧ W.cell? ⟨w2.heap.size, 1, none⟩ = some (.int .i64 t) ∧ W.cell? ⟨w2.heap.size, 2, none⟩ = some (.int .i64 lo) ∧ W.cell? ⟨w2.heap.size, 3, none⟩ = some (.int .i64 hi)) := fun W hW => ⟨hW, (I W hW).1.1.1.1.1.2.four, (I W hW).1.1.1.2.four⟩
      have HS := Lib.hid hS
      have hv1 : ∀ W, Below W0.heap.size W0 W → Gives 44 #[.agg #[.int .i64 c, .int .i64 t, .int .i64 lo, .int .i64 hi], .int .i64 off, .slice A n cap, .slice B m cap2] (.int .i64 v) W := fun W hW => by
        have := Verify_calls c t lo hi off A B n cap m cap2 l cl W (I W hW).1.1.1.1.1.1.1.2 (I W hW).1.1.1.1.1.1.2
        rw [HV.out] at this
        exact this
      have HV1 := Lib.hid hv1
      have hv2 : ∀ W, Below W0.heap.size W0 W → Gives 43 #[.agg #[.int .i64 c, .int .i64 t, .int .i64 lo, .int .i64 hi], .int .i64 off, .slice M n cm, .slice B m cap2] (.int .i64 v) W := fun W hW => by
        have := rVerify_calls c t lo hi off M B n cm m cap2 l cl W (I W hW).1.1.1.1.2 (I W hW).1.1.1.1.1.1.2
        rw [HV.out] at this
        exact this
      have HV2 := Lib.hid hv2
      have HI := Lib.hid (fun W hW => (I W hW).1.1.1.1.1.1.1.1)
      clear hS hv1 hv2 I
      go_region_held3 (fun W => Below W0.heap.size W0 W ∧ (W.cell? ⟨w.heap.size, 0, none⟩ = some (.int .i64 c) ∧ W.cell? ⟨w.heap.size, 1, none⟩ = some (.int .i64 t) ∧ W.cell? ⟨w.heap.size, 2, none⟩ = some (.int .i64 lo) ∧ W.cell? ⟨w.heap.size, 3, none⟩ = some (.int .i64 hi)) ∧ (W.cell? ⟨w2.heap.size, 0, none⟩ = some (.int .i64 c) ∧ W.cell? ⟨w2.heap.size, 1, none⟩ = some (.int .i64 t) ∧ W.cell? ⟨w2.heap.size, 2, none⟩ = some (.int .i64 lo) ∧ W.cell? ⟨w2.heap.size, 3, none⟩ = some (.int .i64 hi)))
        (first
          | exact HS.out _ (below_drewN' (Below.refl _ _) 1)
          | (rename_i hh _ _; exact HS.out _ (hh.1.trans (hb.mono hh.1.size)))
          | fail)
        (first
          | (go_at_call 44; (with_reducible refine (Gives.c (HV1.out _ (And.left (by assumption)))).mono ?_); rintro e' w' ⟨rfl, hb⟩)
          | (go_at_call 43; (with_reducible refine (Gives.c (HV2.out _ (And.left (by assumption)))).mono ?_); rintro e' w' ⟨rfl, hb⟩)
          | (go_at_call 29; (with_reducible refine (Gives.c (works_calls _)).mono ?_); rintro e' w' ⟨rfl, hb⟩)
          | fail)
      go_wp2
      go_ret
      rename_i hh
      exact ⟨rfl, HI.out _ hh.1⟩
    · have hk := HCC.out.2 hg
      have hg0 : (g == 0) = false := beq_eq_false_iff_ne.2 hg
      have hg1 : (g != 0) = true := bne_iff_ne.2 hg
      have hmk := I.now.2.1
      rw [hk] at hmk
      obtain rfl : mk = 0 := hmk.symm
      clear hk hmk hg
      go_upto_region 10 with fail
      clear qa qb
      obtain ⟨W0, hW0⟩ : ∃ x, x = w6 := ⟨_, rfl⟩
      subst hW0
      clear qs qx
      have hS : ∀ W, Below W0.heap.size W0 W → Below W0.heap.size W0 W ∧ (W.cell? ⟨w.heap.size, 0, none⟩ = some (.int .i64 c) ∧ W.cell? ⟨w.heap.size, 1, none⟩ = some (.int .i64 t) ∧ W.cell? ⟨w.heap.size, 2, none⟩ = some (.int .i64 lo) ∧ W.cell? ⟨w.heap.size, 3, none⟩ = some (.int .i64 hi)) ∧ (W.cell? ⟨w2.heap.size, 0, none⟩ = some (.int .i64 c) ∧ W.cell? ⟨w2.heap.size, 1, none⟩ = some (.int .i64 t) ∧ W.cell? ⟨w2.heap.size, 2, none⟩ = some (.int .i64 lo) ∧ W.cell? ⟨w2.heap.size, 3, none⟩ = some (.int .i64 hi)) := fun W hW => ⟨hW, (I W hW).1.1.1.1.1.2.four, (I W hW).1.1.1.2.four⟩
      have HS := Lib.hid hS
      have hv1 : ∀ W, Below W0.heap.size W0 W → Gives 44 #[.agg #[.int .i64 c, .int .i64 t, .int .i64 lo, .int .i64 hi], .int .i64 off, .slice A n cap, .slice B m cap2] (.int .i64 v) W := fun W hW => by
        have := Verify_calls c t lo hi off A B n cap m cap2 l cl W (I W hW).1.1.1.1.1.1.1.2 (I W hW).1.1.1.1.1.1.2
        rw [HV.out] at this
        exact this
      have HV1 := Lib.hid hv1
      have hv2 : ∀ W, Below W0.heap.size W0 W → Gives 43 #[.agg #[.int .i64 c, .int .i64 t, .int .i64 lo, .int .i64 hi], .int .i64 off, .slice M n cm, .slice B m cap2] (.int .i64 v) W := fun W hW => by
        have := rVerify_calls c t lo hi off M B n cm m cap2 l cl W (I W hW).1.1.1.1.2 (I W hW).1.1.1.1.1.1.2
        rw [HV.out] at this
        exact this
      have HV2 := Lib.hid hv2
      have HI := Lib.hid (fun W hW => (I W hW).1.1.1.1.1.1.1.1)
      clear hS hv1 hv2 I
      go_region_held3 (fun W => Below W0.heap.size W0 W ∧ (W.cell? ⟨w.heap.size, 0, none⟩ = some (.int .i64 c) ∧ W.cell? ⟨w.heap.size, 1, none⟩ = some (.int .i64 t) ∧ W.cell? ⟨w.heap.size, 2, none⟩ = some (.int .i64 lo) ∧ W.cell? ⟨w.heap.size, 3, none⟩ = some (.int .i64 hi)) ∧ (W.cell? ⟨w2.heap.size, 0, none⟩ = some (.int .i64 c) ∧ W.cell? ⟨w2.heap.size, 1, none⟩ = some (.int .i64 t) ∧ W.cell? ⟨w2.heap.size, 2, none⟩ = some (.int .i64 lo) ∧ W.cell? ⟨w2.heap.size, 3, none⟩ = some (.int .i64 hi)))
        (first
          | exact HS.out _ (below_drewN' (Below.refl _ _) 1)
          | (rename_i hh _ _; exact HS.out _ (hh.1.trans (hb.mono hh.1.size)))
          | fail)
        (first
          | (go_at_call 44; (with_reducible refine (Gives.c (HV1.out _ (And.left (by assumption)))).mono ?_); rintro e' w' ⟨rfl, hb⟩)
          | (go_at_call 43; (with_reducible refine (Gives.c (HV2.out _ (And.left (by assumption)))).mono ?_); rintro e' w' ⟨rfl, hb⟩)
          | (go_at_call 29; (with_reducible refine (Gives.c (works_calls _)).mono ?_); rintro e' w' ⟨rfl, hb⟩)
          | fail)
      go_wp2
      go_ret
      rename_i hh
      exact ⟨rfl, HI.out _ hh.1⟩)

theorem growths_law {c t lo hi off : Int} {A B : Option Addr} {n cap m cap2 : Nat} {l : List (Int × Int)} {cl : List Int} {w : World} (hl : ReadsMAny w A n l) (hr : ReadsAny w B m cl) :
    Gives 8 #[.agg #[.int .i64 c, .int .i64 t, .int .i64 lo, .int .i64 hi], .int .i64 off, .slice A n cap, .slice B m cap2] (.bool true) w := by
  by_cases h : (12 < n ∧ n ≤ 50) ∨ 200 < n ∨ 20 < m
  · exact growths_short h w
  · exact growths_walk (hl.small (by omega)) (hr.small (by omega)) rfl rfl (by omega) (by omega)

theorem growths_own : ownKnob Try.prog.godebug = none := by kernel_rfl

set_option maxRecDepth 100000 in
theorem growths_lifted (os : Os) (started : os.Started) (H : Type) (enc : TypeId × Value → H) :
    ReturnsInHanded {} Try.checked os 8 .any (Rows.spoolGrowthsSpec.pre6 enc Try.prog Try.f8 Rows.spoolGrowthsRow.domain false) (Rows.spoolGrowthsSpec.post enc Try.prog Try.f8 false true false false) := by
  refine returnsInHanded_of_change (C := Try.checked) growths_own started (by kernel_rfl) Try.func8
    (ChangeSpec.witness6 (enc := enc) (C := Try.checked) false ⟨#[], #[.agg #[.int .i64 0, .int .i64 0, .int .i64 0, .int .i64 0], .int .i64 0, .slice none 0 0, .slice none 0 0], []⟩ 8 (by kernel_rfl) (by kernel_rfl) (by kernel_rfl) (by kernel_rfl)) ?_
  intro W base args ds gs before hval0 hW hcnd _
  have hval : ∀ (j : Nat) t v, Try.f8.params[j]? = some t → args[j]? = some v → Value.okWide Try.prog W .any base t v := hval0
  have hW' := hW
  obtain ⟨p, q, hA, hV, rfl, hfz, hnd⟩ := hW
  rw [Try.params8] at hA hval
  obtain ⟨v1, l1, d1, ds1, p1, q1, e1, rfl, rfl, h1, hA⟩ := trodAll_cons hA
  obtain ⟨v2, l2, d2, ds2, p2, q2, rfl, rfl, rfl, h2, hA⟩ := trodAll_cons hA
  obtain ⟨v3, l3, d3, ds3, p3, q3, rfl, rfl, rfl, h3, hA⟩ := trodAll_cons hA
  obtain ⟨v4, l4, d4, ds4, p4, q4, rfl, rfl, rfl, h4, hA⟩ := trodAll_cons hA
  obtain ⟨rfl, rfl, rfl⟩ := trodAll_nil hA
  obtain ⟨rfl, rfl⟩ := trodVars_none hV
  obtain rfl : args = #[v1, v2, v3, v4] := by cases args; simp_all
  obtain ⟨c, t, lo, hi, rfl⟩ := spool_arg (hval 0 28 v1 rfl rfl)
  obtain ⟨g, rfl⟩ := okWide_int Try.underlying3 (hval 1 3 v2 rfl rfl)
  obtain ⟨A, n, cap, l, rfl, hl⟩ := measures_arg (hval 2 55 v3 rfl rfl) h3
  obtain ⟨B, m, cap2, cl, rfl, hr⟩ := slice_arg (hval 3 32 v4 rfl rfl) h4
  refine (Gives.c (growths_law (c := c) (t := t) (lo := lo) (hi := hi) (off := g) (cap := cap) (cap2 := cap2) hl hr)).mono fun e W' ⟨he, hb⟩ => ?_
  subst he
  exact ⟨_, rfl, post_true hW' rfl rfl rfl (by decide) hb⟩

theorem growths_over : Rows.spoolGrowthsRow.holds Try.pinned (OpenSpec.ofChange Rows.spoolGrowthsSpec) :=
  OpenClaim.holds_of_wide 8 Try.f8 rfl rfl rfl rfl rfl rfl rfl ⟨rfl, rfl, rfl, rfl, rfl⟩ rfl rfl rfl rfl rfl (by kernel_rfl) Try.func8 (by kernel_rfl)
    (of_decide_eq_true (by kernel_rfl)) (by unfold Func.isWrapper; first | (rw [if_pos (by decide +kernel)]; kernel_rfl) | (rw [if_neg (by decide +kernel)]; exact ⟨rfl, rfl⟩))
    (fun os started H enc _ => growths_lifted os started H enc)

/-- SpoolGrowths returns true. -/
theorem spoolGrowths_holds : Rows.SpoolGrowthsSaid := growths_over
#print axioms spoolGrowths_holds
end Go.Proofs.Ytphbiaagmhhhbaa
