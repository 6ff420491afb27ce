/- LevelErrors: the error of a line, and of codes that are not valid, as stated: the call returns true at every coding and line. -/
import Derived.Test.YtjncoableanmpaaQC
import Derived.Test.YtjncoableanmpaaQD
namespace Go.Proofs.Ytjncoableanmpaa
open Go.ChangeShapes Go.WideShapes Go.ChangeAt Go.RowKit Go.Lib Go.Shelf

theorem errF_form (l : List Cd) (gn gd on od : Int) : ∃ a b e, errF l gn gd on od = .tuple #[.agg #[.int .i64 a, .int .i64 b], .int .i64 e] := by
  unfold errF rv
  split
  · exact ⟨_, _, _, rfl⟩
  · split <;> exact ⟨_, _, _, rfl⟩

set_option maxRecDepth 1000000 in
set_option maxHeartbeats 8000000 in
theorem errors_law (A : Option Addr) (n c : Nat) (l : List Cd) (gn gd on od : Int) (w : World) (hn : n ≤ 9223372036854775807) (hl : n ≤ 1000000 → ReadsC w A n l) :
    Gives 3 #[.slice A n c, .agg #[.int .i64 gn, .int .i64 gd, .int .i64 on, .int .i64 od]] (.bool true) w := by
  unfold Gives
  by_cases h40 : 40 < n
  · have h40' : (40 : Int) < (n : Int) := by omega
    clear hl
    go_enter Try.func3, Try.ntmps3
    go_wp2_with (go_at_call 11; (with_reducible refine (Gives.c (works_calls _)).mono ?_); rintro e w1 ⟨rfl, hb⟩)
    go_ret
    exact ⟨rfl, ((Below.refl _ _).alloc (Nat.le_refl _) _).trans (hb.mono (by simp))⟩
  · have h40' : ¬ (40 : Int) < (n : Int) := by omega
    have hl := hl (by omega)
    have hn : n ≤ 1000 := by omega
    obtain ⟨a, b, e0, hF⟩ := errF_form l gn gd on od
    have hE : ∀ A c W, ReadsC W A n l → Gives 13 #[.slice A n c, .agg #[.int .i64 gn, .int .i64 gd, .int .i64 on, .int .i64 od]] (.tuple #[.agg #[.int .i64 a, .int .i64 b], .int .i64 e0]) W := fun A c W h => by rw [← hF]; exact error_calls A n c l gn gd on od W h
    have hR : ∀ A c W, ReadsC W A n l → n ≤ c → Gives 14 #[.slice A n c, .agg #[.int .i64 gn, .int .i64 gd, .int .i64 on, .int .i64 od]] (.tuple #[.agg #[.int .i64 a, .int .i64 b], .int .i64 e0]) W := fun A c W h hc => by rw [← hF]; exact rerror_calls A n c l gn gd on od W h hc
    have HE := Lib.hid hE
    have HR := Lib.hid hR
    generalize hck : chk l = ck
    have hC : ∀ A c W, ReadsC W A n l → Gives 15 #[.slice A n c] (.int .i64 ck) W := fun A c W h => by rw [← hck]; exact check_calls A n c l W h
    have hD : ∀ A c W, ReadsC W A n l → n ≤ c → Gives 16 #[.slice A n c] (.int .i64 ck) W := fun A c W h hc => by rw [← hck]; exact rcheck_calls A n c l W h hc
    have HC := Lib.hid hC
    have HD := Lib.hid hD
    have I0 : Held w (fun W => Below w.heap.size w W ∧ ReadsC W A n l) := (Held.from (Below.refl _ _) (Nat.le_refl _)).with (.readsC hl)
    have I := I0.allocB [.int .i64 gn, .int .i64 gd, .int .i64 on, .int .i64 od] 26
    have q0 := I.now.2.four
    have hgt := guard24
    have hst := stood24
    clear hl hE hR hF hC hD hck I0
    go_enter Try.func3, Try.ntmps3
    go_wp2_with fail
    change Held (w.alloc (.cells #[.int .i64 gn, .int .i64 gd, .int .i64 on, .int .i64 od] 26)) _ at I
    generalize World.alloc _ _ = w1 at I q0 ⊢
    go_upto_region 6 with (first
      | (go_at_call 12; (with_reducible refine (codes_calls _ _ _ _ _ I.now.1.2 hn).mono ?_); rintro e w2 ⟨B, c', rfl, ⟨hr, hc'⟩, hb⟩; replace I := (I.next hb).with (.readsC hr); clear hb hr q0; have q0 := I.now.1.2.four)
      | (go_at_call 13; (with_reducible refine (Gives.c (HE.out _ _ _ I.now.1.1.2)).mono ?_); rintro e w3 ⟨rfl, hb⟩; replace I := (I.next hb).allocB [.int .i64 a, .int .i64 b] 24; clear hb q0; have q0 := I.now.1.1.2.four)
      | (go_at_call 14; (with_reducible refine (Gives.c (HR.out _ _ (World.alloc _ _) I.now.1.2 hc')).mono ?_); rintro e w4 ⟨rfl, hb⟩; replace I := (I.next hb).allocB [.int .i64 a, .int .i64 b] 24; clear hb q0; have q6 := I.now.1.2.two; have q8 := I.now.2.two))
    generalize World.alloc _ _ = wz at I q6 q8 ⊢
    go_wp2_with (first
      | (go_at_call 15; (with_reducible refine (Gives.c (HC.out _ _ _ I.now.1.1.1.1.2)).mono ?_); rintro e w5 ⟨rfl, hb⟩; replace I := I.next hb; clear hb)
      | (go_at_call 16; (with_reducible refine (Gives.c (HD.out _ _ _ I.now.1.1.2 hc')).mono ?_); rintro e w6 ⟨rfl, hb⟩; replace I := I.next hb; clear hb)
      | (go_at_call 11; (with_reducible refine (Gives.c (works_calls _)).mono ?_); rintro e w7 ⟨rfl, hb⟩; replace I := I.next hb; clear hb))
    go_ret
    exact ⟨rfl, I.now.1.1.1.1.1⟩

theorem errors_own : ownKnob Try.prog.godebug = none := by kernel_rfl

set_option maxRecDepth 100000 in
theorem errors_lifted (os : Os) (started : os.Started) (H : Type) (enc : TypeId × Value → H) :
    ReturnsInHanded {} Try.checked os 3 .any (Rows.levelErrorsSpec.pre6 enc Try.prog Try.f3 Rows.levelErrorsRow.domain false) (Rows.levelErrorsSpec.post enc Try.prog Try.f3 false true false false) := by
  refine returnsInHanded_of_change (C := Try.checked) errors_own started (by kernel_rfl) Try.func3
    (ChangeSpec.witness6 (enc := enc) (C := Try.checked) false ⟨#[], #[.slice none 0 0, .agg #[.int .i64 0, .int .i64 0, .int .i64 0, .int .i64 0]], []⟩ 8 (by kernel_rfl) (by kernel_rfl) (by kernel_rfl) (by kernel_rfl)) ?_
  intro W base args ds gs before hval0 hW hcnd _
  have hval : ∀ (j : Nat) t v, Try.f3.params[j]? = some t → args[j]? = some v → Value.okWide Try.prog W .any base t v := hval0
  have hW' := hW
  obtain ⟨p, q, hA, hV, rfl, hfz, hnd⟩ := hW
  rw [Try.params3] at hA hval
  obtain ⟨v1, l1, d1, ds1, p1, q1, e1, rfl, rfl, h1, hA⟩ := trodAll_cons hA
  obtain ⟨v2, l2, d2, ds2, p2, q2, rfl, rfl, rfl, h2, hA⟩ := trodAll_cons hA
  obtain ⟨rfl, rfl, rfl⟩ := trodAll_nil hA
  obtain ⟨rfl, rfl⟩ := trodVars_none hV
  obtain rfl : args = #[v1, v2] := by cases args; simp_all
  obtain ⟨A, n, c, l, rfl, hn, _, hl⟩ := codes_arg (hval 0 22 v1 rfl rfl) h1
  obtain ⟨gn, gd, on, od, rfl⟩ := line_arg (hval 1 26 v2 rfl rfl)
  refine (Gives.c (errors_law A n c l gn gd on od W hn hl)).mono fun e W' ⟨he, hb⟩ => ?_
  subst he
  exact ⟨_, rfl, post_true hW' rfl rfl rfl (by decide) hb⟩

theorem errors_over : Rows.levelErrorsRow.holds Try.pinned (OpenSpec.ofChange Rows.levelErrorsSpec) :=
  OpenClaim.holds_of_wide 3 Try.f3 rfl rfl rfl rfl rfl rfl rfl ⟨rfl, rfl, rfl, rfl, rfl⟩ rfl rfl rfl rfl rfl (by kernel_rfl) Try.func3 (by kernel_rfl)
    (of_decide_eq_true (by kernel_rfl)) (by unfold Func.isWrapper; first | (rw [if_pos (by decide +kernel)]; kernel_rfl) | (rw [if_neg (by decide +kernel)]; exact ⟨rfl, rfl⟩))
    (fun os started H enc _ => errors_lifted os started H enc)

/-- LevelErrors returns true. -/
theorem levelErrors_holds : Rows.LevelErrorsSaid := errors_over
#print axioms levelErrors_holds
end Go.Proofs.Ytjncoableanmpaa
