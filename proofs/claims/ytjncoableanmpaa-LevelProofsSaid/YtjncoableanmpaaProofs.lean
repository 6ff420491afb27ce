/- LevelProofs: gains and proofs as stated: the call returns true at every coding, list of codes and bound. -/
import Derived.Test.YtjncoableanmpaaQG
import Derived.Test.YtjncoableanmpaaQH
import Derived.Test.YtjncoableanmpaaQD
namespace Go.Proofs.Ytjncoableanmpaa
open Go.ChangeShapes Go.WideShapes Go.ChangeAt Go.RowKit Go.Lib Go.Shelf

theorem gainsV_form (l : List Cd) (bn bd : Int) : ∃ a b c d e, gainsV l bn bd = .tuple #[.agg #[.int .i64 a, .int .i64 b], .agg #[.int .i64 c, .int .i64 d], .int .i64 e] := by
  unfold gainsV rv
  dsimp only
  split
  · exact ⟨_, _, _, _, _, rfl⟩
  · split
    · exact ⟨_, _, _, _, _, rfl⟩
    · split
      · exact ⟨_, _, _, _, _, rfl⟩
      · split <;> exact ⟨_, _, _, _, _, rfl⟩

set_option maxRecDepth 1000000 in
set_option maxHeartbeats 8000000 in
theorem proofs_law (A : Option Addr) (n c : Nat) (l : List Cd) (A2 : Option Addr) (m c2 : Nat) (cs : List Int) (bn bd : Int) (w : World) (hn : n ≤ 9223372036854775807) (hcap : n ≤ c) (hl : n ≤ 1000000 → ReadsC w A n l) (hm : m ≤ 9223372036854775807) (hcs : m ≤ 1000000 → Reads w A2 m cs) :
    Gives 4 #[.slice A n c, .slice A2 m c2, .agg #[.int .i64 bn, .int .i64 bd]] (.bool true) w := by
  unfold Gives
  by_cases h40 : 40 < n
  · have h40' : (40 : Int) < (n : Int) := by omega
    clear hl hcs hcap
    go_enter Try.func4, Try.ntmps4
    go_wp2_with (go_at_call 11; (with_reducible refine (Gives.c (works_calls _)).mono ?_); rintro e w1 ⟨rfl, hb⟩)
    go_ret
    exact ⟨rfl, ((Below.refl _ _).alloc (Nat.le_refl _) _).trans (hb.mono (by simp))⟩
  · have h40' : ¬ (40 : Int) < (n : Int) := by omega
    by_cases m40 : 40 < m
    · have m40' : (40 : Int) < (m : Int) := by omega
      clear hl hcs hcap
      go_enter Try.func4, Try.ntmps4
      go_wp2_with (go_at_call 11; (with_reducible refine (Gives.c (works_calls _)).mono ?_); rintro e w1 ⟨rfl, hb⟩)
      go_ret
      exact ⟨rfl, ((Below.refl _ _).alloc (Nat.le_refl _) _).trans (hb.mono (by simp))⟩
    · have m40' : ¬ (40 : Int) < (m : Int) := by omega
      have hl := hl (by omega)
      have hcs := hcs (by omega)
      have hn : n ≤ 1000 := by omega
      obtain ⟨a1, a2, b1, b2, e0, hF⟩ := gainsV_form l bn bd
      have hE : ∀ A c W, ReadsC W A n l → n ≤ c → Gives 17 #[.slice A n c, .agg #[.int .i64 bn, .int .i64 bd]] (.tuple #[.agg #[.int .i64 a1, .int .i64 a2], .agg #[.int .i64 b1, .int .i64 b2], .int .i64 e0]) W := fun A c W h hc => by rw [← hF]; exact Gains_calls A n c l bn bd W h hc
      have hR : ∀ A c W, ReadsC W A n l → n ≤ c → Gives 18 #[.slice A n c, .agg #[.int .i64 bn, .int .i64 bd]] (.tuple #[.agg #[.int .i64 a1, .int .i64 a2], .agg #[.int .i64 b1, .int .i64 b2], .int .i64 e0]) W := fun A c W h hc => by rw [← hF]; exact rGains_calls A n c l bn bd W h hc
      have HE := Lib.hid hE
      have HR := Lib.hid hR
      generalize hck : verV l cs bn bd = ck
      have hC : ∀ W, ReadsC W A n l → Reads W A2 m cs → Gives 19 #[.slice A n c, .slice A2 m c2, .agg #[.int .i64 bn, .int .i64 bd]] (.int .i64 ck) W := fun W h h2 => by rw [← hck]; exact verify_calls A n c l A2 m c2 cs bn bd W h h2
      have hD : ∀ B c' W, ReadsC W B n l → n ≤ c' → Reads W A2 m cs → Gives 20 #[.slice B n c', .slice A2 m c2, .agg #[.int .i64 bn, .int .i64 bd]] (.int .i64 ck) W := fun B c' W h hc h2 => by rw [← hck]; exact rverify_calls B n c' l A2 m c2 cs bn bd W h h2 hc
      have HC := Lib.hid hC
      have HD := Lib.hid hD
      have I0 : Held w (fun W => (Below w.heap.size w W ∧ ReadsC W A n l) ∧ Reads W A2 m cs) := ((Held.from (Below.refl _ _) (Nat.le_refl _)).with (.readsC hl)).with (.reads hcs)
      have I := I0.allocB [.int .i64 bn, .int .i64 bd] 24
      have q0 := I.now.2.two
      have hgt := guard24
      have hst := stood24
      have HCAP := Lib.hid hcap
      clear hl hcs hE hR hF hC hD hck I0 hcap
      go_enter Try.func4, Try.ntmps4
      go_wp2_with fail
      change Held (w.alloc (.cells #[.int .i64 bn, .int .i64 bd] 24)) _ at I
      generalize World.alloc _ _ = w1 at I q0 ⊢
      go_upto_region 6 with (first
        | (go_at_call 12; (with_reducible refine (codes_calls _ _ _ _ _ I.now.1.1.2 hn).mono ?_); rintro e w2 ⟨B, c', rfl, ⟨hr, hc'⟩, hb⟩; replace I := (I.next hb).with (.readsC hr); clear hb hr q0; have q0 := I.now.1.2.two)
        | (go_at_call 17; (with_reducible refine (Gives.c (HE.out _ _ _ I.now.1.1.1.2 HCAP.out)).mono ?_); rintro e w3 ⟨rfl, hb⟩; replace I := (I.next hb).allocB2 [.int .i64 a1, .int .i64 a2] 24 [.int .i64 b1, .int .i64 b2] 24; clear hb q0; have q0 := I.now.1.1.1.2.two)
        | (go_at_call 18; (with_reducible refine (Gives.c (HR.out _ _ (World.alloc (World.alloc _ _) _) I.now.1.1.2 hc')).mono ?_); rintro e w4 ⟨rfl, hb⟩; replace I := (I.next hb).allocB2 [.int .i64 a1, .int .i64 a2] 24 [.int .i64 b1, .int .i64 b2] 24; clear hb q0))
      generalize World.alloc _ _ = wz at I ⊢
      have hS1 : ∀ X, Below wz.heap.size wz X → Below wz.heap.size wz X ∧ (X.cell? ⟨w.heap.size, 0, none⟩ = some (.int .i64 bn) ∧ X.cell? ⟨w.heap.size, 1, none⟩ = some (.int .i64 bd)) ∧ (X.cell? ⟨w3.heap.size, 0, none⟩ = some (.int .i64 a1) ∧ X.cell? ⟨w3.heap.size, 1, none⟩ = some (.int .i64 a2)) ∧ (X.cell? ⟨w3.heap.size + 1, 0, none⟩ = some (.int .i64 b1) ∧ X.cell? ⟨w3.heap.size + 1, 1, none⟩ = some (.int .i64 b2)) ∧ (X.cell? ⟨w4.heap.size, 0, none⟩ = some (.int .i64 a1) ∧ X.cell? ⟨w4.heap.size, 1, none⟩ = some (.int .i64 a2)) ∧ (X.cell? ⟨w4.heap.size + 1, 0, none⟩ = some (.int .i64 b1) ∧ X.cell? ⟨w4.heap.size + 1, 1, none⟩ = some (.int .i64 b2)) := fun X hX => by
        have J := I X hX
        exact ⟨hX, J.1.1.1.1.1.2.two, J.1.1.1.2.two, J.1.1.2.two, J.1.2.two, J.2.two⟩
      have h0 : ∀ X, Below wz.heap.size wz X → Below w.heap.size w X := fun X hX => (I X hX).1.1.1.1.1.1.1.1
      have h19 : ∀ X, Below wz.heap.size wz X → Gives 19 #[.slice A n c, .slice A2 m c2, .agg #[.int .i64 bn, .int .i64 bd]] (.int .i64 ck) X := fun X hX => HC.out X (I X hX).1.1.1.1.1.1.1.2 (I X hX).1.1.1.1.1.1.2
      have h20 : ∀ X, Below wz.heap.size wz X → Gives 20 #[.slice B n c', .slice A2 m c2, .agg #[.int .i64 bn, .int .i64 bd]] (.int .i64 ck) X := fun X hX => HD.out B c' X (I X hX).1.1.1.1.2 hc' (I X hX).1.1.1.1.1.1.2
      have HS1 := Lib.hid hS1
      have H0 := Lib.hid h0
      have H19 := Lib.hid h19
      have H20 := Lib.hid h20
      clear I hS1 h0 h19 h20 HC HD HE HR
      go_region_held3 (fun X => Below wz.heap.size wz X ∧ (X.cell? ⟨w.heap.size, 0, none⟩ = some (.int .i64 bn) ∧ X.cell? ⟨w.heap.size, 1, none⟩ = some (.int .i64 bd)) ∧ (X.cell? ⟨w3.heap.size, 0, none⟩ = some (.int .i64 a1) ∧ X.cell? ⟨w3.heap.size, 1, none⟩ = some (.int .i64 a2)) ∧ (X.cell? ⟨w3.heap.size + 1, 0, none⟩ = some (.int .i64 b1) ∧ X.cell? ⟨w3.heap.size + 1, 1, none⟩ = some (.int .i64 b2)) ∧ (X.cell? ⟨w4.heap.size, 0, none⟩ = some (.int .i64 a1) ∧ X.cell? ⟨w4.heap.size, 1, none⟩ = some (.int .i64 a2)) ∧ (X.cell? ⟨w4.heap.size + 1, 0, none⟩ = some (.int .i64 b1) ∧ X.cell? ⟨w4.heap.size + 1, 1, none⟩ = some (.int .i64 b2)))
        (first
          | with_reducible exact HS1.out _ (Below.refl _ _).drew
          | with_reducible exact HS1.out _ HB.out
          | fail)
        (first
          | (go_at_call 19; (first | (with_reducible refine (Gives.c (H19.out _ HB.out)).mono ?_) | (with_reducible refine (Gives.c (H19.out _ (Below.refl _ _).drew)).mono ?_)); rintro e' wy ⟨rfl, hb⟩; first | have HB := Lib.hid (HB.out.trans (hb.mono HB.out.size)) | have HB := Lib.hid ((Below.refl wz.heap.size wz).drew.trans hb))
          | (go_at_call 20; (first | (with_reducible refine (Gives.c (H20.out _ HB.out)).mono ?_) | (with_reducible refine (Gives.c (H20.out _ (Below.refl _ _).drew)).mono ?_)); rintro e' wy ⟨rfl, hb⟩; first | have HB := Lib.hid (HB.out.trans (hb.mono HB.out.size)) | have HB := Lib.hid ((Below.refl wz.heap.size wz).drew.trans hb))
          | (go_at_call 11; (with_reducible refine (Gives.c (works_calls _)).mono ?_); rintro e' wy ⟨rfl, hb⟩; have HB := Lib.hid (HB.out.trans (hb.mono HB.out.size)))
          | fail)
      all_goals
        go_wp2_with fail
        go_ret
        exact ⟨rfl, H0.out _ HB.out⟩

theorem proofs_own : ownKnob Try.prog.godebug = none := by kernel_rfl

set_option maxRecDepth 100000 in
theorem proofs_lifted (os : Os) (started : os.Started) (H : Type) (enc : TypeId × Value → H) :
    ReturnsInHanded {} Try.checked os 4 .any (Rows.levelProofsSpec.pre6 enc Try.prog Try.f4 Rows.levelProofsRow.domain false) (Rows.levelProofsSpec.post enc Try.prog Try.f4 false true false false) := by
  refine returnsInHanded_of_change (C := Try.checked) proofs_own started (by kernel_rfl) Try.func4
    (ChangeSpec.witness6 (enc := enc) (C := Try.checked) false ⟨#[], #[.slice none 0 0, .slice none 0 0, .agg #[.int .i64 0, .int .i64 0]], []⟩ 8 (by kernel_rfl) (by kernel_rfl) (by kernel_rfl) (by kernel_rfl)) ?_
  intro W base args ds gs before hval0 hW hcnd _
  have hval : ∀ (j : Nat) t v, Try.f4.params[j]? = some t → args[j]? = some v → Value.okWide Try.prog W .any base t v := hval0
  have hW' := hW
  obtain ⟨p, q, hA, hV, rfl, hfz, hnd⟩ := hW
  rw [Try.params4] at hA hval
  obtain ⟨v1, l1, d1, ds1, p1, q1, e1, rfl, rfl, h1, hA⟩ := trodAll_cons hA
  obtain ⟨v2, l2, d2, ds2, p2, q2, rfl, rfl, rfl, h2, hA⟩ := trodAll_cons hA
  obtain ⟨v3, l3, d3, ds3, p3, q3, rfl, rfl, rfl, h3, hA⟩ := trodAll_cons hA
  obtain ⟨rfl, rfl, rfl⟩ := trodAll_nil hA
  obtain ⟨rfl, rfl⟩ := trodVars_none hV
  obtain rfl : args = #[v1, v2, v3] := by cases args; simp_all
  obtain ⟨A, n, c, l, rfl, hn, hc, hl⟩ := codes_arg (hval 0 22 v1 rfl rfl) h1
  obtain ⟨A2, m, c2, cs, rfl, hm, _, hcs⟩ := ints_arg (hval 1 38 v2 rfl rfl) h2
  obtain ⟨bn, bd, rfl⟩ := ratio_arg (hval 2 24 v3 rfl rfl)
  refine (Gives.c (proofs_law A n c l A2 m c2 cs bn bd W hn hc hl hm hcs)).mono fun e W' ⟨he, hb⟩ => ?_
  subst he
  exact ⟨_, rfl, post_true hW' rfl rfl rfl (by decide) hb⟩

theorem proofs_over : Rows.levelProofsRow.holds Try.pinned (OpenSpec.ofChange Rows.levelProofsSpec) :=
  OpenClaim.holds_of_wide 4 Try.f4 rfl rfl rfl rfl rfl rfl rfl ⟨rfl, rfl, rfl, rfl, rfl⟩ rfl rfl rfl rfl rfl (by kernel_rfl) Try.func4 (by kernel_rfl)
    (of_decide_eq_true (by kernel_rfl)) (by unfold Func.isWrapper; first | (rw [if_pos (by decide +kernel)]; kernel_rfl) | (rw [if_neg (by decide +kernel)]; exact ⟨rfl, rfl⟩))
    (fun os started H enc _ => proofs_lifted os started H enc)

/-- LevelProofs returns true. -/
theorem levelProofs_holds : Rows.LevelProofsSaid := proofs_over
#print axioms levelProofs_holds
end Go.Proofs.Ytjncoableanmpaa
