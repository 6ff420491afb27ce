/- StripRecords: records are valid, and tubes possible, as stated: the call returns true for every input. -/
import Derived.Test.YtpnkbjdeiedhlaaQE
namespace Go.Proofs.Ytpnkbjdeiedhlaa
open Go.ChangeShapes Go.WideShapes Go.ChangeAt Go.RowKit Go.Lib Go.Shelf
open St

set_option maxRecDepth 1000000 in
set_option maxHeartbeats 8000000 in
theorem records_walk (N L : Int) {A : Option Addr} {n c : Nat} {lr : List (Nat × Tst)} {l : List Tst} (w : World) (hr : ReadsR w A n lr) (hl : ReadsT w A n l) (hlo : longF n lr = false) (hn : n ≤ 1000) {E F : Int} {lp ls : List Int}
    (h17 : ∀ X c, ReadsT X A n l → Calls Try.prog 17 #[rec N L A n c] X fun e w' => ∃ A' m c', e = .returned (.tuple #[.slice A' m c', .int .i64 E]) ∧ Reads w' A' m lp ∧ Below X.heap.size X w')
    (h18 : ∀ X A c, ReadsT X A n l → Calls Try.prog 18 #[rec N L A n c] X fun e w' => ∃ A' m c', e = .returned (.tuple #[.slice A' m c', .int .i64 E]) ∧ Reads w' A' m lp ∧ Below X.heap.size X w')
    (h19 : ∀ X c, ReadsT X A n l → Calls Try.prog 19 #[rec N L A n c] X fun e w' => ∃ A' m c', e = .returned (.tuple #[.slice A' m c', .int .i64 F]) ∧ Reads w' A' m ls ∧ Below X.heap.size X w')
    (h20 : ∀ X A c, ReadsT X A n l → Calls Try.prog 20 #[rec N L A n c] X fun e w' => ∃ A' m c', e = .returned (.tuple #[.slice A' m c', .int .i64 F]) ∧ Reads w' A' m ls ∧ Below X.heap.size X w') :
    Gives 3 #[rec N L A n c] (.bool true) w := by
  unfold Gives
  have I := (((Held.from (w0 := w) (Below.refl w.heap.size w) (Nat.le_refl _)).with (.readsR hr)).with (.readsT hl)).allocB [Value.int .i64 N, .int .i64 L, .slice A n c] 24
  have h14 : ∀ X, ReadsR X A n lr → Gives 14 #[rec N L A n c] (.bool false) X := fun X hX => by rw [← hlo]; exact long_calls N L X hX
  have h16 : ∀ X, ReadsT X A n l → Calls Try.prog 16 #[rec N L A n c] X _ := fun X hX => given_calls N L X hX hn
  have h22 : ∀ X, ReadsT X A n l → Gives 22 #[rec N L A n c] (.int .i64 (rchk N L l)) X := fun X hX => check_calls N L A n c l X hX
  have h23 : ∀ X A c, ReadsT X A n l → Gives 23 #[rec N L A n c] (.int .i64 (rchk N L l)) X := fun X A c hX => rcheck_calls N L A n c l X hX
  have h21 : ∀ X A m c B k d (z : List Int), Reads X A m z → Reads X B k z → Gives 21 #[.slice A m c, .slice B k d] (.bool true) X := fun X A m c B k d z h1 h2 => by
    have := numbers_calls A B m k c d z z X h1 h2
    rwa [decide_eq_true rfl] at this
  generalize rchk N L l = R at h22 h23
  have H14 := Lib.hid h14
  have H16 := Lib.hid h16
  have H17 := Lib.hid h17
  have H18 := Lib.hid h18
  have H19 := Lib.hid h19
  have H20 := Lib.hid h20
  have H21 := Lib.hid h21
  have H22 := Lib.hid h22
  have H23 := Lib.hid h23
  clear hr hl hlo h14 h16 h17 h18 h19 h20 h21 h22 h23
  go_enter Try.func3, Try.ntmps3
  go_upto_region 1 with fail
  change Held (w.alloc (.cells #[.int .i64 N, .int .i64 L, .slice A n c] 24)) _ at I
  generalize World.alloc _ _ = w1 at I ⊢
  have q1 := I.now.2.three
  go_upto_region 3 with (go_at_call 14; (with_reducible refine (Gives.c (H14.out _ I.now.1.1.2)).mono ?_); rintro e w2 ⟨rfl, hb⟩; replace I := I.next hb; clear hb q1)
  have q1 := I.now.2.three
  go_upto_region 4 with (go_at_call 16; (with_reducible refine (H16.out _ I.now.1.2).mono ?_); rintro e w3 ⟨xA, xc, rfl, ⟨hx, _⟩, hb⟩; have J := ((I.next hb).with (.readsT hx)).allocB [.int .i64 N, .int .i64 L, .slice xA n xc] 29; clear hb q1 hx I)
  change Held (w3.alloc (.cells #[.int .i64 N, .int .i64 L, .slice xA n xc] 29)) _ at J
  generalize World.alloc _ _ = w4 at J ⊢
  have q1 := J.now.1.1.2.three
  have q2 := J.now.2.three
  go_upto_region 5 with (go_at_call 17; (with_reducible refine (H17.out _ _ J.now.1.1.1.2).mono ?_); rintro e w5 ⟨pA, pm, pc, rfl, hp, hb⟩; replace J := (J.next hb).with (.reads hp); clear hb q1 q2 hp)
  have q2 := J.now.1.2.three
  go_upto_region 6 with (go_at_call 18; (with_reducible refine (H18.out _ _ _ J.now.1.1.2).mono ?_); rintro e w6 ⟨qA, qm, qc, rfl, hp, hb⟩; replace J := (J.next hb).with (.reads hp); clear hb q2 hp)
  have q1 := J.now.1.1.1.1.2.three
  go_upto_region 7 with (go_at_call 19; (with_reducible refine (H19.out _ _ J.now.1.1.1.1.1.2).mono ?_); rintro e w7 ⟨sA, sm, sc, rfl, hp, hb⟩; replace J := (J.next hb).with (.reads hp); clear hb q1 hp)
  have q2 := J.now.1.1.1.2.three
  go_upto_region 8 with (go_at_call 20; (with_reducible refine (H20.out _ _ _ J.now.1.1.1.1.2).mono ?_); rintro e w8 ⟨tA, tm, tc, rfl, hp, hb⟩; replace J := (J.next hb).with (.reads hp); clear hb q2 hp)
  have HJ := Lib.hid J
  have gR : (R == R) = true := by simp
  have gE : (E == E) = true := by simp
  have gF : (F == F) = true := by simp
  have hS : ∀ X, Below w8.heap.size w8 X → Below w8.heap.size w8 X ∧ (X.cell? ⟨w.heap.size, 0, none⟩ = some (.int .i64 N) ∧ X.cell? ⟨w.heap.size, 1, none⟩ = some (.int .i64 L) ∧ X.cell? ⟨w.heap.size, 2, none⟩ = some (.slice A n c)) ∧ (X.cell? ⟨w3.heap.size, 0, none⟩ = some (.int .i64 N) ∧ X.cell? ⟨w3.heap.size, 1, none⟩ = some (.int .i64 L) ∧ X.cell? ⟨w3.heap.size, 2, none⟩ = some (.slice xA n xc)) := fun X hX => ⟨hX, (HJ.out.at hX).1.1.1.1.1.1.2.three, (HJ.out.at hX).1.1.1.1.2.three⟩
  have HS := Lib.hid hS
  have HB := Lib.hid (Below.refl w8.heap.size w8).drew
  clear J hS
  go_region_held3 (fun X => Below w8.heap.size w8 X ∧ (X.cell? ⟨w.heap.size, 0, none⟩ = some (.int .i64 N) ∧ X.cell? ⟨w.heap.size, 1, none⟩ = some (.int .i64 L) ∧ X.cell? ⟨w.heap.size, 2, none⟩ = some (.slice A n c)) ∧ (X.cell? ⟨w3.heap.size, 0, none⟩ = some (.int .i64 N) ∧ X.cell? ⟨w3.heap.size, 1, none⟩ = some (.int .i64 L) ∧ X.cell? ⟨w3.heap.size, 2, none⟩ = some (.slice xA n xc)))
    (first
      | with_reducible exact HS.out _ HB.out
      | fail)
    (first
      | (go_at_call 21; (with_reducible refine (Gives.c (H21.out _ _ _ _ _ _ _ _ (HJ.out.at HB.out).1.1.1.2 (HJ.out.at HB.out).1.1.2)).mono ?_); rintro e' wy ⟨rfl, hb⟩; have HB := Lib.hid (HB.out.trans (hb.mono HB.out.size)); clear hb)
      | (go_at_call 21; (with_reducible refine (Gives.c (H21.out _ _ _ _ _ _ _ _ (HJ.out.at HB.out).1.2 (HJ.out.at HB.out).2)).mono ?_); rintro e' wy ⟨rfl, hb⟩; have HB := Lib.hid (HB.out.trans (hb.mono HB.out.size)); clear hb)
      | (go_at_call 22; (with_reducible refine (Gives.c (H22.out _ (HJ.out.at HB.out).1.1.1.1.1.1.1.2)).mono ?_); rintro e' wy ⟨rfl, hb⟩; have HB := Lib.hid (HB.out.trans (hb.mono HB.out.size)); clear hb)
      | (go_at_call 23; (with_reducible refine (Gives.c (H23.out _ _ _ (HJ.out.at HB.out).1.1.1.1.1.2)).mono ?_); rintro e' wy ⟨rfl, hb⟩; have HB := Lib.hid (HB.out.trans (hb.mono HB.out.size)); clear hb)
      | (go_at_call 15; (with_reducible refine (Gives.c (works_calls _)).mono ?_); rintro e' wy ⟨rfl, hb⟩; have HB := Lib.hid (HB.out.trans (hb.mono HB.out.size)); clear hb)
      | fail)
  all_goals
    go_wp2_with fail
    go_ret
    exact ⟨rfl, (HJ.out.at HB.out).1.1.1.1.1.1.1.1.1⟩
set_option maxRecDepth 100000 in
theorem records_long (N L : Int) {A : Option Addr} {n c : Nat} {lr : List (Nat × Tst)} (w : World) (hr : ReadsR w A n lr) (hlo : longF n lr = true) : Gives 3 #[rec N L A n c] (.bool true) w := by
  unfold Gives
  have I := ((Held.from (w0 := w) (Below.refl w.heap.size w) (Nat.le_refl _)).with (.readsR hr)).allocB [Value.int .i64 N, .int .i64 L, .slice A n c] 24
  have h14 : ∀ X, ReadsR X A n lr → Gives 14 #[rec N L A n c] (.bool true) X := fun X hX => by rw [← hlo]; exact long_calls N L X hX
  have H14 := Lib.hid h14
  clear hr hlo h14
  go_enter Try.func3, Try.ntmps3
  go_upto_region 1 with fail
  change Held (w.alloc (.cells #[.int .i64 N, .int .i64 L, .slice A n c] 24)) _ at I
  generalize World.alloc _ _ = w1 at I ⊢
  have q1 := I.now.2.three
  go_wp2_with (first
    | (go_at_call 14; (with_reducible refine (Gives.c (H14.out _ I.now.1.2)).mono ?_); rintro e w2 ⟨rfl, hb⟩; replace I := I.next hb; clear hb q1)
    | (go_at_call 15; (with_reducible refine (Gives.c (works_calls _)).mono ?_); rintro e w3 ⟨rfl, hb⟩; replace I := I.next hb; clear hb))
  go_ret
  exact ⟨rfl, I.now.1.1⟩
theorem reads_nil (w : World) : Reads w none 0 [] := ⟨rfl, by omega, fun h => absurd h (by omega)⟩
theorem rchk_range {N L : Int} {l : List Tst} (h : rchk N L l = 0) : (1 ≤ N ∧ N ≤ 16) ∧ (0 ≤ L ∧ L ≤ 2) := by
  unfold rchk at h
  by_cases hc : (1 ≤ N ∧ N ≤ 16) ∧ (0 ≤ L ∧ L ≤ 2)
  · exact hc
  · rw [if_pos hc] at h
    exact absurd h (by decide)
theorem records_law (N L : Int) {A : Option Addr} {n c : Nat} {lr : List (Nat × Tst)} (w : World) (hr : ReadsR w A n lr) : Gives 3 #[rec N L A n c] (.bool true) w := by
  cases hlo : longF n lr with
  | true => exact records_long N L w hr hlo
  | false =>
    obtain ⟨hn, hl⟩ := longF_no hr hlo
    generalize lr.map (·.2) = l at hl
    by_cases hc : rchk N L l = 0
    · obtain ⟨h1, h2⟩ := rchk_range hc
      obtain ⟨N', rfl⟩ := Int.eq_ofNat_of_zero_le (show 0 ≤ N by omega)
      obtain ⟨L', rfl⟩ := Int.eq_ofNat_of_zero_le h2.1
      have hN : N' ≤ 16 := by omega
      have hL : L' ≤ 2 := by omega
      refine records_walk (c := c) N' L' w hr hl hlo (by omega) (E := 0) (F := 0) (lp := posK L' l N') (ls := stL L' (stK L' l N')) (fun X c hX => Possible_good hN hL A n c l X hX hc (by omega)) (fun X A c hX => rPossible_good hN hL A n c l X hX hc (by omega)) (fun X c hX => ?_) (fun X A c hX => ?_)
      · exact (State_good hN hL A n c l X hX hc (by omega)).mono fun e w' ⟨A', c', g1, g2, g3⟩ => ⟨A', _, c', g1, g2, g3⟩
      · exact (rState_good hN hL A n c l X hX hc (by omega)).mono fun e w' ⟨A', c', g1, g2, g3⟩ => ⟨A', _, c', g1, g2, g3⟩
    · exact records_walk (c := c) N L w hr hl hlo (by omega) (E := rchk N L l) (F := rchk N L l) (lp := []) (ls := [])
        (fun X c hX => (Gives.c (Possible_bad N L A n c l X hX hc)).mono fun e w' ⟨g1, g3⟩ => ⟨none, 0, 0, g1, reads_nil _, g3⟩)
        (fun X A c hX => (Gives.c (rPossible_bad N L A n c l X hX hc)).mono fun e w' ⟨g1, g3⟩ => ⟨none, 0, 0, g1, reads_nil _, g3⟩)
        (fun X c hX => (Gives.c (State_bad N L A n c l X hX hc)).mono fun e w' ⟨g1, g3⟩ => ⟨none, 0, 0, g1, reads_nil _, g3⟩)
        (fun X A c hX => (Gives.c (rState_bad N L A n c l X hX hc)).mono fun e w' ⟨g1, g3⟩ => ⟨none, 0, 0, g1, reads_nil _, g3⟩)

theorem stripRecords_own : ownKnob Try.prog.godebug = none := by kernel_rfl

set_option maxRecDepth 100000 in
theorem stripRecords_lifted (os : Os) (started : os.Started) (H : Type) (enc : TypeId × Value → H) :
    ReturnsInHanded {} Try.checked os 3 .any (Rows.stripRecordsSpec.pre6 enc Try.prog Try.f3 Rows.stripRecordsRow.domain false) (Rows.stripRecordsSpec.post enc Try.prog Try.f3 false true false false) := by
  refine returnsInHanded_of_change (C := Try.checked) stripRecords_own started (by kernel_rfl) Try.func3
    (ChangeSpec.witness6 (enc := enc) (C := Try.checked) false ⟨#[], #[.agg #[.int .i64 0, .int .i64 0, .slice none 0 0]], []⟩ 8 (by kernel_rfl) (by kernel_rfl) (by kernel_rfl) (by kernel_rfl)) ?_
  intro W base args ds gs before hval0 hW hcnd _
  have hval : ∀ (j : Nat) t v, Try.f3.params[j]? = some t → args[j]? = some v → Value.okWide Try.prog W .any base t v := hval0
  have hW' := hW
  obtain ⟨p, q, hA, hV, rfl, hfz, hnd⟩ := hW
  rw [Try.params3] at hA hval
  obtain ⟨v1, l1_, d1, ds1, p1, q1, e1, rfl, rfl, h1, hA⟩ := trodAll_cons hA
  obtain ⟨rfl, rfl, rfl⟩ := trodAll_nil hA
  obtain ⟨rfl, rfl⟩ := trodVars_none hV
  obtain rfl : args = #[v1] := by cases args; simp_all
  obtain ⟨N0, L0, A0, n0, c0, l0, rfl, hl0, hc0⟩ := record_arg (hval 0 24 v1 rfl rfl) h1
  refine (Gives.c (records_law N0 L0 W hl0)).mono fun e W' ⟨he, hb⟩ => ?_
  subst he
  exact ⟨_, rfl, post_true hW' rfl rfl rfl (by decide) hb⟩

theorem stripRecords_over : Rows.stripRecordsRow.holds Try.pinned (OpenSpec.ofChange Rows.stripRecordsSpec) :=
  OpenClaim.holds_of_wide 3 Try.f3 rfl rfl rfl rfl rfl rfl rfl ⟨rfl, rfl, rfl, rfl, rfl⟩ rfl rfl rfl rfl rfl (by kernel_rfl) Try.func3 (by kernel_rfl)
    (of_decide_eq_true (by kernel_rfl)) (by unfold Func.isWrapper; first | (rw [if_pos (by decide +kernel)]; kernel_rfl) | (rw [if_neg (by decide +kernel)]; exact ⟨rfl, rfl⟩))
    (fun os started H enc _ => stripRecords_lifted os started H enc)

/-- StripRecords returns true. -/
theorem stripRecords_holds : Rows.StripRecordsSaid := stripRecords_over
#print axioms stripRecords_holds
end Go.Proofs.Ytpnkbjdeiedhlaa
