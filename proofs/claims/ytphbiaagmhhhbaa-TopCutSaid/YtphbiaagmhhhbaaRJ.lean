/- The contracts of measures and of the reference's measured. -/
import Derived.Test.YtphbiaagmhhhbaaMC
namespace Go.Proofs.Ytphbiaagmhhhbaa
open Go.RowKit Go.Lib Go.Shelf

/-- The cells of measurements. -/
def cellsM (l : List (Int × Int)) : List Value := l.flatMap fun m => [Value.int .i64 m.1, Value.int .i64 m.2]
theorem cellsM_length (l : List (Int × Int)) : (cellsM l).length = l.length * 2 := by
  induction l with
  | nil => rfl
  | cons x r ih => simp only [cellsM, List.flatMap_cons, List.length_append, List.length_cons] at ih ⊢; simp at ih ⊢; omega
theorem cellsM_append (l k : List (Int × Int)) : cellsM (l ++ k) = cellsM l ++ cellsM k := by simp [cellsM]
theorem cellsM_at (l : List (Int × Int)) (j : Nat) (hj : j < l.length) : (cellsM l)[j * 2]? = some (.int .i64 (mAt l j).1) ∧ (cellsM l)[j * 2 + 1]? = some (.int .i64 (mAt l j).2) := by
  induction l generalizing j with
  | nil => simp at hj
  | cons x r ih =>
    cases j with
    | zero => exact ⟨rfl, rfl⟩
    | succ j =>
      have := ih j (by simpa using hj)
      have e : cellsM (x :: r) = Value.int .i64 x.1 :: Value.int .i64 x.2 :: cellsM r := rfl
      rw [e]
      constructor
      · rw [show (j + 1) * 2 = j * 2 + 1 + 1 by omega, List.getElem?_cons_succ, List.getElem?_cons_succ, this.1]; rfl
      · rw [show (j + 1) * 2 + 1 = j * 2 + 1 + 1 + 1 by omega, List.getElem?_cons_succ, List.getElem?_cons_succ, this.2]; rfl
theorem cellsM_snoc (l : List (Int × Int)) (k : Nat) (h : k < l.length) : cellsM (l.take (k + 1)) = cellsM (l.take k) ++ [Value.int .i64 (mAt l k).1, Value.int .i64 (mAt l k).2] := by
  rw [List.take_succ_eq_append_getElem h, cellsM_append]
  unfold mAt
  rw [List.getElem?_eq_getElem h]
  rfl

theorem own_readsM {w : World} {base n : Nat} {e : TypeId} {v : Value} {xs : List (Int × Int)} (h : w.ownsRow base e 2 v n (cellsM xs)) (hl : xs.length = n) (hn : n ≤ 8796093022208) :
    ∃ A c, v = .slice A n c ∧ ReadsM w A n xs ∧ ∀ p, A = some p → base ≤ p.block := by
  rcases Nat.eq_zero_or_pos n with h0 | h0
  · subst h0
    rcases h.2 with ⟨rfl, _⟩ | ⟨g, cap, cur, rfl, hb, _⟩
    · exact ⟨none, 0, rfl, ⟨hl, by omega, fun hp => absurd hp (by omega)⟩, fun p hp => by cases hp⟩
    · exact ⟨_, cap, rfl, ⟨hl, by omega, fun hp => absurd hp (by omega)⟩, fun p hp => by cases hp; exact hb⟩
  · obtain ⟨g, cap, rfl, hb, _⟩ := h.form h0
    refine ⟨_, cap, rfl, ⟨hl, hn, fun _ => ⟨g, 0, rfl, fun j hj => ?_⟩⟩, fun p hp => by cases hp; exact hb⟩
    have c := cellsM_at xs j (by omega)
    have hadd : ∀ i, (⟨g, 0, none⟩ : Addr).add i = ⟨g, 0 + i, none⟩ := fun i => WideShapes.add_plain g 0 i
    have c1 := h.cells (g := g) rfl (j * 2) _ c.1
    have c2 := h.cells (g := g) rfl (j * 2 + 1) _ c.2
    rw [hadd] at c1 c2
    exact ⟨c1, c2⟩

theorem cells_new (w : World) (cs : List Value) (t : TypeId) (B : Nat) (hB : w.heap.size = B) : ∀ j u, cs[j]? = some u → (w.alloc (.cells cs.toArray t)).cell? ((⟨B, 0, none⟩ : Addr).add j) = some u := by
  intro j u h
  subst hB
  rw [WideShapes.add_plain, Nat.zero_add]
  exact (Blk.new w cs t).cell j u h

theorem info100 : (Try.prog.info? 100).map (fun i => (i.zero, i.size, i.bytes)) = some (some (.agg #[.int .i64 0, .int .i64 0]), 2, 16) := by kernel_rfl

set_option maxRecDepth 100000 in
set_option maxHeartbeats 2000000 in
theorem measures_calls (A : Option Addr) (n cap : Nat) (l : List (Int × Int)) (w : World) (hl : ReadsM w A n l) :
    Calls Try.prog 38 #[.slice A n cap] w fun e w' => ∃ B c, e = .returned (.slice B n c) ∧ ReadsM w' B n l ∧ Below w.heap.size w w' := by
  obtain ⟨i0, hi0, hz0, hz1, hz2⟩ := info_parts info100
  have hlen := hl.1
  have hmax := hl.2.1
  have HL := Lib.hid hl
  clear hl
  go_enter Try.func38, Try.ntmps38
  go_wp2_with fail
  go_loopw [3, 4] (fun v i wr => ∃ k : Nat, k ≤ n ∧ i = .int .i64 k ∧ Aside (wr.ownsRow w.heap.size 100 2 v k (cellsM (l.take k))) ∧ Aside (Below w.heap.size w wr))
    (fun _ i _ => n - (intOf i).toNat)
  case atStart => exact ⟨0, Nat.zero_le _, rfl, World.ownsRow_nil _ _ _ _, Below.refl _ _⟩
  case round =>
    obtain ⟨k, hk, rfl, HO, HB⟩ := hrel
    by_cases hlt : k < n
    · have hlt' : (k : Int) < (n : Int) := by omega
      have hw2 : IntKind.i64.wrap ((k : Int) + 1) = (k : Int) + 1 := by rw [i64_w]; exact w64_in (by omega) (by omega)
      have ra := HL.out.later HB.out
      obtain ⟨b, off, rfl, hc⟩ := ra.2.2 (by omega)
      obtain ⟨hc1, hc2⟩ := hc k hlt
      have hs := cellsM_snoc l k (by omega)
      change wr.cell? _ = some (.int .i64 (mAt l k).1) at hc1
      change wr.cell? _ = some (.int .i64 (mAt l k).2) at hc2
      generalize (mAt l k).1 = x at hc1 hs
      generalize (mAt l k).2 = y at hc2 hs
      have HS := Lib.hid hs
      clear hs hc ra
      have hsz := HB.out.size
      have hO := HO.out
      go_wp2_with (first
        | (at_builtin; refine wpList_append_own _ rfl _ _ 56 rfl w.heap.size 100 i0 (.agg #[.int .i64 0, .int .i64 0]) 2 16 Try.underlying56 hi0 hz0 hz1 hz2 rfl (by decide) _ _ _ rfl (hO.alloc _) ⟨wr.heap.size, 0, none⟩ 1 1 [.int .i64 x, .int .i64 y] rfl rfl (cells_new _ [.int .i64 x, .int .i64 y] _ _ rfl) (by intro u hu; simp at hu; rcases hu with rfl | rfl <;> rfl) ?c3 ?c4 ?c5 ?_))
      case c3 => unfold maxLen; omega
      case c4 => omega
      case c5 => simp; omega
      intro v' w4 hown' hgrow _
      have HO' := Lib.hid hown'
      have HB4 := Lib.hid ((HB.out.alloc HB.out.size _).grown hgrow (by simp; omega) (by intro j hj; exact own_base' hO j hj))
      clear hown' hgrow hO
      go_wp2
      go_roundw
      case measure => simp [intOf]; omega
      case rel => exact ⟨k + 1, by omega, by go_num, (show Aside _ from by rw [HS.out]; exact HO'.out), HB4.out⟩
    · obtain rfl : k = n := by omega
      have HO2 := HO.out
      rw [← hlen, List.take_length, hlen] at HO2
      obtain ⟨A', c', rfl, hR, _⟩ := own_readsM HO2 hlen hmax
      have HRR := Lib.hid hR
      clear hR HO2
      go_wp2
      go_ret
      exact ⟨A', c', rfl, HRR.out, HB.out⟩

theorem bad_cases (m : Int × Int) : badM m = true ∨ badM m = false := by cases badM m <;> simp

set_option maxRecDepth 100000 in
set_option maxHeartbeats 2000000 in
/-- Where the spool, the error or the number of measurements is not as stated. -/
theorem rmeasured_err (c t lo hi off : Int) (A : Option Addr) (n cap : Nat) (w : World) (h : ¬ Sound c t lo hi ∨ ¬ (0 ≤ off ∧ off ≤ 1000000)) :
    Gives 72 #[.agg #[.int .i64 c, .int .i64 t, .int .i64 lo, .int .i64 hi], .int .i64 off, .slice A n cap] (.int .i64 3) w := by
  unfold Gives
  by_cases hs : Sound c t lo hi
  · have hk := chk_yes hs
    have ho := btw_no (h.resolve_left (fun h => h hs))
    clear hs h
    go_enter Try.func72, Try.ntmps72
    go_wp2_with (first | (go_at_call 28; (with_reducible refine (Gives.c (rcheck_calls _ _ _ _ _)).mono ?_); rintro e w1 ⟨rfl, hb⟩; rw [hk]) | (go_at_call 62; (with_reducible refine (is_calls _ _ _ _).mono ?_); rintro e w1 ⟨rfl, rfl⟩))
    go_loopw [7, 8] (fun v i wr => v = .int .i64 3 ∧ i = .int .i64 0 ∧ Aside (wr = w1)) (fun _ _ _ => 0)
    case atStart => exact ⟨rfl, rfl, rfl⟩
    case round =>
      obtain ⟨rfl, rfl, HWE⟩ := hrel
      have hwe := HWE.out
      subst hwe
      clear HWE
      go_wp2
      go_ret
      exact ⟨rfl, ((Below.refl _ _).alloc (Nat.le_refl _) _).trans (hb.mono (by simp))⟩
  · have hk := chk_no hs
    clear hs h
    go_enter Try.func72, Try.ntmps72
    go_wp2_with (first | (go_at_call 28; (with_reducible refine (Gives.c (rcheck_calls _ _ _ _ _)).mono ?_); rintro e w1 ⟨rfl, hb⟩; rw [hk]) | (go_at_call 62; (with_reducible refine (is_calls _ _ _ _).mono ?_); rintro e w1 ⟨rfl, rfl⟩))
    go_loopw [7, 8] (fun v i wr => v = .int .i64 3 ∧ i = .int .i64 0 ∧ Aside (wr = w1)) (fun _ _ _ => 0)
    case atStart => exact ⟨rfl, rfl, rfl⟩
    case round =>
      obtain ⟨rfl, rfl, HWE⟩ := hrel
      have hwe := HWE.out
      subst hwe
      clear HWE
      go_wp2
      go_ret
      exact ⟨rfl, ((Below.refl _ _).alloc (Nat.le_refl _) _).trans (hb.mono (by simp))⟩

set_option maxRecDepth 100000 in
set_option maxHeartbeats 2000000 in
theorem rmeasured_many (c t lo hi off : Int) (A : Option Addr) (n cap : Nat) (w : World) (hm : n ≤ 8796093022208) (hs : Sound c t lo hi) (ho : 0 ≤ off ∧ off ≤ 1000000) (hn : 50 < n) :
    Gives 72 #[.agg #[.int .i64 c, .int .i64 t, .int .i64 lo, .int .i64 hi], .int .i64 off, .slice A n cap] (.int .i64 5) w := by
  unfold Gives
  have hk := chk_yes hs
  have hob := btw_yes ho
  have hn' : (50 : Int) < n := by omega
  clear hs ho
  go_enter Try.func72, Try.ntmps72
  go_wp2_with (first | (go_at_call 28; (with_reducible refine (Gives.c (rcheck_calls _ _ _ _ _)).mono ?_); rintro e w1 ⟨rfl, hb⟩; rw [hk]) | (go_at_call 62; (with_reducible refine (is_calls _ _ _ _).mono ?_); rintro e w1 ⟨rfl, rfl⟩))
  go_loopw [7, 8] (fun v i wr => v = .int .i64 5 ∧ i = .int .i64 0 ∧ Aside (wr = w1)) (fun _ _ _ => 0)
  case atStart => exact ⟨rfl, rfl, rfl⟩
  case round =>
    obtain ⟨rfl, rfl, HWE⟩ := hrel
    have hwe := HWE.out
    subst hwe
    clear HWE
    go_wp2
    go_ret
    exact ⟨rfl, ((Below.refl _ _).alloc (Nat.le_refl _) _).trans (hb.mono (by simp))⟩

set_option maxRecDepth 100000 in
set_option maxHeartbeats 2000000 in
theorem rmeasured_yes (c t lo hi off : Int) (A : Option Addr) (n cap : Nat) (l : List (Int × Int)) (w : World) (hl : ReadsM w A n l) (hs : Sound c t lo hi) (ho : 0 ≤ off ∧ off ≤ 1000000) (hn : n ≤ 50) :
    Gives 72 #[.agg #[.int .i64 c, .int .i64 t, .int .i64 lo, .int .i64 hi], .int .i64 off, .slice A n cap] (.int .i64 (if l.any badM then 3 else 0)) w := by
  unfold Gives
  have hk := chk_yes hs
  have hob := btw_yes ho
  have hn' : ¬ (50 : Int) < n := by omega
  have hlen := hl.1
  have HL := Lib.hid hl
  generalize hR : (if l.any badM then (3 : Int) else 0) = R
  have HR := Lib.hid hR
  clear hs ho hl hR
  go_enter Try.func72, Try.ntmps72
  go_wp2_with (first | (go_at_call 28; (with_reducible refine (Gives.c (rcheck_calls _ _ _ _ _)).mono ?_); rintro e w1 ⟨rfl, hb⟩; rw [hk]) | (go_at_call 62; (with_reducible refine (is_calls _ _ _ _).mono ?_); rintro e w1 ⟨rfl, rfl⟩))
  have b1 : Below w.heap.size w w1 := ((Below.refl _ _).alloc (Nat.le_refl _) _).trans (hb.mono (by simp))
  have B1 := Lib.hid b1
  clear b1 hb
  go_loopw [7, 8] (fun v i wr => Aside (wr = w1) ∧ ∃ k : Nat, k ≤ n ∧ i = .int .i64 k ∧ ∃ x : Int, v = .int .i64 x ∧ ((x = 0 ∧ Aside (∀ j, j < k → badM (mAt l j) = false)) ∨ (x = 3 ∧ Aside (R = 3))))
    (fun _ i _ => n - (intOf i).toNat)
  case atStart => exact ⟨rfl, 0, Nat.zero_le _, rfl, 0, rfl, .inl ⟨rfl, fun j hj => absurd hj (Nat.not_lt_zero _)⟩⟩
  case round =>
    obtain ⟨HWE, k, hk2, rfl, x, rfl, hx⟩ := hrel
    have hwe := HWE.out
    subst hwe
    rcases hx with ⟨rfl, HQ⟩ | ⟨rfl, HQ⟩
    · by_cases hlt : k < n
      · have hlt' : (k : Int) < (n : Int) := by omega
        have hw2 : IntKind.i64.wrap ((k : Int) + 1) = (k : Int) + 1 := by rw [i64_w]; exact w64_in (by omega) (by omega)
        have ra := HL.out.later B1.out
        obtain ⟨b, o, rfl, hc⟩ := ra.2.2 (by omega)
        obtain ⟨hc1, hc2⟩ := hc k hlt
        change wr.cell? _ = some (.int .i64 (mAt l k).1) at hc1
        change wr.cell? _ = some (.int .i64 (mAt l k).2) at hc2
        have hbad : badM (mAt l k) = (!btw 0 (mAt l k).1 1000 || !btw 0 (mAt l k).2 1000000000) := rfl
        have hyes : badM (mAt l k) = true → R = 3 := fun h => by
          rw [← HR.out, if_pos]
          refine List.any_eq_true.2 ⟨mAt l k, ?_, h⟩
          unfold mAt
          rw [List.getElem?_eq_getElem (by omega)]
          simp
        have hno : badM (mAt l k) = false → ∀ j, j < k + 1 → badM (mAt l j) = false := fun h j hj => by
          by_cases e : j = k
          · rw [e]; exact h
          · exact HQ.out j (by omega)
        have HY := Lib.hid hyes
        have HN := Lib.hid hno
        generalize badM (mAt l k) = bb at hbad HY HN
        generalize (mAt l k).1 = x at hc1 hbad
        generalize (mAt l k).2 = y at hc2 hbad
        clear hyes hno hc ra
        cases h1 : btw 0 x 1000 with
        | false =>
          have hb : bb = true := by rw [hbad, h1]; rfl
          have HB := Lib.hid (HY.out hb)
          clear hbad hb HY HN
          go_wp2_with (go_at_call 62; (with_reducible refine (is_calls _ _ _ _).mono ?_); rintro e w1 ⟨rfl, rfl⟩)
          go_roundw
          case measure => simp [intOf]; omega
          case rel => exact ⟨trivial, k + 1, by omega, by go_num, 3, rfl, .inr ⟨rfl, HB.out⟩⟩
        | true =>
          cases h2 : btw 0 y 1000000000 with
          | false =>
            have hb : bb = true := by rw [hbad, h1, h2]; rfl
            have HB := Lib.hid (HY.out hb)
            clear hbad hb HY HN
            go_wp2_with (go_at_call 62; (with_reducible refine (is_calls _ _ _ _).mono ?_); rintro e w1 ⟨rfl, rfl⟩)
            go_roundw
            case measure => simp [intOf]; omega
            case rel => exact ⟨trivial, k + 1, by omega, by go_num, 3, rfl, .inr ⟨rfl, HB.out⟩⟩
          | true =>
            have hb : bb = false := by rw [hbad, h1, h2]; rfl
            have HB := Lib.hid (HN.out hb)
            clear hbad hb HY HN
            go_wp2_with (go_at_call 62; (with_reducible refine (is_calls _ _ _ _).mono ?_); rintro e w1 ⟨rfl, rfl⟩)
            go_roundw
            case measure => simp [intOf]; omega
            case rel => exact ⟨trivial, k + 1, by omega, by go_num, 0, rfl, .inl ⟨rfl, HB.out⟩⟩
      · obtain rfl : k = n := by omega
        have hR0 : R = 0 := by
          rw [← HR.out, if_neg]
          intro h
          obtain ⟨m, hm, hbm⟩ := List.any_eq_true.1 h
          obtain ⟨j, hj, rfl⟩ := List.getElem_of_mem hm
          have := HQ.out j (by omega)
          unfold mAt at this
          rw [List.getElem?_eq_getElem hj] at this
          rw [Option.getD_some, hbm] at this
          cases this
        subst hR0
        go_wp2
        go_ret
        exact ⟨rfl, B1.out⟩
    · have hR3 := HQ.out
      subst hR3
      go_wp2
      go_ret
      exact ⟨rfl, B1.out⟩

theorem rmeasured_calls (c t lo hi off : Int) (A : Option Addr) (n cap : Nat) (l : List (Int × Int)) (w : World) (hl : ReadsM w A n l) :
    Gives 72 #[.agg #[.int .i64 c, .int .i64 t, .int .i64 lo, .int .i64 hi], .int .i64 off, .slice A n cap] (.int .i64 (measF c t lo hi off l)) w := by
  unfold measF
  have hln := hl.1
  by_cases hs : Sound c t lo hi
  · rw [if_pos hs]
    by_cases ho : 0 ≤ off ∧ off ≤ 1000000
    · rw [if_pos ho]
      by_cases hn : 50 < l.length
      · rw [if_pos hn]; exact rmeasured_many c t lo hi off A n cap w hl.2.1 hs ho (by omega)
      · rw [if_neg hn]; exact rmeasured_yes c t lo hi off A n cap l w hl hs ho (by omega)
    · rw [if_neg ho]; exact rmeasured_err c t lo hi off A n cap w (.inr ho)
  · rw [if_neg hs]; exact rmeasured_err c t lo hi off A n cap w (.inl hs)
end Go.Proofs.Ytphbiaagmhhhbaa
