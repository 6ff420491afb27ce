/- The laws' helpers: codes, parts, lists of numbers, codings. -/
import Derived.Test.YtjncoableanmpaaLW
namespace Go.Proofs.Ytjncoableanmpaa
open Go.RowKit Go.Lib Go.Shelf

theorem numbers_calls (A B : Option Addr) (n m ca cb : Nat) (a b : List Int) (w : World) (ha : Reads w A n a) (hb : Reads w B m b) :
    Gives 32 #[.slice A n ca, .slice B m cb] (.bool (decide (a = b))) w := by
  unfold Gives
  have h1 := ha.1
  have h2 := hb.1
  have h3 := ha.2.1
  generalize hd : decide (a = b) = d
  by_cases hne : n = m
  · subst hne
    have HA := Lib.hid ha
    have HB := Lib.hid hb
    have HD := Lib.hid hd
    have hneq : (((n : Int)) != n) = false := by simp
    clear ha hb hd
    go_enter Try.func32, Try.ntmps32
    go_wp2
    go_loopw [5] (fun i wr => ∃ k : Nat, k ≤ n ∧ i = .int .i64 k ∧ Aside (∀ j, j < k → a[j]?.getD 0 = b[j]?.getD 0) ∧ Aside (Below w.heap.size w wr))
      (fun i _ => n - (intOf i).toNat)
    case atStart => exact ⟨0, Nat.zero_le _, rfl, fun j hj => by omega, Below.refl _ _⟩
    case round =>
      obtain ⟨k, hk, rfl, HQ, HW⟩ := hrel
      by_cases hlt : k < n
      · have hlt' : (k : Int) < (n : Int) := by omega
        have hw2 : IntKind.i64.wrap ((k : Int) + 1) = (k : Int) + 1 := by rw [i64_w]; exact w64_in (by omega) (by omega)
        have ra := HA.out.later HW.out
        have rb := HB.out.later HW.out
        obtain ⟨ba, oa, rfl, ca⟩ := ra.2.2 (by omega)
        obtain ⟨bb, ob, rfl, cb⟩ := rb.2.2 (by omega)
        have ea := ca k hlt
        have eb := cb k hlt
        clear ca cb ra rb
        generalize hu : a[k]?.getD 0 = u at ea
        generalize hv : b[k]?.getD 0 = v at eb
        have HU := Lib.hid hu
        have HV := Lib.hid hv
        clear hu hv
        by_cases huv : u = v
        · have e1 : (u != v) = false := by simp [huv]
          have HE := Lib.hid huv
          clear huv
          go_wp2
          go_quiet (fail)
          go_wp2
          go_roundw
          case measure => simp [intOf]; omega
          case rel =>
            refine ⟨k + 1, by omega, by go_num, ?_, below_drewN' HW.out _⟩
            intro j hj
            by_cases hjk : j = k
            · subst hjk; rw [HU.out, HV.out]; exact HE.out
            · exact HQ.out j (by omega)
        · have e1 : (u != v) = true := by simp [huv]
          have hdf : d = false := by
            rw [← HD.out, decide_eq_false_iff_not]
            intro hab
            apply huv
            rw [← HU.out, ← HV.out, hab]
          subst hdf
          clear huv
          go_wp2
          go_quiet (fail)
          go_wp2
          go_ret
          exact ⟨rfl, below_drewN' HW.out _⟩
      · obtain rfl : k = n := by omega
        have hdt : d = true := by
          rw [← HD.out, decide_eq_true_eq]
          apply List.ext_getElem (by omega)
          intro j hj1 hj2
          have := HQ.out j (by omega)
          rw [List.getElem?_eq_getElem hj1, List.getElem?_eq_getElem hj2] at this
          exact this
        subst hdt
        go_wp2
        go_ret
        exact ⟨rfl, HW.out⟩
  · have hdf : d = false := by
      rw [← hd, decide_eq_false_iff_not]
      intro hab
      rw [hab] at h1
      omega
    subst hdf
    have hneq : (((n : Int)) != m) = true := bne_iff_ne.2 (by omega)
    clear ha hb hd
    go_enter Try.func32, Try.ntmps32
    go_wp2
    go_ret
    exact ⟨rfl, Below.refl _ _⟩


/-- A code in Go. -/
abbrev cdv (c : Cd) : Value := .agg #[.int .i64 c.1, .int .i64 c.2.1, .int .i64 c.2.2]
theorem code_calls (a b c : Int) (w : World) : Gives 31 #[.int .i64 a, .int .i64 b, .int .i64 c] (.agg #[.int .i64 a, .int .i64 b, .int .i64 c]) w := by
  unfold Gives
  go_enter Try.func31, Try.ntmps31
  go_wp2
  refine bodyPost_ret (v := .agg #[.int .i64 a, .int .i64 b, .int .i64 c]) (by simp [results, Try.results31, go_sem]) rfl ⟨rfl, ?_⟩
  exact (Below.refl _ _).alloc (Nat.le_refl _) _
theorem part_calls (a b : Int) (w : World) : Gives 27 #[.int .i64 a, .int .i64 b] (.agg #[.int .i64 a, .int .i64 b]) w := by
  unfold Gives
  go_enter Try.func27, Try.ntmps27
  go_wp2
  refine bodyPost_ret (v := .agg #[.int .i64 a, .int .i64 b]) (by simp [results, Try.results27, go_sem]) rfl ⟨rfl, ?_⟩
  exact (Below.refl _ _).alloc (Nat.le_refl _) _

/-- The cells of codes. -/
def cellsC (l : List Cd) : List Value := l.flatMap fun m => [Value.int .i64 m.1, .int .i64 m.2.1, .int .i64 m.2.2]
theorem cellsC_length (l : List Cd) : (cellsC l).length = l.length * 3 := by
  induction l with
  | nil => rfl
  | cons x r ih => simp only [cellsC, List.flatMap_cons, List.length_append, List.length_cons] at ih ⊢; simp at ih ⊢; omega
theorem cellsC_append (l k : List Cd) : cellsC (l ++ k) = cellsC l ++ cellsC k := by simp [cellsC]
theorem cellsC_at (l : List Cd) (j : Nat) (hj : j < l.length) : (cellsC l)[j * 3]? = some (.int .i64 (cAt l j).1) ∧ (cellsC l)[j * 3 + 1]? = some (.int .i64 (cAt l j).2.1) ∧ (cellsC l)[j * 3 + 2]? = some (.int .i64 (cAt l j).2.2) := by
  induction l generalizing j with
  | nil => simp at hj
  | cons x r ih =>
    cases j with
    | zero => exact ⟨rfl, rfl, rfl⟩
    | succ j =>
      have := ih j (by simpa using hj)
      have e : cellsC (x :: r) = Value.int .i64 x.1 :: .int .i64 x.2.1 :: .int .i64 x.2.2 :: cellsC r := rfl
      rw [e]
      refine ⟨?_, ?_, ?_⟩
      · rw [show (j + 1) * 3 = j * 3 + 1 + 1 + 1 by omega, List.getElem?_cons_succ, List.getElem?_cons_succ, List.getElem?_cons_succ, this.1]; rfl
      · rw [show (j + 1) * 3 + 1 = j * 3 + 1 + 1 + 1 + 1 by omega, List.getElem?_cons_succ, List.getElem?_cons_succ, List.getElem?_cons_succ, this.2.1]; rfl
      · rw [show (j + 1) * 3 + 2 = j * 3 + 2 + 1 + 1 + 1 by omega, List.getElem?_cons_succ, List.getElem?_cons_succ, List.getElem?_cons_succ, this.2.2]; rfl
theorem cellsC_snoc (l : List Cd) (k : Nat) (h : k < l.length) : cellsC (l.take (k + 1)) = cellsC (l.take k) ++ [Value.int .i64 (cAt l k).1, .int .i64 (cAt l k).2.1, .int .i64 (cAt l k).2.2] := by
  rw [List.take_succ_eq_append_getElem h, cellsC_append]
  unfold cAt
  rw [List.getElem?_eq_getElem h]
  rfl
theorem own_readsC {w : World} {base n : Nat} {e : TypeId} {v : Value} {xs : List Cd} (h : w.ownsRow base e 3 v n (cellsC xs)) (hl : xs.length = n) (hn : n ≤ 17592186044416) :
    ∃ A c, v = .slice A n c ∧ ReadsC w A n xs ∧ ∀ p, A = some p → base ≤ p.block := by
  rcases Nat.eq_zero_or_pos n with h0 | h0
  · subst h0
    rcases h.2 with ⟨rfl, _⟩ | ⟨g, cap, cur, rfl, hb, _⟩
    · exact ⟨none, 0, rfl, ⟨hl, by omega, fun hp => absurd hp (by omega)⟩, fun p hp => by cases hp⟩
    · exact ⟨_, cap, rfl, ⟨hl, by omega, fun hp => absurd hp (by omega)⟩, fun p hp => by cases hp; exact hb⟩
  · obtain ⟨g, cap, rfl, hb, _⟩ := h.form h0
    refine ⟨_, cap, rfl, ⟨hl, hn, fun _ => ⟨g, 0, rfl, fun j hj => ?_⟩⟩, fun p hp => by cases hp; exact hb⟩
    have c := cellsC_at xs j (by omega)
    have hadd : ∀ i, (⟨g, 0, none⟩ : Addr).add i = ⟨g, 0 + i, none⟩ := fun i => WideShapes.add_plain g 0 i
    have c1 := h.cells (g := g) rfl (j * 3) _ c.1
    have c2 := h.cells (g := g) rfl (j * 3 + 1) _ c.2.1
    have c3 := h.cells (g := g) rfl (j * 3 + 2) _ c.2.2
    rw [hadd] at c1 c2 c3
    exact ⟨c1, c2, c3⟩
theorem info79 : (Try.prog.info? 79).map (fun i => (i.zero, i.size, i.bytes)) = some (some (.agg #[.int .i64 0, .int .i64 0, .int .i64 0]), 3, 24) := by kernel_rfl
theorem info68 : (Try.prog.info? 68).map (fun i => (i.zero, i.size, i.bytes)) = some (some (.agg #[.int .i64 0, .int .i64 0, .int .i64 0]), 3, 24) := by kernel_rfl
theorem own_cap {w : World} {base n size : Nat} {e : TypeId} {A : Option Addr} {c : Nat} {xs : List Value} (h : w.ownsRow base e size (.slice A n c) n xs) : n ≤ c ∧ c ≤ 9223372036854775807 := by
  rcases h.2 with ⟨h1, h2⟩ | ⟨g, cap, cur, h1, _, _, h2, h3, _⟩
  · cases h1
    omega
  · cases h1
    unfold maxLen at h3
    omega

set_option maxRecDepth 100000 in
set_option maxHeartbeats 2000000 in
theorem codes_calls (A : Option Addr) (n cap : Nat) (l : List Cd) (w : World) (hl : ReadsC w A n l) (hn : n ≤ 1000) :
    Calls Try.prog 12 #[.slice A n cap] w fun e w' => ∃ B c, e = .returned (.slice B n c) ∧ (ReadsC w' B n l ∧ n ≤ c) ∧ Below w.heap.size w w' := by
  obtain ⟨i0, hi0, hz0, hz1, hz2⟩ := info_parts info79
  have hlen := hl.1
  have hmax := hl.2.1
  have HL := Lib.hid hl
  clear hl
  go_enter Try.func12, Try.ntmps12
  go_wp2_with fail
  go_loopw [3, 4] (fun v i wr => ∃ k : Nat, k ≤ n ∧ i = .int .i64 k ∧ Aside (wr.ownsRow w.heap.size 79 3 v k (cellsC (l.take k))) ∧ Aside (Below w.heap.size w wr))
    (fun _ i _ => n - (intOf i).toNat)
  case atStart => exact ⟨0, Nat.zero_le _, rfl, World.ownsRow_nil _ _ _ _, Below.refl _ _⟩
  case round =>
    obtain ⟨k, hk, rfl, HO, HB⟩ := hrel
    by_cases hlt : k < n
    · have hlt' : (k : Int) < (n : Int) := by omega
      have hw2 : IntKind.i64.wrap ((k : Int) + 1) = (k : Int) + 1 := i64_in (by omega) (by omega)
      have ra := HL.out.later HB.out
      obtain ⟨b, off, rfl, hc⟩ := ra.2.2 (by omega)
      obtain ⟨hc1, hc2, hc3⟩ := hc k hlt
      have hs := cellsC_snoc l k (by omega)
      generalize (cAt l k).1 = x at hc1 hs
      generalize (cAt l k).2.1 = y at hc2 hs
      generalize (cAt l k).2.2 = z at hc3 hs
      have HS := Lib.hid hs
      clear hs hc ra
      have hsz := HB.out.size
      have hO := HO.out
      go_wp2_with (first
        | (at_builtin; refine wpList_append_own _ rfl _ _ 28 rfl w.heap.size 79 i0 (.agg #[.int .i64 0, .int .i64 0, .int .i64 0]) 3 24 Try.underlying28 hi0 hz0 hz1 hz2 rfl (by decide) _ _ _ rfl (hO.alloc _) ⟨wr.heap.size, 0, none⟩ 1 1 [.int .i64 x, .int .i64 y, .int .i64 z] rfl rfl (cells_new _ [.int .i64 x, .int .i64 y, .int .i64 z] _ _ rfl) (by intro u hu; simp at hu; rcases hu with rfl | rfl | rfl <;> rfl) ?c3 ?c4 ?c5 ?_))
      case c3 => unfold maxLen; omega
      case c4 => omega
      case c5 => simp; omega
      intro v' w4 hown' hgrow _
      have HO' := Lib.hid hown'
      have HB4 := Lib.hid ((HB.out.alloc HB.out.size _).grown hgrow (by simp; omega) (by intro j hj; exact own_base' hO j hj))
      clear hown' hgrow hO
      go_wp2
      go_roundw
      case measure => simp [intOf]; omega
      case rel => exact ⟨k + 1, by omega, by go_num, (show Aside _ from by rw [HS.out]; exact HO'.out), HB4.out⟩
    · obtain rfl : k = n := by omega
      have HO2 := HO.out
      rw [← hlen, List.take_length, hlen] at HO2
      obtain ⟨A', c', rfl, hR, _⟩ := own_readsC HO2 hlen hmax
      have HRR := Lib.hid hR
      have hcp := own_cap HO2
      clear hR HO2
      go_wp2
      go_ret
      exact ⟨A', c', rfl, ⟨HRR.out, hcp.1⟩, HB.out⟩

/-- A coding whose sets are 0, 1, 2, .. -/
def codingL (l : List Int) : List Cd := l.zipIdx.map fun x => ((x.2 : Int), x.1, x.1)
theorem codingL_at (l : List Int) (k : Nat) (h : k < l.length) : cAt (codingL l) k = ((k : Int), l[k]?.getD 0, l[k]?.getD 0) := by
  unfold cAt codingL
  rw [List.getElem?_map, List.getElem?_eq_getElem (by simpa using h), List.getElem?_eq_getElem h]
  simp
theorem codingL_len (l : List Int) : (codingL l).length = l.length := by simp [codingL]
set_option maxRecDepth 100000 in
set_option maxHeartbeats 2000000 in
theorem coding_calls (A : Option Addr) (n cap : Nat) (l : List Int) (w : World) (hl : Reads w A n l) (hn : n ≤ 1000) :
    Calls Try.prog 34 #[.slice A n cap] w fun e w' => ∃ B c, e = .returned (.slice B n c) ∧ (ReadsC w' B n (codingL l) ∧ n ≤ c) ∧ Below w.heap.size w w' := by
  obtain ⟨i0, hi0, hz0, hz1, hz2⟩ := info_parts info68
  have hlen := hl.1
  have hlc := codingL_len l
  rw [hlen] at hlc
  have HL := Lib.hid hl
  clear hl
  go_enter Try.func34, Try.ntmps34
  go_wp2_with fail
  go_loopw [3, 4] (fun v i wr => ∃ k : Nat, k ≤ n ∧ i = .int .i64 k ∧ Aside (wr.ownsRow w.heap.size 68 3 v k (cellsC ((codingL l).take k))) ∧ Aside (Below w.heap.size w wr))
    (fun _ i _ => n - (intOf i).toNat)
  case atStart => exact ⟨0, Nat.zero_le _, rfl, World.ownsRow_nil _ _ _ _, Below.refl _ _⟩
  case round =>
    obtain ⟨k, hk, rfl, HO, HB⟩ := hrel
    by_cases hlt : k < n
    · have hlt' : (k : Int) < (n : Int) := by omega
      have hw2 : IntKind.i64.wrap ((k : Int) + 1) = (k : Int) + 1 := i64_in (by omega) (by omega)
      obtain ⟨b, off, rfl, hc⟩ := HL.out.2.2 (by omega)
      have hc1 := hc k hlt
      have hs := cellsC_snoc (codingL l) k (by omega)
      rw [codingL_at l k (by omega)] at hs
      generalize l[k]?.getD 0 = x at hc1 hs
      have HS := Lib.hid hs
      have HC1 := Lib.hid hc1
      clear hs hc hc1
      have hsz := HB.out.size
      have hS : ∀ X, Below w.heap.size w X → Below w.heap.size w X ∧ X.cell? ⟨b, off + k, none⟩ = some (.int .i64 x) := fun X hX => ⟨hX, (hX.cell (p := ⟨b, off + k, none⟩) (World.block_lt_of_cell? w _ HC1.out)).trans HC1.out⟩
      have HS2 := Lib.hid hS
      clear hS
      go_wp2_with fail
      go_region_held3 (fun X => Below w.heap.size w X ∧ X.cell? ⟨b, off + k, none⟩ = some (.int .i64 x))
        (first
          | with_reducible exact HS2.out _ HB.out.drew
          | with_reducible exact HS2.out _ HB2.out
          | with_reducible exact HS2.out _ (stepA HB2.out _)
          | with_reducible exact HS2.out _ HB4.out
          | fail)
        (first
          | (go_at_call 31; (with_reducible refine (Gives.c (code_calls _ _ _ _)).mono ?_); rintro e' w2 ⟨rfl, hb⟩; have HB2 := Lib.hid (HB.out.drew.trans (hb.mono HB.out.size)); have HO2 := Lib.hid (own_later HO.out ((Below.refl _ _).drew.trans hb)); clear hb)
          | (rw [if_pos (by rfl)]; refine wp_append_own _ (.tmp 11) (.tmp 22) 22 rfl w.heap.size 68 i0 (.agg #[.int .i64 0, .int .i64 0, .int .i64 0]) 3 24 Try.underlying22 hi0 hz0 hz1 hz2 rfl (by decide) u3 k _ rfl (own_alloc HO2.out _) ⟨w2.heap.size, 0, none⟩ 1 1 [.int .i64 k, .int .i64 x, .int .i64 x] rfl rfl (cells_new _ [.int .i64 k, .int .i64 x, .int .i64 x] _ _ rfl) (by intro u hu; simp at hu; rcases hu with rfl | rfl <;> rfl) (by unfold maxLen; omega) (by omega) (by have := HB2.out.size; simp; omega) ?_; intro v3 w3 hown3 hgrow3 _; have HO3 := Lib.hid hown3; have HB4 := Lib.hid ((HB2.out.alloc HB2.out.size _).grown hgrow3 (by have := HB2.out.size; simp; omega) (by intro j hj; exact own_base' HO2.out j hj)); clear hown3 hgrow3)
          | fail)
      go_wp2
      go_roundw
      case measure => simp [intOf]; omega
      case rel => exact ⟨k + 1, by omega, by go_num, (show Aside _ from by rw [HS.out]; exact HO3.out), HB4.out⟩
    · obtain rfl : k = n := by omega
      have HO2 := HO.out
      rw [← hlc, List.take_length, hlc] at HO2
      obtain ⟨A', c', rfl, hR, _⟩ := own_readsC HO2 hlc (by omega)
      have HRR := Lib.hid hR
      have hcp := own_cap HO2
      clear hR HO2
      go_wp2
      go_ret
      exact ⟨A', c', rfl, ⟨HRR.out, hcp.1⟩, HB.out⟩
end Go.Proofs.Ytjncoableanmpaa
