/- The reference: Possible, state, State. -/
import Derived.Test.YtpnkbjdeiedhlaaQB
namespace Go.Proofs.Ytpnkbjdeiedhlaa
open Go.RowKit Go.Lib Go.Shelf
open St

set_option maxRecDepth 100000 in
set_option maxHeartbeats 2000000 in
theorem rPossible_bad (N L : Int) (A : Option Addr) (n c : Nat) (l : List Tst) (w : World) (hl : ReadsT w A n l) (h : ¬ rchk N L l = 0) :
    Gives 18 #[rec N L A n c] (.tuple #[.slice none 0 0, .int .i64 (rchk N L l)]) w := by
  unfold Gives
  have I := ((Held.from (w0 := w) (Below.refl w.heap.size w) (Nat.le_refl _)).with (.readsT hl)).allocB [Value.int .i64 N, .int .i64 L, .slice A n c] 29
  have h23 : ∀ W, ReadsT W A n l → Gives 23 #[rec N L A n c] (.int .i64 (rchk N L l)) W := fun W h' => rcheck_calls N L A n c l W h'
  generalize rchk N L l = e at h h23 ⊢
  have H23 := Lib.hid h23
  have hne : (e != 0) = true := by simp [h]
  clear hl h23 h
  go_enter Try.func18, Try.ntmps18
  go_wp2_with fail
  change Held (w.alloc (.cells #[.int .i64 N, .int .i64 L, .slice A n c] 29)) _ at I
  generalize World.alloc _ _ = w1 at I ⊢
  have q1 := I.now.2.three
  go_wp2_with (go_at_call 23; (with_reducible refine (Gives.c (H23.out _ I.now.1.2)).mono ?_); rintro e' w2 ⟨rfl, hb⟩; replace I := I.next hb; clear hb q1)
  go_returns
  exact ⟨rfl, I.now.1.1⟩
set_option maxRecDepth 100000 in
set_option maxHeartbeats 2000000 in
theorem rPossible_good {N L : Nat} (hN : N ≤ 16) (_ : L ≤ 2) (A : Option Addr) (n c : Nat) (l : List Tst) (w : World) (hl : ReadsT w A n l) (h : rchk N L l = 0) (hn : n ≤ 1000) :
    Calls Try.prog 18 #[rec N L A n c] w fun e w' => ∃ A' m c', e = .returned (.tuple #[.slice A' m c', .int .i64 0]) ∧ Reads w' A' m (posK L l N) ∧ Below w.heap.size w w' := by
  obtain ⟨i0, hi0, hz0, hz1, hz2⟩ := info_parts info3
  have I : Held (w.alloc (.cells [Value.int .i64 N, .int .i64 L, .slice A n c].toArray 29)) (fun W => (Below w.heap.size w W ∧ ReadsT W A n l) ∧ Blk W w.heap.size [Value.int .i64 N, .int .i64 L, .slice A n c]) :=
    ((Held.from (Below.refl _ _) (Nat.le_refl _)).with (.readsT hl)).allocB [Value.int .i64 N, .int .i64 L, .slice A n c] 29
  have h23 : ∀ W, ReadsT W A n l → Gives 23 #[rec N L A n c] (.int .i64 0) W := fun W h' => by rw [← h]; exact rcheck_calls N L A n c l W h'
  have H23 := Lib.hid h23
  clear hl h23 h
  go_enter Try.func18, Try.ntmps18
  go_wp2_with fail
  change Held (w.alloc (.cells #[.int .i64 N, .int .i64 L, .slice A n c] 29)) _ at I
  generalize World.alloc _ _ = w1 at I ⊢
  have q1 := I.now.2.three
  go_upto_region 4 with (go_at_call 23; (with_reducible refine (Gives.c (H23.out _ I.now.1.2)).mono ?_); rintro e' w2 ⟨rfl, hb⟩; replace I := I.next hb; clear hb q1)
  go_wp2_with fail
  go_loopw [5, 6] (fun s5 s6 wr => ∃ (k m : Nat), k ≤ N ∧ s6 = .int .i64 k ∧ m = (posK L l k).length ∧ Aside (wr.ownsRow w2.heap.size 3 1 s5 m (nums (posK L l k))) ∧ Aside (Below w2.heap.size w2 wr)) (fun _ s6 _ => N - (intOf s6).toNat)
  case atStart => exact ⟨0, 0, Nat.zero_le _, rfl, rfl, World.ownsRow_nil w2 _ 3 1, Below.refl _ _⟩
  case round =>
    obtain ⟨k, m, hk, rfl, hm, HO, HB⟩ := hrel
    have q1 := (I.at HB.out).2.three
    by_cases hlt : k < N
    · have hlt' : (k : Int) < (N : Int) := by omega
      have hw1 : IntKind.i64.wrap ((k : Int) + 1) = (k : Int) + 1 := i64_in (by omega) (by omega)
      have hst : posK L l (k + 1) = if mis l k ≤ L then posK L l k ++ [(k : Int)] else posK L l k := rfl
      have hpl := posK_len L l k
      rw [← hm] at hpl
      generalize posK L l k = xs at HO hst hm
      have h49 : ∀ W, ReadsT W A n l → Gives 49 #[rec N L A n c, .int .i64 (k : Int)] (.int .i64 (mis l k : Int)) W := fun W h => rmistakes_calls N L A n c l k W h hn
      generalize mis l k = y at hst h49
      obtain ⟨dd, hdd⟩ : ∃ dd, decide ((y : Int) ≤ (L : Int)) = dd := ⟨_, rfl⟩
      have H49 := Lib.hid h49
      have HST := Lib.hid hst
      have HDD := Lib.hid hdd
      have HM := Lib.hid hm
      obtain ⟨w6, hw6⟩ : ∃ x, x = wr := ⟨_, rfl⟩
      subst hw6
      have hS : ∀ X, Below w6.heap.size w6 X → Below w6.heap.size w6 X ∧ (X.cell? ⟨w.heap.size, 0, none⟩ = some (.int .i64 (N : Int)) ∧ X.cell? ⟨w.heap.size, 1, none⟩ = some (.int .i64 (L : Int)) ∧ X.cell? ⟨w.heap.size, 2, none⟩ = some (.slice A n c)) := fun X hX => ⟨hX, (I.at (HB.out.trans (hX.mono HB.out.size))).2.three⟩
      have HSS := Lib.hid hS
      clear hS h49 hst hm
      go_upto_region 8 with fail
      clear q1
      go_cut [23] (fun s23 wx => s23 = .bool (decide ((y : Int) ≤ (L : Int))) ∧ Aside (Below w6.heap.size w6 wx))
      case first =>
        go_region_held3 (fun X => Below w6.heap.size w6 X ∧ (X.cell? ⟨w.heap.size, 0, none⟩ = some (.int .i64 (N : Int)) ∧ X.cell? ⟨w.heap.size, 1, none⟩ = some (.int .i64 (L : Int)) ∧ X.cell? ⟨w.heap.size, 2, none⟩ = some (.slice A n c)))
          (first
            | with_reducible exact HSS.out _ (Below.refl _ _).drew
            | with_reducible exact HSS.out _ HBY.out
            | fail)
          (first
            | (go_at_call 49; (with_reducible refine (Gives.c (H49.out _ (I.at (HB.out.trans ((Below.refl w6.heap.size w6).drew.mono HB.out.size))).1.2)).mono ?_); rintro e' wy ⟨rfl, hb⟩; have HBY := Lib.hid ((Below.refl w6.heap.size w6).drew.trans hb))
            | fail)
        all_goals
          go_wp2_with fail
          go_meet
          exact ⟨by simp, HBY.out⟩
      case rest =>
        obtain ⟨rfl, HB2⟩ := hcut
        clear HSS H49
        have HO2 := Lib.hid (own_later HO.out HB2.out)
        have HB3 := Lib.hid (HB.out.trans (HB2.out.mono HB.out.size))
        have hsz := HB3.out.size
        have hst := HST.out
        clear HO HB2 HB HST
        have hdd := HDD.out
        rw [hdd]
        cases dd with
        | true =>
          have hd := of_decide_eq_true hdd
          rw [if_pos (by omega)] at hst
          have HS := Lib.hid (show nums (posK L l (k + 1)) = nums xs ++ [.int .i64 (k : Int)] by rw [hst, nums_snoc])
          have HL := Lib.hid (show m + 1 = (posK L l (k + 1)).length by rw [hst, HM.out]; simp)
          clear hst hd hdd
          go_wp2_with (at_builtin; refine wpList_append_own _ rfl _ _ 31 rfl w2.heap.size 3 i0 (.int .i64 0) 1 8 Try.underlying31 hi0 hz0 hz1 hz2 rfl (by decide) _ _ _ rfl (HO2.out.alloc _) ⟨wc.heap.size, 0, none⟩ 1 1 [.int .i64 (k : Int)] rfl rfl (cells_new _ [.int .i64 (k : Int)] _ _ rfl) (by intro u hu; simp at hu; subst hu; rfl) ?c3 ?c4 ?c5 ?_)
          case c3 => unfold maxLen; omega
          case c4 => omega
          case c5 => simp; omega
          intro v' w4 hown' hgrow _
          have HO' := Lib.hid hown'
          have HB4 := Lib.hid ((HB3.out.alloc HB3.out.size _).grown hgrow (by simp; omega) (by intro j hj; exact own_base' HO2.out j hj))
          clear hown' hgrow
          go_wp2
          go_roundw
          case measure => simp [intOf]; omega
          case rel => exact ⟨k + 1, m + 1, by omega, by go_num, HL.out, (show Aside _ from by rw [HS.out]; exact HO'.out), HB4.out⟩
        | false =>
          have hd := of_decide_eq_false hdd
          rw [if_neg (by omega)] at hst
          have HST := Lib.hid hst
          clear hst hd hdd
          go_wp2_with fail
          go_roundw
          case measure => simp [intOf]; omega
          case rel => exact ⟨k + 1, m, by omega, by go_num, by rw [HST.out]; exact HM.out, (show Aside _ from by rw [HST.out]; exact HO2.out), HB3.out⟩
    · obtain rfl : N = k := by omega
      have hpl := posK_len L l N
      obtain ⟨A', c', e, hr⟩ := own_reads HO.out (by omega)
      subst e
      have HR := Lib.hid hr
      have HA := Lib.hid (I.at HB.out).1.1
      clear hr
      go_wp2_with fail
      go_returns
      exact ⟨A', m, c', rfl, HR.out, HA.out⟩

set_option maxRecDepth 100000 in
set_option maxHeartbeats 4000000 in
theorem rstate_calls {N L : Nat} (hN : N ≤ 16) (hL : L ≤ 2) (A : Option Addr) (n c : Nat) (l : List Tst) (w : World) (hl : ReadsT w A n l) (hn : n ≤ 1000) :
    Calls Try.prog 52 #[rec N L A n c] w fun e w' => ∃ B, e = .returned (.slice (some ⟨B, 0, none⟩) (L + 1) (L + 1)) ∧ Reads w' (some ⟨B, 0, none⟩) (L + 1) (stL L (stK L l N)) ∧ Below w.heap.size w w' := by
  have I : Held (w.alloc (.cells [Value.int .i64 N, .int .i64 L, .slice A n c].toArray 29)) (fun W => (Below w.heap.size w W ∧ ReadsT W A n l) ∧ Blk W w.heap.size [Value.int .i64 N, .int .i64 L, .slice A n c]) :=
    ((Held.from (Below.refl _ _) (Nat.le_refl _)).with (.readsT hl)).allocB [Value.int .i64 N, .int .i64 L, .slice A n c] 29
  obtain ⟨cs, hrw, hmk0⟩ := mk31 (n := L + 1) (by omega)
  have hmk : ∀ w : World, (Instr.makeSlice 31 (.int .i64 ((L : Int) + 1)) (.int .i64 ((L : Int) + 1))).run Try.prog w = .ok (.slice (some ⟨w.heap.size, 0, none⟩) (L + 1) (L + 1)) (w.alloc (.cells cs.toArray 3)) := fun w => by
    have := hmk0 w
    rwa [show ((L + 1 : Nat) : Int) = (L : Int) + 1 by omega] at this
  have HRW := Lib.hid hrw
  clear hl hmk0 hrw
  go_enter Try.func52, Try.ntmps52
  go_upto_region 1 with fail
  change Held (w.alloc (.cells #[.int .i64 N, .int .i64 L, .slice A n c] 29)) _ at I
  generalize World.alloc _ _ = w1 at I ⊢
  have q1 := I.now.2.three
  have k4 := HRW.out w1
  have hz4 : w.heap.size ≤ w1.heap.size := I.now.1.1.size
  have hb5 : Below w1.heap.size w1 (w1.alloc (.cells cs.toArray 3)) := (Below.refl _ _).alloc (Nat.le_refl _) _
  go_wp2_with fail
  generalize World.alloc _ _ = w5 at k4 hb5 ⊢
  obtain ⟨Bc, hBc⟩ : ∃ Bc, Bc = w1.heap.size := ⟨_, rfl⟩
  rw [← hBc] at k4 ⊢
  have hBc' : w1.heap.size ≤ Bc := by omega
  clear hBc hmk q1
  go_loopw [4] (fun s4 wr => ∃ t : Nat, t ≤ N ∧ s4 = .int .i64 t ∧ Aside (Rw wr Bc (L + 1) (fun i => (ctM L l t i : Int))) ∧ Aside (Below w1.heap.size w1 wr)) (fun s4 _ => N - (intOf s4).toNat)
  case atStart => exact ⟨0, Nat.zero_le _, rfl, k4.congr (fun i hi => by
    show ((St.at ⟨0, 0, 0⟩ (2 - (L - i)) : Nat) : Int) = 0
    have : 2 - (L - i) = 0 ∨ 2 - (L - i) = 1 ∨ 2 - (L - i) = 2 := by omega
    rcases this with e | e | e <;> rw [e] <;> rfl), hb5⟩
  case round =>
    obtain ⟨t, ht, rfl, HC, HB⟩ := hrel
    clear k4 hb5
    have J := I.next HB.out
    have q1 := J.now.2.three
    have hw1 : IntKind.i64.wrap ((t : Int) + 1) = (t : Int) + 1 := i64_in (by omega) (by omega)
    by_cases hlt : t < N
    · have hlt' : (t : Int) < (N : Int) := by omega
      have h49 : ∀ W, ReadsT W A n l → Gives 49 #[rec N L A n c, .int .i64 (t : Int)] (.int .i64 (mis l t : Int)) W := fun W h => rmistakes_calls N L A n c l t W h hn
      have H49 := Lib.hid h49
      clear h49
      by_cases hmk : mis l t ≤ L
      · have hhit : ∀ i, i < L + 1 → (ctM L l (t + 1) i : Int) = if i = mis l t then (ctM L l t (mis l t) : Int) + 1 else (ctM L l t i : Int) := fun i hi => ctM_hit hL hmk (by omega)
        have hcm := ctM_le L l t (mis l t)
        go_upto_region 6 with (go_at_call 49; (with_reducible refine (Gives.c (H49.out _ J.now.1.2)).mono ?_); rintro e' w6 ⟨rfl, hb⟩; have HB6 := Lib.hid hb; replace J := J.next hb; clear hb q1)
        have q1 := J.now.2.three
        have HC3 := Lib.hid (HC.out.later HB6.out)
        have HB3 := Lib.hid (HB.out.trans (HB6.out.mono HB.out.size))
        have r1 := HC3.out.cell (mis l t) (by omega)
        have f1 := HC3.out.free (mis l t)
        have zc := HC3.out.lt
        have HC4 := Lib.hid (HC3.out.set (g := fun i => (ctM L l (t + 1) i : Int)) (show mis l t < L + 1 by omega) (v := (ctM L l t (mis l t) : Int) + 1) hhit)
        clear hhit H49
        generalize mis l t = y at hmk r1 f1 HC4 hcm ⊢
        generalize ctM L l t y = z at r1 HC4 hcm
        have g1 : decide (y ≤ L) = true := decide_eq_true hmk
        have g4 : (y : Int) < (L : Int) + 1 := by omega
        have hw5 : IntKind.i64.wrap ((z : Int) + 1) = (z : Int) + 1 := i64_in (by omega) (by omega)
        have HB5 := Lib.hid (HB3.out.setCell (p := ⟨Bc, y, none⟩) hBc' (.int .i64 ((z : Int) + 1)))
        clear hcm
        go_wp2_with fail
        go_roundw
        case measure => simp [intOf]; omega
        case rel => exact ⟨t + 1, by omega, by go_num, HC4.out, HB5.out⟩
      · have HC4 := Lib.hid (HC.out.congr (g := fun i => (ctM L l (t + 1) i : Int)) (fun i _ => by rw [ctM_skip hmk]))
        go_upto_region 6 with (go_at_call 49; (with_reducible refine (Gives.c (H49.out _ J.now.1.2)).mono ?_); rintro e' w6 ⟨rfl, hb⟩; have HB6 := Lib.hid hb; replace J := J.next hb; clear hb q1)
        have q1 := J.now.2.three
        have HC5 := Lib.hid (HC4.out.later HB6.out)
        have HB3 := Lib.hid (HB.out.trans (HB6.out.mono HB.out.size))
        clear H49 HC4
        generalize mis l t = y at hmk ⊢
        have g1 : decide (y ≤ L) = false := decide_eq_false hmk
        go_wp2_with fail
        go_roundw
        case measure => simp [intOf]; omega
        case rel => exact ⟨t + 1, by omega, by go_num, HC5.out, HB3.out⟩
    · obtain rfl : N = t := by omega
      have hs := HC.out.reads (by omega)
      rw [ctM_lst hL] at hs
      have HS := Lib.hid hs
      have HA := Lib.hid J.now.1.1
      clear hs
      go_wp2_with fail
      go_ret
      exact ⟨Bc, rfl, HS.out, HA.out⟩

set_option maxRecDepth 100000 in
set_option maxHeartbeats 2000000 in
theorem rState_bad (N L : Int) (A : Option Addr) (n c : Nat) (l : List Tst) (w : World) (hl : ReadsT w A n l) (h : ¬ rchk N L l = 0) :
    Gives 20 #[rec N L A n c] (.tuple #[.slice none 0 0, .int .i64 (rchk N L l)]) w := by
  unfold Gives
  have I := ((Held.from (w0 := w) (Below.refl w.heap.size w) (Nat.le_refl _)).with (.readsT hl)).allocB [Value.int .i64 N, .int .i64 L, .slice A n c] 29
  have h23 : ∀ W, ReadsT W A n l → Gives 23 #[rec N L A n c] (.int .i64 (rchk N L l)) W := fun W h' => rcheck_calls N L A n c l W h'
  generalize rchk N L l = e at h h23 ⊢
  have H23 := Lib.hid h23
  have hne : (e != 0) = true := by simp [h]
  clear hl h23 h
  go_enter Try.func20, Try.ntmps20
  go_wp2_with fail
  change Held (w.alloc (.cells #[.int .i64 N, .int .i64 L, .slice A n c] 29)) _ at I
  generalize World.alloc _ _ = w1 at I ⊢
  have q1 := I.now.2.three
  go_wp2_with (go_at_call 23; (with_reducible refine (Gives.c (H23.out _ I.now.1.2)).mono ?_); rintro e' w2 ⟨rfl, hb⟩; replace I := I.next hb; clear hb q1)
  go_returns
  exact ⟨rfl, I.now.1.1⟩
set_option maxRecDepth 100000 in
set_option maxHeartbeats 2000000 in
theorem rState_good {N L : Nat} (hN : N ≤ 16) (hL : L ≤ 2) (A : Option Addr) (n c : Nat) (l : List Tst) (w : World) (hl : ReadsT w A n l) (h : rchk N L l = 0) (hn : n ≤ 1000) :
    Calls Try.prog 20 #[rec N L A n c] w fun e w' => ∃ A' c', e = .returned (.tuple #[.slice A' (L + 1) c', .int .i64 0]) ∧ Reads w' A' (L + 1) (stL L (stK L l N)) ∧ Below w.heap.size w w' := by
  have I := ((Held.from (w0 := w) (Below.refl w.heap.size w) (Nat.le_refl _)).with (.readsT hl)).allocB [Value.int .i64 (N : Int), .int .i64 (L : Int), .slice A n c] 29
  have h23 : ∀ W, ReadsT W A n l → Gives 23 #[rec N L A n c] (.int .i64 0) W := fun W h' => by rw [← h]; exact rcheck_calls N L A n c l W h'
  have h52 : ∀ W, ReadsT W A n l → Calls Try.prog 52 #[rec N L A n c] W _ := fun W h' => rstate_calls hN hL A n c l W h' hn
  have H23 := Lib.hid h23
  have H52 := Lib.hid h52
  clear hl h23 h h52
  go_enter Try.func20, Try.ntmps20
  go_wp2_with fail
  change Held (w.alloc (.cells #[.int .i64 (N : Int), .int .i64 (L : Int), .slice A n c] 29)) _ at I
  generalize World.alloc _ _ = w1 at I ⊢
  have q1 := I.now.2.three
  go_wp2_with (first
    | (go_at_call 23; (with_reducible refine (Gives.c (H23.out _ I.now.1.2)).mono ?_); rintro e' w2 ⟨rfl, hb⟩; replace I := I.next hb; clear hb q1; have q1 := I.now.2.three)
    | (go_at_call 52; (with_reducible refine (H52.out _ I.now.1.2).mono ?_); rintro e' w3 ⟨B, rfl, hr, hb⟩; replace I := (I.next hb).with (.reads hr); clear hb q1 hr))
  go_returns
  exact ⟨_, _, rfl, I.now.2, I.now.1.1.1⟩
end Go.Proofs.Ytpnkbjdeiedhlaa
