/- StripPossible: a tube is possible just if at most as many answers as there are lies are mistakes with it: the call returns true for every input. -/
import Derived.Test.YtpnkbjdeiedhlaaNB
namespace Go.Proofs.Ytpnkbjdeiedhlaa
open Go.ChangeShapes Go.WideShapes Go.ChangeAt Go.RowKit Go.Lib Go.Shelf
open St

theorem tchk_valid {N : Int} : ∀ {l : List Tst}, (∀ x ∈ l, Valid N x.strip) → tchk N l = 0
  | [], _ => rfl
  | x :: l, h => by
    unfold tchk
    rw [if_pos (schk_iff.2 (h x (by simp)))]
    exact tchk_valid fun y hy => h y (by simp [hy])
theorem rchk_valid {N L : Nat} {l : List Tst} (hN : 1 ≤ N ∧ N ≤ 16) (hL : L ≤ 2) (hl : l.length ≤ 30) (h : ∀ x ∈ l, Valid N x.strip) : rchk N L l = 0 := by
  unfold rchk
  rw [if_neg (by omega), if_neg (by omega)]
  exact tchk_valid h
theorem madeL_valid {N : Nat} {l : List Nat} : ∀ x ∈ madeL N l, Valid N x.strip := by
  intro x hx
  unfold madeL at hx
  rw [List.mem_map] at hx
  obtain ⟨b, _, rfl⟩ := hx
  exact segK_valid _ _
theorem madeL_len (N : Nat) (l : List Nat) : (madeL N l).length ≤ 6 := by
  unfold madeL
  rw [List.length_map, List.length_take]
  omega
theorem made_at {N L : Nat} (hN : N ≤ 255) (hL : L ≤ 255) {A : Option Addr} {n c : Nat} {l : List Nat} (q : Nat) (m : Int) (hm : m = ((q + 1 : Nat) : Int)) (hq : 2 ≤ q ∧ q ≤ 14) (w : World) (hl : ReadsB w A n l) :
    Calls Try.prog 36 #[trial N L A n c, .int .i64 m] w fun e w' => ∃ A' k c', e = .returned (rec ((2 + N % q : Nat) : Int) ((L % 3 : Nat) : Int) A' k c') ∧ (ReadsT w' A' k (madeL (2 + N % q) l) ∧ k ≤ c' ∧ k ≤ 6) ∧ Below w.heap.size w w' := by
  subst hm
  exact made_calls hN hL hq w hl
theorem posK_prefix (L : Nat) (l : List Tst) {j k : Nat} (h : j ≤ k) : ∃ r, posK L l k = posK L l j ++ r := by
  obtain ⟨d, rfl⟩ := Nat.exists_eq_add_of_le h
  induction d with
  | zero => exact ⟨[], by simp⟩
  | succ d ih =>
    obtain ⟨r, hr⟩ := ih (by omega)
    rw [show j + (d + 1) = (j + d) + 1 by omega, show posK L l (j + d + 1) = if mis l ((j + d : Nat) : Int) ≤ L then posK L l (j + d) ++ [((j + d : Nat) : Int)] else posK L l (j + d) from rfl]
    split
    · exact ⟨r ++ [((j + d : Nat) : Int)], by rw [hr, List.append_assoc]⟩
    · exact ⟨r, hr⟩
theorem posK_at {L : Nat} {l : List Tst} {t N : Nat} (ht : t < N) (h : mis l t ≤ L) : (posK L l t).length < (posK L l N).length ∧ (posK L l N)[(posK L l t).length]?.getD 0 = (t : Int) ∧ (posK L l (t + 1)).length = (posK L l t).length + 1 := by
  have e : posK L l (t + 1) = posK L l t ++ [(t : Int)] := by
    show (if mis l t ≤ L then _ else _) = _
    rw [if_pos h]
  obtain ⟨r, hr⟩ := posK_prefix L l (show t + 1 ≤ N by omega)
  rw [hr, e]
  refine ⟨by simp, ?_, by simp⟩
  rw [List.append_assoc, List.getElem?_append_right (Nat.le_refl _)]
  simp
theorem posK_skip {L : Nat} {l : List Tst} {t : Nat} (h : ¬ mis l t ≤ L) : posK L l (t + 1) = posK L l t := by
  show (if mis l t ≤ L then _ else _) = _
  rw [if_neg h]
/-- How many tubes below t have i mistakes. -/
def ctM (L : Nat) (l : List Tst) (t i : Nat) : Nat := (stK L l t).at (2 - (L - i))
theorem ctM_hit {L : Nat} (hL : L ≤ 2) {l : List Tst} {t : Nat} (h : mis l t ≤ L) {i : Nat} (hi : i ≤ L) : (ctM L l (t + 1) i : Int) = if i = mis l t then (ctM L l t (mis l t) : Int) + 1 else (ctM L l t i : Int) := by
  unfold ctM
  rw [stK_xF]
  unfold xF
  rw [if_pos h, at_put _ (by omega) (by omega)]
  by_cases e : i = mis l t
  · rw [e, if_pos rfl, if_pos rfl]; omega
  · rw [if_neg e, if_neg (by omega)]; rfl
theorem ctM_skip {L : Nat} {l : List Tst} {t : Nat} (h : ¬ mis l t ≤ L) (i : Nat) : ctM L l (t + 1) i = ctM L l t i := by
  unfold ctM
  rw [stK_xF]
  unfold xF
  rw [if_neg h]
theorem ctM_le (L : Nat) (l : List Tst) (t i : Nat) : ctM L l t i ≤ t := Nat.le_trans (at_tubes _ _) (stK_tubes L l t)
theorem ctM_lst {L : Nat} (hL : L ≤ 2) (l : List Tst) (N : Nat) : lst (L + 1) (fun i => (ctM L l N i : Int)) = stL L (stK L l N) := by
  have : L = 0 ∨ L = 1 ∨ L = 2 := by omega
  rcases this with rfl | rfl | rfl <;> rfl

set_option maxRecDepth 1000000 in
set_option maxHeartbeats 8000000 in
theorem possible_law {N L : Nat} (hN : N ≤ 255) (hL : L ≤ 255) {A : Option Addr} {n c : Nat} {l : List Nat} (w : World) (hl : ReadsB w A n l) : Gives 9 #[trial N L A n c] (.bool true) w := by
  unfold Gives
  have I0 := ((Held.from (w0 := w) (Below.refl w.heap.size w) (Nat.le_refl _)).with (.readsB hl)).alloc (.cells #[.int .u8 (N : Int), .int .u8 (L : Int), .slice A n c] 53)
  have h36 : ∀ W, ReadsB W A n l → _ := fun W h => made_at (N := N) (L := L) hN hL (A := A) (n := n) (c := c) (l := l) 5 6 (by rfl) (by omega) W h
  have hN6 : 1 ≤ 2 + N % 5 ∧ 2 + N % 5 ≤ 16 := by omega
  have hL2 : L % 3 ≤ 2 := by omega
  have hv : ∀ x ∈ madeL (2 + N % 5) l, Valid (2 + N % 5 : Nat) x.strip := madeL_valid
  have hlen := madeL_len (2 + N % 5) l
  generalize madeL (2 + N % 5) l = ts at h36 hv hlen
  generalize 2 + N % 5 = M at h36 hv hN6
  generalize L % 3 = K at h36 hL2
  have hrc := rchk_valid hN6 hL2 (by omega) hv
  have H36 := Lib.hid h36
  have HRC := Lib.hid hrc
  clear hl h36 hv hrc
  obtain ⟨cs, hrw, hmk0⟩ := mk31 (n := K + 1) (by omega)
  have hmk : ∀ w : World, (Instr.makeSlice 31 (.int .i64 ((K : Int) + 1)) (.int .i64 ((K : Int) + 1))).run Try.prog w = .ok (.slice (some ⟨w.heap.size, 0, none⟩) (K + 1) (K + 1)) (w.alloc (.cells cs.toArray 3)) := fun w => by
    have := hmk0 w
    rwa [show ((K + 1 : Nat) : Int) = (K : Int) + 1 by omega] at this
  have HRW := Lib.hid hrw
  clear hmk0 hrw
  go_enter Try.func9, Try.ntmps9
  go_upto_region 1 with fail
  have q0 : (w.alloc (.cells #[.int .u8 (N : Int), .int .u8 (L : Int), .slice A n c] 53)).cell? ⟨w.heap.size, 0, none⟩ = some (.int .u8 (N : Int)) := by simp
  clear q0
  generalize hw0 : World.alloc _ _ = w0 at I0 ⊢
  have k0 : Blk w0 w.heap.size [.int .u8 (N : Int), .int .u8 (L : Int), .slice A n c] := by rw [← hw0]; exact Blk.new w [.int .u8 (N : Int), .int .u8 (L : Int), .slice A n c] 53
  clear hw0
  have q0 := k0.three
  go_upto_region 2 with (go_at_call 36; (with_reducible refine (H36.out _ I0.now.2).mono ?_); rintro e w1 ⟨A1, k, c1, rfl, ⟨hr, hkc, hk6⟩, hb⟩; have I := ((I0.next hb).with (.readsT hr)).allocB [.int .i64 (M : Int), .int .i64 (K : Int), .slice A1 k c1] 24; clear hb hr I0 q0 k0)
  change Held (w1.alloc (.cells #[.int .i64 (M : Int), .int .i64 (K : Int), .slice A1 k c1] 24)) _ at I
  obtain ⟨Br, hBr⟩ : ∃ Br, Br = w1.heap.size := ⟨_, rfl⟩
  rw [← hBr] at I
  generalize hw2 : World.alloc _ _ = w2 at I ⊢
  clear hw2
  rw [← hBr]
  clear hBr
  have h17 : ∀ W, ReadsT W A1 k ts → Calls Try.prog 17 #[rec (M : Int) (K : Int) A1 k c1] W fun e w' => ∃ A' m c', e = .returned (.tuple #[.slice A' m c', .int .i64 0]) ∧ Reads w' A' m (posK K ts M) ∧ Below W.heap.size W w' := fun W h => Possible_good hN6.2 hL2 A1 k c1 ts W h HRC.out (by omega)
  have h19 : ∀ W, ReadsT W A1 k ts → Calls Try.prog 19 #[rec (M : Int) (K : Int) A1 k c1] W fun e w' => ∃ A' c', e = .returned (.tuple #[.slice A' (K + 1) c', .int .i64 0]) ∧ Reads w' A' (K + 1) (stL K (stK K ts M)) ∧ Below W.heap.size W w' := fun W h => State_good hN6.2 hL2 A1 k c1 ts W h HRC.out (by omega)
  have H17 := Lib.hid h17
  have H19 := Lib.hid h19
  clear h17 h19 H36
  have q1 := I.now.2.three
  go_upto_region 3 with (go_at_call 17; (with_reducible refine (H17.out _ I.now.1.2).mono ?_); rintro e w3 ⟨pA, pm, pc, rfl, hr, hb⟩; replace I := (I.next hb).with (.reads hr); clear hb hr q1; have q1 := I.now.1.2.three)
  have e1 : (((K + 1 : Nat) : Int) != (K : Int) + 1) = false := by simp
  go_upto_region 7 with (go_at_call 19; (with_reducible refine (H19.out _ I.now.1.1.2).mono ?_); rintro e w4 ⟨sA, sc, rfl, hr, hb⟩; replace I := (I.next hb).with (.reads hr); clear hb hr q1; have q1 := I.now.1.1.2.three)
  clear e1 H17 H19
  have z4 := I.now.1.1.2.lt
  have hpl := I.now.1.2.1
  have k4 := HRW.out w4
  have I4 := (I.alloc (.cells cs.toArray 3))
  have hsz4 : w.heap.size ≤ w4.heap.size := I.now.1.1.1.1.1.size
  have hz5 : w4.heap.size < (w4.alloc (.cells cs.toArray 3)).heap.size := by simp
  have hb5 : Below w4.heap.size w4 (w4.alloc (.cells cs.toArray 3)) := (Below.refl _ _).alloc (Nat.le_refl _) _
  go_upto_region 8 with fail
  clear I4
  generalize World.alloc _ _ = w5 at k4 hz5 hb5 ⊢
  obtain ⟨Bc, hBc⟩ : ∃ Bc, Bc = w4.heap.size := ⟨_, rfl⟩
  rw [← hBc] at k4 hz5 ⊢
  have hBc' : w4.heap.size ≤ Bc := by omega
  clear hBc hmk q1
  go_wp2_with fail
  go_loopw [8, 10] (fun s8 s10 wr => ∃ t : Nat, t ≤ M ∧ s10 = .int .i64 t ∧ s8 = .int .i64 ((posK K ts t).length : Int) ∧ Aside (Rw wr Bc (K + 1) (fun i => (ctM K ts t i : Int))) ∧ Aside (Below w4.heap.size w4 wr)) (fun _ s10 _ => M - (intOf s10).toNat)
  case atStart => exact ⟨0, Nat.zero_le _, rfl, rfl, k4.congr (fun i hi => by
    show ((St.at ⟨0, 0, 0⟩ (2 - (K - i)) : Nat) : Int) = 0
    have : 2 - (K - i) = 0 ∨ 2 - (K - i) = 1 ∨ 2 - (K - i) = 2 := by omega
    rcases this with e | e | e <;> rw [e] <;> rfl), hb5⟩
  case round =>
    obtain ⟨t, ht, rfl, rfl, HC, HB⟩ := hrel
    clear k4 hb5
    have J := I.next HB.out
    have q1 := J.now.1.1.2.three
    have hw1 : IntKind.i64.wrap ((t : Int) + 1) = (t : Int) + 1 := i64_in (by omega) (by omega)
    by_cases hlt : t < M
    · have hlt' : (t : Int) < (M : Int) := by omega
      obtain ⟨w6, hw6⟩ : ∃ x, x = wr := ⟨_, rfl⟩
      subst hw6
      have hkl : ts.length = k := I.now.1.1.1.2.1
      go_wp2_with fail
      clear q1
      go_loopw [53, 11] (fun s53 s11 wr => ∃ j : Nat, j ≤ k ∧ s53 = .int .i64 j ∧ s11 = .int .i64 ((ts.take j).countP (isM t) : Int) ∧ Aside (Below w6.heap.size w6 wr)) (fun s53 _ _ => k - (intOf s53).toNat)
      case atStart => exact ⟨0, Nat.zero_le _, rfl, by simp, Below.refl _ _⟩
      case round =>
        obtain ⟨j, hj, rfl, rfl, HB2⟩ := hrel
        have hw2 : IntKind.i64.wrap ((j : Int) + 1) = (j : Int) + 1 := i64_in (by omega) (by omega)
        by_cases hlt2 : j < k
        · have hlt2' : (j : Int) < (k : Int) := by omega
          have hcl : (ts.take j).countP (isM t) ≤ k := Nat.le_trans List.countP_le_length (by simp; omega)
          have hst := mis_step (l := ts) (k := j) (t := (t : Int)) (by omega)
          generalize (ts.take j).countP (isM t) = q at hcl hst ⊢
          have hw3 : IntKind.i64.wrap ((q : Int) + 1) = (q : Int) + 1 := i64_in (by omega) (by omega)
          have J2 := J.next HB2.out
          obtain ⟨b, off, e, hc⟩ := J2.now.1.1.1.2.2.2 (by omega)
          subst e
          obtain ⟨⟨B, m, c2, h1, h2, h3⟩, h4⟩ := hc j hlt2
          generalize ts[j]?.getD ⟨[], false⟩ = x at h2 h4 hst
          obtain ⟨xs, xa⟩ := x
          dsimp only at h2 h4
          obtain ⟨dd, hdd⟩ : ∃ dd, decide ((t : Int) ∈ xs) = dd := ⟨_, rfl⟩
          rw [show isM t ⟨xs, xa⟩ = (dd != xa) from by rw [← hdd]; rfl] at hst
          have h43 : ∀ W, Reads W B m xs → Quiet 43 #[.slice B m c2, .int .i64 (t : Int)] (.bool dd) W := fun W h => by rw [← hdd]; exact has_calls B m c2 xs t W h
          have H43 := Lib.hid h43
          have HST := Lib.hid hst
          replace J2 := ((Held.from (b := w6.heap.size) HB2.out HB2.out.size).with (.reads h2)).allocB [.slice B m c2, .bool xa] 66
          clear hc h43 hdd hst h2 h3
          go_upto_region 15 with fail
          change Held (wr.alloc (.cells #[.slice B m c2, .bool xa] 66)) _ at J2
          generalize World.alloc _ _ = w7 at J2 ⊢
          have q7 := J2.now.2.two
          have HJ := Lib.hid J2
          clear J2 h1 h4
          have hS : ∀ X, Below w7.heap.size w7 X → Below w7.heap.size w7 X ∧ (X.cell? ⟨wr.heap.size, 0, none⟩ = some (.slice B m c2) ∧ X.cell? ⟨wr.heap.size, 1, none⟩ = some (.bool xa)) := fun X hX => ⟨hX, (HJ.out X hX).2.two⟩
          have HS := Lib.hid hS
          clear hS q7
          go_cut [63] (fun s63 wx => s63 = .bool (dd != xa) ∧ Aside (Below w7.heap.size w7 wx))
          case first =>
            go_region_held3 (fun X => Below w7.heap.size w7 X ∧ (X.cell? ⟨wr.heap.size, 0, none⟩ = some (.slice B m c2) ∧ X.cell? ⟨wr.heap.size, 1, none⟩ = some (.bool xa)))
              (first
                | with_reducible exact HS.out _ (Below.refl _ _)
                | with_reducible exact HS.out _ (Below.refl _ _).drew
                | fail)
              (first
                | (go_at_call 43; (with_reducible refine (Quiet.c (H43.out _ (HJ.out.at (Below.refl _ _).drew).1.2)).mono ?_); rintro e' wy ⟨rfl, rfl⟩)
                | fail)
            all_goals
              go_wp2_with fail
              go_meet
              exact ⟨rfl, (Below.refl _ _).drew⟩
          case rest =>
            obtain ⟨rfl, HB3⟩ := hcut
            have HB4 := Lib.hid ((HJ.out.at HB3.out).1.1)
            clear HS H43
            cases hm : (dd != xa) with
            | true =>
              have hst := HST.out
              rw [hm] at hst
              have HST2 := Lib.hid hst
              clear hst
              go_wp2_with fail
              go_roundw
              case measure => simp [intOf]; omega
              case rel => exact ⟨j + 1, by omega, by go_num, by rw [HST2.out]; rfl, HB4.out⟩
            | false =>
              have hst := HST.out
              rw [hm] at hst
              have HST2 := Lib.hid hst
              clear hst
              go_wp2_with fail
              go_roundw
              case measure => simp [intOf]; omega
              case rel => exact ⟨j + 1, by omega, by go_num, by rw [HST2.out]; rfl, HB4.out⟩
        · obtain rfl : k = j := by omega
          have e : (ts.take k).countP (isM t) = mis ts t := by rw [← hkl, List.take_length]; rfl
          rw [e]
          have hms := mis_le ts t
          have HB3 := Lib.hid (HB.out.trans (HB2.out.mono HB.out.size))
          have J3 := I.next HB3.out
          have HC3 := Lib.hid (HC.out.later HB2.out)
          have q1 := J3.now.1.1.2.three
          clear J
          by_cases hmk : mis ts t ≤ K
          · obtain ⟨p1, p2, p3⟩ := posK_at (L := K) (l := ts) hlt hmk
            have hhit : ∀ i, i < K + 1 → (ctM K ts (t + 1) i : Int) = if i = mis ts t then (ctM K ts t (mis ts t) : Int) + 1 else (ctM K ts t i : Int) := fun i hi => ctM_hit hL2 hmk (by omega)
            have hcm := ctM_le K ts t (mis ts t)
            have r1 := HC3.out.cell (mis ts t) (by omega)
            have f1 := HC3.out.free (mis ts t)
            have zc := HC3.out.lt
            have HC4 := Lib.hid (HC3.out.set (g := fun i => (ctM K ts (t + 1) i : Int)) (show mis ts t < K + 1 by omega) (v := (ctM K ts t (mis ts t) : Int) + 1) hhit)
            obtain ⟨bp, op, ep, hcp⟩ := J3.now.1.2.2.2 (by omega)
            subst ep
            have q2 := hcp (posK K ts t).length (by omega)
            rw [p2] at q2
            have HP3 := Lib.hid p3
            rw [hpl] at p1
            clear hcp p2 p3 hhit
            generalize (posK K ts t).length = pk at q2 p1 HP3 ⊢
            generalize mis ts t = y at hmk r1 f1 HC4 hcm hms
            generalize ctM K ts t y = z at r1 HC4 hcm
            have g1 : ¬ (K : Int) < (y : Int) := by omega
            have g2 : decide (pm ≤ pk) = false := decide_eq_false (by omega)
            have g3 : (pk : Int) < (pm : Int) := by omega
            have g4 : (y : Int) < (K : Int) + 1 := by omega
            have g5 : ((t : Int) != (t : Int)) = false := by simp
            have hw4 : IntKind.i64.wrap ((pk : Int) + 1) = (pk : Int) + 1 := by have := hpl; have := posK_len K ts M; exact i64_in (by omega) (by omega)
            have hw5 : IntKind.i64.wrap ((z : Int) + 1) = (z : Int) + 1 := i64_in (by omega) (by omega)
            have HB5 := Lib.hid (HB3.out.setCell (p := ⟨Bc, y, none⟩) hBc' (.int .i64 ((z : Int) + 1)))
            clear hmk hcm hms p1
            go_wp2_with fail
            go_roundw
            case measure => simp [intOf]; omega
            case rel => exact ⟨t + 1, by omega, by go_num, by rw [HP3.out]; go_num, HC4.out, HB5.out⟩
          · have g1 : (K : Int) < (mis ts t : Int) := by omega
            have HC4 := Lib.hid (HC3.out.congr (g := fun i => (ctM K ts (t + 1) i : Int)) (fun i _ => by rw [ctM_skip hmk]))
            have HP3 := Lib.hid (posK_skip hmk)
            clear hmk
            generalize mis ts t = y at g1
            go_wp2_with fail
            go_roundw
            case measure => simp [intOf]; omega
            case rel => exact ⟨t + 1, by omega, by go_num, by rw [HP3.out], HC4.out, HB3.out⟩
    · obtain rfl : M = t := by omega
      have hs := HC.out.reads (by omega)
      rw [ctM_lst hL2] at hs
      have g1 : ((pm : Int) == (pm : Int)) = true := by simp
      rw [hpl]
      have J2 := J.with (.reads hs)
      have h21 : ∀ W, Reads W sA (K + 1) (stL K (stK K ts M)) → Reads W (some ⟨Bc, 0, none⟩) (K + 1) (stL K (stK K ts M)) → Gives 21 #[.slice sA (K + 1) sc, .slice (some ⟨Bc, 0, none⟩) (K + 1) (K + 1)] (.bool true) W := fun W h1 h2 => by
        have := numbers_calls sA (some ⟨Bc, 0, none⟩) (K + 1) (K + 1) sc (K + 1) _ _ W h1 h2
        rwa [decide_eq_true rfl] at this
      have H21 := Lib.hid h21
      clear h21 hs J I HC HB hlt hpl
      go_wp2_with (first
        | (go_at_call 21; (with_reducible refine (Gives.c (H21.out _ J2.now.1.2 J2.now.2)).mono ?_); rintro e w8 ⟨rfl, hb⟩; replace J2 := J2.next hb; clear hb)
        | (go_at_call 15; (with_reducible refine (Gives.c (works_calls _)).mono ?_); rintro e w9 ⟨rfl, hb⟩; replace J2 := J2.next hb; clear hb))
      go_ret
      exact ⟨rfl, J2.now.1.1.1.1.1.1⟩

theorem stripPossible_own : ownKnob Try.prog.godebug = none := by kernel_rfl

set_option maxRecDepth 100000 in
theorem stripPossible_lifted (os : Os) (started : os.Started) (H : Type) (enc : TypeId × Value → H) :
    ReturnsInHanded {} Try.checked os 9 .any (Rows.stripPossibleSpec.pre6 enc Try.prog Try.f9 Rows.stripPossibleRow.domain false) (Rows.stripPossibleSpec.post enc Try.prog Try.f9 false true false false) := by
  refine returnsInHanded_of_change (C := Try.checked) stripPossible_own started (by kernel_rfl) Try.func9
    (ChangeSpec.witness6 (enc := enc) (C := Try.checked) false ⟨#[], #[.agg #[.int .u8 0, .int .u8 0, .slice none 0 0]], []⟩ 8 (by kernel_rfl) (by kernel_rfl) (by kernel_rfl) (by kernel_rfl)) ?_
  intro W base args ds gs before hval0 hW hcnd _
  have hval : ∀ (j : Nat) t v, Try.f9.params[j]? = some t → args[j]? = some v → Value.okWide Try.prog W .any base t v := hval0
  have hW' := hW
  obtain ⟨p, q, hA, hV, rfl, hfz, hnd⟩ := hW
  rw [Try.params9] at hA hval
  obtain ⟨v1, l1_, d1, ds1, p1, q1, e1, rfl, rfl, h1, hA⟩ := trodAll_cons hA
  obtain ⟨rfl, rfl, rfl⟩ := trodAll_nil hA
  obtain ⟨rfl, rfl⟩ := trodVars_none hV
  obtain rfl : args = #[v1] := by cases args; simp_all
  obtain ⟨N0, L0, A0, n0, c0, l0, rfl, hNL0, hl0⟩ := trial_arg (hval 0 53 v1 rfl rfl) h1
  refine (Gives.c (possible_law hNL0.1 hNL0.2 W hl0)).mono fun e W' ⟨he, hb⟩ => ?_
  subst he
  exact ⟨_, rfl, post_true hW' rfl rfl rfl (by decide) hb⟩

theorem stripPossible_over : Rows.stripPossibleRow.holds Try.pinned (OpenSpec.ofChange Rows.stripPossibleSpec) :=
  OpenClaim.holds_of_wide 9 Try.f9 rfl rfl rfl rfl rfl rfl rfl ⟨rfl, rfl, rfl, rfl, rfl⟩ rfl rfl rfl rfl rfl (by kernel_rfl) Try.func9 (by kernel_rfl)
    (of_decide_eq_true (by kernel_rfl)) (by unfold Func.isWrapper; first | (rw [if_pos (by decide +kernel)]; kernel_rfl) | (rw [if_neg (by decide +kernel)]; exact ⟨rfl, rfl⟩))
    (fun os started H enc _ => stripPossible_lifted os started H enc)

/-- StripPossible returns true. -/
theorem stripPossible_holds : Rows.StripPossibleSaid := stripPossible_over
#print axioms stripPossible_holds
end Go.Proofs.Ytpnkbjdeiedhlaa
