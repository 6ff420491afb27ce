/- Clone, State, Possible. -/
import Derived.Test.YtpnkbjdeiedhlaaLE
namespace Go.Proofs.Ytpnkbjdeiedhlaa
open Go.RowKit Go.Lib Go.Shelf
open St

theorem info3 : (Try.prog.info? 3).map (fun i => (i.zero, i.size, i.bytes)) = some (some (.int .i64 0), 1, 8) := by kernel_rfl
theorem und31 : Try.prog.underlying 31 = some (.slice 3) := by kernel_rfl
theorem run_eqnil (a : Addr) (n c : Nat) (w : World) : (binOp .eql 31 (.slice (some a) n c) (.slice none 0 0)).run Try.prog w = .ok (.bool false) w := by
  have h : ∀ d : Nat, (Op.equalIn (d + 1) 31 (.slice (some a) n c) (.slice none 0 0)).run Try.prog w = .ok false w := fun d => by
    simp [Op.equalIn, run_underlying und31]
  simp only [binOp]
  simp [Op.equal, Op.maxDepth, h 9999]
attribute [local go_sem] run_eqnil
theorem nums_at {l : List Int} {j : Nat} (h : j < l.length) : (nums l)[j]? = some (.int .i64 (l[j]?.getD 0)) := by
  simp [nums, List.getElem?_map, List.getElem?_eq_getElem h]
theorem nums_snoc (xs : List Int) (k : Int) : nums (xs ++ [k]) = nums xs ++ [.int .i64 k] := by simp [nums]

set_option maxRecDepth 100000 in
set_option maxHeartbeats 2000000 in
theorem clone_calls {b off m c : Nat} {xs : List Int} (w : World) (h : Reads w (some ⟨b, off, none⟩) m xs) (hm : m ≤ 100) :
    Calls Try.prog 51 #[.slice (some ⟨b, off, none⟩) m c] w fun e w' => (∃ v, e = .returned v ∧ w'.ownsRow w.heap.size 3 1 v m (nums xs)) ∧ Below w.heap.size w w' := by
  obtain ⟨i0, hi0, hz0, hz1, hz2⟩ := info_parts info3
  have HR := Lib.hid h
  clear h
  go_enter Try.func51, Try.ntmps51
  have hO : (w.alloc (.cells #[] 3)).ownsRow w.heap.size 3 1 (.slice (some ⟨w.heap.size, 0, none⟩) 0 0) 0 (nums []) := by
    exact ⟨rfl, .inr ⟨w.heap.size, 0, #[], rfl, Nat.le_refl _, World.alloc_heap_new w _, Nat.le_refl _, Nat.zero_le _, rfl, rfl⟩⟩
  have hx : ∀ j u, (nums xs)[j]? = some u → (w.alloc (.cells #[] 3)).cell? ((⟨b, off, none⟩ : Addr).add j) = some u := fun j u hu => by
    have hj : j < xs.length := by
      have := (List.getElem?_eq_some_iff.1 hu).1
      simpa [nums] using this
    rw [nums_at hj] at hu
    cases hu
    have hr := HR.out
    obtain ⟨b', o', e, hc⟩ := hr.2.2 (by rw [← hr.1]; omega)
    cases e
    have h1 := hc j (by rw [← hr.1]; exact hj)
    rw [WideShapes.add_plain, World.cell?_alloc_past (hn := World.block_lt_of_cell? w _ h1)]
    exact h1
  have HX := Lib.hid hx
  clear hx
  go_wp2_with (at_builtin; refine wpList_append_own _ rfl _ _ 31 rfl w.heap.size 3 i0 (.int .i64 0) 1 8 Try.underlying31 hi0 hz0 hz1 hz2 rfl (by decide) _ _ _ rfl hO ⟨b, off, none⟩ m c (nums xs) rfl (by simp [nums, HR.out.1]) HX.out (by intro u hu; obtain ⟨y, _, rfl⟩ := List.mem_map.1 hu; rfl) ?c3 ?c4 ?c5 ?_)
  case c3 => unfold maxLen; omega
  case c4 => omega
  case c5 => simp
  intro v' w7 hown' hgrow _
  have HO' := Lib.hid hown'
  have HB4 := Lib.hid (((Below.refl w.heap.size w).alloc (Nat.le_refl _) (.cells #[] 3)).grown hgrow (by simp) (by intro j hj; cases hj; exact Nat.le_refl _))
  clear hown' hgrow hO
  go_wp2
  go_ret
  exact ⟨⟨v', rfl, HO'.out⟩, HB4.out⟩

/-- The numbers of a state that a record with so many lies has. -/
def stL (L : Nat) (s : St) : List Int := [(s.a : Int), (s.b : Int), (s.c : Int)].drop (2 - L)
theorem stL_reads {W : World} {B : Nat} {s : St} {L : Nat} (h : Blk W B s.cs) (hL : L ≤ 2) : Reads W (some ⟨B, 2 - L, none⟩) (L + 1) (stL L s) := by
  have h0 := h.cell 0 _ rfl
  have h1 := h.cell 1 _ rfl
  have h2 := h.cell 2 _ rfl
  refine ⟨by simp [stL]; omega, by omega, fun _ => ⟨B, 2 - L, rfl, fun j hj => ?_⟩⟩
  have : L = 0 ∨ L = 1 ∨ L = 2 := by omega
  rcases this with rfl | rfl | rfl
  · obtain rfl : j = 0 := by omega
    exact h2
  · have : j = 0 ∨ j = 1 := by omega
    rcases this with rfl | rfl
    · exact h1
    · exact h2
  · have : j = 0 ∨ j = 1 ∨ j = 2 := by omega
    rcases this with rfl | rfl | rfl
    · exact h0
    · exact h1
    · exact h2

set_option maxRecDepth 100000 in
set_option maxHeartbeats 2000000 in
theorem State_bad (N L : Int) (A : Option Addr) (n c : Nat) (l : List Tst) (w : World) (hl : ReadsT w A n l) (h : ¬ rchk N L l = 0) :
    Gives 19 #[rec N L A n c] (.tuple #[.slice none 0 0, .int .i64 (rchk N L l)]) w := by
  unfold Gives
  have I : Held (w.alloc (.cells [Value.int .i64 N, .int .i64 L, .slice A n c].toArray 24)) (fun W => (Below w.heap.size w W ∧ ReadsT W A n l) ∧ Blk W w.heap.size [Value.int .i64 N, .int .i64 L, .slice A n c]) :=
    ((Held.from (Below.refl _ _) (Nat.le_refl _)).with (.readsT hl)).allocB [Value.int .i64 N, .int .i64 L, .slice A n c] 24
  have h22 : ∀ W, ReadsT W A n l → Gives 22 #[rec N L A n c] (.int .i64 (rchk N L l)) W := fun W h => check_calls N L A n c l W h
  generalize rchk N L l = e at h h22 ⊢
  have H22 := Lib.hid h22
  have hne : (e != 0) = true := by simp [h]
  clear hl h22 h
  go_enter Try.func19, Try.ntmps19
  go_wp2_with fail
  change Held (w.alloc (.cells #[.int .i64 N, .int .i64 L, .slice A n c] 24)) _ at I
  generalize World.alloc _ _ = w1 at I ⊢
  have q1 := I.now.2.three
  go_wp2_with (go_at_call 22; (with_reducible refine (Gives.c (H22.out _ I.now.1.2)).mono ?_); rintro e' w2 ⟨rfl, hb⟩; replace I := I.next hb; clear hb)
  go_returns
  exact ⟨rfl, I.now.1.1⟩

set_option maxRecDepth 100000 in
set_option maxHeartbeats 2000000 in
theorem State_good {N L : Nat} (hN : N ≤ 16) (hL : L ≤ 2) (A : Option Addr) (n c : Nat) (l : List Tst) (w : World) (hl : ReadsT w A n l) (h : rchk N L l = 0) (hn : n ≤ 1000) :
    Calls Try.prog 19 #[rec N L A n c] w fun e w' => ∃ A' c', e = .returned (.tuple #[.slice A' (L + 1) c', .int .i64 0]) ∧ Reads w' A' (L + 1) (stL L (stK L l N)) ∧ Below w.heap.size w w' := by
  have I : Held (w.alloc (.cells [Value.int .i64 N, .int .i64 L, .slice A n c].toArray 24)) (fun W => (Below w.heap.size w W ∧ ReadsT W A n l) ∧ Blk W w.heap.size [Value.int .i64 N, .int .i64 L, .slice A n c]) :=
    ((Held.from (Below.refl _ _) (Nat.le_refl _)).with (.readsT hl)).allocB [Value.int .i64 N, .int .i64 L, .slice A n c] 24
  have h22 : ∀ W, ReadsT W A n l → Gives 22 #[rec N L A n c] (.int .i64 0) W := fun W h' => by rw [← h]; exact check_calls N L A n c l W h'
  have H22 := Lib.hid h22
  have h50 : ∀ W, ReadsT W A n l → Gives 50 #[rec N L A n c] (stK L l N).v W := fun W h => state_calls hN hL A n c l W h hn
  generalize stK L l N = s at h50 ⊢
  have H50 := Lib.hid h50
  have hw1 : IntKind.i64.wrap (2 - (L : Int)) = ((2 - L : Nat) : Int) := by rw [i64_in (by omega) (by omega)]; omega
  obtain ⟨d, hd⟩ : ∃ d, d = 2 - L := ⟨_, rfl⟩
  rw [← hd] at hw1
  have i1 : (d : Int) ≤ 3 := by omega
  have i2 : ¬ 3 - d = 0 := by omega
  have i3 : ¬ 3 = d := by omega
  have i4 : 3 - d = L + 1 := by omega
  have hR : ∀ W, Blk W w.heap.size [Value.int .i64 N, .int .i64 L, .slice A n c] → True := fun _ _ => trivial
  have HD := Lib.hid hd
  clear hl h22 h50 h hR hd
  go_enter Try.func19, Try.ntmps19
  go_wp2_with fail
  change Held (w.alloc (.cells #[.int .i64 N, .int .i64 L, .slice A n c] 24)) _ at I
  generalize World.alloc _ _ = w1 at I ⊢
  have q1 := I.now.2.three
  go_upto_region 4 with (go_at_call 22; (with_reducible refine (Gives.c (H22.out _ I.now.1.2)).mono ?_); rintro e' w2 ⟨rfl, hb⟩; replace I := I.next hb; clear hb q1; have q1 := I.now.2.three)
  go_upto_region 5 with (go_at_call 50; (with_reducible refine (Gives.c (H50.out _ I.now.1.2)).mono ?_); rintro e' w3 ⟨rfl, hb⟩; replace I := (I.next hb).allocB s.cs 80; clear hb q1)
  change Held (w3.alloc (.cells #[.int .i64 (s.a : Int), .int .i64 (s.b : Int), .int .i64 (s.c : Int)] 80)) _ at I
  generalize World.alloc _ _ = w4 at I ⊢
  have q1 := I.now.1.2.three
  have hrd := stL_reads (L := L) I.now.2 hL
  rw [← HD.out] at hrd
  have HRD := Lib.hid hrd
  clear hrd
  go_wp2_with (go_at_call 51; (with_reducible refine (clone_calls _ HRD.out (by omega)).mono ?_); rintro e' w5 ⟨⟨v, rfl, ho⟩, hb⟩; replace I := I.next hb; have HO := Lib.hid ho; clear hb ho)
  go_returns
  obtain ⟨A', c', e, hr⟩ := own_reads HO.out (by omega)
  subst e
  exact ⟨A', c', rfl, hr, I.now.1.1.1⟩

/-- The tubes that can be blocked, among the first. -/
def posK (L : Nat) (l : List Tst) : Nat → List Int
  | 0 => []
  | k + 1 => if mis l k ≤ L then posK L l k ++ [(k : Int)] else posK L l k
theorem posK_len (L : Nat) (l : List Tst) (k : Nat) : (posK L l k).length ≤ k := by
  induction k with
  | zero => exact Nat.le_refl _
  | succ k ih =>
    unfold posK
    split
    · simp; omega
    · omega

set_option maxRecDepth 100000 in
set_option maxHeartbeats 2000000 in
theorem Possible_bad (N L : Int) (A : Option Addr) (n c : Nat) (l : List Tst) (w : World) (hl : ReadsT w A n l) (h : ¬ rchk N L l = 0) :
    Gives 17 #[rec N L A n c] (.tuple #[.slice none 0 0, .int .i64 (rchk N L l)]) w := by
  unfold Gives
  have I : Held (w.alloc (.cells [Value.int .i64 N, .int .i64 L, .slice A n c].toArray 24)) (fun W => (Below w.heap.size w W ∧ ReadsT W A n l) ∧ Blk W w.heap.size [Value.int .i64 N, .int .i64 L, .slice A n c]) :=
    ((Held.from (Below.refl _ _) (Nat.le_refl _)).with (.readsT hl)).allocB [Value.int .i64 N, .int .i64 L, .slice A n c] 24
  have h22 : ∀ W, ReadsT W A n l → Gives 22 #[rec N L A n c] (.int .i64 (rchk N L l)) W := fun W h => check_calls N L A n c l W h
  generalize rchk N L l = e at h h22 ⊢
  have H22 := Lib.hid h22
  have hne : (e != 0) = true := by simp [h]
  clear hl h22 h
  go_enter Try.func17, Try.ntmps17
  go_wp2_with fail
  change Held (w.alloc (.cells #[.int .i64 N, .int .i64 L, .slice A n c] 24)) _ at I
  generalize World.alloc _ _ = w1 at I ⊢
  have q1 := I.now.2.three
  go_wp2_with (go_at_call 22; (with_reducible refine (Gives.c (H22.out _ I.now.1.2)).mono ?_); rintro e' w2 ⟨rfl, hb⟩; replace I := I.next hb; clear hb)
  go_returns
  exact ⟨rfl, I.now.1.1⟩

set_option maxRecDepth 100000 in
set_option maxHeartbeats 4000000 in
theorem Possible_good {N L : Nat} (hN : N ≤ 16) (_ : L ≤ 2) (A : Option Addr) (n c : Nat) (l : List Tst) (w : World) (hl : ReadsT w A n l) (h : rchk N L l = 0) (hn : n ≤ 1000) :
    Calls Try.prog 17 #[rec N L A n c] w fun e w' => ∃ A' m c', e = .returned (.tuple #[.slice A' m c', .int .i64 0]) ∧ Reads w' A' m (posK L l N) ∧ Below w.heap.size w w' := by
  obtain ⟨i0, hi0, hz0, hz1, hz2⟩ := info_parts info3
  have hlen := hl.1
  have I : Held (w.alloc (.cells [Value.int .i64 N, .int .i64 L, .slice A n c].toArray 24)) (fun W => (Below w.heap.size w W ∧ ReadsT W A n l) ∧ Blk W w.heap.size [Value.int .i64 N, .int .i64 L, .slice A n c]) :=
    ((Held.from (Below.refl _ _) (Nat.le_refl _)).with (.readsT hl)).allocB [Value.int .i64 N, .int .i64 L, .slice A n c] 24
  have h22 : ∀ W, ReadsT W A n l → Gives 22 #[rec N L A n c] (.int .i64 0) W := fun W h' => by rw [← h]; exact check_calls N L A n c l W h'
  have H22 := Lib.hid h22
  clear hl h22 h
  go_enter Try.func17, Try.ntmps17
  go_wp2_with fail
  change Held (w.alloc (.cells #[.int .i64 N, .int .i64 L, .slice A n c] 24)) _ at I
  generalize World.alloc _ _ = w1 at I ⊢
  have q1 := I.now.2.three
  go_upto_region 4 with (go_at_call 22; (with_reducible refine (Gives.c (H22.out _ I.now.1.2)).mono ?_); rintro e' w2 ⟨rfl, hb⟩; replace I := I.next hb; clear hb q1; have q1 := I.now.2.three)
  go_wp2_with fail
  go_loopw [5, 14] (fun s5 s14 wr => ∃ (k m : Nat), k ≤ N ∧ s14 = .int .i64 k ∧ m = (posK L l k).length ∧ Aside (wr.ownsRow w2.heap.size 3 1 s5 m (nums (posK L l k))) ∧ Aside (Below w2.heap.size w2 wr)) (fun _ s14 _ => N - (intOf s14).toNat)
  case atStart => exact ⟨0, 0, Nat.zero_le _, rfl, rfl, World.ownsRow_nil w2 _ 3 1, Below.refl _ _⟩
  case round =>
    obtain ⟨k, m, hk, rfl, hm, HO, HB⟩ := hrel
    clear q1
    by_cases hlt : k < N
    · have hlt' : (k : Int) < (N : Int) := by omega
      have hw1 : IntKind.i64.wrap ((k : Int) + 1) = (k : Int) + 1 := i64_in (by omega) (by omega)
      have hst : posK L l (k + 1) = if mis l k ≤ L then posK L l k ++ [(k : Int)] else posK L l k := rfl
      have hpl := posK_len L l k
      rw [← hm] at hpl
      generalize posK L l k = xs at HO hst hm
      have h48 : ∀ W, ReadsT W A n l → Gives 48 #[rec N L A n c, .int .i64 (k : Int)] (.int .i64 (mis l k : Int)) W := fun W h => mistakes_calls N L A n c l k W h hn
      generalize mis l k = y at hst h48
      obtain ⟨dd, hdd⟩ : ∃ dd, decide ((y : Int) ≤ (L : Int)) = dd := ⟨_, rfl⟩
      have H48 := Lib.hid h48
      have HST := Lib.hid hst
      have HDD := Lib.hid hdd
      have HM := Lib.hid hm
      obtain ⟨w6, hw6⟩ : ∃ x, x = wr := ⟨_, rfl⟩
      subst hw6
      have hS : ∀ X, Below w6.heap.size w6 X → Below w6.heap.size w6 X ∧ (X.cell? ⟨w.heap.size, 0, none⟩ = some (.int .i64 (N : Int)) ∧ X.cell? ⟨w.heap.size, 1, none⟩ = some (.int .i64 (L : Int)) ∧ X.cell? ⟨w.heap.size, 2, none⟩ = some (.slice A n c)) := fun X hX => ⟨hX, (I.at (HB.out.trans (hX.mono HB.out.size))).2.three⟩
      have HSS := Lib.hid hS
      clear hS h48 hst hm
      go_upto_region 8 with fail
      go_cut [22] (fun s22 wx => s22 = .bool (decide ((y : Int) ≤ (L : Int))) ∧ Aside (Below w6.heap.size w6 wx))
      case first =>
        go_region_held3 (fun X => Below w6.heap.size w6 X ∧ (X.cell? ⟨w.heap.size, 0, none⟩ = some (.int .i64 (N : Int)) ∧ X.cell? ⟨w.heap.size, 1, none⟩ = some (.int .i64 (L : Int)) ∧ X.cell? ⟨w.heap.size, 2, none⟩ = some (.slice A n c)))
          (first
            | with_reducible exact HSS.out _ (Below.refl _ _).drew
            | with_reducible exact HSS.out _ HBY.out
            | fail)
          (first
            | (go_at_call 48; (with_reducible refine (Gives.c (H48.out _ (I.at (HB.out.trans ((Below.refl w6.heap.size w6).drew.mono HB.out.size))).1.2)).mono ?_); rintro e' wy ⟨rfl, hb⟩; have HBY := Lib.hid ((Below.refl w6.heap.size w6).drew.trans hb))
            | fail)
        all_goals
          go_wp2_with fail
          go_meet
          exact ⟨by simp, HBY.out⟩
      case rest =>
        obtain ⟨rfl, HB2⟩ := hcut
        clear HSS H48
        have HO2 := Lib.hid (own_later HO.out HB2.out)
        have HB3 := Lib.hid (HB.out.trans (HB2.out.mono HB.out.size))
        have hsz := HB3.out.size
        have hst := HST.out
        clear HO HB2 HB HST
        have hdd := HDD.out
        rw [hdd]
        cases dd with
        | true =>
          have hd := of_decide_eq_true hdd
          rw [if_pos (by omega)] at hst
          have HS := Lib.hid (show nums (posK L l (k + 1)) = nums xs ++ [.int .i64 (k : Int)] by rw [hst, nums_snoc])
          have HL := Lib.hid (show m + 1 = (posK L l (k + 1)).length by rw [hst, HM.out]; simp)
          clear hst hd hdd
          go_wp2_with (at_builtin; refine wpList_append_own _ rfl _ _ 31 rfl w2.heap.size 3 i0 (.int .i64 0) 1 8 Try.underlying31 hi0 hz0 hz1 hz2 rfl (by decide) _ _ _ rfl (HO2.out.alloc _) ⟨wc.heap.size, 0, none⟩ 1 1 [.int .i64 (k : Int)] rfl rfl (cells_new _ [.int .i64 (k : Int)] _ _ rfl) (by intro u hu; simp at hu; subst hu; rfl) ?c3 ?c4 ?c5 ?_)
          case c3 => unfold maxLen; omega
          case c4 => omega
          case c5 => simp; omega
          intro v' w4 hown' hgrow _
          have HO' := Lib.hid hown'
          have HB4 := Lib.hid ((HB3.out.alloc HB3.out.size _).grown hgrow (by simp; omega) (by intro j hj; exact own_base' HO2.out j hj))
          clear hown' hgrow
          go_wp2
          go_roundw
          case measure => simp [intOf]; omega
          case rel => exact ⟨k + 1, m + 1, by omega, by go_num, HL.out, (show Aside _ from by rw [HS.out]; exact HO'.out), HB4.out⟩
        | false =>
          have hd := of_decide_eq_false hdd
          rw [if_neg (by omega)] at hst
          have HST := Lib.hid hst
          clear hst hd hdd
          go_wp2_with fail
          go_roundw
          case measure => simp [intOf]; omega
          case rel => exact ⟨k + 1, m, by omega, by go_num, by rw [HST.out]; exact HM.out, (show Aside _ from by rw [HST.out]; exact HO2.out), HB3.out⟩
    · obtain rfl : k = N := by omega
      have hpl := posK_len L l k
      obtain ⟨A', c', e, hr⟩ := own_reads HO.out (by omega)
      subst e
      have HR := Lib.hid hr
      have HA := Lib.hid (I.at HB.out).1.1
      clear hr
      go_wp2_with fail
      go_returns
      exact ⟨A', m, c', rfl, HR.out, HA.out⟩
end Go.Proofs.Ytpnkbjdeiedhlaa
