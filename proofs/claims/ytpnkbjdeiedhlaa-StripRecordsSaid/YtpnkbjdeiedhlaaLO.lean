/- numbers, Table. -/
import Derived.Test.YtpnkbjdeiedhlaaLN
namespace Go.Proofs.Ytpnkbjdeiedhlaa
open Go.RowKit Go.Lib Go.Shelf
open St


theorem numbers_calls (A B : Option Addr) (n m ca cb : Nat) (a b : List Int) (w : World) (ha : Reads w A n a) (hb : Reads w B m b) :
    Gives 21 #[.slice A n ca, .slice B m cb] (.bool (decide (a = b))) w := by
  unfold Gives
  have h1 := ha.1
  have h2 := hb.1
  have h3 := ha.2.1
  generalize hd : decide (a = b) = d
  by_cases hne : n = m
  · subst hne
    have HA := Lib.hid ha
    have HB := Lib.hid hb
    have HD := Lib.hid hd
    have hneq : (((n : Int)) != n) = false := by simp
    clear ha hb hd
    go_enter Try.func21, Try.ntmps21
    go_wp2
    go_loopw [5] (fun i wr => ∃ k : Nat, k ≤ n ∧ i = .int .i64 k ∧ Aside (∀ j, j < k → a[j]?.getD 0 = b[j]?.getD 0) ∧ Aside (Below w.heap.size w wr))
      (fun i _ => n - (intOf i).toNat)
    case atStart => exact ⟨0, Nat.zero_le _, rfl, fun j hj => by omega, Below.refl _ _⟩
    case round =>
      obtain ⟨k, hk, rfl, HQ, HW⟩ := hrel
      by_cases hlt : k < n
      · have hlt' : (k : Int) < (n : Int) := by omega
        have hw2 : IntKind.i64.wrap ((k : Int) + 1) = (k : Int) + 1 := by rw [i64_w]; exact w64_in (by omega) (by omega)
        have ra := HA.out.later HW.out
        have rb := HB.out.later HW.out
        obtain ⟨ba, oa, rfl, ca⟩ := ra.2.2 (by omega)
        obtain ⟨bb, ob, rfl, cb⟩ := rb.2.2 (by omega)
        have ea := ca k hlt
        have eb := cb k hlt
        clear ca cb ra rb
        generalize hu : a[k]?.getD 0 = u at ea
        generalize hv : b[k]?.getD 0 = v at eb
        have HU := Lib.hid hu
        have HV := Lib.hid hv
        clear hu hv
        by_cases huv : u = v
        · have e1 : (u != v) = false := by simp [huv]
          have HE := Lib.hid huv
          clear huv
          go_wp2
          go_quiet (fail)
          go_wp2
          go_roundw
          case measure => simp [intOf]; omega
          case rel =>
            refine ⟨k + 1, by omega, by go_num, ?_, below_drewN' HW.out _⟩
            intro j hj
            by_cases hjk : j = k
            · subst hjk; rw [HU.out, HV.out]; exact HE.out
            · exact HQ.out j (by omega)
        · have e1 : (u != v) = true := by simp [huv]
          have hdf : d = false := by
            rw [← HD.out, decide_eq_false_iff_not]
            intro hab
            apply huv
            rw [← HU.out, ← HV.out, hab]
          subst hdf
          clear huv
          go_wp2
          go_quiet (fail)
          go_wp2
          go_ret
          exact ⟨rfl, below_drewN' HW.out _⟩
      · obtain rfl : k = n := by omega
        have hdt : d = true := by
          rw [← HD.out, decide_eq_true_eq]
          apply List.ext_getElem (by omega)
          intro j hj1 hj2
          have := HQ.out j (by omega)
          rw [List.getElem?_eq_getElem hj1, List.getElem?_eq_getElem hj2] at this
          exact this
        subst hdt
        go_wp2
        go_ret
        exact ⟨rfl, HW.out⟩
  · have hdf : d = false := by
      rw [← hd, decide_eq_false_iff_not]
      intro hab
      rw [hab] at h1
      omega
    subst hdf
    have hneq : (((n : Int)) != m) = true := bne_iff_ne.2 (by omega)
    clear ha hb hd
    go_enter Try.func21, Try.ntmps21
    go_wp2
    go_ret
    exact ⟨rfl, Below.refl _ _⟩

/-- n tubes without a mistake, where so many lies are borne. -/
def oneS (L n : Nat) : St := if L = 0 then ⟨0, 0, n⟩ else if L = 1 then ⟨0, n, 0⟩ else ⟨n, 0, 0⟩
theorem oneS_tubes (L n : Nat) : (oneS L n).tubes = n := by
  unfold oneS tubes
  split
  · simp
  · split <;> simp
theorem oneS_cs {L n : Nat} (hL : L ≤ 2) : [Value.int .i64 0, .int .i64 0, .int .i64 0].set (2 - L) (.int .i64 (n : Int)) = (oneS L n).cs := by
  have : L = 0 ∨ L = 1 ∨ L = 2 := by omega
  rcases this with rfl | rfl | rfl <;> rfl

set_option maxRecDepth 100000 in
set_option maxHeartbeats 2000000 in
theorem needs1_calls {L n : Nat} (hL : L ≤ 2) (hn : n ≤ 16) (Bl : Nat) (w : World) (hl : Hp w Bl [.int .i64 (L : Int)] 3) : Gives 75 #[.int .i64 (n : Int), .pointer (some ⟨Bl, 0, none⟩)] (.int .i64 (ndF (oneS L n) : Int)) w := by
  unfold Gives
  have h64 : ∀ W, Gives 64 #[(oneS L n).v] (.int .i64 (ndF (oneS L n) : Int)) W := fun W => needed_calls (by rw [oneS_tubes]; exact hn) W
  have hcs := oneS_cs (n := n) hL
  have I : Held (w.alloc (.cells [Value.int .i64 0, .int .i64 0, .int .i64 0].toArray 80)) (fun W => (Below w.heap.size w W ∧ Blk W Bl [.int .i64 (L : Int)]) ∧ Blk W w.heap.size [Value.int .i64 0, .int .i64 0, .int .i64 0]) :=
    ((Held.from (w0 := w) (Below.refl w.heap.size w) (Nat.le_refl _)).with (.blk hl.blk)).allocB [Value.int .i64 0, .int .i64 0, .int .i64 0] 80
  generalize oneS L n = s at h64 hcs ⊢
  have hlt := hl.lt
  have H64 := Lib.hid h64
  have hw1 : IntKind.i64.wrap (2 - (L : Int)) = ((2 - L : Nat) : Int) := by rw [i64_in (by omega) (by omega)]; omega
  obtain ⟨d, hd⟩ : ∃ d, d = 2 - L := ⟨_, rfl⟩
  rw [← hd] at hw1 hcs
  have hd3 : d < 3 := by omega
  have g3 : (d : Int) < 3 := by omega
  clear hl h64 hd hL
  go_enter Try.func75, Try.ntmps75
  go_upto_region 2 with fail
  change Held (w.alloc (.cells #[.int .i64 0, .int .i64 0, .int .i64 0] 80)) _ at I
  generalize World.alloc _ _ = w1 at I ⊢
  have q1 := I.now.1.2.one
  have hz : ∃ v, [Value.int .i64 0, .int .i64 0, .int .i64 0][d]? = some v := ⟨_, List.getElem?_eq_getElem (by simpa using hd3)⟩
  obtain ⟨v0, hv0⟩ := hz
  have qd := I.now.2.cell d _ hv0
  have fd := I.now.2.free d
  have zd := I.now.2.lt
  go_upto_region 3 with fail
  have k3 := I.now.2.set d (by simpa using hd3) (.int .i64 (n : Int))
  rw [hcs] at k3
  have kb := I.now.1.1.setCell (p := ⟨w.heap.size, d, none⟩) (Nat.le_refl _) (.int .i64 (n : Int))
  generalize World.setCell _ _ _ = w2 at k3 kb ⊢
  have q3 := k3.three
  go_wp2_with (go_at_call 64; (with_reducible refine (Gives.c (H64.out _)).mono ?_); rintro e' w3 ⟨rfl, hb⟩; have HB := Lib.hid hb; clear hb)
  go_ret
  exact ⟨rfl, kb.trans (HB.out.mono kb.size)⟩

/-- Is the table's search done? -/
def tOk (L S n : Nat) : Bool := decide (16 ≤ n) || decide (S < ndF (oneS L (n + 1)))
def tabF (L S : Nat) : Nat := ((List.range 16).find? fun k => tOk L S (k + 1)).getD 15 + 1
theorem tabF_spec (L S : Nat) : tOk L S (tabF L S) = true ∧ (∀ n, 1 ≤ n → n < tabF L S → tOk L S n = false) ∧ 1 ≤ tabF L S ∧ tabF L S ≤ 16 := by
  unfold tabF
  cases hf : (List.range 16).find? fun k => tOk L S (k + 1) with
  | none =>
    rw [List.find?_eq_none] at hf
    exact absurd (show tOk L S (15 + 1) = true by unfold tOk; simp) (hf 15 (by simp))
  | some k =>
    rw [List.find?_range_eq_some] at hf
    have hk : k < 16 := by simpa using hf.2.1
    refine ⟨hf.1, fun n h1 h2 => ?_, Nat.succ_le_succ (Nat.zero_le _), hk⟩
    have h2 : n < k + 1 := h2
    have h3 := hf.2.2 (n - 1) (by omega)
    rw [show n - 1 + 1 = n by omega] at h3
    simpa using h3
theorem eg75 : ∀ args w, (callFunc 75 args).run Try.prog w = .ok (.enter 75 args) w := enters_of Try.func75 (by kernel_rfl) rfl
set_option maxRecDepth 100000 in
set_option maxHeartbeats 2000000 in
theorem Table_calls {L S : Nat} (hL : L ≤ 2) (hS : S ≤ 30) (w : World) : Gives 34 #[.int .i64 (L : Int), .int .i64 (S : Int)] (.tuple #[.int .i64 (tabF L S : Int), .int .i64 0]) w := by
  unfold Gives
  obtain ⟨h1, h2, h3, h4⟩ := tabF_spec L S
  generalize tabF L S = T at h1 h2 h3 h4 ⊢
  have H1 := Lib.hid h1
  have H2 := Lib.hid h2
  have hB : ∀ lo n hi W, Quiet 53 #[.int .i64 lo, .int .i64 n, .int .i64 hi] (.bool (btw lo n hi)) W := between_calls
  have HBT := Lib.hid hB
  have d1 : btw 0 (L : Int) 2 = true := btw_yes (by omega)
  have d2 : btw 0 (S : Int) 30 = true := btw_yes (by omega)
  have b0 := Hp.new w [.int .i64 (L : Int)] 3
  have kB : Below w.heap.size w (w.alloc (.cells #[.int .i64 (L : Int)] 3)) := (Below.refl _ _).alloc (Nat.le_refl _) _
  have eg := eg75
  clear h1 h2 hB
  go_enter Try.func34, Try.ntmps34
  go_wp2_with fail
  change Hp (w.alloc (.cells #[.int .i64 (L : Int)] 3)) _ _ _ at b0
  generalize World.alloc _ _ = w1 at b0 kB ⊢
  have q2 := b0.blk.one
  go_wp2_with (go_at_call 53; (with_reducible refine (Quiet.c (HBT.out _ _ _ _)).mono ?_); rintro e wq ⟨rfl, rfl⟩)
  clear d1 d2 q2
  go_loopw [7] (fun s7 wr => ∃ k : Nat, (1 ≤ k ∧ k ≤ T) ∧ s7 = .int .i64 k ∧ Aside (Below w1.heap.size w1 wr)) (fun s7 _ => T - (intOf s7).toNat)
  case atStart => exact ⟨1, ⟨by omega, h3⟩, rfl, Below.refl _ _⟩
  case round =>
    obtain ⟨k, hk, rfl, HB⟩ := hrel
    have hw1 : IntKind.i64.wrap ((k : Int) + 1) = ((k + 1 : Nat) : Int) := by rw [i64_in (by omega) (by omega)]; omega
    by_cases h16 : 16 ≤ k
    · have hk16 : ¬ (k : Int) < 16 := by omega
      obtain rfl : k = T := by omega
      have HA := Lib.hid (kB.trans (HB.out.mono kB.size))
      clear h16
      go_wp2_with fail
      go_returns
      exact ⟨rfl, HA.out⟩
    · have hk16 : (k : Int) < 16 := by omega
      have h75 : ∀ X, Below w1.heap.size w1 X → Gives 75 #[.int .i64 ((k + 1 : Nat) : Int), .pointer (some ⟨w.heap.size, 0, none⟩)] (.int .i64 (ndF (oneS L (k + 1)) : Int)) X := fun X hX => needs1_calls hL (by omega) w.heap.size X (b0.later hX)
      have htk : tOk L S k = decide (S < ndF (oneS L (k + 1))) := by unfold tOk; rw [decide_eq_false h16, Bool.false_or]
      have hf1 : k < T → tOk L S k = false := fun h => H2.out k hk.1 h
      have hf2 : k = T → tOk L S k = true := fun h => by rw [h]; exact H1.out
      rw [htk] at hf1 hf2
      generalize ndF (oneS L (k + 1)) = nd at h75 hf1 hf2
      obtain ⟨k1, hk1⟩ : ∃ k1, k1 = k + 1 := ⟨_, rfl⟩
      rw [← hk1] at hw1 h75
      have H75 := Lib.hid h75
      have HK := Lib.hid hk1
      by_cases hgt : S < nd
      · have hle : ¬ (nd : Int) ≤ (S : Int) := by omega
        obtain rfl : k = T := by
          rcases Nat.lt_or_ge k T with h | h
          · have := hf1 h
            rw [decide_eq_true hgt] at this
            cases this
          · omega
        clear hf1 hf2 hgt h75 htk hk1 h16
        go_wp2_with (go_at_fn 75; (with_reducible refine (Gives.c (H75.out _ HB.out)).mono ?_); rintro e' w3 ⟨rfl, hb⟩; have HA := Lib.hid (kB.trans ((HB.out.trans (hb.mono HB.out.size)).mono kB.size)); clear hb)
        go_returns
        exact ⟨rfl, HA.out⟩
      · have hle : (nd : Int) ≤ (S : Int) := by omega
        have hlt : k < T := by
          rcases Nat.lt_or_ge k T with h | h
          · exact h
          · have := hf2 (by omega)
            rw [decide_eq_false hgt] at this
            cases this
        clear hf1 hf2 hgt h75 htk hk1 h16
        go_wp2_with (go_at_fn 75; (with_reducible refine (Gives.c (H75.out _ HB.out)).mono ?_); rintro e' w3 ⟨rfl, hb⟩; have HA := Lib.hid (HB.out.trans (hb.mono HB.out.size)); clear hb)
        go_roundw
        case measure => have := HK.out; simp [intOf]; omega
        case rel => exact ⟨k1, by have := HK.out; omega, by first | rfl | go_num, HA.out⟩
set_option maxRecDepth 100000 in
theorem Table_bad {L S : Int} (h : ¬ ((0 ≤ L ∧ L ≤ 2) ∧ (0 ≤ S ∧ S ≤ 30))) (w : World) : Gives 34 #[.int .i64 L, .int .i64 S] (.tuple #[.int .i64 0, .int .i64 3]) w := by
  unfold Gives
  have hB : ∀ lo n hi W, Quiet 53 #[.int .i64 lo, .int .i64 n, .int .i64 hi] (.bool (btw lo n hi)) W := between_calls
  have HBT := Lib.hid hB
  have b0 := (Hp.new w [.int .i64 L] 3).blk.one
  have kB : Below w.heap.size w (w.alloc (.cells #[.int .i64 L] 3)) := (Below.refl _ _).alloc (Nat.le_refl _) _
  clear hB
  by_cases h1 : 0 ≤ L ∧ L ≤ 2
  · have d1 := btw_yes h1
    have d2 := btw_no (fun h2 => h ⟨h1, h2⟩)
    clear h1 h
    go_enter Try.func34, Try.ntmps34
    go_wp2_with (go_at_call 53; (with_reducible refine (Quiet.c (HBT.out _ _ _ _)).mono ?_); rintro e wq ⟨rfl, rfl⟩)
    go_returns
    exact ⟨rfl, kB⟩
  · have d1 := btw_no h1
    clear h1 h
    go_enter Try.func34, Try.ntmps34
    go_wp2_with (go_at_call 53; (with_reducible refine (Quiet.c (HBT.out _ _ _ _)).mono ?_); rintro e wq ⟨rfl, rfl⟩)
    go_returns
    exact ⟨rfl, kB⟩
end Go.Proofs.Ytpnkbjdeiedhlaa
