/- Verify: a strip is checked, and how many are left after it. -/
import Derived.Test.YtpnkbjdeiedhlaaLS
namespace Go.Proofs.Ytpnkbjdeiedhlaa
open Go.RowKit Go.Lib Go.Shelf
open St

/-- One tube of a strip is counted. -/
def xF (L : Nat) (l : List Tst) (x : St) (t : Int) : St := if mis l t ≤ L then x.put (2 - (L - mis l t)) else x
theorem put_le {x y : St} (h : x.Le y) (i : Nat) : (x.put i).Le (y.put i) := by
  obtain ⟨h1, h2, h3⟩ := h
  unfold St.put Le
  split <;> dsimp only <;> omega
theorem le_put {x y : St} (h : x.Le y) (i : Nat) : x.Le (y.put i) := by
  obtain ⟨h1, h2, h3⟩ := h
  unfold St.put Le
  split <;> dsimp only <;> omega
theorem stK_xF (L : Nat) (l : List Tst) (k : Nat) : stK L l (k + 1) = xF L l (stK L l k) (k : Int) := rfl
theorem stK_mono (L : Nat) (l : List Tst) {j k : Nat} (h : j ≤ k) {x : St} (hx : x.Le (stK L l j)) : x.Le (stK L l k) := by
  obtain ⟨d, rfl⟩ := Nat.exists_eq_add_of_le h
  induction d with
  | zero => exact hx
  | succ d ih =>
    have h1 := ih (by omega)
    rw [show j + (d + 1) = (j + d) + 1 by omega, stK_xF]
    unfold xF
    split
    · exact le_put h1 _
    · exact h1
/-- What a good strip counts is a part of the state. -/
theorem counts_le {L : Nat} {l : List Tst} {N : Nat} : ∀ {strip : List Int} {last : Int} {x : St}, schk N last strip = 0 → -1 ≤ last → last ≤ (N : Int) - 1 → x.Le (stK L l (last + 1).toNat) → (strip.foldl (xF L l) x).Le (stK L l N) := by
  intro strip
  induction strip with
  | nil => exact fun {last x} _ h1 h2 hx => stK_mono L l (by omega) hx
  | cons t strip ih =>
    intro last x h h1 h2 hx
    unfold schk at h
    split at h
    · exact absurd h (by decide)
    · rename_i ht
      have ht := Classical.not_not.1 ht
      split at h
      · exact absurd h (by decide)
      · rename_i hl
        refine ih (last := t) h (by omega) (by omega) ?_
        have h3 := stK_mono L l (show (last + 1).toNat ≤ t.toNat by omega) hx
        rw [show (t + 1).toNat = t.toNat + 1 by omega, stK_xF, show ((t.toNat : Nat) : Int) = t by omega]
        unfold xF
        split
        · exact put_le h3 _
        · exact h3
/-- What a strip has of each kind. -/
def xK (L : Nat) (l : List Tst) (strip : List Int) : St := strip.foldl (xF L l) ⟨0, 0, 0⟩
theorem xK_le {L : Nat} {l : List Tst} {N : Nat} {strip : List Int} (h : schk N (-1) strip = 0) : (xK L l strip).Le (stK L l N) :=
  counts_le (last := -1) h (by omega) (by omega) ⟨Nat.zero_le _, Nat.zero_le _, Nat.zero_le _⟩
theorem xK_step {L : Nat} {l : List Tst} {strip : List Int} {k : Nat} (h : k < strip.length) : xK L l (strip.take (k + 1)) = xF L l (xK L l (strip.take k)) (strip[k]?.getD 0) := by
  unfold xK
  rw [List.take_succ_eq_append_getElem h, List.foldl_append, List.getElem?_eq_getElem h]
  rfl
theorem xK_tubes {L : Nat} {l : List Tst} (strip : List Int) (x : St) : (strip.foldl (xF L l) x).tubes ≤ x.tubes + strip.length := by
  induction strip generalizing x with
  | nil => exact Nat.le_refl _
  | cons t strip ih =>
    rw [List.foldl_cons, List.length_cons]
    have h1 := ih (xF L l x t)
    have h2 : (xF L l x t).tubes ≤ x.tubes + 1 := by
      unfold xF
      split
      · rw [put_tubes]; omega
      · omega
    omega
/-- What Verify answers. -/
def vfF (N L : Nat) (l : List Tst) (strip : List Int) : Int × Int :=
  if ¬ opE (stK L l N) = 0 then (0, opE (stK L l N))
  else if ¬ schk N (-1) strip = 0 then (0, schk N (-1) strip)
  else if ndF (stK L l N) ≤ leftF (stK L l N) (xK L l strip) then (0, 14)
  else ((leftF (stK L l N) (xK L l strip) : Int), 0)

set_option maxRecDepth 100000 in
set_option maxHeartbeats 4000000 in
theorem Verify_bad (N L : Int) (A : Option Addr) (n c : Nat) (l : List Tst) (T : Value) (w : World) (hl : ReadsT w A n l) (h : ¬ rchk N L l = 0) :
    Gives 32 #[rec N L A n c, T] (.tuple #[.int .i64 0, .int .i64 (rchk N L l)]) w := by
  unfold Gives
  have I := ((Held.from (w0 := w) (Below.refl w.heap.size w) (Nat.le_refl _)).with (.readsT hl)).allocB [Value.int .i64 N, .int .i64 L, .slice A n c] 24
  have h66 : ∀ W, ReadsT W A n l → Gives 66 #[rec N L A n c] (.tuple #[.agg #[.int .i64 0, .int .i64 0, .int .i64 0], .int .i64 (rchk N L l)]) W := fun W h' => open_bad N L A n c l W h' h
  generalize rchk N L l = e at h h66 ⊢
  have H66 := Lib.hid h66
  have hne : (e != 0) = true := by simp [h]
  have hne2 : (e == 0) = false := by simp [h]
  clear hl h66 h
  go_enter Try.func32, Try.ntmps32
  go_wp2_with fail
  change Held (w.alloc (.cells #[.int .i64 N, .int .i64 L, .slice A n c] 24)) _ at I
  generalize World.alloc _ _ = w1 at I ⊢
  have q1 := I.now.2.three
  go_wp2_with (go_at_call 66; (with_reducible refine (Gives.c (H66.out _ I.now.1.2)).mono ?_); rintro e' w2 ⟨rfl, hb⟩; replace I := (I.next hb).allocB [Value.int .i64 0, .int .i64 0, .int .i64 0] 80; clear hb q1)
  go_returns
  exact ⟨rfl, I.now.1.1.1⟩

set_option maxRecDepth 100000 in
set_option maxHeartbeats 4000000 in
theorem Verify_good {N L : Nat} (hN : 1 ≤ N ∧ N ≤ 16) (hL : L ≤ 2) (A : Option Addr) (n c : Nat) (l : List Tst) (TA : Option Addr) (tn tc : Nat) (ts : List Int) (w : World) (hl : ReadsT w A n l) (h : rchk N L l = 0) (hn : n ≤ 1000) (ht : Reads w TA tn ts) :
    Gives 32 #[rec N L A n c, .slice TA tn tc] (.tuple #[.int .i64 (vfF N L l ts).1, .int .i64 (vfF N L l ts).2]) w := by
  unfold Gives
  have I := (((Held.from (w0 := w) (Below.refl w.heap.size w) (Nat.le_refl _)).with (.readsT hl)).with (.reads ht)).allocB [Value.int .i64 (N : Int), .int .i64 (L : Int), .slice A n c] 24
  have h66 : ∀ W, ReadsT W A n l → Gives 66 #[rec N L A n c] (.tuple #[(stK L l N).v, .int .i64 (opE (stK L l N))]) W := fun W h' => open_good hN.2 hL A n c l W h' h hn
  have h54 : ∀ W, Reads W TA tn ts → Gives 54 #[rec N L A n c, .slice TA tn tc] (.int .i64 (schk N (-1) ts)) W := fun W h' => check1_calls ⟨by omega, by omega⟩ A n c TA tn tc ts W h'
  have h48 : ∀ t : Int, ∀ W, ReadsT W A n l → Gives 48 #[rec N L A n c, .int .i64 t] (.int .i64 (mis l t : Int)) W := fun t W h => mistakes_calls N L A n c l t W h hn
  have hle : schk N (-1) ts = 0 → (xK L l ts).Le (stK L l N) := xK_le
  have htb := stK_tubes L l N
  have htn := ht.2.1
  have htl := ht.1
  have hvf : ∃ r : Int × Int, vfF N L l ts = r := ⟨_, rfl⟩
  obtain ⟨r, hr⟩ := hvf
  rw [hr]
  unfold vfF at hr
  generalize stK L l N = s at h66 hle htb hr
  generalize hE : opE s = E at h66 hr
  generalize schk N (-1) ts = e2 at h54 hle hr
  have H66 := Lib.hid h66
  have H54 := Lib.hid h54
  have H48 := Lib.hid h48
  have HR := Lib.hid hr
  have hlen := hl.1
  clear hl h66 h54 h48 h ht hE hr
  by_cases hE0 : E = 0
  · subst hE0
    by_cases he2 : e2 = 0
    · subst he2
      have hle := hle rfl
      have h72 : ∀ W, Gives 72 #[s.v, (xK L l ts).v] (.int .i64 (leftF s (xK L l ts) : Int)) W := fun W => left_calls (by omega) hle W
      have h64 : ∀ W, Gives 64 #[s.v] (.int .i64 (ndF s : Int)) W := fun W => needed_calls (by omega) W
      have hr := HR.out
      rw [if_neg (fun h => h rfl), if_neg (fun h => h rfl)] at hr
      obtain ⟨X, hX⟩ : ∃ X, xK L l ts = X := ⟨_, rfl⟩
      have hXt : xK L l (ts.take tn) = X := by rw [← htl, List.take_length]; exact hX
      rw [hX] at h72 hr
      generalize leftF s X = le at h72 hr
      generalize ndF s = nd at h64 hr
      have HR2 := Lib.hid hr
      have H72 := Lib.hid h72
      have H64 := Lib.hid h64
      have HXT := Lib.hid hXt
      clear HR hr h72 h64 hle hX hXt
      go_enter Try.func32, Try.ntmps32
      go_wp2_with fail
      change Held (w.alloc (.cells #[.int .i64 N, .int .i64 L, .slice A n c] 24)) _ at I
      generalize World.alloc _ _ = w1 at I ⊢
      have q1 := I.now.2.three
      go_upto_region 6 with (first
        | (go_at_call 66; (with_reducible refine (Gives.c (H66.out _ I.now.1.1.2)).mono ?_); rintro e' w2 ⟨rfl, hb⟩; replace I := (I.next hb).allocB s.cs 80; have q3 := I.now.1.2.three; clear hb q1)
        | (go_at_call 54; (with_reducible refine (Gives.c (H54.out _ I.now.1.1.2)).mono ?_); rintro e' w3 ⟨rfl, hb⟩; replace I := I.next hb; clear hb)
        | fail)
      clear q3 H66 H54
      have q0 : ReadsT w3 A n l ∧ Reads w3 TA tn ts := ⟨I.now.1.1.1.2, I.now.1.1.2⟩
      have HQ := Lib.hid q0
      have I2 := (I.with (Held.from (Below.refl w3.heap.size w3) (Nat.le_refl _))).allocB [Value.int .i64 0, .int .i64 0, .int .i64 0] 80
      clear q0
      go_upto_region 7 with fail
      change Held (w3.alloc (.cells #[.int .i64 0, .int .i64 0, .int .i64 0] 80)) _ at I2
      generalize World.alloc _ _ = w4 at I2 ⊢
      go_wp2_with fail
      go_loopw [26] (fun s26 wr => ∃ k : Nat, k ≤ tn ∧ s26 = .int .i64 k ∧ Aside (Blk wr w3.heap.size (xK L l (ts.take k)).cs) ∧ Aside (Below w3.heap.size w3 wr)) (fun s26 _ => tn - (intOf s26).toNat)
      case atStart => exact ⟨0, Nat.zero_le _, rfl, I2.now.2, I2.now.1.2⟩
      case round =>
        obtain ⟨k, hk, rfl, HS, HB⟩ := hrel
        clear I2
        by_cases hlt : k < tn
        · have hlt' : (k : Int) < (tn : Int) := by omega
          have hw1 : IntKind.i64.wrap ((k : Int) + 1) = (k : Int) + 1 := i64_in (by omega) (by omega)
          have hst := xK_step (L := L) (l := l) (strip := ts) (k := k) (by omega)
          have htb2 : (xK L l (ts.take k)).tubes ≤ k := Nat.le_trans (xK_tubes (ts.take k) ⟨0, 0, 0⟩) (by simp [St.tubes]; omega)
          generalize xK L l (ts.take k) = p at HS hst htb2
          obtain ⟨b, off, e, hc⟩ := (HQ.out.2.later HB.out).2.2 (by omega)
          subst e
          have hc0 := hc k hlt
          have HRT := Lib.hid (HQ.out.1.later HB.out)
          have HRB := Lib.hid ((I.at HB.out).1.2)
          clear hc
          generalize ts[k]?.getD 0 = t at hc0 hst
          have hml := mis_le l t
          have h48 := H48.out t
          unfold xF at hst
          generalize mis l t = y at hst h48 hml
          obtain ⟨D, hD⟩ : ∃ D : Int, 2 - (L : Int) + (y : Int) = D := ⟨_, rfl⟩
          have hw2 : IntKind.i64.wrap (2 - (L : Int)) = 2 - (L : Int) := i64_in (by omega) (by omega)
          have hw3 : IntKind.i64.wrap (2 - (L : Int) + (y : Int)) = D := by rw [← hD]; exact i64_in (by omega) (by omega)
          have G48 := Lib.hid h48
          have HST := Lib.hid hst
          have HD := Lib.hid hD
          obtain ⟨w6, hw6⟩ : ∃ x, x = wr := ⟨_, rfl⟩
          subst hw6
          have hS : ∀ X, Below w6.heap.size w6 X → Below w6.heap.size w6 X ∧ (X.cell? ⟨w.heap.size, 0, none⟩ = some (.int .i64 (N : Int)) ∧ X.cell? ⟨w.heap.size, 1, none⟩ = some (.int .i64 (L : Int)) ∧ X.cell? ⟨w.heap.size, 2, none⟩ = some (.slice A n c)) := fun X hX => ⟨hX, (HRB.out.later hX).three⟩
          have HSS := Lib.hid hS
          clear hS h48 hst hD
          go_upto_region 10 with fail
          go_cut [10] (fun s10 wx => s10 = .int .i64 D ∧ Aside (Below w6.heap.size w6 wx))
          case first =>
            go_region_held3 (fun X => Below w6.heap.size w6 X ∧ (X.cell? ⟨w.heap.size, 0, none⟩ = some (.int .i64 (N : Int)) ∧ X.cell? ⟨w.heap.size, 1, none⟩ = some (.int .i64 (L : Int)) ∧ X.cell? ⟨w.heap.size, 2, none⟩ = some (.slice A n c)))
              (first
                | with_reducible exact HSS.out _ (Below.refl _ _).drew
                | with_reducible exact HSS.out _ HBY.out
                | fail)
              (first
                | (go_at_call 48; (with_reducible refine (Gives.c (G48.out _ (HRT.out.later (Below.refl w6.heap.size w6).drew))).mono ?_); rintro e' wy ⟨rfl, hb⟩; have HBY := Lib.hid ((Below.refl w6.heap.size w6).drew.trans hb))
                | fail)
            all_goals
              go_wp2_with fail
              go_meet
              exact ⟨rfl, HBY.out⟩
          case rest =>
            obtain ⟨rfl, HB2⟩ := hcut
            clear HSS G48 hw2 hw3 hc0 HRT HRB
            have HS2 := Lib.hid (HS.out.later HB2.out)
            have HB3 := Lib.hid (HB.out.trans (HB2.out.mono HB.out.size))
            have hst := HST.out
            have hD := HD.out
            clear HS HB2 HB HST HD
            by_cases hy : y ≤ L
            · rw [if_pos hy] at hst
              obtain ⟨i, hi⟩ : ∃ i, i = 2 - (L - y) := ⟨_, rfl⟩
              rw [← hi] at hst
              have hi3 : i < 3 := by omega
              obtain rfl : D = (i : Int) := by omega
              have g2 : (i : Int) ≤ 2 := by omega
              have g3 : (i : Int) < 3 := by omega
              have hat := at_tubes p i
              have qi := HS2.out.cell i _ (cs_at p hi3)
              have fi := HS2.out.free i
              have zi := HS2.out.lt
              have hw4 : IntKind.i64.wrap ((p.at i : Int) + 1) = (p.at i : Int) + 1 := i64_in (by omega) (by omega)
              have HST := Lib.hid hst
              clear hst hi hy hat htb2
              go_wp2_with fail
              go_roundw
              case measure => simp [intOf]; omega
              case rel => exact ⟨k + 1, by omega, by go_num, by rw [HST.out, ← cs_put p hi3]; exact HS2.out.set i (by simpa using hi3) _, HB3.out.setCell (p := ⟨w3.heap.size, i, none⟩) (Nat.le_refl _) _⟩
            · rw [if_neg hy] at hst
              have g2 : ¬ D ≤ 2 := by omega
              have HST := Lib.hid hst
              clear hst hy hD
              go_wp2_with fail
              go_roundw
              case measure => simp [intOf]; omega
              case rel => exact ⟨k + 1, by omega, by go_num, by rw [HST.out]; exact HS2.out, HB3.out⟩
        · obtain rfl : k = tn := by omega
          rw [HXT.out] at HS
          have J := (I.next HB.out).with (.blk HS.out)
          clear HS HB HXT HQ I
          have q3 := J.now.1.2.three
          have q4 := J.now.2.three
          have hr := HR2.out
          by_cases hd : nd ≤ le
          · rw [if_pos hd] at hr
            subst hr
            have hd' : (nd : Int) ≤ (le : Int) := by omega
            clear HR2
            go_wp2_with (first
              | (go_at_call 72; (with_reducible refine (Gives.c (H72.out _)).mono ?_); rintro e' w5 ⟨rfl, hb⟩; replace J := J.next hb; clear hb q3 q4; have q3 := J.now.1.2.three)
              | (go_at_call 64; (with_reducible refine (Gives.c (H64.out _)).mono ?_); rintro e' w6 ⟨rfl, hb⟩; replace J := J.next hb; clear hb)
              | fail)
            go_returns
            exact ⟨rfl, J.now.1.1.1.1.1⟩
          · rw [if_neg hd] at hr
            subst hr
            have hd' : ¬ (nd : Int) ≤ (le : Int) := by omega
            clear HR2
            go_wp2_with (first
              | (go_at_call 72; (with_reducible refine (Gives.c (H72.out _)).mono ?_); rintro e' w5 ⟨rfl, hb⟩; replace J := J.next hb; clear hb q3 q4; have q3 := J.now.1.2.three)
              | (go_at_call 64; (with_reducible refine (Gives.c (H64.out _)).mono ?_); rintro e' w6 ⟨rfl, hb⟩; replace J := J.next hb; clear hb)
              | fail)
            go_returns
            exact ⟨rfl, J.now.1.1.1.1.1⟩
    · have hne : (e2 != 0) = true := by simp [he2]
      have hr := HR.out
      rw [if_neg (fun h => h rfl), if_pos he2] at hr
      subst hr
      clear HR hle H48 he2
      go_enter Try.func32, Try.ntmps32
      go_wp2_with fail
      change Held (w.alloc (.cells #[.int .i64 N, .int .i64 L, .slice A n c] 24)) _ at I
      generalize World.alloc _ _ = w1 at I ⊢
      have q1 := I.now.2.three
      go_wp2_with (first
        | (go_at_call 66; (with_reducible refine (Gives.c (H66.out _ I.now.1.1.2)).mono ?_); rintro e' w2 ⟨rfl, hb⟩; replace I := (I.next hb).allocB s.cs 80; have q3 := I.now.1.2.three; clear hb q1)
        | (go_at_call 54; (with_reducible refine (Gives.c (H54.out _ I.now.1.1.2)).mono ?_); rintro e' w3 ⟨rfl, hb⟩; replace I := I.next hb; clear hb)
        | fail)
      go_returns
      exact ⟨rfl, I.now.1.1.1.1⟩
  · have hne : (E != 0) = true := by simp [hE0]
    have hne2 : (E == 0) = false := by simp [hE0]
    have hr := HR.out
    rw [if_pos hE0] at hr
    subst hr
    clear HR hle H48 hE0 H54
    go_enter Try.func32, Try.ntmps32
    go_wp2_with fail
    change Held (w.alloc (.cells #[.int .i64 N, .int .i64 L, .slice A n c] 24)) _ at I
    generalize World.alloc _ _ = w1 at I ⊢
    have q1 := I.now.2.three
    go_wp2_with (go_at_call 66; (with_reducible refine (Gives.c (H66.out _ I.now.1.1.2)).mono ?_); rintro e' w2 ⟨rfl, hb⟩; replace I := (I.next hb).allocB s.cs 80; clear hb q1)
    go_returns
    exact ⟨rfl, I.now.1.1.1.1⟩
end Go.Proofs.Ytpnkbjdeiedhlaa
