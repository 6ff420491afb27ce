/- What a list says as a state; Weight. -/
import Derived.Test.YtpnkbjdeiedhlaaLF
import Derived.Laws.CopyRow
namespace Go.Proofs.Ytpnkbjdeiedhlaa
open Go.RowKit Go.Lib Go.Shelf
open St

def gl (sum : Int) : List Int → Int
  | [] => if 16 < sum then 3 else 0
  | x :: l => if 0 ≤ x ∧ x ≤ 16 then gl (sum + x) l else 3
/-- The error of a list. -/
def gchk (l : List Int) : Int := if 1 ≤ l.length ∧ l.length ≤ 3 then gl 0 l else 6
theorem gl_at {sum : Int} {l : List Int} {k : Nat} (h : k < l.length) : gl sum (l.drop k) = if 0 ≤ l[k]?.getD 0 ∧ l[k]?.getD 0 ≤ 16 then gl (sum + l[k]?.getD 0) (l.drop (k + 1)) else 3 := by
  rw [List.drop_eq_getElem_cons h, List.getElem?_eq_getElem h]
  rfl
def stOf : List Int → St
  | [c] => ⟨0, 0, c.toNat⟩
  | [b, c] => ⟨0, b.toNat, c.toNat⟩
  | [a, b, c] => ⟨a.toNat, b.toNat, c.toNat⟩
  | _ => ⟨0, 0, 0⟩
/-- What is read. -/
def rdF (l : List Int) : St := if gchk l = 0 then stOf l else ⟨0, 0, 0⟩
theorem stOf_row {l : List Int} (h : gl 0 l = 0) (h1 : 1 ≤ l.length ∧ l.length ≤ 3) :
    [Value.int .i64 0, .int .i64 0, .int .i64 0].take (3 - l.length) ++ nums l ++ [Value.int .i64 0, .int .i64 0, .int .i64 0].drop (3 - l.length + (nums l).length) = (stOf l).cs ∧ (stOf l).tubes ≤ 16 := by
  match l, h, h1 with
  | [c], h, _ =>
    simp only [gl] at h
    split at h
    · split at h
      · omega
      · refine ⟨?_, by show 0 + 0 + c.toNat ≤ 16; omega⟩
        simp [nums, stOf]; omega
    · omega
  | [b, c], h, _ =>
    simp only [gl] at h
    split at h
    · split at h
      · split at h
        · omega
        · refine ⟨?_, by show 0 + b.toNat + c.toNat ≤ 16; omega⟩
          simp [nums, stOf]; omega
      · omega
    · omega
  | [a, b, c], h, _ =>
    simp only [gl] at h
    split at h
    · split at h
      · split at h
        · split at h
          · omega
          · refine ⟨?_, by show a.toNat + b.toNat + c.toNat ≤ 16; omega⟩
            simp [nums, stOf]; omega
        · omega
      · omega
    · omega
  | [], _, h1 => simp at h1
  | _ :: _ :: _ :: _ :: _, _, h1 => simp at h1
theorem rdF_tubes (l : List Int) : (rdF l).tubes ≤ 16 := by
  unfold rdF
  split
  · rename_i h
    unfold gchk at h
    split at h
    · rename_i h1
      exact (stOf_row h h1).2
    · omega
  · exact Nat.zero_le _

set_option maxRecDepth 100000 in
set_option maxHeartbeats 4000000 in
theorem read_calls (A : Option Addr) (n c : Nat) (l : List Int) (w : World) (hl : Reads w A n l) :
    Gives 57 #[.slice A n c] (.tuple #[(rdF l).v, .int .i64 (gchk l)]) w := by
  unfold Gives
  have hlen := hl.1
  have hm := hl.2.1
  have hB : ∀ lo n hi W, Quiet 53 #[.int .i64 lo, .int .i64 n, .int .i64 hi] (.bool (btw lo n hi)) W := between_calls
  have HBT := Lib.hid hB
  have I : Below w.heap.size w ((w.alloc (.cells #[.int .i64 0, .int .i64 0, .int .i64 0] 80)).alloc (.cells #[.int .i64 0, .int .i64 0, .int .i64 0] 80)) ∧ Hp ((w.alloc (.cells #[.int .i64 0, .int .i64 0, .int .i64 0] 80)).alloc (.cells #[.int .i64 0, .int .i64 0, .int .i64 0] 80)) w.heap.size [.int .i64 0, .int .i64 0, .int .i64 0] 80 ∧ Hp ((w.alloc (.cells #[.int .i64 0, .int .i64 0, .int .i64 0] 80)).alloc (.cells #[.int .i64 0, .int .i64 0, .int .i64 0] 80)) (w.heap.size + 1) [.int .i64 0, .int .i64 0, .int .i64 0] 80 ∧ Reads ((w.alloc (.cells #[.int .i64 0, .int .i64 0, .int .i64 0] 80)).alloc (.cells #[.int .i64 0, .int .i64 0, .int .i64 0] 80)) A n l := by
    have b2 : Below w.heap.size w ((w.alloc (.cells #[.int .i64 0, .int .i64 0, .int .i64 0] 80)).alloc (.cells #[.int .i64 0, .int .i64 0, .int .i64 0] 80)) := ((Below.refl _ _).alloc (Nat.le_refl _) _).alloc (by simp) _
    exact ⟨b2, (Hp.new w [.int .i64 0, .int .i64 0, .int .i64 0] 80).alloc _, by simpa using Hp.new (w.alloc (.cells #[.int .i64 0, .int .i64 0, .int .i64 0] 80)) [.int .i64 0, .int .i64 0, .int .i64 0] 80, hl.later b2⟩
  clear hB hl
  by_cases h1 : 1 ≤ n ∧ n ≤ 3
  · have hg : gchk l = gl 0 l := if_pos (by rw [hlen]; exact h1)
    have d1 : btw 1 (n : Int) 3 = true := btw_yes (by omega)
    obtain ⟨E, hE⟩ : ∃ E, gl 0 l = E := ⟨_, rfl⟩
    have hrd : rdF l = if E = 0 then stOf l else ⟨0, 0, 0⟩ := by unfold rdF; rw [hg, hE]
    rw [hrd, hg, hE]
    have HE := Lib.hid hE
    clear hg hrd hE
    go_enter Try.func57, Try.ntmps57
    go_wp2_with fail
    generalize World.alloc _ _ = w1 at I ⊢
    go_wp2_with (go_at_call 53; (with_reducible refine (Quiet.c (HBT.out _ _ _ _)).mono ?_); rintro e wq ⟨rfl, rfl⟩)
    go_loopw [5, 15] (fun s5 s15 wr => ∃ (k : Nat) (sum : Int), k ≤ n ∧ (0 ≤ sum ∧ sum ≤ 16 * k) ∧ s15 = .int .i64 k ∧ s5 = .int .i64 sum ∧ Aside (gl sum (l.drop k) = E) ∧ wr = w1) (fun _ s15 _ => n - (intOf s15).toNat)
    case atStart => exact ⟨0, 0, Nat.zero_le _, ⟨Int.le_refl _, by omega⟩, rfl, rfl, by rw [List.drop_zero]; exact HE.out, rfl⟩
    case round =>
      obtain ⟨k, sum, hk, hsum, rfl, rfl, HT, rfl⟩ := hrel
      by_cases hlt : k < n
      · have hlt' : (k : Int) < (n : Int) := by omega
        have hw1 : IntKind.i64.wrap ((k : Int) + 1) = (k : Int) + 1 := by rw [i64_w]; exact w64_in (by omega) (by omega)
        have hT := HT.out
        rw [gl_at (by omega)] at hT
        clear HT
        obtain ⟨b, off, e, hc⟩ := I.2.2.2.2.2 (by omega)
        subst e
        have hc0 := hc k hlt
        clear hc
        generalize l[k]?.getD 0 = x at hc0 hT
        by_cases hx : 0 ≤ x ∧ x ≤ 16
        · rw [if_pos hx] at hT
          have d2 := btw_yes hx
          have hw2 : IntKind.i64.wrap (sum + x) = sum + x := i64_in (by omega) (by omega)
          have HT := Lib.hid hT
          clear hT
          go_wp2_with (go_at_call 53; (with_reducible refine (Quiet.c (HBT.out _ _ _ _)).mono ?_); rintro e wq ⟨rfl, rfl⟩)
          go_roundw
          case measure => simp [intOf]; omega
          case rel => exact ⟨k + 1, sum + x, by omega, by omega, by go_num, rfl, HT.out, trivial⟩
        · rw [if_neg hx] at hT
          subst hT
          have d2 := btw_no hx
          have q4 := I.2.2.1.blk.three
          have q2 := I.2.1.blk.three
          have f2 := I.2.1.blk.free3
          have z2 := I.2.1.lt
          go_wp2_with (go_at_call 53; (with_reducible refine (Quiet.c (HBT.out _ _ _ _)).mono ?_); rintro e wq ⟨rfl, rfl⟩)
          have k3 := (I.2.1.blk.put3 (.int .i64 0) (.int .i64 0) (.int .i64 0)).three
          have kb := below3 I.1 (Nat.le_refl w.heap.size) (.int .i64 0) (.int .i64 0) (.int .i64 0)
          generalize World.setCell _ _ _ = wf at k3 kb ⊢
          refine bodyPost_ret (v := .tuple #[.agg #[.int .i64 0, .int .i64 0, .int .i64 0], .int .i64 3]) (by simp [results, Try.results57, go_sem, k3]) rfl ⟨rfl, kb⟩
      · obtain rfl : k = n := by omega
        have hT := HT.out
        rw [List.drop_of_length_le (by omega)] at hT
        unfold gl at hT
        have q2 := I.2.1.blk.three
        have f2 := I.2.1.blk.free3
        have z2 := I.2.1.lt
        by_cases hs : 16 < sum
        · rw [if_pos hs] at hT
          subst hT
          have q4 := I.2.2.1.blk.three
          clear HT
          go_wp2_with fail
          have k3 := (I.2.1.blk.put3 (.int .i64 0) (.int .i64 0) (.int .i64 0)).three
          have kb := below3 I.1 (Nat.le_refl w.heap.size) (.int .i64 0) (.int .i64 0) (.int .i64 0)
          generalize World.setCell _ _ _ = wf at k3 kb ⊢
          refine bodyPost_ret (v := .tuple #[.agg #[.int .i64 0, .int .i64 0, .int .i64 0], .int .i64 3]) (by simp [results, Try.results57, go_sem, k3]) rfl ⟨rfl, kb⟩
        · rw [if_neg hs] at hT
          subst hT
          obtain ⟨hrow, htb⟩ := stOf_row HE.out (by rw [hlen]; exact h1)
          rw [hlen] at hrow
          obtain ⟨b, off, e, hc⟩ := I.2.2.2.2.2 (by omega)
          subst e
          have hcp : ∀ ty, (Builtin.copy_ #[31, 31] ty #[.slice (some ⟨w.heap.size + 1, 3 - k, none⟩) k k, .slice (some ⟨b, off, none⟩) k c]).run Try.prog wr = .ok (goInt (nums l).length) (wr.setRow (w.heap.size + 1) (stOf l).cs.toArray) := fun ty => by
            have := run_copy_row (P := Try.prog) wr 31 31 ty 3 (w.heap.size + 1) (3 - k) k k ⟨b, off, none⟩ k c #[.int .i64 0, .int .i64 0, .int .i64 0] 80 (nums l) Try.underlying31 (by kernel_rfl) I.2.2.1 (by simp [nums, hlen]) (fun j u hu => by
              have hj : j < l.length := by
                have := (List.getElem?_eq_some_iff.1 hu).1
                simpa [nums] using this
              rw [nums_at hj] at hu
              cases hu
              rw [WideShapes.add_plain]
              exact hc j (by omega)) (by simp [nums, hlen]; omega) (by intro u hu; obtain ⟨y, _, rfl⟩ := List.mem_map.1 hu; rfl)
            rw [this]
            congr 2
            rw [← hrow]
          have HCP := Lib.hid hcp
          have hH2 : Hp (wr.setRow (w.heap.size + 1) (stOf l).cs.toArray) (w.heap.size + 1) (stOf l).cs 80 := setRow_heap wr _ _ _ 80 _ I.2.2.1
          have hH1 : Hp (wr.setRow (w.heap.size + 1) (stOf l).cs.toArray) w.heap.size [.int .i64 0, .int .i64 0, .int .i64 0] 80 := (setRow_other wr _ _ _ (by omega)).trans I.2.1
          have hBB : Below w.heap.size w (wr.setRow (w.heap.size + 1) (stOf l).cs.toArray) := I.1.grown (row := some (w.heap.size + 1)) ⟨rfl, rfl, rfl, by simp, fun j _ hj => setRow_other wr _ _ _ (fun e => hj (by rw [e]))⟩ I.1.size (fun j hj => by cases hj; omega)
          have HH := Lib.hid (And.intro hBB (And.intro hH1 hH2))
          have hw9 : IntKind.i64.wrap (3 - (k : Int)) = ((3 - k : Nat) : Int) := by rw [i64_in (by omega) (by omega)]; omega
          obtain ⟨d, hd⟩ : ∃ d, d = 3 - k := ⟨_, rfl⟩
          rw [← hd] at hw9 hcp
          have i1 : (d : Int) ≤ 3 := by omega
          have i2 : ¬ 3 - d = 0 := by omega
          have i3 : ¬ 3 = d := by omega
          have i4 : 3 - d = k := by omega
          clear hrow hc hd hH1 hH2 hBB HT HCP
          generalize wr.setRow (w.heap.size + 1) (stOf l).cs.toArray = wz at hcp HH
          have q4 := HH.out.2.2.blk.three
          have q2' := HH.out.2.1.blk.three
          have f2' := HH.out.2.1.blk.free3
          have z2' := HH.out.2.1.lt
          generalize hs2 : stOf l = s at q4 htb HH
          have HSE := Lib.hid hs2
          clear hs2
          go_wp2_with fail
          have k3 := (HH.out.2.1.blk.put3 (.int .i64 (s.a : Int)) (.int .i64 (s.b : Int)) (.int .i64 (s.c : Int))).three
          have kb := below3 HH.out.1 (Nat.le_refl w.heap.size) (.int .i64 (s.a : Int)) (.int .i64 (s.b : Int)) (.int .i64 (s.c : Int))
          generalize World.setCell _ _ _ = wf at k3 kb ⊢
          refine bodyPost_ret (v := .tuple #[s.v, .int .i64 0]) (by simp [results, Try.results57, go_sem, k3]) rfl ⟨by first | (rw [if_pos rfl, HSE.out]; done) | rw [HSE.out], kb⟩
  · have hg : gchk l = 6 := if_neg (by rw [hlen]; exact h1)
    have hrd : rdF l = ⟨0, 0, 0⟩ := if_neg (by rw [hg]; decide)
    have d1 : btw 1 (n : Int) 3 = false := btw_no (by omega)
    rw [hg, hrd]
    go_enter Try.func57, Try.ntmps57
    go_wp2_with fail
    generalize World.alloc _ _ = w1 at I ⊢
    have q4 := I.2.2.1.blk.three
    have q2 := I.2.1.blk.three
    have f2 := I.2.1.blk.free3
    have z2 := I.2.1.lt
    go_wp2_with (go_at_call 53; (with_reducible refine (Quiet.c (HBT.out _ _ _ _)).mono ?_); rintro e wq ⟨rfl, rfl⟩)
    have k3 := (I.2.1.blk.put3 (.int .i64 0) (.int .i64 0) (.int .i64 0)).three
    have kb := below3 I.1 (Nat.le_refl w.heap.size) (.int .i64 0) (.int .i64 0) (.int .i64 0)
    generalize World.setCell _ _ _ = wf at k3 kb ⊢
    refine bodyPost_ret (v := .tuple #[.agg #[.int .i64 0, .int .i64 0, .int .i64 0], .int .i64 6]) (by simp [results, Try.results57, go_sem, k3]) rfl ⟨rfl, kb⟩

/-- Weight, and its error. -/
def WtE (l : List Int) (n : Int) : Int := if gchk l ≠ 0 then gchk l else if 0 ≤ n ∧ n ≤ 40 then 0 else 3
def WtF (l : List Int) (n : Int) : Int := if WtE l n = 0 then ((stOf l).wt n.toNat : Int) else 0

set_option maxRecDepth 100000 in
set_option maxHeartbeats 2000000 in
theorem Weight_calls (A : Option Addr) (n c : Nat) (l : List Int) (k : Int) (w : World) (hl : Reads w A n l) :
    Gives 24 #[.slice A n c, .int .i64 k] (.tuple #[.int .i64 (WtF l k), .int .i64 (WtE l k)]) w := by
  unfold Gives
  have I : Held w (fun W => Below w.heap.size w W ∧ Reads W A n l) := (Held.from (Below.refl _ _) (Nat.le_refl _)).with (.reads hl)
  have hB : ∀ lo n hi W, Quiet 53 #[.int .i64 lo, .int .i64 n, .int .i64 hi] (.bool (btw lo n hi)) W := between_calls
  have HBT := Lib.hid hB
  have h57 : ∀ W, Reads W A n l → Gives 57 #[.slice A n c] (.tuple #[(rdF l).v, .int .i64 (gchk l)]) W := fun W h => read_calls A n c l W h
  have htb := rdF_tubes l
  have hrd : gchk l = 0 → rdF l = stOf l := fun h => by unfold rdF; rw [if_pos h]
  have hE : WtE l k = if gchk l ≠ 0 then gchk l else if 0 ≤ k ∧ k ≤ 40 then 0 else 3 := rfl
  have hF : WtF l k = if WtE l k = 0 then ((stOf l).wt k.toNat : Int) else 0 := rfl
  generalize WtF l k = F at hF ⊢
  generalize WtE l k = E at hE hF ⊢
  generalize gchk l = e at h57 hrd hE
  generalize stOf l = s0 at hrd hF
  generalize rdF l = s at h57 htb hrd
  have H57 := Lib.hid h57
  clear hl hB h57
  by_cases h0 : e = 0
  · subst h0
    rw [if_neg (by simp)] at hE
    obtain rfl := hrd rfl
    clear hrd
    by_cases hk : 0 ≤ k ∧ k ≤ 40
    · rw [if_pos hk] at hE
      subst hE
      rw [if_pos rfl] at hF
      obtain ⟨m, rfl⟩ : ∃ m : Nat, k = (m : Int) := ⟨k.toNat, by omega⟩
      rw [Int.toNat_natCast] at hF
      have d1 := btw_yes hk
      have h58 : ∀ W, Gives 58 #[s.v, .int .i64 (m : Int)] (.int .i64 F) W := fun W => by rw [hF]; exact weight_calls (by omega) (by omega) W
      have H58 := Lib.hid h58
      clear hF h58 hk
      go_enter Try.func24, Try.ntmps24
      go_upto_region 2 with (go_at_call 57; (with_reducible refine (Gives.c (H57.out _ I.now.2)).mono ?_); rintro e' w2 ⟨rfl, hb⟩; replace I := (I.next hb).allocB s.cs 80; clear hb)
      change Held (w2.alloc (.cells #[.int .i64 (s.a : Int), .int .i64 (s.b : Int), .int .i64 (s.c : Int)] 80)) _ at I
      generalize World.alloc _ _ = w4 at I ⊢
      have q1 := I.now.2.three
      go_wp2_with (first
        | (go_at_call 53; (with_reducible refine (Quiet.c (HBT.out _ _ _ _)).mono ?_); rintro e wq ⟨rfl, rfl⟩)
        | (go_at_call 58; (with_reducible refine (Gives.c (H58.out _)).mono ?_); rintro e' w3 ⟨rfl, hb⟩; replace I := I.next hb; clear hb))
      go_returns
      exact ⟨rfl, I.now.1.1⟩
    · rw [if_neg hk] at hE
      subst hE
      rw [if_neg (by decide)] at hF
      subst hF
      have d1 := btw_no hk
      clear hk
      go_enter Try.func24, Try.ntmps24
      go_upto_region 2 with (go_at_call 57; (with_reducible refine (Gives.c (H57.out _ I.now.2)).mono ?_); rintro e' w2 ⟨rfl, hb⟩; replace I := (I.next hb).allocB s.cs 80; clear hb)
      change Held (w2.alloc (.cells #[.int .i64 (s.a : Int), .int .i64 (s.b : Int), .int .i64 (s.c : Int)] 80)) _ at I
      generalize World.alloc _ _ = w4 at I ⊢
      go_wp2_with (go_at_call 53; (with_reducible refine (Quiet.c (HBT.out _ _ _ _)).mono ?_); rintro e wq ⟨rfl, rfl⟩)
      go_returns
      exact ⟨rfl, I.now.1.1⟩
  · rw [if_pos h0] at hE
    subst hE
    rw [if_neg h0] at hF
    subst hF
    have hne : (E != 0) = true := by simp [h0]
    clear h0 hrd
    go_enter Try.func24, Try.ntmps24
    go_upto_region 2 with (go_at_call 57; (with_reducible refine (Gives.c (H57.out _ I.now.2)).mono ?_); rintro e' w2 ⟨rfl, hb⟩; replace I := (I.next hb).allocB s.cs 80; clear hb)
    change Held (w2.alloc (.cells #[.int .i64 (s.a : Int), .int .i64 (s.b : Int), .int .i64 (s.c : Int)] 80)) _ at I
    generalize World.alloc _ _ = w4 at I ⊢
    go_wp2_with fail
    go_returns
    exact ⟨rfl, I.now.1.1⟩

set_option maxRecDepth 100000 in
set_option maxHeartbeats 4000000 in
/-- The bound of a state. -/
theorem bound_calls {s : St} (hs : s.tubes ≤ 16) (w : World) : Gives 62 #[s.v] (.int .i64 (bndF s : Int)) w := by
  unfold Gives
  obtain ⟨h1, h2, h3⟩ := bndF_spec hs
  generalize bndF s = B at h1 h2 h3 ⊢
  have I : Held (w.alloc (.cells s.cs.toArray 80)) (fun W => Below w.heap.size w W ∧ Blk W w.heap.size s.cs) := ((Held.from (w0 := w) (Below.refl w.heap.size w) (Nat.le_refl _))).allocB s.cs 80
  have H1 := Lib.hid h1
  have H2 := Lib.hid h2
  have h79 : ∀ W, Gives 79 #[s.v] (.int .i64 (s.tubes : Int)) W := fun W => tubes_calls (by omega) W
  have h58 : ∀ (k : Nat) W, k ≤ 100 → Gives 58 #[s.v, .int .i64 (k : Int)] (.int .i64 (s.wt k : Int)) W := fun k W hk => weight_calls (by omega) hk W
  have H79 := Lib.hid h79
  have H58 := Lib.hid h58
  clear h1 h2 h79 h58
  go_enter Try.func62, Try.ntmps62
  go_wp2_with fail
  change Held (w.alloc (.cells #[.int .i64 (s.a : Int), .int .i64 (s.b : Int), .int .i64 (s.c : Int)] 80)) _ at I
  generalize World.alloc _ _ = w1 at I ⊢
  have HE0 := Lib.hid (show ∀ X, Below w1.heap.size w1 X → Below w.heap.size w X from fun X hX => (I.at hX).1)
  go_loopw [3] (fun s3 wr => ∃ k : Nat, k ≤ B ∧ s3 = .int .i64 k ∧ Aside (Below w1.heap.size w1 wr)) (fun s3 _ => B - (intOf s3).toNat)
  case atStart => exact ⟨0, Nat.zero_le _, rfl, Below.refl _ _⟩
  case round =>
    obtain ⟨k, hk, rfl, HB⟩ := hrel
    have J := I.next HB.out
    have hb : k < B → bOk s k = false := H2.out k
    have hb2 : k = B → bOk s k = true := fun h => by rw [h]; exact H1.out

    obtain ⟨P, hP⟩ : ∃ P, P = 2 ^ k := ⟨_, rfl⟩
    have hPk : P ≤ 2048 := by rw [hP]; exact Nat.le_trans (Nat.pow_le_pow_right (by omega) (show k ≤ 11 by omega)) (by decide)
    have wK : IntKind.i64.wrap ((2 : Int) ^ k) = (P : Int) := by
      have e : ((2 : Int) ^ k) = (P : Int) := by rw [hP, Int.natCast_pow]; rfl
      rw [e]
      exact i64_in (by omega) (by omega)
    have hn64 : (k : Int) ≤ 64 := by omega
    have hw1 : IntKind.i64.wrap ((k : Int) + 1) = (k : Int) + 1 := i64_in (by omega) (by omega)
    have hbo : bOk s k = (decide (s.tubes ≤ 1) || decide (s.wt k ≤ P)) := by rw [hP]; rfl
    have hk100 : k ≤ 100 := by omega
    obtain ⟨dd, hdd⟩ : ∃ dd, bOk s k = dd := ⟨_, rfl⟩
    rw [hdd] at hb hb2 hbo
    have hkB : dd = true → k = B := fun h => by
      rcases Nat.lt_or_ge k B with hlt | hge
      · rw [hb hlt] at h; cases h
      · omega
    have hkB2 : dd = false → k < B := fun h => by
      rcases Nat.lt_or_ge k B with hlt | hge
      · exact hlt
      · rw [hb2 (by omega)] at h; cases h
    have HK1 := Lib.hid hkB
    have HK2 := Lib.hid hkB2
    have h58 := H58.out k
    obtain ⟨w6, hw6⟩ : ∃ x, x = wr := ⟨_, rfl⟩
    subst hw6
    have hS : ∀ X, Below w6.heap.size w6 X → Below w6.heap.size w6 X ∧ (X.cell? ⟨w.heap.size, 0, none⟩ = some (.int .i64 (s.a : Int)) ∧ X.cell? ⟨w.heap.size, 1, none⟩ = some (.int .i64 (s.b : Int)) ∧ X.cell? ⟨w.heap.size, 2, none⟩ = some (.int .i64 (s.c : Int))) := fun X hX => ⟨hX, (J.at hX).2.three⟩
    have HSS := Lib.hid hS
    have H58k := Lib.hid h58
    generalize s.wt k = W at hbo H58k
    clear hS h58 hb hb2 hdd hP hkB hkB2 I J
    have h79 := H79.out
    generalize s.tubes = T at hbo h79
    have H79' := Lib.hid h79
    go_upto_region 2 with fail
    go_cut [14] (fun s14 wx => s14 = .bool (!dd) ∧ Aside (Below w6.heap.size w6 wx))
    case first =>
      by_cases ht : T ≤ 1
      · have ht' : ¬ (1 : Int) < (T : Int) := by omega
        have hdd : dd = true := by rw [hbo]; simp [ht]
        clear ht h79 hbo
        have q0 := (HSS.out _ (Below.refl _ _)).2
        first
          | go_region_with (first
              | (go_at_call 79; (with_reducible refine (Gives.c (H79'.out _)).mono ?_); rintro e' wy ⟨rfl, hb⟩; have HBY := Lib.hid ((Below.refl w6.heap.size w6).drew.trans hb); clear hb q0)
              | fail)
          | fail
        all_goals
          go_wp2_with fail
          go_meet
          exact ⟨by rw [hdd]; rfl, HBY.out⟩
      · have ht' : (1 : Int) < (T : Int) := by omega
        have hdd : (!dd) = decide ((P : Int) < (W : Int)) := by
          rw [hbo, decide_eq_false ht, Bool.false_or, ← decide_not, decide_eq_decide]
          omega
        clear ht h79 hbo
        go_region_held3 (fun X => Below w6.heap.size w6 X ∧ (X.cell? ⟨w.heap.size, 0, none⟩ = some (.int .i64 (s.a : Int)) ∧ X.cell? ⟨w.heap.size, 1, none⟩ = some (.int .i64 (s.b : Int)) ∧ X.cell? ⟨w.heap.size, 2, none⟩ = some (.int .i64 (s.c : Int))))
          (first
            | with_reducible exact HSS.out _ (Below.refl _ _).drew
            | with_reducible exact HSS.out _ HBZ.out
            | with_reducible exact HSS.out _ HBY.out
            | fail)
          (first
            | (go_at_call 79; (with_reducible refine (Gives.c (H79'.out _)).mono ?_); rintro e' wy ⟨rfl, hb⟩; have HBY := Lib.hid ((Below.refl w6.heap.size w6).drew.trans hb))
            | (go_at_call 58; (with_reducible refine (Gives.c (H58k.out _ hk100)).mono ?_); rintro e' wz ⟨rfl, hb⟩; have HBZ := Lib.hid (HBY.out.trans (hb.mono HBY.out.size)))
            | fail)
        all_goals
          go_wp2_with fail
          go_meet
          exact ⟨by rw [hdd]; simp, HBZ.out⟩
    case rest =>
      obtain ⟨rfl, HB2⟩ := hcut
      have HB3 := Lib.hid (HB.out.trans (HB2.out.mono HB.out.size))
      clear HB2 HB HSS h79 H79'
      cases dd with
      | true =>
        obtain rfl := HK1.out rfl
        go_wp2_with fail
        go_ret
        exact ⟨rfl, HE0.out _ HB3.out⟩
      | false =>
        have hlt := HK2.out rfl
        go_wp2_with fail
        go_roundw
        case measure => simp [intOf]; omega
        case rel => exact ⟨k + 1, by omega, by go_num, HB3.out⟩
end Go.Proofs.Ytpnkbjdeiedhlaa
