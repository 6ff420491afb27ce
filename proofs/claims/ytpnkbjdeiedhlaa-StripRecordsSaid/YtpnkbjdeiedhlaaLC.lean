/- Tests; slices.Index and Contains; the mistakes of a tube; the error of a strip. -/
import Derived.Test.YtpnkbjdeiedhlaaLB
import Derived.Deep.DeepCutAuto
namespace Go.Proofs.Ytpnkbjdeiedhlaa
open Go.RowKit Go.Lib Go.Shelf
open St

/-- A test: a strip, and what was said. -/
structure Tst where
  strip : List Int
  ans : Bool
instance : Inhabited Tst := ⟨⟨[], false⟩⟩
/-- A slice that reads as a list of tests. -/
def ReadsT (w : World) (A : Option Addr) (n : Nat) (l : List Tst) : Prop :=
  l.length = n ∧ n ≤ 17592186044416 ∧ (0 < n → ∃ b off, A = some ⟨b, off, none⟩ ∧ ∀ j, j < n → (∃ B m c, w.cell? ⟨b, off + j * 2, none⟩ = some (.slice B m c) ∧ Reads w B m (l[j]?.getD ⟨[], false⟩).strip ∧ m ≤ c) ∧ w.cell? ⟨b, off + j * 2 + 1, none⟩ = some (.bool (l[j]?.getD ⟨[], false⟩).ans))
theorem ReadsT.later {w w1 : World} {A : Option Addr} {n : Nat} {l : List Tst} (h : ReadsT w A n l) (hb : Below w.heap.size w w1) : ReadsT w1 A n l := by
  refine ⟨h.1, h.2.1, fun h0 => ?_⟩
  obtain ⟨b, off, e, hc⟩ := h.2.2 h0
  refine ⟨b, off, e, fun j hj => ?_⟩
  obtain ⟨⟨B, m, c, h1, h2, h3⟩, h4⟩ := hc j hj
  exact ⟨⟨B, m, c, (hb.cell (p := ⟨b, off + j * 2, none⟩) (World.block_lt_of_cell? w _ h1)).trans h1, h2.later hb, h3⟩, (hb.cell (p := ⟨b, off + j * 2 + 1, none⟩) (World.block_lt_of_cell? w _ h4)).trans h4⟩
theorem Held.readsT {w : World} {A : Option Addr} {n : Nat} {l : List Tst} (h : ReadsT w A n l) : Held w (fun W => ReadsT W A n l) := fun _ hW => h.later hW

/-- Where a number stands first; -1: nowhere. -/
def idx (t : Int) : List Int → Int
  | [] => -1
  | x :: l => if t = x then 0 else if idx t l < 0 then -1 else idx t l + 1
theorem idx_ge (t : Int) (l : List Int) : -1 ≤ idx t l := by
  induction l with
  | nil => exact Int.le_refl _
  | cons x l ih =>
    unfold idx
    split
    · omega
    · split <;> omega
theorem idx_hit {t : Int} {l : List Int} {k : Nat} (hk : k < l.length) (hn : ∀ j, j < k → ¬ t = l[j]?.getD 0) (h : t = l[k]?.getD 0) : idx t l = k := by
  induction l generalizing k with
  | nil => exact absurd hk (Nat.not_lt_zero _)
  | cons x l ih =>
    unfold idx
    cases k with
    | zero => rw [if_pos (by simpa using h)]; rfl
    | succ k =>
      have := ih (k := k) (by simpa using hk) (fun j hj => by simpa using hn (j + 1) (by omega)) (by simpa using h)
      rw [if_neg (by simpa using hn 0 (by omega)), this, if_neg (by omega)]
      omega
theorem idx_none {t : Int} {l : List Int} (hn : ∀ j, j < l.length → ¬ t = l[j]?.getD 0) : idx t l = -1 := by
  induction l with
  | nil => rfl
  | cons x l ih =>
    unfold idx
    rw [if_neg (by simpa using hn 0 (by simp)), ih (fun j hj => by simpa using hn (j + 1) (by simp; omega)), if_pos (by decide)]
theorem idx_mem (t : Int) (l : List Int) : 0 ≤ idx t l ↔ t ∈ l := by
  induction l with
  | nil => simp [idx]
  | cons x l ih =>
    unfold idx
    split
    · rename_i h; simp [h]
    · rename_i h
      rw [List.mem_cons, ← ih]
      have := idx_ge t l
      split <;> omega

set_option maxRecDepth 100000 in
theorem index_calls (A : Option Addr) (n c : Nat) (l : List Int) (t : Int) (w : World) (hl : Reads w A n l) :
    Gives 84 #[.slice A n c, .int .i64 t] (.int .i64 (idx t l)) w := by
  unfold Gives
  have hm := hl.2.1
  have hlen := hl.1
  have HL := Lib.hid hl
  clear hl
  go_enter Try.func84, Try.ntmps84
  go_wp2_with fail
  go_loopw [8] (fun i wr => ∃ k : Nat, k ≤ n ∧ i = .int .i64 k ∧ Aside (∀ j, j < k → ¬ t = l[j]?.getD 0) ∧ Aside (Below w.heap.size w wr)) (fun i _ => n - (intOf i).toNat)
  case atStart => exact ⟨0, Nat.zero_le _, rfl, fun j hj => absurd hj (Nat.not_lt_zero _), Below.refl _ _⟩
  case round =>
    obtain ⟨k, hk, rfl, HE, HB⟩ := hrel
    by_cases hlt : k < n
    · have hlt' : (k : Int) < (n : Int) := by omega
      have hw1 : IntKind.i64.wrap ((k : Int) + 1) = (k : Int) + 1 := by rw [i64_w]; exact w64_in (by omega) (by omega)
      obtain ⟨b, off, rfl, hc⟩ := (HL.out.later HB.out).2.2 (by omega)
      have hc0 := hc k hlt
      clear hc
      have hH : t = l[k]?.getD 0 → idx t l = k := fun h => idx_hit (by omega) HE.out h
      have hN : ¬ t = l[k]?.getD 0 → ∀ j, j < k + 1 → ¬ t = l[j]?.getD 0 := fun h j hj => by
        by_cases e : j = k
        · rw [e]; exact h
        · exact HE.out j (by omega)
      generalize l[k]?.getD 0 = x at hc0 hH hN
      have HH := Lib.hid hH
      have HN := Lib.hid hN
      clear hH hN hlen
      by_cases hq : t = x
      · have hq1 : (t == x) = true := beq_iff_eq.2 hq
        have he := Lib.hid (HH.out hq)
        clear hq
        go_wp2_with fail
        go_ret
        exact ⟨ret_int he.out.symm, HB.out⟩
      · have hq1 : (t == x) = false := beq_eq_false_iff_ne.2 hq
        have HQ := Lib.hid (HN.out hq)
        clear hq
        go_wp2_with fail
        go_roundw
        case measure => simp [intOf]; omega
        case rel => exact ⟨k + 1, by omega, by go_num, HQ.out, HB.out⟩
    · obtain rfl : k = n := by omega
      have he := Lib.hid (idx_none (t := t) (l := l) (fun j hj => HE.out j (by omega)))
      go_wp2
      go_ret
      exact ⟨ret_int he.out.symm, HB.out⟩
theorem contains_calls (A : Option Addr) (n c : Nat) (l : List Int) (t : Int) (w : World) (hl : Reads w A n l) :
    Gives 76 #[.slice A n c, .int .i64 t] (.bool (decide (t ∈ l))) w := by
  unfold Gives
  have hd : decide (t ∈ l) = decide (0 ≤ idx t l) := by rw [decide_eq_decide]; exact (idx_mem t l).symm
  rw [hd]
  go_enter Try.func76, Try.ntmps76
  go_wp2_with (go_at_call 84; refine (index_calls A n c l t _ hl).mono ?_; rintro e w1 ⟨rfl, hb1⟩)
  go_ret
  exact ⟨rfl, hb1⟩

/-- Is an answer a mistake if the tube t is blocked? -/
def isM (t : Int) (x : Tst) : Bool := decide (t ∈ x.strip) != x.ans
/-- How many answers are mistakes. -/
def mis (l : List Tst) (t : Int) : Nat := l.countP (isM t)
theorem mis_step {l : List Tst} {k : Nat} {t : Int} (h : k < l.length) : (l.take (k + 1)).countP (isM t) = (l.take k).countP (isM t) + (if isM t (l[k]?.getD ⟨[], false⟩) then 1 else 0) := by
  rw [List.take_add_one, List.getElem?_eq_getElem h, List.countP_append]
  simp [List.countP_cons]
theorem mis_le (l : List Tst) (t : Int) : mis l t ≤ l.length := List.countP_le_length

set_option maxRecDepth 100000 in
set_option maxHeartbeats 2000000 in
theorem mistakes_calls (N L : Int) (A : Option Addr) (n c : Nat) (l : List Tst) (t : Int) (w : World) (hl : ReadsT w A n l) (hcap : n ≤ 1000) :
    Gives 48 #[.agg #[.int .i64 N, .int .i64 L, .slice A n c], .int .i64 t] (.int .i64 (mis l t : Int)) w := by
  unfold Gives
  have hlen := hl.1
  have I : Held (w.alloc (.cells [Value.int .i64 N, .int .i64 L, .slice A n c].toArray 24)) (fun W => (Below w.heap.size w W ∧ ReadsT W A n l) ∧ Blk W w.heap.size [Value.int .i64 N, .int .i64 L, .slice A n c]) :=
    ((Held.from (Below.refl _ _) (Nat.le_refl _)).with (.readsT hl)).allocB [Value.int .i64 N, .int .i64 L, .slice A n c] 24
  clear hl
  go_enter Try.func48, Try.ntmps48
  go_wp2_with fail
  change Held (w.alloc (.cells #[.int .i64 N, .int .i64 L, .slice A n c] 24)) _ at I
  generalize World.alloc _ _ = w1 at I ⊢
  have q2 := I.now.2.three
  go_wp2_with fail
  go_loopw [5, 11] (fun s5 s11 wr => ∃ k : Nat, k ≤ n ∧ s11 = .int .i64 k ∧ s5 = .int .i64 ((l.take k).countP (isM t) : Int) ∧ Aside (Below w1.heap.size w1 wr)) (fun _ s11 _ => n - (intOf s11).toNat)
  case atStart => exact ⟨0, Nat.zero_le _, rfl, by simp, Below.refl _ _⟩
  case round =>
    obtain ⟨k, hk, rfl, rfl, HB⟩ := hrel
    by_cases hlt : k < n
    · have hlt' : (k : Int) < (n : Int) := by omega
      have hw1 : IntKind.i64.wrap ((k : Int) + 1) = (k : Int) + 1 := i64_in (by omega) (by omega)
      have hcl : (l.take k).countP (isM t) ≤ n := Nat.le_trans List.countP_le_length (by simp; omega)
      have hst := mis_step (l := l) (k := k) (t := t) (by omega)
      generalize (l.take k).countP (isM t) = q at hcl hst ⊢
      have hw2 : IntKind.i64.wrap ((q : Int) + 1) = (q : Int) + 1 := i64_in (by omega) (by omega)
      have J := I.next HB.out
      obtain ⟨b, off, e, hc⟩ := J.now.1.2.2.2 (by omega)
      subst e
      obtain ⟨⟨B, m, c2, h1, h2, h3⟩, h4⟩ := hc k hlt
      generalize l[k]?.getD ⟨[], false⟩ = x at h2 h4 hst
      obtain ⟨xs, xa⟩ := x
      dsimp only at h2 h4
      obtain ⟨dd, hdd⟩ : ∃ dd, decide (t ∈ xs) = dd := ⟨_, rfl⟩
      rw [show isM t ⟨xs, xa⟩ = (dd != xa) from by rw [← hdd]; rfl] at hst
      have H76 : ∀ W, Reads W B m xs → Gives 76 #[.slice B m c2, .int .i64 t] (.bool dd) W := fun W h => by rw [← hdd]; exact contains_calls B m c2 xs t W h
      have HC := Lib.hid H76
      have HST := Lib.hid hst
      replace J := ((J.with (Held.from (b := w1.heap.size) HB.out HB.out.size)).with (.reads h2)).allocB [.slice B m c2, .bool xa] 66
      clear hc H76 hdd hst h2 h3 q2
      go_upto_region 5 with fail
      change Held (wr.alloc (.cells #[.slice B m c2, .bool xa] 66)) _ at J
      generalize World.alloc _ _ = w2 at J ⊢
      have HJ := Lib.hid J
      have hS : ∀ X, Below w2.heap.size w2 X → Below w2.heap.size w2 X ∧ (X.cell? ⟨wr.heap.size, 0, none⟩ = some (.slice B m c2) ∧ X.cell? ⟨wr.heap.size, 1, none⟩ = some (.bool xa)) := fun X hX => ⟨hX, (HJ.out X hX).2.two⟩
      have HS := Lib.hid hS
      clear hS J
      go_cut [21] (fun s21 wx => s21 = .bool (dd != xa) ∧ Aside (Below w2.heap.size w2 wx))
      case first =>
        go_region_held3 (fun X => Below w2.heap.size w2 X ∧ (X.cell? ⟨wr.heap.size, 0, none⟩ = some (.slice B m c2) ∧ X.cell? ⟨wr.heap.size, 1, none⟩ = some (.bool xa)))
          (first
            | with_reducible exact HS.out _ (Below.refl _ _)
            | with_reducible exact HS.out _ (Below.refl _ _).drew
            | with_reducible exact HS.out _ HBY.out
            | fail)
          (first
            | (go_at_call 76; (with_reducible refine (Gives.c (HC.out w2.drew (HJ.out.at (Below.refl _ _).drew).1.2)).mono ?_); rintro e' wy ⟨rfl, hb⟩; have HBY := Lib.hid ((Below.refl w2.heap.size w2).drew.trans hb))
            | fail)
        all_goals
          go_wp2_with fail
          go_meet
          exact ⟨rfl, HBY.out⟩
      case rest =>
        obtain ⟨rfl, HB2⟩ := hcut
        have HB4 := Lib.hid ((HJ.out.at HB2.out).1.1.2)
        clear HS HC
        cases hm : (dd != xa) with
        | true =>
          have hst := HST.out
          rw [hm] at hst
          have HST2 := Lib.hid hst
          clear hst
          go_wp2_with fail
          go_roundw
          case measure => simp [intOf]; omega
          case rel => exact ⟨k + 1, by omega, by go_num, by rw [HST2.out]; rfl, HB4.out⟩
        | false =>
          have hst := HST.out
          rw [hm] at hst
          have HST2 := Lib.hid hst
          clear hst
          go_wp2_with fail
          go_roundw
          case measure => simp [intOf]; omega
          case rel => exact ⟨k + 1, by omega, by go_num, by rw [HST2.out]; rfl, HB4.out⟩
    · obtain rfl : k = n := by omega
      have hcl : (l.take k).countP (isM t) = mis l t := by rw [← hlen, List.take_length]; rfl
      rw [hcl]
      have HB3 := Lib.hid (I.next HB.out).now.1.1
      go_wp2_with fail
      go_ret
      exact ⟨rfl, HB3.out⟩
end Go.Proofs.Ytpnkbjdeiedhlaa
