/- The error of a strip and of a record; the state of a record. -/
import Derived.Test.YtpnkbjdeiedhlaaLC
namespace Go.Proofs.Ytpnkbjdeiedhlaa
open Go.RowKit Go.Lib Go.Shelf
open St

/-- The error of a strip, behind the tube 'last'. -/
def schk (N last : Int) : List Int → Int
  | [] => 0
  | t :: l => if ¬ (0 ≤ t ∧ t ≤ N - 1) then 8 else if t ≤ last then 7 else schk N t l
theorem schk_at {N last : Int} {l : List Int} {k : Nat} (h : k < l.length) : schk N last (l.drop k) = if ¬ (0 ≤ l[k]?.getD 0 ∧ l[k]?.getD 0 ≤ N - 1) then 8 else if l[k]?.getD 0 ≤ last then 7 else schk N (l[k]?.getD 0) (l.drop (k + 1)) := by
  rw [List.drop_eq_getElem_cons h, List.getElem?_eq_getElem h]
  rfl

set_option maxRecDepth 100000 in
set_option maxHeartbeats 2000000 in
theorem check1_calls {N L : Int} (hN : 1 ≤ N ∧ N ≤ 16) (T : Option Addr) (tn tc : Nat) (A : Option Addr) (n c : Nat) (l : List Int) (w : World) (hl : Reads w A n l) :
    Gives 54 #[.agg #[.int .i64 N, .int .i64 L, .slice T tn tc], .slice A n c] (.int .i64 (schk N (-1) l)) w := by
  unfold Gives
  have hm := hl.2.1
  have hlen := hl.1
  have I : Held (w.alloc (.cells [Value.int .i64 N, .int .i64 L, .slice T tn tc].toArray 24)) (fun W => (Below w.heap.size w W ∧ Reads W A n l) ∧ Blk W w.heap.size [Value.int .i64 N, .int .i64 L, .slice T tn tc]) :=
    ((Held.from (Below.refl _ _) (Nat.le_refl _)).with (.reads hl)).allocB [Value.int .i64 N, .int .i64 L, .slice T tn tc] 24
  have wn : IntKind.i64.wrap (N - 1) = N - 1 := i64_in (by omega) (by omega)
  obtain ⟨E, hE⟩ : ∃ E, schk N (-1) l = E := ⟨_, rfl⟩
  rw [hE]
  have HE := Lib.hid hE
  have hB : ∀ lo n hi W, Quiet 53 #[.int .i64 lo, .int .i64 n, .int .i64 hi] (.bool (btw lo n hi)) W := between_calls
  have HBT := Lib.hid hB
  clear hE hl hB
  go_enter Try.func54, Try.ntmps54
  go_wp2_with fail
  change Held (w.alloc (.cells #[.int .i64 N, .int .i64 L, .slice T tn tc] 24)) _ at I
  generalize World.alloc _ _ = w1 at I ⊢
  go_loopw [5, 10] (fun v i wr => ∃ (k : Nat) (last : Int), k ≤ n ∧ i = .int .i64 k ∧ v = .int .i64 last ∧ Aside (schk N last (l.drop k) = E) ∧ Aside (Below w1.heap.size w1 wr)) (fun _ i _ => n - (intOf i).toNat)
  case atStart => exact ⟨0, -1, Nat.zero_le _, rfl, rfl, by rw [List.drop_zero]; exact HE.out, Below.refl _ _⟩
  case round =>
    obtain ⟨k, last, hk, rfl, rfl, HT, HB⟩ := hrel
    clear HE
    by_cases hlt : k < n
    · have hlt' : (k : Int) < (n : Int) := by omega
      have hw1 : IntKind.i64.wrap ((k : Int) + 1) = (k : Int) + 1 := by rw [i64_w]; exact w64_in (by omega) (by omega)
      have hT := HT.out
      rw [schk_at (by omega)] at hT
      clear HT
      have J := I.at HB.out
      obtain ⟨b, off, e, hc⟩ := J.1.2.2.2 (by omega)
      subst e
      have hc0 := hc k hlt
      have q2 := J.2.three
      have HA := Lib.hid J.1.1
      clear hc J
      generalize l[k]?.getD 0 = x at hc0 hT
      by_cases hx : 0 ≤ x ∧ x ≤ N - 1
      · rw [if_neg (fun h => h hx)] at hT
        have d1 := btw_yes hx
        by_cases hy : x ≤ last
        · rw [if_pos hy] at hT
          subst hT
          go_wp2_with (go_at_call 53; (with_reducible refine (Quiet.c (HBT.out _ _ _ _)).mono ?_); rintro e wq ⟨rfl, rfl⟩)
          go_ret
          exact ⟨rfl, HA.out⟩
        · rw [if_neg hy] at hT
          have HT := Lib.hid hT
          clear hT
          go_wp2_with (go_at_call 53; (with_reducible refine (Quiet.c (HBT.out _ _ _ _)).mono ?_); rintro e wq ⟨rfl, rfl⟩)
          go_roundw
          case measure => simp [intOf]; omega
          case rel => exact ⟨k + 1, x, by omega, by go_num, rfl, HT.out, HB.out⟩
      · rw [if_pos hx] at hT
        subst hT
        have d1 := btw_no hx
        go_wp2_with (go_at_call 53; (with_reducible refine (Quiet.c (HBT.out _ _ _ _)).mono ?_); rintro e wq ⟨rfl, rfl⟩)
        go_ret
        exact ⟨rfl, HA.out⟩
    · obtain rfl : k = n := by omega
      have hT := HT.out
      rw [List.drop_of_length_le (by omega)] at hT
      subst hT
      have HA := Lib.hid (I.at HB.out).1.1
      go_wp2_with fail
      go_ret
      exact ⟨rfl, HA.out⟩

/-- The error of tests. -/
def tchk (N : Int) : List Tst → Int
  | [] => 0
  | x :: l => if schk N (-1) x.strip = 0 then tchk N l else schk N (-1) x.strip
theorem tchk_at {N : Int} {l : List Tst} {k : Nat} (h : k < l.length) : tchk N (l.drop k) = if schk N (-1) (l[k]?.getD ⟨[], false⟩).strip = 0 then tchk N (l.drop (k + 1)) else schk N (-1) (l[k]?.getD ⟨[], false⟩).strip := by
  rw [List.drop_eq_getElem_cons h, List.getElem?_eq_getElem h]
  rfl
/-- The error of a record. -/
def rchk (N L : Int) (l : List Tst) : Int := if ¬ ((1 ≤ N ∧ N ≤ 16) ∧ (0 ≤ L ∧ L ≤ 2)) then 3 else if 30 < l.length then 5 else tchk N l
/-- A record as it lies. -/
abbrev rec (N L : Int) (A : Option Addr) (n c : Nat) : Value := .agg #[.int .i64 N, .int .i64 L, .slice A n c]

set_option maxRecDepth 100000 in
set_option maxHeartbeats 4000000 in
theorem check_calls (N L : Int) (A : Option Addr) (n c : Nat) (l : List Tst) (w : World) (hl : ReadsT w A n l) :
    Gives 22 #[rec N L A n c] (.int .i64 (rchk N L l)) w := by
  unfold Gives rchk
  rw [hl.1]
  have hm := hl.2.1
  have hlen := hl.1
  have I : Held (w.alloc (.cells [Value.int .i64 N, .int .i64 L, .slice A n c].toArray 24)) (fun W => (Below w.heap.size w W ∧ ReadsT W A n l) ∧ Blk W w.heap.size [Value.int .i64 N, .int .i64 L, .slice A n c]) :=
    ((Held.from (Below.refl _ _) (Nat.le_refl _)).with (.readsT hl)).allocB [Value.int .i64 N, .int .i64 L, .slice A n c] 24
  have hB : ∀ lo n hi W, Quiet 53 #[.int .i64 lo, .int .i64 n, .int .i64 hi] (.bool (btw lo n hi)) W := between_calls
  have HBT := Lib.hid hB
  clear hl hB
  by_cases h1 : 1 ≤ N ∧ N ≤ 16
  · have d1 := btw_yes h1
    by_cases h2 : 0 ≤ L ∧ L ≤ 2
    · have d2 := btw_yes h2
      rw [if_neg (fun h => h ⟨h1, h2⟩)]
      by_cases h3 : 30 < n
      · have h3' : (30 : Int) < (n : Int) := by omega
        rw [if_pos h3]
        go_enter Try.func22, Try.ntmps22
        go_wp2_with fail
        change Held (w.alloc (.cells #[.int .i64 N, .int .i64 L, .slice A n c] 24)) _ at I
        generalize World.alloc _ _ = w1 at I ⊢
        have q2 := I.now.2.three
        go_wp2_with (go_at_call 53; (with_reducible refine (Quiet.c (HBT.out _ _ _ _)).mono ?_); rintro e wq ⟨rfl, rfl⟩)
        go_ret
        exact ⟨rfl, I.now.1.1⟩
      · have h3' : ¬ (30 : Int) < (n : Int) := by omega
        rw [if_neg h3]
        obtain ⟨E, hE⟩ : ∃ E, tchk N l = E := ⟨_, rfl⟩
        rw [hE]
        have HE := Lib.hid hE
        clear hE
        go_enter Try.func22, Try.ntmps22
        go_wp2_with fail
        change Held (w.alloc (.cells #[.int .i64 N, .int .i64 L, .slice A n c] 24)) _ at I
        generalize World.alloc _ _ = w1 at I ⊢
        have q2 := I.now.2.three
        go_wp2_with (go_at_call 53; (with_reducible refine (Quiet.c (HBT.out _ _ _ _)).mono ?_); rintro e wq ⟨rfl, rfl⟩)
        clear d1 d2 q2
        go_loopw [25] (fun i wr => ∃ (k : Nat), k ≤ n ∧ i = .int .i64 k ∧ Aside (tchk N (l.drop k) = E) ∧ Aside (Below w1.heap.size w1 wr)) (fun i _ => n - (intOf i).toNat)
        case atStart => exact ⟨0, Nat.zero_le _, rfl, by rw [List.drop_zero]; exact HE.out, Below.refl _ _⟩
        case round =>
          obtain ⟨k, hk, rfl, HT, HB⟩ := hrel
          clear HE
          by_cases hlt : k < n
          · have hlt' : (k : Int) < (n : Int) := by omega
            have hw1 : IntKind.i64.wrap ((k : Int) + 1) = (k : Int) + 1 := by rw [i64_w]; exact w64_in (by omega) (by omega)
            have hT := HT.out
            rw [tchk_at (by omega)] at hT
            clear HT
            have J := I.next HB.out
            obtain ⟨b, off, e, hc⟩ := J.now.1.2.2.2 (by omega)
            subst e
            obtain ⟨⟨B, m, c2, g1, g2, g3⟩, g4⟩ := hc k hlt
            generalize l[k]?.getD ⟨[], false⟩ = x at g2 g4 hT
            obtain ⟨xs, xa⟩ := x
            dsimp only at g2 g4 hT
            have h54 : ∀ W, Reads W B m xs → Gives 54 #[.agg #[.int .i64 N, .int .i64 L, .slice (some ⟨b, off, none⟩) n c], .slice B m c2] (.int .i64 (schk N (-1) xs)) W := fun W h => check1_calls h1 _ n c B m c2 xs W h
            obtain ⟨e, he⟩ : ∃ e, schk N (-1) xs = e := ⟨_, rfl⟩
            rw [he] at hT h54
            have H54 := Lib.hid h54
            have HT := Lib.hid hT
            replace J := ((J.with (Held.from (b := w1.heap.size) HB.out HB.out.size)).with (.reads g2)).allocB [.slice B m c2, .bool xa] 66
            clear hc h54 he hT g2 g3
            go_upto_region 8 with fail
            change Held (wr.alloc (.cells #[.slice B m c2, .bool xa] 66)) _ at J
            generalize World.alloc _ _ = w2 at J ⊢
            have q1 := J.now.1.1.1.2.three
            have q3 := J.now.2.two
            go_upto_region 9 with (go_at_call 54; (with_reducible refine (Gives.c (H54.out _ J.now.1.2)).mono ?_); rintro e' w3 ⟨rfl, hb⟩; replace J := J.next hb; clear hb q1 q3)
            by_cases hz : e = 0
            · subst hz
              have hT := HT.out
              rw [if_pos rfl] at hT
              have HT2 := Lib.hid hT
              have HB2 := Lib.hid J.now.1.1.2
              clear hT HT J
              go_wp2_with fail
              go_roundw
              case measure => simp [intOf]; omega
              case rel => exact ⟨k + 1, by omega, by go_num, HT2.out, HB2.out⟩
            · have hz' : (e != 0) = true := by simp [hz]
              have hT := HT.out
              rw [if_neg hz] at hT
              subst hT
              have HA := Lib.hid J.now.1.1.1.1.1
              clear HT J
              go_wp2_with fail
              go_ret
              exact ⟨rfl, HA.out⟩
          · obtain rfl : k = n := by omega
            have hT := HT.out
            rw [List.drop_of_length_le (by omega)] at hT
            subst hT
            have HA := Lib.hid (I.at HB.out).1.1
            go_wp2_with fail
            go_ret
            exact ⟨rfl, HA.out⟩
    · have d2 := btw_no h2
      rw [if_pos (fun h => h2 h.2)]
      go_enter Try.func22, Try.ntmps22
      go_wp2_with fail
      change Held (w.alloc (.cells #[.int .i64 N, .int .i64 L, .slice A n c] 24)) _ at I
      generalize World.alloc _ _ = w1 at I ⊢
      have q2 := I.now.2.three
      go_wp2_with (go_at_call 53; (with_reducible refine (Quiet.c (HBT.out _ _ _ _)).mono ?_); rintro e wq ⟨rfl, rfl⟩)
      go_ret
      exact ⟨rfl, I.now.1.1⟩
  · have d1 := btw_no h1
    rw [if_pos (fun h => h1 h.1)]
    go_enter Try.func22, Try.ntmps22
    go_wp2_with fail
    change Held (w.alloc (.cells #[.int .i64 N, .int .i64 L, .slice A n c] 24)) _ at I
    generalize World.alloc _ _ = w1 at I ⊢
    have q2 := I.now.2.three
    go_wp2_with (go_at_call 53; (with_reducible refine (Quiet.c (HBT.out _ _ _ _)).mono ?_); rintro e wq ⟨rfl, rfl⟩)
    go_ret
    exact ⟨rfl, I.now.1.1⟩
end Go.Proofs.Ytpnkbjdeiedhlaa
