/- The reference: mistakes, Check. -/
import Derived.Test.YtpnkbjdeiedhlaaQA
namespace Go.Proofs.Ytpnkbjdeiedhlaa
open Go.RowKit Go.Lib Go.Shelf
open St

set_option maxRecDepth 100000 in
set_option maxHeartbeats 2000000 in
theorem rmistakes_calls (N L : Int) (A : Option Addr) (n c : Nat) (l : List Tst) (t : Int) (w : World) (hl : ReadsT w A n l) (hn : n ≤ 1000) :
    Gives 49 #[rec N L A n c, .int .i64 t] (.int .i64 (mis l t : Int)) w := by
  unfold Gives
  have hlen := hl.1
  have I : Held (w.alloc (.cells [Value.int .i64 N, .int .i64 L, .slice A n c].toArray 29)) (fun W => (Below w.heap.size w W ∧ ReadsT W A n l) ∧ Blk W w.heap.size [Value.int .i64 N, .int .i64 L, .slice A n c]) :=
    ((Held.from (Below.refl _ _) (Nat.le_refl _)).with (.readsT hl)).allocB [Value.int .i64 N, .int .i64 L, .slice A n c] 29
  clear hl
  go_enter Try.func49, Try.ntmps49
  go_wp2_with fail
  change Held (w.alloc (.cells #[.int .i64 N, .int .i64 L, .slice A n c] 29)) _ at I
  generalize World.alloc _ _ = w1 at I ⊢
  go_loopw [5, 6] (fun s5 s6 wr => ∃ k : Nat, k ≤ n ∧ s6 = .int .i64 k ∧ s5 = .int .i64 ((l.take k).countP (isM t) : Int) ∧ Aside (Below w1.heap.size w1 wr)) (fun _ s6 _ => n - (intOf s6).toNat)
  case atStart => exact ⟨0, Nat.zero_le _, rfl, by simp, Below.refl _ _⟩
  case round =>
    obtain ⟨k, hk, rfl, rfl, HB⟩ := hrel
    have J := I.next HB.out
    have q2 := J.now.2.three
    by_cases hlt : k < n
    · have hlt' : (k : Int) < (n : Int) := by omega
      have hw1 : IntKind.i64.wrap ((k : Int) + 1) = (k : Int) + 1 := i64_in (by omega) (by omega)
      have hcl : (l.take k).countP (isM t) ≤ n := Nat.le_trans List.countP_le_length (by simp; omega)
      have hst := mis_step (l := l) (k := k) (t := t) (by omega)
      generalize (l.take k).countP (isM t) = q at hcl hst ⊢
      have hw2 : IntKind.i64.wrap ((q : Int) + 1) = (q : Int) + 1 := i64_in (by omega) (by omega)
      obtain ⟨b, off, e, hc⟩ := J.now.1.2.2.2 (by omega)
      subst e
      obtain ⟨⟨B, m, c2, h1, h2, h3⟩, h4⟩ := hc k hlt
      generalize l[k]?.getD ⟨[], false⟩ = x at h2 h4 hst
      obtain ⟨xs, xa⟩ := x
      dsimp only at h2 h4
      obtain ⟨dd, hdd⟩ : ∃ dd, decide (t ∈ xs) = dd := ⟨_, rfl⟩
      rw [show isM t ⟨xs, xa⟩ = (dd != xa) from by rw [← hdd]; rfl] at hst
      have H77 : ∀ W, Reads W B m xs → Quiet 77 #[.slice B m c2, .int .i64 t] (.bool dd) W := fun W h => by rw [← hdd]; exact rhas_calls B m c2 xs t W h
      have HC := Lib.hid H77
      have HST := Lib.hid hst
      have z1 := World.block_lt_of_cell? _ _ h1
      have hS : ∀ X, Below wr.heap.size wr X → Below wr.heap.size wr X ∧ (X.cell? ⟨w.heap.size, 0, none⟩ = some (.int .i64 N) ∧ X.cell? ⟨w.heap.size, 1, none⟩ = some (.int .i64 L) ∧ X.cell? ⟨w.heap.size, 2, none⟩ = some (.slice (some ⟨b, off, none⟩) n c)) ∧ X.cell? ⟨b, off + k * 2, none⟩ = some (.slice B m c2) ∧ X.cell? ⟨b, off + k * 2 + 1, none⟩ = some (.bool xa) := fun X hX =>
        ⟨hX, (J.at hX).2.three, (hX.cell (p := ⟨b, off + k * 2, none⟩) z1).trans h1, (hX.cell (p := ⟨b, off + k * 2 + 1, none⟩) z1).trans h4⟩
      have HS := Lib.hid hS
      have HR2 := Lib.hid h2
      have HJ := Lib.hid J
      clear hS hc H77 hdd hst h1 h2 h3 h4 J
      go_upto_region 5 with fail
      clear q2
      go_cut [28] (fun s28 wx => s28 = .bool (dd != xa) ∧ Aside (Below wr.heap.size wr wx))
      case first =>
        go_region_held3 (fun X => Below wr.heap.size wr X ∧ (X.cell? ⟨w.heap.size, 0, none⟩ = some (.int .i64 N) ∧ X.cell? ⟨w.heap.size, 1, none⟩ = some (.int .i64 L) ∧ X.cell? ⟨w.heap.size, 2, none⟩ = some (.slice (some ⟨b, off, none⟩) n c)) ∧ X.cell? ⟨b, off + k * 2, none⟩ = some (.slice B m c2) ∧ X.cell? ⟨b, off + k * 2 + 1, none⟩ = some (.bool xa))
          (first
            | with_reducible exact HS.out _ (Below.refl _ _)
            | with_reducible exact HS.out _ (Below.refl _ _).drew
            | fail)
          (first
            | (go_at_call 77; (with_reducible refine (Quiet.c (HC.out _ (HR2.out.later (Below.refl _ _).drew))).mono ?_); rintro e' wy ⟨rfl, rfl⟩)
            | fail)
        all_goals
          go_wp2_with fail
          go_meet
          exact ⟨rfl, (Below.refl _ _).drew⟩
      case rest =>
        obtain ⟨rfl, HB2⟩ := hcut
        have HB4 := Lib.hid (HB.out.trans (HB2.out.mono HB.out.size))
        clear HS HC
        cases hm : (dd != xa) with
        | true =>
          have hst := HST.out
          rw [hm] at hst
          have HST2 := Lib.hid hst
          clear hst
          go_wp2_with fail
          go_roundw
          case measure => simp [intOf]; omega
          case rel => exact ⟨k + 1, by omega, by go_num, by rw [HST2.out]; rfl, HB4.out⟩
        | false =>
          have hst := HST.out
          rw [hm] at hst
          have HST2 := Lib.hid hst
          clear hst
          go_wp2_with fail
          go_roundw
          case measure => simp [intOf]; omega
          case rel => exact ⟨k + 1, by omega, by go_num, by rw [HST2.out]; rfl, HB4.out⟩
    · obtain rfl : n = k := by omega
      have hcl : (l.take n).countP (isM t) = mis l t := by rw [← hlen, List.take_length]; rfl
      rw [hcl]
      have HB3 := Lib.hid J.now.1.1
      go_wp2_with fail
      go_ret
      exact ⟨rfl, HB3.out⟩

set_option maxRecDepth 100000 in
set_option maxHeartbeats 4000000 in
theorem rcheck_calls (N L : Int) (A : Option Addr) (n c : Nat) (l : List Tst) (w : World) (hl : ReadsT w A n l) :
    Gives 23 #[rec N L A n c] (.int .i64 (rchk N L l)) w := by
  unfold Gives rchk
  rw [hl.1]
  have hm := hl.2.1
  have hlen := hl.1
  have I : Held (w.alloc (.cells [Value.int .i64 N, .int .i64 L, .slice A n c].toArray 29)) (fun W => (Below w.heap.size w W ∧ ReadsT W A n l) ∧ Blk W w.heap.size [Value.int .i64 N, .int .i64 L, .slice A n c]) :=
    ((Held.from (Below.refl _ _) (Nat.le_refl _)).with (.readsT hl)).allocB [Value.int .i64 N, .int .i64 L, .slice A n c] 29
  have hB : ∀ n lo hi W, Quiet 55 #[.int .i64 n, .int .i64 lo, .int .i64 hi] (.bool (btw lo n hi)) W := is_calls
  have HBT := Lib.hid hB
  clear hl hB
  by_cases h1 : 1 ≤ N ∧ N ≤ 16
  · have d1 := btw_yes h1
    by_cases h2 : 0 ≤ L ∧ L ≤ 2
    · have d2 := btw_yes h2
      rw [if_neg (fun h => h ⟨h1, h2⟩)]
      by_cases h3 : 30 < n
      · have h3' : (30 : Int) < (n : Int) := by omega
        rw [if_pos h3]
        go_enter Try.func23, Try.ntmps23
        go_wp2_with fail
        change Held (w.alloc (.cells #[.int .i64 N, .int .i64 L, .slice A n c] 29)) _ at I
        generalize World.alloc _ _ = w1 at I ⊢
        have q2 := I.now.2.three
        go_wp2_with (go_at_call 55; (with_reducible refine (Quiet.c (HBT.out _ _ _ _)).mono ?_); rintro e wq ⟨rfl, rfl⟩)
        go_ret
        exact ⟨rfl, I.now.1.1⟩
      · have h3' : ¬ (30 : Int) < (n : Int) := by omega
        rw [if_neg h3]
        obtain ⟨E, hE⟩ : ∃ E, tchk N l = E := ⟨_, rfl⟩
        rw [hE]
        have HE := Lib.hid hE
        clear hE
        go_enter Try.func23, Try.ntmps23
        go_wp2_with fail
        change Held (w.alloc (.cells #[.int .i64 N, .int .i64 L, .slice A n c] 29)) _ at I
        generalize World.alloc _ _ = w1 at I ⊢
        have q2 := I.now.2.three
        go_wp2_with (go_at_call 55; (with_reducible refine (Quiet.c (HBT.out _ _ _ _)).mono ?_); rintro e wq ⟨rfl, rfl⟩)
        clear d1 d2 q2
        go_loopw [3] (fun i wr => ∃ (k : Nat), k ≤ n ∧ i = .int .i64 k ∧ Aside (tchk N (l.drop k) = E) ∧ Aside (Below w1.heap.size w1 wr)) (fun i _ => n - (intOf i).toNat)
        case atStart => exact ⟨0, Nat.zero_le _, rfl, by rw [List.drop_zero]; exact HE.out, Below.refl _ _⟩
        case round =>
          obtain ⟨k, hk, rfl, HT, HB⟩ := hrel
          clear HE
          have J := I.next HB.out
          have q2 := J.now.2.three
          by_cases hlt : k < n
          · have hlt' : (k : Int) < (n : Int) := by omega
            have hw1 : IntKind.i64.wrap ((k : Int) + 1) = (k : Int) + 1 := by rw [i64_w]; exact w64_in (by omega) (by omega)
            have hT := HT.out
            rw [tchk_at (by omega)] at hT
            clear HT
            obtain ⟨b, off, e, hc⟩ := J.now.1.2.2.2 (by omega)
            subst e
            obtain ⟨⟨B, m, c2, g1, g2, g3⟩, g4⟩ := hc k hlt
            generalize l[k]?.getD ⟨[], false⟩ = x at g2 g4 hT
            obtain ⟨xs, xa⟩ := x
            dsimp only at g2 g4 hT
            have h56 : ∀ W, Reads W B m xs → Gives 56 #[.int .i64 N, .slice B m c2] (.int .i64 (schk N (-1) xs)) W := fun W h => rstrips_calls h1 B m c2 xs W h
            obtain ⟨e, he⟩ : ∃ e, schk N (-1) xs = e := ⟨_, rfl⟩
            rw [he] at hT h56
            have H56 := Lib.hid h56
            have HT := Lib.hid hT
            have z1 := World.block_lt_of_cell? _ _ g1
            have hS : ∀ X, Below wr.heap.size wr X → Below wr.heap.size wr X ∧ (X.cell? ⟨w.heap.size, 0, none⟩ = some (.int .i64 N) ∧ X.cell? ⟨w.heap.size, 1, none⟩ = some (.int .i64 L) ∧ X.cell? ⟨w.heap.size, 2, none⟩ = some (.slice (some ⟨b, off, none⟩) n c)) ∧ X.cell? ⟨b, off + k * 2, none⟩ = some (.slice B m c2) := fun X hX =>
              ⟨hX, (J.at hX).2.three, (hX.cell (p := ⟨b, off + k * 2, none⟩) z1).trans g1⟩
            have HS := Lib.hid hS
            have HR2 := Lib.hid g2
            clear hS hc h56 he hT g1 g2 g3 g4 J
            go_upto_region 8 with fail
            clear q2
            go_cut [4] (fun s4 wx => s4 = .int .i64 e ∧ Aside (Below wr.heap.size wr wx))
            case first =>
              go_region_held3 (fun X => Below wr.heap.size wr X ∧ (X.cell? ⟨w.heap.size, 0, none⟩ = some (.int .i64 N) ∧ X.cell? ⟨w.heap.size, 1, none⟩ = some (.int .i64 L) ∧ X.cell? ⟨w.heap.size, 2, none⟩ = some (.slice (some ⟨b, off, none⟩) n c)) ∧ X.cell? ⟨b, off + k * 2, none⟩ = some (.slice B m c2))
                (first
                  | with_reducible exact HS.out _ (Below.refl _ _).drew
                  | with_reducible exact HS.out _ HBY.out
                  | fail)
                (first
                  | (go_at_call 56; (with_reducible refine (Gives.c (H56.out _ (HR2.out.later (Below.refl _ _).drew))).mono ?_); rintro e' wy ⟨rfl, hb⟩; have HBY := Lib.hid ((Below.refl wr.heap.size wr).drew.trans hb))
                  | fail)
              all_goals
                go_wp2_with fail
                go_meet
                exact ⟨rfl, HBY.out⟩
            case rest =>
              obtain ⟨rfl, HB2⟩ := hcut
              have HB4 := Lib.hid (HB.out.trans (HB2.out.mono HB.out.size))
              clear HS H56
              by_cases hz : e = 0
              · subst hz
                have hT := HT.out
                rw [if_pos rfl] at hT
                have HT2 := Lib.hid hT
                clear hT HT
                go_wp2_with fail
                go_roundw
                case measure => simp [intOf]; omega
                case rel => exact ⟨k + 1, by omega, by go_num, HT2.out, HB4.out⟩
              · have hz' : (e != 0) = true := by simp [hz]
                have hT := HT.out
                rw [if_neg hz] at hT
                subst hT
                have HA := Lib.hid (I.at HB4.out).1.1
                clear HT
                go_wp2_with fail
                go_ret
                exact ⟨rfl, HA.out⟩
          · obtain rfl : n = k := by omega
            have hT := HT.out
            rw [List.drop_of_length_le (by omega)] at hT
            subst hT
            have HA := Lib.hid J.now.1.1
            go_wp2_with fail
            go_ret
            exact ⟨rfl, HA.out⟩
    · have d2 := btw_no h2
      rw [if_pos (fun h => h2 h.2)]
      go_enter Try.func23, Try.ntmps23
      go_wp2_with fail
      change Held (w.alloc (.cells #[.int .i64 N, .int .i64 L, .slice A n c] 29)) _ at I
      generalize World.alloc _ _ = w1 at I ⊢
      have q2 := I.now.2.three
      go_wp2_with (go_at_call 55; (with_reducible refine (Quiet.c (HBT.out _ _ _ _)).mono ?_); rintro e wq ⟨rfl, rfl⟩)
      go_ret
      exact ⟨rfl, I.now.1.1⟩
  · have d1 := btw_no h1
    rw [if_pos (fun h => h1 h.1)]
    go_enter Try.func23, Try.ntmps23
    go_wp2_with fail
    change Held (w.alloc (.cells #[.int .i64 N, .int .i64 L, .slice A n c] 29)) _ at I
    generalize World.alloc _ _ = w1 at I ⊢
    have q2 := I.now.2.three
    go_wp2_with (go_at_call 55; (with_reducible refine (Quiet.c (HBT.out _ _ _ _)).mono ?_); rintro e wq ⟨rfl, rfl⟩)
    go_ret
    exact ⟨rfl, I.now.1.1⟩
end Go.Proofs.Ytpnkbjdeiedhlaa
