/- The contracts of the reference's Play and Govern. -/
import Derived.Test.YtphbiaagmhhhbaaRE
namespace Go.Proofs.Ytphbiaagmhhhbaa
open Go.RowKit Go.Lib Go.Shelf

set_option maxRecDepth 100000 in
set_option maxHeartbeats 2000000 in
theorem rplay_calls (c t lo hi g : Int) (A : Option Addr) (n cap : Nat) (l : List Int) (w : World) (hl : Reads w A n l) :
    Calls Try.prog 34 #[.agg #[.int .i64 c, .int .i64 t, .int .i64 lo, .int .i64 hi], .int .i64 g, .slice A n cap] w (ListOut (playF c t lo hi g l) w) := by
  rw [playF_eq hl.1]
  generalize hz : listedF c t lo hi g n = z
  have hmax := hl.2.1
  by_cases h0 : z = 0
  · subst h0
    rw [if_pos rfl]
    obtain ⟨hs, hg, hn⟩ := listed_zero hz
    obtain ⟨i0, hi0, hz0, hz1, hz2⟩ := info_parts info3
    have hp : ∀ x W, Gives 68 #[.agg #[.int .i64 c, .int .i64 t, .int .i64 lo, .int .i64 hi], .int .i64 g, .int .i64 x] (.int .i64 (arr c t g x)) W := fun x W => rarrival_calls hs.2.1.1 hs.2.1.2 hs.1.2 (by have := hs.2.2; omega) (by have := hs.2.2; omega) W
    generalize hR : (if ferr (placedF c t g) l = 0 then (l.map (arr c t g), (0 : Int)) else ([], ferr (placedF c t g) l)) = R
    have HR := Lib.hid hR
    have HP := Lib.hid hp
    have HL := Lib.hid hl
    have HZ := Lib.hid hz
    have hlen := hl.1
    have I : Held (w.alloc (.cells [Value.int .i64 c, .int .i64 t, .int .i64 lo, .int .i64 hi].toArray 43)) (fun W => Below w.heap.size w W ∧ Blk W w.heap.size [.int .i64 c, .int .i64 t, .int .i64 lo, .int .i64 hi]) := .start (.from (Below.refl _ _) (Nat.le_refl _)) _ _
    clear hR hp hl hz hs hg
    go_enter Try.func34, Try.ntmps34
    go_wp2_with (go_at_call 69; (with_reducible refine (Gives.c (listed_calls _ _ _ _ _ _ _)).mono ?_); rintro e w1 ⟨rfl, hb⟩; rw [HZ.out]; replace I := I.next hb; clear hb)
    go_loopw [9, 10] (fun v i wr => ∃ k : Nat, k ≤ n ∧ i = .int .i64 k ∧ Aside (wr.ownsRow w1.heap.size 3 1 v k (nums (outs (arr c t g) l k))) ∧ Aside (∀ j, j < k → placedF c t g (l[j]?.getD 0) = 0) ∧ Aside (Below w1.heap.size w1 wr))
      (fun _ i _ => n - (intOf i).toNat)
    case atStart => exact ⟨0, Nat.zero_le _, rfl, World.ownsRow_nil _ _ _ _, fun j hj => absurd hj (Nat.not_lt_zero _), Below.refl _ _⟩
    case round =>
      obtain ⟨k, hk, rfl, HO, HE, HB⟩ := hrel
      have J := I.next HB.out
      by_cases hlt : k < n
      · have hlt' : (k : Int) < (n : Int) := by omega
        have hw2 : IntKind.i64.wrap ((k : Int) + 1) = (k : Int) + 1 := by rw [i64_w]; exact w64_in (by omega) (by omega)
        have q := J.now.2.four
        have ra := HL.out.later J.now.1
        obtain ⟨b, off, rfl, hc⟩ := ra.2.2 (by omega)
        have hc1 := hc k hlt
        have hs := take_snoc l (arr c t g) k (by omega)
        have hE : placedF c t g (l[k]?.getD 0) ≠ 0 → ferr (placedF c t g) l = placedF c t g (l[k]?.getD 0) := fun h => ferr_hit (by omega) HE.out h
        have hE' : placedF c t g (l[k]?.getD 0) = 0 → ∀ j, j < k + 1 → placedF c t g (l[j]?.getD 0) = 0 := fun h j hj => by
          by_cases e : j = k
          · rw [e]; exact h
          · exact HE.out j (by omega)
        generalize hxk : l[k]?.getD 0 = x at hc1 hs hE hE'
        clear hxk
        have HS := Lib.hid hs
        have HX := Lib.hid hE
        have HX' := Lib.hid hE'
        clear hs hE hE' hc ra
        have hS1 : ∀ W, Below wr.heap.size wr W → Below wr.heap.size wr W ∧ (W.cell? ⟨w.heap.size, 0, none⟩ = some (.int .i64 c) ∧ W.cell? ⟨w.heap.size, 1, none⟩ = some (.int .i64 t) ∧ W.cell? ⟨w.heap.size, 2, none⟩ = some (.int .i64 lo) ∧ W.cell? ⟨w.heap.size, 3, none⟩ = some (.int .i64 hi)) ∧ W.cell? ⟨b, off + k, none⟩ = some (.int .i64 x) := fun W hW => ⟨hW, (J.next hW).now.2.four, (hW.cell (p := ⟨b, off + k, none⟩) (World.block_lt_of_cell? wr _ hc1)).trans hc1⟩
        have HS1 := Lib.hid hS1
        clear hS1
        by_cases hx : x < 0
        · have hok : placedF c t g x = 3 := if_pos hx
          go_wp2
          go_ret2
          have he := HX.out (by rw [hok]; decide)
          rw [← HR.out, if_neg (by rw [he, hok]; decide), he, hok]
          exact nilOut rfl J.now.1
        · generalize hy : arr c t g x = y
          have HY := Lib.hid hy
          clear hy
          by_cases hy0 : y < 0
          · have hok : placedF c t g x = 11 := by unfold placedF; rw [if_neg hx, HY.out, if_pos hy0]
            go_wp2
            go_region_held3 (fun W => Below wr.heap.size wr W ∧ (W.cell? ⟨w.heap.size, 0, none⟩ = some (.int .i64 c) ∧ W.cell? ⟨w.heap.size, 1, none⟩ = some (.int .i64 t) ∧ W.cell? ⟨w.heap.size, 2, none⟩ = some (.int .i64 lo) ∧ W.cell? ⟨w.heap.size, 3, none⟩ = some (.int .i64 hi)) ∧ W.cell? ⟨b, off + k, none⟩ = some (.int .i64 x))
              (first
                | exact HS1.out _ ((below_drewN' (Below.refl _ _) 1).trans (hb.mono (Nat.le_refl _)))
                | exact HS1.out _ (below_drewN' (Below.refl _ _) 1)
                | fail)
              (first
                | (go_at_call 68; (with_reducible refine (Gives.c (HP.out _ _)).mono ?_); rintro e w2 ⟨rfl, hb⟩; rw [HY.out])
                | fail)
            rename_i w3 hh
            obtain ⟨G0, G1, G2⟩ := hh
            have HB2 := Lib.hid (HB.out.trans (G0.mono HB.out.size))
            have hO2 := own_later HO.out G0
            replace J := J.next G0
            clear G0 G1 G2 q hc1 hmax HS1 hb
            go_wp2
            go_ret2
            have he := HX.out (by rw [hok]; decide)
            rw [← HR.out, if_neg (by rw [he, hok]; decide), he, hok]
            exact nilOut rfl J.now.1
          · have hok : placedF c t g x = 0 := by unfold placedF; rw [if_neg hx, HY.out, if_neg hy0]
            go_wp2
            go_region_held3 (fun W => Below wr.heap.size wr W ∧ (W.cell? ⟨w.heap.size, 0, none⟩ = some (.int .i64 c) ∧ W.cell? ⟨w.heap.size, 1, none⟩ = some (.int .i64 t) ∧ W.cell? ⟨w.heap.size, 2, none⟩ = some (.int .i64 lo) ∧ W.cell? ⟨w.heap.size, 3, none⟩ = some (.int .i64 hi)) ∧ W.cell? ⟨b, off + k, none⟩ = some (.int .i64 x))
              (first
                | exact HS1.out _ ((below_drewN' (Below.refl _ _) 1).trans (hb.mono (Nat.le_refl _)))
                | exact HS1.out _ (below_drewN' (Below.refl _ _) 1)
                | fail)
              (first
                | (go_at_call 68; (with_reducible refine (Gives.c (HP.out _ _)).mono ?_); rintro e w2 ⟨rfl, hb⟩; rw [HY.out])
                | fail)
            rename_i w3 hh
            obtain ⟨G0, G1, G2⟩ := hh
            have HB2 := Lib.hid (HB.out.trans (G0.mono HB.out.size))
            have hO2 := own_later HO.out G0
            replace J := J.next G0
            clear G0 G1 G2 q hc1 hmax HS1 hb
            have hsz := HB2.out.size
            go_wp2_with (first
              | (at_builtin; refine wpList_append_own _ rfl _ _ 32 rfl w1.heap.size 3 i0 (.int .i64 0) 1 8 Try.underlying32 hi0 hz0 hz1 hz2 rfl (by decide) _ _ _ rfl (hO2.alloc _) ⟨w2.heap.size, 0, none⟩ 1 1 [.int .i64 y] rfl rfl (cell_one_new _ _ _) (by intro u hu; simp at hu; subst hu; rfl) ?c3 ?c4 ?c5 ?_))
            case c3 => unfold maxLen; omega
            case c4 => omega
            case c5 => simp; omega
            intro v' w4 hown' hgrow _
            have HO' := Lib.hid hown'
            have HB4 := Lib.hid ((HB2.out.alloc HB2.out.size _).grown hgrow (by simp; omega) (by intro j hj; exact own_base' hO2 j hj))
            clear hown' hgrow hO2
            go_wp2
            go_roundw
            case measure => simp [intOf]; omega
            case rel => exact ⟨k + 1, by omega, by go_num, (show Aside _ from by rw [HS.out, HY.out]; exact HO'.out), HX'.out hok, HB4.out⟩
      · obtain rfl : k = n := by omega
        have he := Lib.hid (ferr_none (ck := placedF c t g) (l := l) (fun j hj => HE.out j (by omega)))
        have HO2 := HO.out
        rw [show outs (arr c t g) l k = l.map (arr c t g) from by unfold outs; rw [← hlen, List.take_length]] at HO2
        obtain ⟨A', c', rfl, hR⟩ := own_reads HO2 (by omega)
        have HRR := Lib.hid hR
        clear hR HO2
        go_wp2
        go_ret2
        rw [← HR.out, if_pos he.out]
        exact ⟨⟨A', k, c', rfl, HRR.out⟩, J.now.1⟩
  · rw [if_neg h0]
    have HZ := Lib.hid hz
    have e0 : (z == 0) = false := beq_eq_false_iff_ne.2 h0
    have e1 : (z != 0) = true := bne_iff_ne.2 h0
    clear hz h0 hl
    go_enter Try.func34, Try.ntmps34
    go_wp2_with (go_at_call 69; (with_reducible refine (Gives.c (listed_calls _ _ _ _ _ _ _)).mono ?_); rintro e w1 ⟨rfl, hb⟩; rw [HZ.out])
    go_ret2
    exact nilOut rfl (((Below.refl _ _).alloc (Nat.le_refl _) _).trans (hb.mono (by simp)))
end Go.Proofs.Ytphbiaagmhhhbaa
