/- The contract of the reference's Govern. -/
import Derived.Test.YtphbiaagmhhhbaaRF
namespace Go.Proofs.Ytphbiaagmhhhbaa
open Go.RowKit Go.Lib Go.Shelf

set_option maxRecDepth 100000 in
set_option maxHeartbeats 2000000 in
theorem rgovern_yes {c t lo hi g : Int} {m : Nat} (hs : Sound c t lo hi) (hg : lo ≤ g ∧ g ≤ hi) (hm : m ≤ 1000) (w : World) :
    Calls Try.prog 37 #[.agg #[.int .i64 c, .int .i64 t, .int .i64 lo, .int .i64 hi], .int .i64 g, .int .i64 m] w (ListOut (govL c t g m, 0) w) := by
  obtain ⟨i0, hi0, hz0, hz1, hz2⟩ := info_parts info3
  have hbt := btw_yes (lo := 0) (n := (m : Int)) (hi := 1000) ⟨by omega, by omega⟩
  have hc0 : ¬ c = 0 := by have := hs.1; omega
  have hc1 : (c == 0) = false := beq_eq_false_iff_ne.2 hc0
  have hz : listedF c t lo hi g 0 = 0 := by unfold listedF; rw [if_pos ⟨hs, hg⟩, if_neg (by decide)]
  have hl : ∀ n W, 0 ≤ n → n ≤ 1001 → Gives 63 #[.agg #[.int .i64 c, .int .i64 t, .int .i64 lo, .int .i64 hi], .int .i64 g, .int .i64 n] (.int .i64 (len c g n)) W := fun n W h0 h1 => rlength_calls (by have := hs.1; omega) hs.1.2 (by have := hs.2.2; omega) (by have := hs.2.2; omega) h0 h1 W
  have hgov : ∀ n : Int, 0 ≤ n → n ≤ 1001 → IntKind.i64.wrap (len c g n * t) = len c g n * t ∧ IntKind.i64.wrap ((len c g n * t).tdiv c) = gov c t g n ∧ 0 ≤ gov c t g n ∧ gov c t g n ≤ 600600000 := by
    intro n h0 h1
    have hbd := gov_bd (c := c) (t := t) (g := g) (n := n) hs.2.1.1 hs.2.1.2 hs.1.2 (by have := hs.2.2; omega) (by have := hs.2.2; omega) h0 h1
    refine ⟨by rw [i64_w]; exact w64_in (by omega) (by omega), ?_, hbd.2.2⟩
    have e : (len c g n * t) / c = gov c t g n := rfl
    rw [i64_w, Int.tdiv_eq_ediv_of_nonneg hbd.1, e]
    exact w64_in (by omega) (by omega)
  have HL := Lib.hid hl
  have HZ := Lib.hid hz
  have HG := Lib.hid hgov
  have I : Held (w.alloc (.cells [Value.int .i64 c, .int .i64 t, .int .i64 lo, .int .i64 hi].toArray 43)) (fun W => Below w.heap.size w W ∧ Blk W w.heap.size [.int .i64 c, .int .i64 t, .int .i64 lo, .int .i64 hi]) := .start (.from (Below.refl _ _) (Nat.le_refl _)) _ _
  clear hl hz hgov hs hg
  go_enter Try.func37, Try.ntmps37
  go_wp2_with (first | (go_at_call 69; (with_reducible refine (Gives.c (listed_calls _ _ _ _ _ _ _)).mono ?_); rintro e w1 ⟨rfl, hb⟩; rw [HZ.out]; replace I := I.next hb; clear hb) | (go_at_call 62; (with_reducible refine (is_calls _ _ _ _).mono ?_); rintro e w1 ⟨rfl, rfl⟩))
  go_loopw [9, 10] (fun v i wr => ∃ k : Nat, k ≤ m ∧ i = .int .i64 k ∧ Aside (wr.ownsRow w1.heap.size 3 1 v k (nums (govL c t g k))) ∧ Aside (Below w1.heap.size w1 wr))
    (fun _ i _ => m - (intOf i).toNat)
  case atStart => exact ⟨0, Nat.zero_le _, rfl, World.ownsRow_nil _ _ _ _, Below.refl _ _⟩
  case round =>
    obtain ⟨k, hk, rfl, HO, HB⟩ := hrel
    have J := I.next HB.out
    by_cases hlt : k < m
    · have hlt' : (k : Int) < (m : Int) := by omega
      have hw1 : IntKind.i64.wrap ((k : Int) + 1) = (k : Int) + 1 := by rw [i64_w]; exact w64_in (by omega) (by omega)
      obtain ⟨a1, a2, a3, a4⟩ := HG.out ((k : Int) + 1) (by omega) (by omega)
      obtain ⟨b1, b2, b3, b4⟩ := HG.out (k : Int) (by omega) (by omega)
      have hsub : IntKind.i64.wrap (gov c t g ((k : Int) + 1) - gov c t g (k : Int)) = gov c t g ((k : Int) + 1) - gov c t g (k : Int) := by rw [i64_w]; exact w64_in (by omega) (by omega)
      have hsn := Lib.hid (govL_snoc c t g k)
      have hB := HB.out.size
      have hS2 : ∀ W, Below w1.heap.size w1 W → (W.cell? ⟨w.heap.size, 0, none⟩ = some (.int .i64 c) ∧ W.cell? ⟨w.heap.size, 1, none⟩ = some (.int .i64 t) ∧ W.cell? ⟨w.heap.size, 2, none⟩ = some (.int .i64 lo) ∧ W.cell? ⟨w.heap.size, 3, none⟩ = some (.int .i64 hi)) := fun W hW => (I.next hW).now.2.four
      have HS2 := Lib.hid hS2
      clear hS2 a3 a4 b3 b4
      go_wp2
      go_region_held3 (fun W => W.cell? ⟨w.heap.size, 0, none⟩ = some (.int .i64 c) ∧ W.cell? ⟨w.heap.size, 1, none⟩ = some (.int .i64 t) ∧ W.cell? ⟨w.heap.size, 2, none⟩ = some (.int .i64 lo) ∧ W.cell? ⟨w.heap.size, 3, none⟩ = some (.int .i64 hi))
        (first
          | exact HS2.out _ HB4.out
          | exact HS2.out _ (HB3.out.alloc HB3.out.size _)
          | exact HS2.out _ HB3.out
          | exact HS2.out _ HB2.out
          | exact HS2.out _ (below_drewN' HB.out 1)
          | fail)
        (first
          | (go_at_call 63; (with_reducible refine (Gives.c (HL.out ((k : Int) + 1) _ (by omega) (by omega))).mono ?_); rintro e w2 ⟨rfl, hb⟩; have HB2 := Lib.hid ((below_drewN' HB.out 1).trans (hb.mono hB)); have hO2 := own_later (own_later HO.out (below_drewN' (Below.refl _ _) 1)) hb)
          | (go_at_call 63; (with_reducible refine (Gives.c (HL.out (k : Int) _ (by omega) (by omega))).mono ?_); rintro e w3 ⟨rfl, hb3⟩; have HB3 := Lib.hid (HB2.out.trans (hb3.mono HB2.out.size)); have hO3 := own_later hO2 hb3; have hsz := HB3.out.size)
          | (refine step_append_lies _ rfl _ _ _ rfl w1.heap.size 3 i0 (.int .i64 0) 1 8 Try.underlying32 hi0 hz0 hz1 hz2 rfl (by decide) _ _ _ rfl (hO3.alloc _) ⟨w3.heap.size, 0, none⟩ 1 1 [.int .i64 (gov c t g ((k : Int) + 1) - gov c t g (k : Int))] rfl rfl (cell_one_new _ _ _) (by intro u hu; simp at hu; subst hu; rfl) (by decide) (by unfold maxLen; omega) (by omega) (by simp; omega) _ rfl ?_; intro g4 cap4 w4 hown' hgrow hat hlt4; have HO' := Lib.hid hown'; have HB4 := Lib.hid ((HB3.out.alloc HB3.out.size _).grown hgrow (by simp; omega) (by intro j hj; exact own_base' hO3 j hj)))
          | fail)
      clear hown' hgrow hO3
      go_wp2
      go_roundw
      case measure => simp [intOf]; omega
      case rel => exact ⟨k + 1, by omega, by go_num, (show Aside _ from by rw [hsn.out]; exact HO'.out), HB4.out⟩
    · obtain rfl : k = m := by omega
      have hln := govL_length c t g k
      obtain ⟨A', c', rfl, hR⟩ := own_reads HO.out (by omega)
      have HR := Lib.hid hR
      clear hR
      go_wp2
      go_ret2
      exact ⟨⟨A', k, c', rfl, HR.out⟩, J.now.1⟩

theorem rgovern_no {c t lo hi g n : Int} (hz : ¬ listedF c t lo hi g 0 = 0) (w : World) :
    Calls Try.prog 37 #[.agg #[.int .i64 c, .int .i64 t, .int .i64 lo, .int .i64 hi], .int .i64 g, .int .i64 n] w (ListOut ([], 3) w) := by
  have hz3 : listedF c t lo hi g 0 = 3 := by
    unfold listedF at hz ⊢
    split
    · rename_i h; rw [if_pos h] at hz; exact absurd rfl hz
    · rfl
  clear hz
  go_enter Try.func37, Try.ntmps37
  go_wp2_with (first | (go_at_call 69; (with_reducible refine (Gives.c (listed_calls _ _ _ _ _ _ _)).mono ?_); rintro e w1 ⟨rfl, hb⟩; rw [hz3]))
  go_ret2
  exact nilOut rfl (((Below.refl _ _).alloc (Nat.le_refl _) _).trans (hb.mono (by simp)))
theorem rgovern_many {c t lo hi g n : Int} (hz : listedF c t lo hi g 0 = 0) (hn : ¬ (0 ≤ n ∧ n ≤ 1000)) (w : World) :
    Calls Try.prog 37 #[.agg #[.int .i64 c, .int .i64 t, .int .i64 lo, .int .i64 hi], .int .i64 g, .int .i64 n] w (ListOut ([], 3) w) := by
  have hbt := btw_no hn
  clear hn
  go_enter Try.func37, Try.ntmps37
  go_wp2_with (first | (go_at_call 69; (with_reducible refine (Gives.c (listed_calls _ _ _ _ _ _ _)).mono ?_); rintro e w1 ⟨rfl, hb⟩; rw [hz]) | (go_at_call 62; (with_reducible refine (is_calls _ _ _ _).mono ?_); rintro e w1 ⟨rfl, rfl⟩))
  go_ret2
  exact nilOut rfl (((Below.refl _ _).alloc (Nat.le_refl _) _).trans (hb.mono (by simp)))
theorem rgovern_calls (c t lo hi g n : Int) (w : World) :
    Calls Try.prog 37 #[.agg #[.int .i64 c, .int .i64 t, .int .i64 lo, .int .i64 hi], .int .i64 g, .int .i64 n] w (ListOut (governF c t lo hi g n) w) := by
  unfold governF
  by_cases hz : listedF c t lo hi g 0 = 0
  · have hh := listed_zero hz
    by_cases hn : 0 ≤ n ∧ n ≤ 1000
    · rw [if_pos ⟨hh.1, hh.2.1, hn⟩]
      obtain ⟨m, rfl⟩ := Int.eq_ofNat_of_zero_le hn.1
      exact rgovern_yes hh.1 hh.2.1 (by omega) w
    · rw [if_neg (fun h => hn h.2.2)]; exact rgovern_many hz hn w
  · rw [if_neg (fun h => hz (by unfold listedF; rw [if_pos ⟨h.1, h.2.1⟩, if_neg (by decide)]))]; exact rgovern_no hz w
end Go.Proofs.Ytphbiaagmhhhbaa
