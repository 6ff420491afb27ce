/- The contract of Govern. -/
import Derived.Test.YtphbiaagmhhhbaaSL
namespace Go.Proofs.Ytphbiaagmhhhbaa
open Go.RowKit Go.Lib Go.Shelf

/-- How many ticks n turns take with a governor. -/
def gov (c t g n : Int) : Int := len c g n * t / c
def govL (c t g : Int) (n : Nat) : List Int := (List.range n).map fun (k : Nat) => gov c t g ((k : Int) + 1) - gov c t g (k : Int)
theorem govL_snoc (c t g : Int) (n : Nat) : nums (govL c t g (n + 1)) = nums (govL c t g n) ++ [Value.int .i64 (gov c t g ((n : Int) + 1) - gov c t g (n : Int))] := by
  unfold nums govL
  rw [List.range_succ, List.map_append, List.map_append]
  rfl
theorem govL_length (c t g : Int) (n : Nat) : (govL c t g n).length = n := by simp [govL]
theorem gov_zero (c t g : Int) : gov c t g 0 = 0 := by simp [gov, len]
theorem gov_bd {c t g n : Int} (ht : 1 ≤ t) (htc : t ≤ c) (hc1 : c ≤ 100000) (hg0 : 0 ≤ g) (hg1 : g ≤ 1000) (h0 : 0 ≤ n) (h1 : n ≤ 1001) :
    0 ≤ len c g n * t ∧ len c g n * t ≤ 60060000000000 ∧ 0 ≤ gov c t g n ∧ gov c t g n ≤ 600600000 := by
  have l := len_bd (c := c) (by omega) hc1 hg0 hg1 h0 h1
  have a := mul_bd (b := t) (B := 100000) l.1 l.2 (by omega) (by omega)
  refine ⟨a.1, a.2, Int.ediv_nonneg a.1 (by omega), ?_⟩
  refine Int.ediv_le_of_le_mul (by omega) ?_
  exact Int.mul_le_mul l.2 htc (by omega) (by omega)

def governF (c t lo hi g n : Int) : List Int × Int :=
  if Sound c t lo hi ∧ (lo ≤ g ∧ g ≤ hi) ∧ 0 ≤ n ∧ n ≤ 1000 then (govL c t g n.toNat, 0) else ([], 3)

set_option maxRecDepth 100000 in
set_option maxHeartbeats 2000000 in
theorem govern_yes {c t lo hi g : Int} {m : Nat} (hs : Sound c t lo hi) (hg : lo ≤ g ∧ g ≤ hi) (hm : m ≤ 1000) (w : World) :
    Calls Try.prog 36 #[.agg #[.int .i64 c, .int .i64 t, .int .i64 lo, .int .i64 hi], .int .i64 g, .int .i64 m] w (ListOut (govL c t g m, 0) w) := by
  obtain ⟨i0, hi0, hz0, hz1, hz2⟩ := info_parts info3
  have hbt := btw_yes (lo := 0) (n := (m : Int)) (hi := 1000) ⟨by omega, by omega⟩
  have hc0 : ¬ c = 0 := by have := hs.1; omega
  have hc1 : (c == 0) = false := beq_eq_false_iff_ne.2 hc0
  have hcp : 1 ≤ c := hs.1.1
  have H := Lib.hid hs
  have HG := Lib.hid hg
  clear hs hg
  go_enter Try.func36, Try.ntmps36
  go_wp2_with (first | (go_at_call 50; refine (wind_yes H.out HG.out.1 HG.out.2 _).mono ?_; rintro e w1 ⟨rfl, hb⟩) | (go_at_call 58; refine (between_calls _ _ _ _).mono ?_; rintro e w2 ⟨rfl, rfl⟩))
  have b1 : Below w.heap.size w w1 := ((Below.refl _ _).alloc (Nat.le_refl _) _).trans (hb.mono (by simp))
  have b2 : Below w.heap.size w (w1.alloc (.cells #[.int .i64 c, .int .i64 t, .int .i64 lo, .int .i64 hi, .int .i64 g] 84)) := b1.alloc b1.size _
  have k0 : Blk (w1.alloc (.cells #[.int .i64 c, .int .i64 t, .int .i64 lo, .int .i64 hi, .int .i64 g] 84)) w.heap.size _ := ((Blk.new w _ 28).later hb).alloc _
  have k2 : Blk (w1.alloc (.cells #[.int .i64 c, .int .i64 t, .int .i64 lo, .int .i64 hi, .int .i64 g] 84)) w1.heap.size _ := Blk.new w1 _ 84
  clear hb
  generalize World.alloc _ _ = w2 at b2 k0 k2
  go_loopw [10, 11, 29] (fun v bf i wr => ∃ k : Nat, k ≤ m ∧ i = .int .i64 k ∧ bf = .int .i64 (gov c t g k) ∧ Aside (wr.ownsRow w2.heap.size 3 1 v k (nums (govL c t g k))) ∧ Aside (Below w2.heap.size w2 wr))
    (fun _ _ i _ => m - (intOf i).toNat)
  case atStart => exact ⟨0, Nat.zero_le _, rfl, by rw [show ((0 : Nat) : Int) = 0 from rfl, gov_zero], World.ownsRow_nil _ _ _ _, Below.refl _ _⟩
  case round =>
    obtain ⟨k, hk, rfl, rfl, HO, HB⟩ := hrel
    have K0 := Lib.hid (k0.later HB.out)
    have K2 := Lib.hid (k2.later HB.out)
    have B2 := Lib.hid b2
    clear k0 k2 b1 b2
    by_cases hlt : k < m
    · have hlt' : (k : Int) < (m : Int) := by omega
      have q0 := K0.out.four
      have q2 := K2.out.five
      have hw1 : IntKind.i64.wrap ((k : Int) + 1) = (k : Int) + 1 := by rw [i64_w]; exact w64_in (by omega) (by omega)
      have hbd := gov_bd (c := c) (t := t) (g := g) (n := (k : Int) + 1) (by have := H.out; exact this.2.1.1) (by have := H.out; exact this.2.1.2) (by have := H.out; exact this.1.2) (by have := H.out.2.2; have := HG.out; omega) (by have := H.out.2.2; have := HG.out; omega) (by omega) (by omega)
      have hw2 : IntKind.i64.wrap (len c g ((k : Int) + 1) * t) = len c g ((k : Int) + 1) * t := by rw [i64_w]; exact w64_in (by omega) (by omega)
      go_wp2_with fail
      go_region_held3 (fun W => Below wr.heap.size wr W ∧ (W.cell? ⟨w.heap.size, 0, none⟩ = some (.int .i64 c) ∧ W.cell? ⟨w.heap.size, 1, none⟩ = some (.int .i64 t) ∧ W.cell? ⟨w.heap.size, 2, none⟩ = some (.int .i64 lo) ∧ W.cell? ⟨w.heap.size, 3, none⟩ = some (.int .i64 hi)) ∧
          (W.cell? ⟨w1.heap.size, 0, none⟩ = some (.int .i64 c) ∧ W.cell? ⟨w1.heap.size, 1, none⟩ = some (.int .i64 t) ∧ W.cell? ⟨w1.heap.size, 2, none⟩ = some (.int .i64 lo) ∧ W.cell? ⟨w1.heap.size, 3, none⟩ = some (.int .i64 hi) ∧ W.cell? ⟨w1.heap.size, 4, none⟩ = some (.int .i64 g)))
        (first | exact ⟨below_drewN' (Below.refl _ _) 1, q0, q2⟩ | (rename_i hh _ _; have hbb := hh.1.trans (hb.mono hh.1.size); exact ⟨hbb, (K0.out.later hbb).four, (K2.out.later hbb).five⟩))
        (first | (go_at_call 60; refine (length_calls H.out (by have := H.out.2.2; have := HG.out; omega) (by have := H.out.2.2; have := HG.out; omega) (by omega) (by omega) _).mono ?_; rintro e w' ⟨rfl, hb⟩))
      rename_i hh
      obtain ⟨G0, G1, G2⟩ := hh
      have HG0 := Lib.hid G0
      clear G0 G1 G2 q0 q2 hb hw1 hw2
      have hbk := (gov_bd (c := c) (t := t) (g := g) (n := (k : Int)) (by have := H.out; exact this.2.1.1) (by have := H.out; exact this.2.1.2) (by have := H.out; exact this.1.2) (by have := H.out.2.2; have := HG.out; omega) (by have := H.out.2.2; have := HG.out; omega) (by omega) (by omega)).2.2
      have eq1 : IntKind.i64.wrap ((len c g ((k : Int) + 1) * t).tdiv c) = gov c t g ((k : Int) + 1) := by
        have e : (len c g ((k : Int) + 1) * t) / c = gov c t g ((k : Int) + 1) := rfl
        rw [i64_w, Int.tdiv_eq_ediv_of_nonneg hbd.1, e]
        exact w64_in (by omega) (by omega)
      rw [eq1]
      have hbd' := hbd.2.2
      clear eq1 hbd
      have hO' := own_later HO.out HG0.out
      have hsn := Lib.hid (govL_snoc c t g k)
      have HB' := Lib.hid (HB.out.trans (HG0.out.mono HB.out.size))
      have hsz := HB'.out.size
      go_wp2_with (first
        | (at_builtin; refine wpList_append_own _ rfl _ _ 32 rfl w2.heap.size 3 i0 (.int .i64 0) 1 8 Try.underlying32 hi0 hz0 hz1 hz2 rfl (by decide) _ _ _ rfl (hO'.alloc _) ⟨w'.heap.size, 0, none⟩ 1 1 [.int .i64 (gov c t g ((k : Int) + 1) - gov c t g (k : Int))] rfl rfl (cell_one_new _ _ _) (by intro u hu; simp at hu; subst hu; rfl) ?c3 ?c4 ?c5 ?_))
      case c3 => unfold maxLen; omega
      case c4 => omega
      case c5 => simp; omega
      intro v' w3 hown' hgrow _
      have HO' := Lib.hid hown'
      have HB3 := Lib.hid ((HB'.out.alloc HB'.out.size _).grown hgrow (by simp; omega) (by intro j hj; exact own_base' hO' j hj))
      clear hown' hgrow hO'
      go_wp2
      go_roundw
      case measure => simp [intOf]; omega
      case rel => exact ⟨k + 1, by omega, by go_num, by go_num, (show Aside _ from by rw [hsn.out]; exact HO'.out), HB3.out⟩
    · obtain rfl : k = m := by omega
      have hln := govL_length c t g k
      obtain ⟨A', c', rfl, hR⟩ := own_reads HO.out (by omega)
      have HR := Lib.hid hR
      clear hR
      go_wp2
      go_ret2
      exact ⟨⟨A', k, c', rfl, HR.out⟩, B2.out.trans (HB.out.mono B2.out.size)⟩

theorem govern_no {c t lo hi g n : Int} (hs : ¬ Sound c t lo hi) (w : World) :
    Calls Try.prog 36 #[.agg #[.int .i64 c, .int .i64 t, .int .i64 lo, .int .i64 hi], .int .i64 g, .int .i64 n] w (ListOut ([], 3) w) := by
  have H := Lib.hid hs
  clear hs
  go_enter Try.func36, Try.ntmps36
  go_wp2_with (first | (go_at_call 50; refine (wind_no H.out _).mono ?_; rintro e w1 ⟨rfl, hb⟩))
  go_ret2
  have b1 : Below w.heap.size w w1 := ((Below.refl _ _).alloc (Nat.le_refl _) _).trans (hb.mono (by simp))
  exact nilOut rfl (b1.alloc b1.size _)
theorem govern_far {c t lo hi g n : Int} (hs : Sound c t lo hi) (hg : ¬ (lo ≤ g ∧ g ≤ hi)) (w : World) :
    Calls Try.prog 36 #[.agg #[.int .i64 c, .int .i64 t, .int .i64 lo, .int .i64 hi], .int .i64 g, .int .i64 n] w (ListOut ([], 3) w) := by
  have H := Lib.hid hs
  have HG := Lib.hid hg
  clear hs hg
  go_enter Try.func36, Try.ntmps36
  go_wp2_with (first | (go_at_call 50; refine (wind_far H.out HG.out _).mono ?_; rintro e w1 ⟨rfl, hb⟩))
  go_ret2
  have b1 : Below w.heap.size w w1 := ((Below.refl _ _).alloc (Nat.le_refl _) _).trans (hb.mono (by simp))
  exact nilOut rfl (b1.alloc b1.size _)
theorem govern_many {c t lo hi g n : Int} (hs : Sound c t lo hi) (hg : lo ≤ g ∧ g ≤ hi) (hn : ¬ (0 ≤ n ∧ n ≤ 1000)) (w : World) :
    Calls Try.prog 36 #[.agg #[.int .i64 c, .int .i64 t, .int .i64 lo, .int .i64 hi], .int .i64 g, .int .i64 n] w (ListOut ([], 3) w) := by
  have hbt := btw_no hn
  have H := Lib.hid hs
  have HG := Lib.hid hg
  clear hs hg hn
  go_enter Try.func36, Try.ntmps36
  go_wp2_with (first | (go_at_call 50; refine (wind_yes H.out HG.out.1 HG.out.2 _).mono ?_; rintro e w1 ⟨rfl, hb⟩) | (go_at_call 58; refine (between_calls _ _ _ _).mono ?_; rintro e w2 ⟨rfl, rfl⟩))
  go_ret2
  have b1 : Below w.heap.size w w1 := ((Below.refl _ _).alloc (Nat.le_refl _) _).trans (hb.mono (by simp))
  exact nilOut rfl (b1.alloc b1.size _)
theorem govern_calls (c t lo hi g n : Int) (w : World) :
    Calls Try.prog 36 #[.agg #[.int .i64 c, .int .i64 t, .int .i64 lo, .int .i64 hi], .int .i64 g, .int .i64 n] w (ListOut (governF c t lo hi g n) w) := by
  unfold governF
  by_cases hs : Sound c t lo hi
  · by_cases hg : lo ≤ g ∧ g ≤ hi
    · by_cases hn : 0 ≤ n ∧ n ≤ 1000
      · rw [if_pos ⟨hs, hg, hn⟩]
        obtain ⟨m, rfl⟩ := Int.eq_ofNat_of_zero_le hn.1
        exact govern_yes hs hg (by omega) w
      · rw [if_neg (fun h => hn h.2.2)]; exact govern_many hs hg hn w
    · rw [if_neg (fun h => hg h.2.1)]; exact govern_far hs hg w
  · rw [if_neg (fun h => hs h.1)]; exact govern_no hs w
end Go.Proofs.Ytphbiaagmhhhbaa
