/- The laws' helpers: codings by numbers, small fractions, less. -/
import Derived.Test.YtjncoableanmpaaLX
import Derived.Test.YtjncoableanmpaaPI
namespace Go.Proofs.Ytjncoableanmpaa
open Go.RowKit Go.Lib Go.Shelf

/-- A slice that reads as a list of triples of bytes, however long. -/
def ReadsS (w : World) (A : Option Addr) (n : Nat) (l : List Tri) : Prop :=
  l.length = n ∧ n ≤ 9223372036854775807 ∧ (∀ j, j < n → (0 ≤ (tAt l j).1 ∧ (tAt l j).1 ≤ 255) ∧ (0 ≤ (tAt l j).2.1 ∧ (tAt l j).2.1 ≤ 255) ∧ (0 ≤ (tAt l j).2.2 ∧ (tAt l j).2.2 ≤ 255)) ∧
  (0 < n → ∃ b off, A = some ⟨b, off, none⟩ ∧ ∀ j, j < n → w.cell? ⟨b, off + j * 3, none⟩ = some (.int .u8 (tAt l j).1) ∧ w.cell? ⟨b, off + j * 3 + 1, none⟩ = some (.int .u8 (tAt l j).2.1) ∧ w.cell? ⟨b, off + j * 3 + 2, none⟩ = some (.int .u8 (tAt l j).2.2))
theorem ReadsS.later {w w1 : World} {A : Option Addr} {n : Nat} {l : List Tri} (h : ReadsS w A n l) (hb : Below w.heap.size w w1) : ReadsS w1 A n l := by
  refine ⟨h.1, h.2.1, h.2.2.1, fun h0 => ?_⟩
  obtain ⟨b, off, e, hc⟩ := h.2.2.2 h0
  exact ⟨b, off, e, fun j hj => ⟨(hb.cell (p := ⟨b, off + j * 3, none⟩) (World.block_lt_of_cell? w _ (hc j hj).1)).trans (hc j hj).1, (hb.cell (p := ⟨b, off + j * 3 + 1, none⟩) (World.block_lt_of_cell? w _ (hc j hj).2.1)).trans (hc j hj).2.1, (hb.cell (p := ⟨b, off + j * 3 + 2, none⟩) (World.block_lt_of_cell? w _ (hc j hj).2.2)).trans (hc j hj).2.2⟩⟩
theorem Held.readsS {w : World} {A : Option Addr} {n : Nat} {l : List Tri} (h : ReadsS w A n l) : Held w (fun W => ReadsS W A n l) := fun _ hW => h.later hW

theorem small_calls (a b : Int) (h : 0 < b ∧ b < 100000 ∧ -10000000 < a ∧ a < 10000000) (w : World) : Gives 26 #[.agg #[.int .i64 a, .int .i64 b]] (.bool true) w := by
  unfold Gives
  obtain ⟨h1, h2, h3, h4⟩ := h
  go_enter Try.func26, Try.ntmps26
  go_wp2
  go_ret
  exact ⟨rfl, by go_grown⟩
theorem lawless_raw {a b c d : Int} (h1 : IntKind.i64.wrap (a * d) = a * d) (h2 : IntKind.i64.wrap (c * b) = c * b) (w : World) : Gives 29 #[.agg #[.int .i64 a, .int .i64 b], .agg #[.int .i64 c, .int .i64 d]] (.bool (decide (a * d < c * b))) w := by
  unfold Gives
  go_enter Try.func29, Try.ntmps29
  go_wp2
  go_ret
  exact ⟨rfl, by go_grown⟩

theorem madeL_at (s : Int) (l : List Tri) (k : Nat) (h : k < l.length) : madeL s (l.drop k) = codeS s (tAt l k) :: madeL (stepS s (tAt l k)) (l.drop (k + 1)) := by
  rw [List.drop_eq_getElem_cons h]
  unfold tAt
  rw [List.getElem?_eq_getElem h]
  rfl

set_option maxRecDepth 100000 in
set_option maxHeartbeats 4000000 in
theorem made_calls (A : Option Addr) (n cap : Nat) (l : List Tri) (w : World) (hl : ReadsS w A n l) :
    Calls Try.prog 24 #[.slice A n cap] w fun e w' => ∃ b o c, e = .returned (.slice (some ⟨b, o, none⟩) (madeC l).length c) ∧ (ReadsC w' (some ⟨b, o, none⟩) (madeC l).length (madeC l) ∧ (madeC l).length ≤ c) ∧ Below w.heap.size w w' := by
  obtain ⟨i0, hi0, hz0, hz1, hz2⟩ := info_parts info68
  obtain ⟨M, hM⟩ : ∃ M, madeC l = M := ⟨_, rfl⟩
  rw [hM]
  have HM0 := Lib.hid hM
  have hlen := hl.1
  have hmax := hl.2.1
  have HL := Lib.hid hl
  clear hM
  have h5 : (l.take 5).length = min 5 n := by rw [List.length_take, hlen]
  clear hl
  go_enter Try.func24, Try.ntmps24
  go_wp2_with fail
  go_loopw [3, 4, 5] (fun v s i wr => ∃ (k : Nat) (set : Int) (out : List Cd), k ≤ 5 ∧ k ≤ n ∧ i = .int .i64 k ∧ s = .int .i64 set ∧ (-3 ≤ set ∧ set ≤ -3 + 4 * (k : Int)) ∧ out.length = k ∧ Aside (out ++ madeL set ((l.take 5).drop k) = madeL (-3) (l.take 5)) ∧ Aside (wr.ownsRow w.heap.size 68 3 v k (cellsC out)) ∧ Aside (Below w.heap.size w wr))
    (fun _ _ i _ => 5 - (intOf i).toNat)
  case atStart => exact ⟨0, -3, [], Nat.zero_le _, Nat.zero_le _, rfl, rfl, by omega, rfl, by rw [List.drop_zero]; rfl, World.ownsRow_nil _ _ _ _, Below.refl _ _⟩
  case round =>
    obtain ⟨k, set, out, hk5, hkn, rfl, rfl, hset, hout, HM, HO, HB⟩ := hrel
    by_cases hlt : k < n
    · have hlt' : (k : Int) < (n : Int) := by omega
      by_cases hl5 : k < 5
      · have hl5' : (k : Int) < 5 := by omega
        have hw2 : IntKind.i64.wrap ((k : Int) + 1) = (k : Int) + 1 := i64_in (by omega) (by omega)
        have ra := HL.out.later HB.out
        obtain ⟨b, off, rfl, hc⟩ := ra.2.2.2 (by omega)
        obtain ⟨hc1, hc2, hc3⟩ := hc k hlt
        have hby := ra.2.2.1 k hlt
        have hm := HM.out
        rw [madeL_at _ _ k (by omega)] at hm
        have ht5 : tAt (l.take 5) k = tAt l k := by
          unfold tAt
          rw [List.getElem?_take_of_lt hl5]
        rw [ht5] at hm
        generalize htk : tAt l k = t at hc1 hc2 hc3 hby hm
        obtain ⟨x, y, z⟩ := t
        dsimp only at hc1 hc2 hc3 hby
        have HT1 := Lib.hid (show (tAt l k).1 = x by rw [htk])
        clear htk
        unfold codeS stepS at hm
        dsimp only at hm
        have ux : x.tmod 4 = x % 4 := Int.tmod_eq_emod_of_nonneg hby.1.1
        have uy : y.tmod 40 = y % 40 := Int.tmod_eq_emod_of_nonneg hby.2.1.1
        have uz : z.tmod 12 = z % 12 := Int.tmod_eq_emod_of_nonneg hby.2.2.1
        have cx : IntKind.i64.wrap x = x := i64_in (by omega) (by omega)
        have cy : IntKind.i64.wrap y = y := i64_in (by omega) (by omega)
        have cz : IntKind.i64.wrap z = z := i64_in (by omega) (by omega)
        have mx : IntKind.i64.wrap (x % 4) = x % 4 := i64_in (by omega) (by omega)
        have my : IntKind.i64.wrap (y % 40) = y % 40 := i64_in (by omega) (by omega)
        have mz : IntKind.i64.wrap (z % 12) = z % 12 := i64_in (by omega) (by omega)
        have v1 : IntKind.i64.wrap (y % 40 + z % 12) = y % 40 + z % 12 := i64_in (by omega) (by omega)
        have v2 : IntKind.i64.wrap (1 + x % 4) = 1 + x % 4 := i64_in (by omega) (by omega)
        have v3 : IntKind.i64.wrap (set + (1 + x % 4)) = set + (1 + x % 4) := i64_in (by omega) (by omega)
        have hset2 : -3 ≤ set + (1 + x % 4) ∧ set + (1 + x % 4) ≤ -3 + 4 * ((k + 1 : Nat) : Int) := by omega
        generalize x % 4 = x4 at *
        generalize y % 40 = y4 at *
        generalize z % 12 = z4 at *
        have HMM := Lib.hid hm
        have HC := Lib.hid hby
        have hsz := HB.out.size
        have hcell : (cellsC (out ++ [(set, y4, y4 + z4)])) = cellsC out ++ [Value.int .i64 set, .int .i64 y4, .int .i64 (y4 + z4)] := cellsC_append _ _
        have HCELL := Lib.hid hcell
        have HX := Lib.hid hc
        have HCX := Lib.hid hc1
        clear hm hc ra hcell
        go_wp2_with (first
          | (go_at_call 31; (with_reducible refine (Gives.c (code_calls _ _ _ _)).mono ?_); rintro e w2 ⟨rfl, hb⟩; have hO := own_later HO.out hb; have HB2 := Lib.hid (HB.out.trans (hb.mono HB.out.size)); clear hb hc1 hc2 hc3)
          | (at_builtin; refine wpList_append_own _ rfl _ _ 22 rfl w.heap.size 68 i0 (.agg #[.int .i64 0, .int .i64 0, .int .i64 0]) 3 24 Try.underlying22 hi0 hz0 hz1 hz2 rfl (by decide) _ _ _ rfl (hO.alloc _) ⟨w2.heap.size, 0, none⟩ 1 1 [.int .i64 set, .int .i64 y4, .int .i64 (y4 + z4)] rfl rfl (cells_new _ [.int .i64 set, .int .i64 y4, .int .i64 (y4 + z4)] _ _ rfl) (by intro u hu; simp at hu; rcases hu with rfl | rfl | rfl <;> rfl) ?c3 ?c4 ?c5 ?_))
        case c3 => unfold maxLen; omega
        case c4 => omega
        case c5 => have := HB2.out.size; simp; omega
        intro v' w4 hown' hgrow _
        have HO' := Lib.hid hown'
        have HB4 := Lib.hid ((HB2.out.alloc HB2.out.size _).grown hgrow (by have := HB2.out.size; simp; omega) (by intro j hj; exact own_base' hO j hj))
        clear hown' hgrow hO
        have hc1 : w4.cell? ⟨b, off + k * 3, none⟩ = some (.int .u8 x) := by
          obtain ⟨b', off', e', hc1⟩ := ((HL.out.later HB4.out).2.2.2 (by omega))
          cases e'
          rw [← HT1.out]
          exact (hc1 k hlt).1
        go_wp2
        go_roundw
        case measure => simp [intOf]; omega
        case rel => exact ⟨k + 1, _, out ++ [(set, y4, y4 + z4)], by omega, by omega, by go_num, rfl, hset2, by simp [hout], (show Aside _ from by rw [List.append_assoc]; exact HMM.out), (show Aside _ from by rw [HCELL.out]; exact HO'.out), HB4.out⟩
      · have hl5' : ¬ (k : Int) < 5 := by omega
        obtain rfl : k = 5 := by omega
        have hm := HM.out
        rw [List.drop_eq_nil_of_le (by omega)] at hm
        have hm : out ++ [] = madeL (-3) (l.take 5) := hm
        rw [List.append_nil] at hm
        obtain rfl : out = M := by
          rw [← HM0.out]
          unfold madeC
          rw [if_neg (by intro h; rw [h] at hlen; simp at hlen; omega), hm]
        have HO2 := HO.out
        obtain ⟨A', c', rfl, hR, _⟩ := own_readsC HO2 hout (by omega)
        obtain ⟨b', o', rfl, _⟩ := hR.2.2 (by omega)
        have HRR := Lib.hid hR
        have hcp := own_cap HO2
        clear hR HO2 hm
        go_wp2
        go_ret
        exact ⟨b', o', c', rfl, ⟨HRR.out, hcp.1⟩, HB.out⟩
    · have hlt' : ¬ (k : Int) < (n : Int) := by omega
      obtain rfl : k = n := by omega
      have hm := HM.out
      rw [List.drop_eq_nil_of_le (by omega)] at hm
      have hm : out ++ [] = madeL (-3) (l.take 5) := hm
      rw [List.append_nil] at hm
      rcases Nat.eq_zero_or_pos k with hk0 | hk0
      · have hl0 : l = [] := List.length_eq_zero_iff.1 (by omega)
        obtain rfl : out = [] := List.length_eq_zero_iff.1 (by omega)
        have hset0 : set = -3 := by omega
        have hmc : M = [(set, 3, 4)] := by
          rw [← HM0.out, hset0]
          unfold madeC
          rw [if_pos hl0]
        obtain ⟨A0, c0, rfl, k1, k2⟩ := own_readsC HO.out (by rw [hk0]; rfl) (by omega)
        have HMC := Lib.hid hmc
        have HK0 := Lib.hid hk0
        have hke : ((k : Int) == 0) = true := beq_iff_eq.2 (by omega)
        have hke' : (k : Int) + 1 = 1 := by omega
        have HCP := Lib.hid (own_cap HO.out)
        clear hmc hset0 hl0 hk0 k1 k2 hm h5 HM hout hlen
        go_wp2_with (first
          | (go_at_call 31; (with_reducible refine (Gives.c (code_calls _ _ _ _)).mono ?_); rintro e w2 ⟨rfl, hb⟩; have hO := own_later HO.out hb; have HB2 := Lib.hid (HB.out.trans (hb.mono HB.out.size)); clear hb)
          | (at_builtin; refine wpList_append_own _ rfl _ _ 22 rfl w.heap.size 68 i0 (.agg #[.int .i64 0, .int .i64 0, .int .i64 0]) 3 24 Try.underlying22 hi0 hz0 hz1 hz2 rfl (by decide) _ _ _ rfl (hO.alloc _) ⟨w2.heap.size, 0, none⟩ 1 1 [.int .i64 set, .int .i64 3, .int .i64 4] rfl rfl (cells_new _ [.int .i64 set, .int .i64 3, .int .i64 4] _ _ rfl) (by intro u hu; simp at hu; rcases hu with rfl | rfl | rfl <;> rfl) ?c3 ?c4 ?c5 ?_))
        case c3 => have := HK0.out; unfold maxLen; omega
        case c4 => omega
        case c5 => have := HB2.out.size; simp; omega
        intro v' w4 hown' hgrow _
        have HB4 := Lib.hid ((HB2.out.alloc HB2.out.size _).grown hgrow (by have := HB2.out.size; simp; omega) (by intro j hj; exact own_base' hO j hj))
        have HO2 : w4.ownsRow w.heap.size 68 3 v' 1 (cellsC M) := by
          rw [HMC.out]
          have h := hown'
          rw [HK0.out] at h
          exact h
        obtain ⟨A', c', rfl, hR, _⟩ := own_readsC HO2 (by rw [HMC.out]; rfl) (by omega)
        obtain ⟨b', o', rfl, _⟩ := hR.2.2 (by omega)
        have HRR := Lib.hid hR
        have hcp := own_cap HO2
        have HL1 := Lib.hid (show M.length = 1 by rw [HMC.out]; rfl)
        clear hown' hgrow hO HO2 hR
        go_wp2
        go_ret
        exact ⟨b', o', c', by rw [HL1.out]; rfl, ⟨by rw [HL1.out]; exact HRR.out, by rw [HL1.out]; exact hcp.1⟩, HB4.out⟩
      · obtain rfl : out = M := by
          rw [← HM0.out]
          unfold madeC
          rw [if_neg (by intro h; rw [h] at hlen; simp at hlen; omega), hm]
        have HO2 := HO.out
        obtain ⟨A', c', rfl, hR, _⟩ := own_readsC HO2 hout (by omega)
        obtain ⟨b', o', rfl, _⟩ := hR.2.2 (by omega)
        have HRR := Lib.hid hR
        have hcp := own_cap HO2
        have hke : ((k : Int) == 0) = false := beq_eq_false_iff_ne.2 (by omega)
        have hke' : ¬ (k : Int) = 0 := by omega
        have hke2 : ¬ k = 0 := by omega
        clear hR HO2 hm hk0
        go_wp2
        go_ret
        exact ⟨b', o', c', rfl, ⟨HRR.out, hcp.1⟩, HB.out⟩
end Go.Proofs.Ytjncoableanmpaa
