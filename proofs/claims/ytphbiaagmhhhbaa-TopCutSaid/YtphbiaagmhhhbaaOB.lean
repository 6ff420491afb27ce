/- The contract of paper: where the paper is at each tick. -/
import Derived.Test.YtphbiaagmhhhbaaOA
namespace Go.Proofs.Ytphbiaagmhhhbaa
open Go.RowKit Go.Lib Go.Shelf

/-- The places at the first n ticks. -/
def papL (c t g : Int) (n : Nat) : List Int := (List.range n).map fun (x : Nat) => plc c t g (x : Int)
theorem papL_length (c t g : Int) (n : Nat) : (papL c t g n).length = n := by simp [papL]
theorem papL_at (c t g : Int) {n x : Nat} (h : x < n) : (papL c t g n)[x]?.getD 0 = plc c t g x := by
  unfold papL
  rw [List.getElem?_map, List.getElem?_range h]
  rfl
theorem papL_snoc (c t g : Int) (n : Nat) : nums (papL c t g (n + 1)) = nums (papL c t g n) ++ [Value.int .i64 (plc c t g (n : Int))] := by
  unfold nums papL
  rw [List.range_succ, List.map_append, List.map_append]
  rfl

/-- What paper hands back. -/
def PapOut (c t g : Int) (N : Int) (w : World) (e : Ending) (w' : World) : Prop :=
  (∃ A n cap, e = .returned (.slice A n cap) ∧ Reads w' A n (papL c t g n) ∧ N ≤ n ∧ n ≤ 400) ∧ Below w.heap.size w w'

set_option maxRecDepth 100000 in
set_option maxHeartbeats 4000000 in
theorem paper_calls {c t lo hi g N : Int} (ht : 1 ≤ t) (ht1 : t ≤ 20) (htc : t ≤ c) (hc1 : c ≤ 99) (hg0 : 0 ≤ g) (hg1 : g ≤ 40) (hN0 : 0 ≤ N) (hN : N ≤ 300) (w : World) :
    Calls Try.prog 46 #[.agg #[.int .i64 c, .int .i64 t, .int .i64 lo, .int .i64 hi], .int .i64 g, .int .i64 N] w (PapOut c t g N w) := by
  obtain ⟨i0, hi0, hz0, hz1, hz2⟩ := info_parts info3
  have ht0 : (t == 0) = false := beq_eq_false_iff_ne.2 (by omega)
  have ht00 : ¬ t = 0 := by omega
  have I : Held (w.alloc (.cells [Value.int .i64 c, .int .i64 t, .int .i64 lo, .int .i64 hi].toArray 28)) (fun W => Below w.heap.size w W ∧ Blk W w.heap.size [.int .i64 c, .int .i64 t, .int .i64 lo, .int .i64 hi]) := .start (.from (Below.refl _ _) (Nat.le_refl _)) _ _
  go_enter Try.func46, Try.ntmps46
  go_wp2_with fail
  generalize World.alloc _ _ = w1 at I ⊢
  have q0 := I.now.2.four
  have hS : ∀ W, Below w1.heap.size w1 W → Below w1.heap.size w1 W ∧ (W.cell? ⟨w.heap.size, 0, none⟩ = some (.int .i64 c) ∧ W.cell? ⟨w.heap.size, 1, none⟩ = some (.int .i64 t) ∧ W.cell? ⟨w.heap.size, 2, none⟩ = some (.int .i64 lo) ∧ W.cell? ⟨w.heap.size, 3, none⟩ = some (.int .i64 hi)) := fun W hW => ⟨hW, (I.next hW).now.2.four⟩
  have HS := Lib.hid hS
  clear hS q0
  go_region_held3 (fun W => Below w1.heap.size w1 W ∧ (W.cell? ⟨w.heap.size, 0, none⟩ = some (.int .i64 c) ∧ W.cell? ⟨w.heap.size, 1, none⟩ = some (.int .i64 t) ∧ W.cell? ⟨w.heap.size, 2, none⟩ = some (.int .i64 lo) ∧ W.cell? ⟨w.heap.size, 3, none⟩ = some (.int .i64 hi)))
    (first
      | assumption
      | exact HS.out _ (below_drewN' (Below.refl _ _) 1)
      | fail)
    (fail)
  rename_i hh
  replace I := I.next hh.1
  clear hh HS
  generalize World.drew _ = w2 at I ⊢
  obtain ⟨T, rfl⟩ := Int.eq_ofNat_of_zero_le (show 0 ≤ t by omega)
  go_wp2
  go_loopw [7, 8, 9] (fun v wd tn wr => ∃ k m : Nat, wd = .int .i64 (len c g k) ∧ tn = .int .i64 (c + k * g) ∧ k ≤ 300 ∧ m ≤ 320 ∧ Aside (m = k * T) ∧ Aside (wr.ownsRow w2.heap.size 3 1 v m (nums (papL c T g m))) ∧ Aside (Below w2.heap.size w2 wr))
    (fun _ wd _ _ => 1000000000 - (intOf wd).toNat)
  case atStart => exact ⟨0, 0, by rw [show ((0 : Nat) : Int) = 0 from rfl, len_zero], by simp, by omega, by omega, (Nat.zero_mul T).symm, World.ownsRow_nil _ _ _ _, Below.refl _ _⟩
  case round =>
    obtain ⟨k, m, rfl, rfl, hk1, hk2, HM, HO, HB⟩ := hrel
    have J := I.next HB.out
    have q := J.now.2.four
    obtain ⟨A, cap, rfl, hR⟩ := own_reads HO.out (by omega)
    have HR := Lib.hid hR
    clear hR
    by_cases hlt : (m : Int) < N
    · have hk3 : k < 300 := by
        have h1 : k * 1 ≤ k * T := Nat.mul_le_mul_left k (by omega)
        have h2 := HM.out
        omega
      have hlb := len_bd (c := c) (g := g) (n := (k : Int)) (by omega) (by omega) hg0 (by omega) (by omega) (by omega)
      have hlb2 := len_bd (c := c) (g := g) (n := (k : Int) + 1) (by omega) (by omega) hg0 (by omega) (by omega) (by omega)
      have hkg := mul_bd (a := (k : Int)) (b := g) (A := 300) (B := 40) (by omega) (by omega) hg0 hg1
      have hls := len_succ (c := c) (g := g) (n := (k : Int))
      clear q
      go_wp2_with fail
      go_loopw [7, 10] (fun v i wr => ∃ r : Nat, r ≤ T ∧ i = .int .i64 r ∧ Aside (wr.ownsRow w2.heap.size 3 1 v (m + r) (nums (papL c T g (m + r)))) ∧ Aside (Below w2.heap.size w2 wr)) (fun _ i _ => T - (intOf i).toNat)
      case atStart => exact ⟨0, Nat.zero_le _, rfl, HO.out, HB.out⟩
      case round =>
        obtain ⟨r, hr, rfl, HO2, HB2⟩ := hrel
        have HBB := Lib.hid HB2.out
        have q := (I.next HBB.out).now.2.four
        by_cases hrt : r < T
        · have hrt' : (r : Int) < (T : Int) := by omega
          have hw1 : IntKind.i64.wrap ((r : Int) + 1) = (r : Int) + 1 := i64_in (by omega) (by omega)
          have hmb := mul_bd (a := c + (k : Int) * g) (b := (r : Int)) (A := 20000) (B := 20) (by omega) (by omega) (by omega) (by omega)
          have hm1 : IntKind.i64.wrap ((c + (k : Int) * g) * (r : Int)) = (c + (k : Int) * g) * (r : Int) := i64_in (by omega) (by omega)
          have hdb : (c + (k : Int) * g) * (r : Int) / (T : Int) ≤ (c + (k : Int) * g) * (r : Int) := Int.ediv_le_self _ hmb.1
          have hd0 : 0 ≤ (c + (k : Int) * g) * (r : Int) / (T : Int) := Int.ediv_nonneg hmb.1 (by omega)
          have hd1 : IntKind.i64.wrap (((c + (k : Int) * g) * (r : Int)).tdiv (T : Int)) = (c + (k : Int) * g) * (r : Int) / (T : Int) := by
            rw [Int.tdiv_eq_ediv_of_nonneg hmb.1]
            exact i64_in (by omega) (by omega)
          have hpl : plc c T g ((m + r : Nat) : Int) = len c g k + (c + (k : Int) * g) * (r : Int) / (T : Int) := by
            have := plc_at (c := c) (t := (T : Int)) (g := g) (q := (k : Int)) (r := (r : Int)) (by omega) hrt'
            rw [← this, HM.out]
            congr 1

          have hs1 : IntKind.i64.wrap (len c g k + (c + (k : Int) * g) * (r : Int) / (T : Int)) = plc c T g ((m + r : Nat) : Int) := by
            rw [hpl]
            exact i64_in (by omega) (by omega)
          have hsn := papL_snoc c T g (m + r)
          have hkr : m + r ≤ 400 := by omega
          clear hpl hd0 hdb hmb
          generalize (c + (k : Int) * g) * (r : Int) / (T : Int) = D at hd1 hs1
          generalize plc c T g ((m + r : Nat) : Int) = P at hs1 hsn
          have HSN := Lib.hid hsn
          clear hsn
          have hsz := HBB.out.size
          have hO := HO2.out
          go_wp2_with (first
            | (at_builtin; refine wpList_append_own _ rfl _ _ 32 rfl w2.heap.size 3 i0 (.int .i64 0) 1 8 Try.underlying32 hi0 hz0 hz1 hz2 rfl (by decide) _ _ _ rfl (hO.alloc _) ⟨wr.heap.size, 0, none⟩ 1 1 [.int .i64 P] rfl rfl (cell_one_new _ _ _) (by intro u hu; simp at hu; subst hu; rfl) ?c3 ?c4 ?c5 ?_))
          case c3 => unfold maxLen; omega
          case c4 => omega
          case c5 => simp; omega
          intro v' w4 hown' hgrow _
          have HO' := Lib.hid hown'
          have HB4 := Lib.hid ((HB2.out.alloc HB2.out.size _).grown hgrow (by simp; omega) (by intro j hj; exact own_base' hO j hj))
          clear hown' hgrow hO
          go_wp2
          go_roundw
          case measure => simp [intOf]; omega
          case rel =>
            exact ⟨r + 1, by omega, by go_num, (show Aside _ from by rw [← Nat.add_assoc, HSN.out]; exact HO'.out), HB4.out⟩
        · obtain rfl : r = T := by omega
          have hw2 : IntKind.i64.wrap (len c g k + (c + (k : Int) * g)) = len c g ((k : Int) + 1) := by rw [hls]; exact i64_in (by omega) (by omega)
          have hw3 : IntKind.i64.wrap (c + (k : Int) * g + g) = c + ((k : Int) + 1) * g := by rw [Int.add_mul, Int.one_mul, Int.add_assoc]; exact i64_in (by omega) (by omega)
          have hkk : m + r = (k + 1) * r := by rw [Nat.add_mul, Nat.one_mul, HM.out]
          go_wp2
          go_roundw
          case measure => simp [intOf]; omega
          case rel => exact ⟨k + 1, m + r, by rw [← hls]; push_cast; rfl, by push_cast; rw [Int.add_mul, Int.one_mul], by omega, by omega, hkk, HO2.out, HBB.out⟩
    · go_wp2
      go_ret
      exact ⟨⟨A, m, cap, rfl, HR.out, by omega, by omega⟩, J.now.1⟩
end Go.Proofs.Ytphbiaagmhhhbaa
