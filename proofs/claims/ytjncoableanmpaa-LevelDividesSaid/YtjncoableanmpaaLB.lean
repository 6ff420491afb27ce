/- Fractions as rational numbers: what plain comes to. -/
import Derived.Test.YtjncoableanmpaaLA
import Derived.Test.YtjncoableanmpaaPA
import Derived.StillTailTactics
namespace Go.Proofs.Ytjncoableanmpaa
open Go.RowKit Go.Lib Go.Shelf

theorem Gives.c {f : Nat} {args : Array Value} {v : Value} {w : World} (h : Gives f args v w) : Calls Try.prog f args w (fun e w' => e = .returned v ∧ Below w.heap.size w w') := h
theorem Quiet.c {f : Nat} {args : Array Value} {v : Value} {w : World} (h : Quiet f args v w) : Calls Try.prog f args w (fun e w' => e = .returned v ∧ w = w') := h
theorem Quiet.same {f : Nat} {args : Array Value} {v : Value} {w : World} (h : Quiet f args v w) : Calls Try.prog f args w (fun e w' => e = .returned v ∧ w' = w) :=
  Calls.mono h fun _ _ ⟨a, b⟩ => ⟨a, b.symm⟩

theorem Blk.three {w : World} {B : Nat} {a b c : Value} (h : Blk w B [a, b, c]) : w.cell? ⟨B, 0, none⟩ = some a ∧ w.cell? ⟨B, 1, none⟩ = some b ∧ w.cell? ⟨B, 2, none⟩ = some c := ⟨h.cell 0 _ rfl, h.cell 1 _ rfl, h.cell 2 _ rfl⟩

/-- A fraction in lowest terms, as Go has it. -/
abbrev rv (q : Rat) : Value := .agg #[.int .i64 q.num, .int .i64 (q.den : Int)]
theorem fr_num {n d : Int} (hd : 0 < d) : (fr n d).num = n / (Int.gcd d n : Int) := by
  rw [Rat.num_divInt, Int.sign_eq_one_of_pos hd, Int.one_mul]
theorem fr_den {n d : Int} (hd : 0 < d) : ((fr n d).den : Int) = d / (Int.gcd d n : Int) := by
  rw [Rat.den_divInt, if_neg (by omega), Int.natCast_ediv]
  congr 1
  omega
theorem gcd_pos {n d : Int} (hd : 0 < d) : 0 < (Int.gcd d n : Int) := by
  have := Int.gcd_pos_of_ne_zero_left n (show d ≠ 0 by omega)
  omega
theorem ediv_ab {n g : Int} : (n / g).natAbs ≤ n.natAbs := Int.natAbs_ediv_le_natAbs n g
theorem fr_bd {n d : Int} (hd : 0 < d) : (fr n d).num.natAbs ≤ n.natAbs ∧ ((fr n d).den : Int) ≤ d ∧ 0 < ((fr n d).den : Int) := by
  have h := gcd_pos (n := n) hd
  refine ⟨?_, ?_, ?_⟩
  · rw [fr_num hd]
    exact ediv_ab
  · rw [fr_den hd]
    exact Int.ediv_le_self _ (by omega)
  · have := (fr n d).den_pos
    omega

theorem w64_ab {n : Int} {B : Nat} (h : n.natAbs ≤ B) (hB : B ≤ 9223372036854775807) : wrap64 n = n := w64_in (by omega) (by omega)

theorem gcd_step {a b : Int} : Int.gcd b (a % b) = Int.gcd a b := by
  rw [Int.gcd_comm, Int.gcd_comm a b, Int.gcd_comm (a % b) b]
  have h : a = a % b + b * (a / b) := by have := Int.emod_add_mul_ediv a b; omega
  conv => rhs; rw [h]
  rw [Int.gcd_add_mul_left_right]

set_option maxRecDepth 100000 in
set_option maxHeartbeats 2000000 in
theorem plain_calls {n d : Int} (hd : 0 < d) (hd1 : d ≤ 4000000000000000000) (hn : n.natAbs ≤ 4000000000000000000) (w : World) : Gives 38 #[.agg #[.int .i64 n, .int .i64 d]] (rv (fr n d)) w := by
  unfold Gives rv
  rw [fr_num hd, fr_den hd]
  have hg := gcd_pos (n := n) hd
  have hq1 : n.tdiv (Int.gcd d n : Int) = n / (Int.gcd d n : Int) := Int.tdiv_eq_ediv_of_dvd (Int.gcd_dvd_right _ _)
  have hq2 : d.tdiv (Int.gcd d n : Int) = d / (Int.gcd d n : Int) := Int.tdiv_eq_ediv_of_dvd (Int.gcd_dvd_left _ _)
  have hb1 : (n / (Int.gcd d n : Int)).natAbs ≤ n.natAbs := ediv_ab
  have hb2 : (d / (Int.gcd d n : Int)).natAbs ≤ d.natAbs := ediv_ab
  have wn : IntKind.i64.wrap (-n) = -n := by rw [i64_w]; exact w64_in (by omega) (by omega)
  have hgn : Int.gcd (max n (-n)) d = Int.gcd d n := by
    rw [Int.gcd_comm]
    by_cases h : 0 ≤ n
    · rw [show max n (-n) = n by omega]
    · rw [show max n (-n) = -n by omega, Int.gcd_neg]
  generalize hG : Int.gcd d n = G at hg hq1 hq2 hb1 hb2 hgn
  clear hG
  have hGN := Lib.hid hgn
  have hQ1 := Lib.hid hq1
  have hQ2 := Lib.hid hq2
  clear hgn hq1 hq2
  have K : Held ((w.alloc (.cells #[.int .i64 n, .int .i64 d] 82)).alloc (.cells #[.int .i64 0, .int .i64 0] 82)) (fun W => Below w.heap.size w W ∧ Blk W w.heap.size [.int .i64 n, .int .i64 d] ∧ Blk W (w.heap.size + 1) [.int .i64 0, .int .i64 0]) :=
    fun W hW => ⟨(((Below.refl _ _).alloc (Nat.le_refl _) _).alloc (by simp) _).trans (hW.mono (by simp; omega)), ((Blk.new w [.int .i64 n, .int .i64 d] 82).alloc _).later hW, Blk.later (by simpa using Blk.new (w.alloc (.cells #[.int .i64 n, .int .i64 d] 82)) [.int .i64 0, .int .i64 0] 82) hW⟩
  go_enter Try.func38, Try.ntmps38
  go_wp2_with fail
  generalize World.alloc _ _ = w1 at K ⊢
  have q0 := K.now.2.1.two
  go_quiet (fail)
  replace K := K.next (below_drewN' (Below.refl _ _) nq)
  generalize World.drewN _ _ = w2 at K ⊢
  clear q0
  go_wp2_with fail
  go_loopw [3, 4] (fun v3 v4 wr => ∃ a b : Int, v3 = .int .i64 a ∧ v4 = .int .i64 b ∧ 0 ≤ a ∧ a ≤ 4000000000000000000 ∧ 0 ≤ b ∧ b ≤ 4000000000000000000 ∧ 0 < a + b ∧ Aside (Int.gcd a b = G) ∧ Aside (Below w2.heap.size w2 wr)) (fun _ v4 _ => (intOf v4).toNat)
  case atStart => exact ⟨_, _, rfl, rfl, by omega, by omega, by omega, by omega, by omega, hGN.out, Below.refl _ _⟩
  case round =>
    obtain ⟨a, b, rfl, rfl, ha0, ha1, hb0, hb1', hab, HG, HB⟩ := hrel
    by_cases hlt : 0 < b
    · have hz : ¬ b = 0 := by omega
      have h1 := Int.emod_nonneg a hz
      have h2 := Int.emod_lt_of_pos a hlt
      have v1 : a.tmod b = a % b := Int.tmod_eq_emod_of_nonneg ha0
      have v2 : IntKind.i64.wrap (a % b) = a % b := by rw [i64_w]; exact w64_in (by omega) (by omega)
      have hgs := Lib.hid ((gcd_step (a := a) (b := b)).trans HG.out)
      go_wp2_with fail
      go_quiet (fail)
      go_wp2
      go_roundw
      case measure => simp [intOf]; omega
      case rel => exact ⟨b, a % b, rfl, rfl, by omega, by omega, by omega, by omega, by omega, hgs.out, below_drewN' HB.out _⟩
    · obtain rfl : b = 0 := by omega
      have ha : a = (G : Int) := by
        have h := HG.out
        rw [Int.gcd_zero_right] at h
        omega
      subst ha
      have hz : ¬ (G : Int) = 0 := by omega
      have hz2 : ¬ G = 0 := by omega
      have hz3 : ((G : Int) == 0) = false := beq_eq_false_iff_ne.2 hz
      have J := K.next HB.out
      have q0 := J.now.2.1.two
      have q1 := J.now.2.2.vals
      have z0 := J.now.2.1.lt
      have z1 := J.now.2.2.lt
      have e1 := hQ1.out
      have e2 := hQ2.out
      have v1 : IntKind.i64.wrap (n / (G : Int)) = n / (G : Int) := by rw [i64_w]; exact w64_in (by omega) (by omega)
      have v2 : IntKind.i64.wrap (d / (G : Int)) = d / (G : Int) := by rw [i64_w]; exact w64_in (by omega) (by omega)
      generalize hx : n / (G : Int) = x at e1 v1 hb1 ⊢
      generalize hy : d / (G : Int) = y at e2 v2 hb2 ⊢
      have HX := Lib.hid hx
      have HY := Lib.hid hy
      clear hb1 hb2 hx hy
      go_wp2_with fail
      go_still_tail 9, (by kernel_rfl)
      have J2 := J.next (Below.refl _ _).drew
      change wpList _ _ _ _ _ wr.drew
      clear q0
      go_wp2
      have r := put2 (a := .int .i64 x) (b := .int .i64 y) J.now.2.2.two.1 J.now.2.2.two.2
      refine bodyPost_ret (v := .agg #[.int .i64 x, .int .i64 y]) (by simp [results, Try.results38, go_sem, r.1, r.2]) rfl ⟨by rw [HX.out, HY.out], ?_⟩
      exact (below2 J.now.1 (by omega) _ _).drew
end Go.Proofs.Ytjncoableanmpaa
