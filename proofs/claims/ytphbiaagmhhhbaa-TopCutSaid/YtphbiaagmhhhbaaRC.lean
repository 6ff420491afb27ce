/- The reference's Length and Place answer as the program's: thicker paper is not behind. -/
import Derived.Test.YtphbiaagmhhhbaaRB
namespace Go.Proofs.Ytphbiaagmhhhbaa
open Go.RowKit Go.Lib Go.Shelf Go.ChangeShapes Go.WideShapes Go.ChangeAt

theorem tri_nonneg {n : Int} (h : 0 ≤ n) : 0 ≤ n * (n - 1) / 2 := by
  by_cases h0 : n = 0
  · subst h0; decide
  · have := Int.mul_nonneg h (show 0 ≤ n - 1 by omega)
    omega
theorem len_mono {c g k n : Int} (hn : 0 ≤ n) (hg : g ≤ k) : len c g n ≤ len c k n := by
  unfold len
  have := Int.mul_le_mul_of_nonneg_right hg (tri_nonneg hn)
  omega
theorem plc_mono {c t g k x : Int} (ht : 1 ≤ t) (hx : 0 ≤ x) (hg : g ≤ k) : plc c t g x ≤ plc c t k x := by
  have hq : 0 ≤ x / t := Int.ediv_nonneg hx (by omega)
  have hr : 0 ≤ x % t := Int.emod_nonneg _ (by omega)
  have h1 := len_mono (c := c) hq hg
  have h2 := Int.mul_le_mul_of_nonneg_left hg hq
  have h3 := Int.mul_le_mul_of_nonneg_right (show c + x / t * g ≤ c + x / t * k by omega) hr
  have h4 := Int.ediv_le_ediv (show 0 < t by omega) h3
  unfold plc
  omega

theorem rLength_calls {c t lo hi n a b e : Int} (h : lengthF c t lo hi n = (a, b, e)) (w : World) :
    Gives 23 #[.agg #[.int .i64 c, .int .i64 t, .int .i64 lo, .int .i64 hi], .int .i64 n] (.tuple #[.agg #[.int .i64 a, .int .i64 b], .int .i64 e]) w := by
  unfold lengthF at h
  by_cases hs : Sound c t lo hi
  · by_cases hn : 0 ≤ n ∧ n ≤ 1000
    · rw [if_pos ⟨hs, hn⟩] at h
      have hm := len_mono (c := c) (n := n) hn.1 hs.2.2.2.1
      rw [Int.min_eq_left hm, Int.max_eq_right hm] at h
      cases h
      exact rLength_yes hs hn.1 hn.2 w
    · rw [if_neg (fun h => hn h.2)] at h; cases h; exact rLength_far hs hn w
  · rw [if_neg (fun h => hs h.1)] at h; cases h; exact rLength_no hs w
theorem rPlace_calls {c t lo hi n a b e : Int} (h : placeF c t lo hi n = (a, b, e)) (w : World) :
    Gives 26 #[.agg #[.int .i64 c, .int .i64 t, .int .i64 lo, .int .i64 hi], .int .i64 n] (.tuple #[.agg #[.int .i64 a, .int .i64 b], .int .i64 e]) w := by
  unfold placeF at h
  by_cases hs : Sound c t lo hi
  · by_cases hn : 0 ≤ n ∧ n ≤ 1000 * t
    · rw [if_pos ⟨hs, hn⟩] at h
      have hm := plc_mono (c := c) (x := n) hs.2.1.1 hn.1 hs.2.2.2.1
      rw [Int.min_eq_left hm, Int.max_eq_right hm] at h
      cases h
      exact rPlace_yes hs hn.1 hn.2 w
    · rw [if_neg (fun h => hn h.2)] at h; cases h; exact rPlace_far hs hn w
  · rw [if_neg (fun h => hs h.1)] at h; cases h; exact rPlace_no hs w

/-! ### The arguments. -/
set_option maxRecDepth 100000 in
theorem ints_arg {W : World} {base : Nat} {t : TypeId} {v : Value} {ts : List TypeId} (h : ∃ cs, v = .agg cs ∧ cs.size = Try.prog.cellsOf t ∧ Row.okWide Try.prog W .any base t cs) (hts : Try.prog.cellTypes Try.prog.depth t = some ts) (hall : ∀ u ∈ ts, u = 3) :
    ∃ l : List Int, v = .agg (l.map (Value.int .i64)).toArray ∧ l.length = Try.prog.cellsOf t := by
  obtain ⟨cs, rfl, hs, ts', hts', _, hc⟩ := h
  rw [hts] at hts'
  cases hts'
  have hv : ∀ x ∈ cs.toList, ∃ n, x = .int .i64 n := by
    intro x hx
    obtain ⟨i, hi, rfl⟩ := List.getElem_of_mem hx
    obtain ⟨u, hu, ho⟩ := hc i cs.toList[i] (by simp at hi; simp [hi])
    have h3 : u = 3 := hall u (List.mem_of_getElem? hu)
    subst h3
    refine okWide_int (P := Try.prog) (w := W) (r := .any) (base := base) Try.underlying3 ?_
    unfold Value.okWide
    rw [Try.underlying3]
    exact ho
  have hl : ∀ l : List Value, (∀ x ∈ l, ∃ n, x = .int .i64 n) → ∃ k : List Int, l = k.map (Value.int .i64) := by
    intro l
    induction l with
    | nil => exact fun _ => ⟨[], rfl⟩
    | cons x xs ih =>
      intro h
      obtain ⟨n, rfl⟩ := h x (by simp)
      obtain ⟨k, rfl⟩ := ih (fun y hy => h y (by simp [hy]))
      exact ⟨n :: k, rfl⟩
  obtain ⟨k, hk⟩ := hl _ hv
  refine ⟨k, by rw [← hk], ?_⟩
  have := congrArg List.length hk
  simp at this
  omega
set_option maxRecDepth 100000 in
theorem spool_arg {W : World} {base : Nat} {v : Value} (h : Value.okWide Try.prog W .any base 28 v) : ∃ c t lo hi, v = .agg #[.int .i64 c, .int .i64 t, .int .i64 lo, .int .i64 hi] := by
  have h' : ∃ cs, v = .agg cs ∧ cs.size = Try.prog.cellsOf 28 ∧ Row.okWide Try.prog W .any base 28 cs := by
    unfold Value.okWide at h
    simpa only [Try.underlying28] using h
  obtain ⟨l, rfl, hl⟩ := ints_arg h' (ts := [3, 3, 3, 3]) (by kernel_rfl) (by simp)
  have h4 : Try.prog.cellsOf 28 = 4 := by kernel_rfl
  rw [h4] at hl
  match l, hl with
  | [c, t, lo, hi], _ => exact ⟨c, t, lo, hi, rfl⟩
end Go.Proofs.Ytphbiaagmhhhbaa
