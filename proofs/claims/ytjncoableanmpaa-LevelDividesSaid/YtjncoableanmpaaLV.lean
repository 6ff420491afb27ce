/- The slices that Divide makes. -/
import Derived.Test.YtjncoableanmpaaLT
namespace Go.Proofs.Ytjncoableanmpaa
open Go.RowKit Go.Lib Go.Shelf

theorem info100 : (Try.prog.info? 100).map (fun i => (i.zero, i.size, i.bytes)) = some (some (.slice none 0 0), 1, 24) := by kernel_rfl
theorem info82 : (Try.prog.info? 82).map (fun i => (i.zero, i.size, i.bytes)) = some (some (.agg #[.int .i64 0, .int .i64 0]), 2, 16) := by kernel_rfl
theorem info103 : (Try.prog.info? 103).map (fun i => (i.zero, i.size, i.bytes)) = some (some (.agg #[.int .i64 0, .int .i64 0, .slice none 0 0]), 3, 40) := by kernel_rfl
theorem mk99 {n : Nat} (hn : n ≤ 1000) : ∃ cs : List Value, cs.length = n ∧ ∀ w, (Instr.makeSlice 99 (.int .i64 (n : Int)) (.int .i64 (n : Int))).run Try.prog w = .ok (.slice (some ⟨w.heap.size, 0, none⟩) n n) (w.alloc (.cells cs.toArray 100)) := by
  obtain ⟨i0, hi, hz0, hz1, hz2⟩ := info_parts info100
  refine ⟨(madeCells (Value.slice none 0 0).cells (n * 1)).toList, by simp [size_madeCells], fun w => ?_⟩
  have := run_make (P := Try.prog) w 99 100 i0 _ Try.underlying99 hi hz0 .i64 .i64 (n : Int) (n : Int) (by omega) (by omega) (by rw [hz2]; omega) (by omega)
  rw [hz1] at this
  simpa using this
theorem mk100 {n : Nat} (hn : n ≤ 1000) : ∃ cs : List Value, cs.length = (n + 1) * 2 ∧ ∀ w, (Instr.makeSlice 100 (.int .i64 ((n : Int) + 1)) (.int .i64 ((n : Int) + 1))).run Try.prog w = .ok (.slice (some ⟨w.heap.size, 0, none⟩) (n + 1) (n + 1)) (w.alloc (.cells cs.toArray 82)) := by
  obtain ⟨i0, hi, hz0, hz1, hz2⟩ := info_parts info82
  refine ⟨(madeCells (Value.agg #[.int .i64 0, .int .i64 0]).cells ((n + 1) * 2)).toList, by simp [size_madeCells], fun w => ?_⟩
  have := run_make (P := Try.prog) w 100 82 i0 _ Try.underlying100 hi hz0 .i64 .i64 ((n : Int) + 1) ((n : Int) + 1) (by omega) (by omega) (by rw [hz2]; omega) (by omega)
  rw [hz1, show ((n : Int) + 1).toNat = n + 1 by omega] at this
  simpa using this
theorem mk101 {n : Nat} (hn : n ≤ 1000) : ∃ cs : List Value, cs.length = (n + 1) * 3 ∧ ∀ w, (Instr.makeSlice 101 (.int .i64 ((n : Int) + 1)) (.int .i64 ((n : Int) + 1))).run Try.prog w = .ok (.slice (some ⟨w.heap.size, 0, none⟩) (n + 1) (n + 1)) (w.alloc (.cells cs.toArray 103)) := by
  obtain ⟨i0, hi, hz0, hz1, hz2⟩ := info_parts info103
  refine ⟨(madeCells (Value.agg #[.int .i64 0, .int .i64 0, .slice none 0 0]).cells ((n + 1) * 3)).toList, by simp [size_madeCells], fun w => ?_⟩
  have := run_make (P := Try.prog) w 101 103 i0 _ Try.underlying101 hi hz0 .i64 .i64 ((n : Int) + 1) ((n : Int) + 1) (by omega) (by omega) (by rw [hz2]; omega) (by omega)
  rw [hz1, show ((n : Int) + 1).toNat = n + 1 by omega] at this
  simpa using this
end Go.Proofs.Ytjncoableanmpaa
