/- The contract of span: both ends of what is computed of a spool. -/
import Derived.Test.YtphbiaagmhhhbaaSD
import Derived.Lib.MinMax
namespace Go.Proofs.Ytphbiaagmhhhbaa
open Go.RowKit Go.Lib Go.Shelf

/-- What is asked of a function of wound spools: at both ends. -/
def FnAt (g : Nat) (lb : Array Value) (c t lo hi : Int) (F : Int → Int) (w : World) : Prop :=
  ∀ W x, Below w.heap.size w W → (x = lo ∨ x = hi) → Calls Try.prog g (#[.agg #[.int .i64 c, .int .i64 t, .int .i64 lo, .int .i64 hi, .int .i64 x]] ++ lb) W fun e W' => e = .returned (.int .i64 (F x)) ∧ Below W.heap.size W W'

/-- Two cells of a block are written: they read so. -/
theorem put2 {w : World} {B : Nat} {a b x y : Value} (h0 : w.cell? ⟨B, 0, none⟩ = some x) (h1 : w.cell? ⟨B, 1, none⟩ = some y) :
    (w.setCell ⟨B, 0, none⟩ a).cell? ⟨B, 0, none⟩ = some a ∧ ((w.setCell ⟨B, 0, none⟩ a).setCell ⟨B, 1, none⟩ b).cell? ⟨B, 1, none⟩ = some b :=
  ⟨World.cell?_setCell_same _ _ _ h0, World.cell?_setCell_same _ _ _ ((World.cell?_setCell_other _ _ _ _ (by simp)).trans h1)⟩

set_option maxHeartbeats 1000000 in
theorem span_calls (g : Nat) (lb : Array Value) (eg : ∀ args w, (callFunc g args).run Try.prog w = .ok (.enter g args) w) (c t lo hi : Int) (F : Int → Int) (w : World)
    (ha : FnAt g lb c t lo hi F w) :
    Gives 61 #[.agg #[.func (.func g) #[] lb], .agg #[.int .i64 c, .int .i64 t, .int .i64 lo, .int .i64 hi]] (.agg #[.int .i64 (min (F lo) (F hi)), .int .i64 (max (F lo) (F hi))]) w := by
  unfold Gives
  have HA := Lib.hid ha
  clear ha
  go_enter Try.func61, Try.ntmps61
  go_wp2_with fail
  generalize hW : World.alloc _ _ = W0
  have b0 : Below w.heap.size w W0 := by rw [← hW]; go_grown
  have z0 : w.heap.size + 1 + 1 < W0.heap.size := by rw [← hW]; simp
  have c0 : W0.cell? ⟨w.heap.size, 0, none⟩ = some (.func (.func g) #[] lb) := by rw [← hW]; clear hW; go_simp
  have c1 : W0.cell? ⟨w.heap.size + 1, 0, none⟩ = some (.int .i64 c) ∧ W0.cell? ⟨w.heap.size + 1, 1, none⟩ = some (.int .i64 t) ∧ W0.cell? ⟨w.heap.size + 1, 2, none⟩ = some (.int .i64 lo) ∧ W0.cell? ⟨w.heap.size + 1, 3, none⟩ = some (.int .i64 hi) := by rw [← hW]; clear hW; go_simp
  have c2 : W0.cell? ⟨w.heap.size + 1 + 1, 0, none⟩ = some (.int .i64 0) ∧ W0.cell? ⟨w.heap.size + 1 + 1, 1, none⟩ = some (.int .i64 0) ∧ W0.frozen? ⟨w.heap.size + 1 + 1, 0, none⟩ = false ∧ W0.frozen? ⟨w.heap.size + 1 + 1, 1, none⟩ = false := by rw [← hW]; clear hW; go_simp
  clear hW
  go_region_held3 (fun W => Below w.heap.size w W ∧ w.heap.size + 1 + 1 < W.heap.size ∧ W.cell? ⟨w.heap.size, 0, none⟩ = some (.func (.func g) #[] lb) ∧ (W.cell? ⟨w.heap.size + 1, 0, none⟩ = some (.int .i64 c) ∧ W.cell? ⟨w.heap.size + 1, 1, none⟩ = some (.int .i64 t) ∧ W.cell? ⟨w.heap.size + 1, 2, none⟩ = some (.int .i64 lo) ∧ W.cell? ⟨w.heap.size + 1, 3, none⟩ = some (.int .i64 hi)) ∧
      W.cell? ⟨w.heap.size + 1 + 1, 0, none⟩ = some (.int .i64 0) ∧ W.cell? ⟨w.heap.size + 1 + 1, 1, none⟩ = some (.int .i64 0) ∧ W.frozen? ⟨w.heap.size + 1 + 1, 0, none⟩ = false ∧ W.frozen? ⟨w.heap.size + 1 + 1, 1, none⟩ = false)
    (first | (exact ⟨below_drewN' b0 1, z0, c0, c1, c2⟩) | (rename_i hh _ _; refine ⟨hh.1.trans (hb.mono hh.1.size), ?_⟩; have hk := kept hb hh.2.1; have hj := kept hb (Nat.lt_of_succ_lt hh.2.1); have hi := kept hb (Nat.lt_of_succ_lt (Nat.lt_of_succ_lt hh.2.1)); simp only [hk.1, hj.1, hi.1, hk.2.1]; exact ⟨hk.2.2, hh.2.2⟩))
    (first | (go_at_fn g; refine (HA.out _ _ (by rename_i hh _ _; exact hh.1) (by first | exact .inl rfl | exact .inr rfl)).mono ?_; rintro e w' ⟨rfl, hb⟩))
  go_wp2
  rename_i hh
  have r := put2 (a := .int .i64 (min (F lo) (F hi))) (b := .int .i64 (max (F lo) (F hi))) hh.2.2.2.2.1 hh.2.2.2.2.2.1
  refine bodyPost_ret (v := .agg #[.int .i64 (min (F lo) (F hi)), .int .i64 (max (F lo) (F hi))]) (by simp [results, Try.results61, go_sem, r.1, r.2]) rfl ⟨rfl, ?_⟩
  exact (hh.1.setCell (p := ⟨w.heap.size + 1 + 1, 0, none⟩) (by simp; omega) _).setCell (p := ⟨w.heap.size + 1 + 1, 1, none⟩) (by simp; omega) _
end Go.Proofs.Ytphbiaagmhhhbaa
