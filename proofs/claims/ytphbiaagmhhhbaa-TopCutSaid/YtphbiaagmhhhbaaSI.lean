/- The contracts of wind, timed, placed. -/
import Derived.Test.YtphbiaagmhhhbaaSH
namespace Go.Proofs.Ytphbiaagmhhhbaa
open Go.RowKit Go.Lib Go.Shelf

/-- Five cells of a block are written: they read so. -/
theorem put5 {w : World} {B : Nat} {a0 a1 a2 a3 a4 x0 x1 x2 x3 x4 : Value} (h0 : w.cell? ⟨B, 0, none⟩ = some x0) (h1 : w.cell? ⟨B, 1, none⟩ = some x1) (h2 : w.cell? ⟨B, 2, none⟩ = some x2) (h3 : w.cell? ⟨B, 3, none⟩ = some x3) (h4 : w.cell? ⟨B, 4, none⟩ = some x4) :
    (w.setCell ⟨B, 0, none⟩ a0).cell? ⟨B, 0, none⟩ = some a0 ∧ ((w.setCell ⟨B, 0, none⟩ a0).setCell ⟨B, 1, none⟩ a1).cell? ⟨B, 1, none⟩ = some a1 ∧ (((w.setCell ⟨B, 0, none⟩ a0).setCell ⟨B, 1, none⟩ a1).setCell ⟨B, 2, none⟩ a2).cell? ⟨B, 2, none⟩ = some a2 ∧
      ((((w.setCell ⟨B, 0, none⟩ a0).setCell ⟨B, 1, none⟩ a1).setCell ⟨B, 2, none⟩ a2).setCell ⟨B, 3, none⟩ a3).cell? ⟨B, 3, none⟩ = some a3 ∧ (((((w.setCell ⟨B, 0, none⟩ a0).setCell ⟨B, 1, none⟩ a1).setCell ⟨B, 2, none⟩ a2).setCell ⟨B, 3, none⟩ a3).setCell ⟨B, 4, none⟩ a4).cell? ⟨B, 4, none⟩ = some a4 := by
  refine ⟨?_, ?_, ?_, ?_, ?_⟩ <;> refine World.cell?_setCell_same _ _ _ (u := ?_) ?_
  · exact x0
  · exact h0
  · exact x1
  · simp [World.cell?_setCell_other]; exact h1
  · exact x2
  · simp [World.cell?_setCell_other]; exact h2
  · exact x3
  · simp [World.cell?_setCell_other]; exact h3
  · exact x4
  · simp [World.cell?_setCell_other]; exact h4

theorem below5 {b0 B : Nat} {w w1 : World} (h : Below b0 w w1) (hB : b0 ≤ B) (a0 a1 a2 a3 a4 : Value) :
    Below b0 w (((((w1.setCell ⟨B, 0, none⟩ a0).setCell ⟨B, 1, none⟩ a1).setCell ⟨B, 2, none⟩ a2).setCell ⟨B, 3, none⟩ a3).setCell ⟨B, 4, none⟩ a4) :=
  ((((h.setCell (p := ⟨B, 0, none⟩) hB _).setCell (p := ⟨B, 1, none⟩) hB _).setCell (p := ⟨B, 2, none⟩) hB _).setCell (p := ⟨B, 3, none⟩) hB _).setCell (p := ⟨B, 4, none⟩) hB _

theorem wind_no {c t lo hi g : Int} (h : ¬ Sound c t lo hi) (w : World) :
    Gives 50 #[.agg #[.int .i64 c, .int .i64 t, .int .i64 lo, .int .i64 hi], .int .i64 g] (.tuple #[.agg #[.int .i64 0, .int .i64 0, .int .i64 0, .int .i64 0, .int .i64 0], .int .i64 3]) w := by
  unfold Gives
  have hk := chk_no h
  clear h
  go_enter Try.func50, Try.ntmps50
  go_wp2_with (go_at_call 27; refine (check_calls _ _ _ _ _).mono ?_; rintro e w1 ⟨rfl, hb⟩; rw [hk]; obtain ⟨hc, hf⟩ := bcell hb; have hz := hb.size)
  have r := put5 (w := w1) (B := w.heap.size + 1) (a0 := .int .i64 0) (a1 := .int .i64 0) (a2 := .int .i64 0) (a3 := .int .i64 0) (a4 := .int .i64 0) (x0 := .int .i64 0) (x1 := .int .i64 0) (x2 := .int .i64 0) (x3 := .int .i64 0) (x4 := .int .i64 0) (by rw [hc _ _ (by simp)]; simp [go_sem]) (by rw [hc _ _ (by simp)]; simp [go_sem]) (by rw [hc _ _ (by simp)]; simp [go_sem]) (by rw [hc _ _ (by simp)]; simp [go_sem]) (by rw [hc _ _ (by simp)]; simp [go_sem])
  refine bodyPost_ret (v := .tuple #[.agg #[.int .i64 0, .int .i64 0, .int .i64 0, .int .i64 0, .int .i64 0], .int .i64 3]) (by simp [results, Try.results50, go_sem, r]) rfl ⟨rfl, ?_⟩
  have hB : Below w.heap.size w w1 := ((((Below.refl _ _).alloc (Nat.le_refl _) _).alloc (by simp) _)).trans (hb.mono (by simp; omega))
  exact below5 hB (by omega) _ _ _ _ _

theorem wind_far {c t lo hi g : Int} (h : Sound c t lo hi) (hg : ¬ (lo ≤ g ∧ g ≤ hi)) (w : World) :
    Gives 50 #[.agg #[.int .i64 c, .int .i64 t, .int .i64 lo, .int .i64 hi], .int .i64 g] (.tuple #[.agg #[.int .i64 0, .int .i64 0, .int .i64 0, .int .i64 0, .int .i64 0], .int .i64 3]) w := by
  unfold Gives
  have hk := chk_yes h
  have hm := btw_no hg
  clear h hg
  go_enter Try.func50, Try.ntmps50
  go_wp2_with (first | (go_at_call 27; refine (check_calls _ _ _ _ _).mono ?_; rintro e w1 ⟨rfl, hb⟩; rw [hk]; obtain ⟨hc, hf⟩ := bcell hb; have hz := hb.size) | (go_at_call 58; refine (between_calls _ _ _ _).mono ?_; rintro e w2 ⟨rfl, rfl⟩))
  have r := put5 (w := w1) (B := w.heap.size + 1) (a0 := .int .i64 0) (a1 := .int .i64 0) (a2 := .int .i64 0) (a3 := .int .i64 0) (a4 := .int .i64 0) (x0 := .int .i64 0) (x1 := .int .i64 0) (x2 := .int .i64 0) (x3 := .int .i64 0) (x4 := .int .i64 0) (by rw [hc _ _ (by simp)]; simp [go_sem]) (by rw [hc _ _ (by simp)]; simp [go_sem]) (by rw [hc _ _ (by simp)]; simp [go_sem]) (by rw [hc _ _ (by simp)]; simp [go_sem]) (by rw [hc _ _ (by simp)]; simp [go_sem])
  refine bodyPost_ret (v := .tuple #[.agg #[.int .i64 0, .int .i64 0, .int .i64 0, .int .i64 0, .int .i64 0], .int .i64 3]) (by simp [results, Try.results50, go_sem, r]) rfl ⟨rfl, ?_⟩
  have hB : Below w.heap.size w w1 := ((((Below.refl _ _).alloc (Nat.le_refl _) _).alloc (by simp) _)).trans (hb.mono (by simp; omega))
  exact below5 hB (by omega) _ _ _ _ _

theorem wind_yes {c t lo hi g : Int} (h : Sound c t lo hi) (hg0 : lo ≤ g) (hg1 : g ≤ hi) (w : World) :
    Gives 50 #[.agg #[.int .i64 c, .int .i64 t, .int .i64 lo, .int .i64 hi], .int .i64 g] (.tuple #[.agg #[.int .i64 c, .int .i64 t, .int .i64 lo, .int .i64 hi, .int .i64 g], .int .i64 0]) w := by
  unfold Gives
  have hk := chk_yes h
  have hm := btw_yes ⟨hg0, hg1⟩
  clear h hg0 hg1
  go_enter Try.func50, Try.ntmps50
  go_wp2_with (first | (go_at_call 27; refine (check_calls _ _ _ _ _).mono ?_; rintro e w1 ⟨rfl, hb⟩; rw [hk]; obtain ⟨hc, hf⟩ := bcell hb; have hz := hb.size) | (go_at_call 58; refine (between_calls _ _ _ _).mono ?_; rintro e w2 ⟨rfl, rfl⟩))
  have r := put5 (w := w1) (B := w.heap.size + 1) (a0 := .int .i64 c) (a1 := .int .i64 t) (a2 := .int .i64 lo) (a3 := .int .i64 hi) (a4 := .int .i64 g) (x0 := .int .i64 0) (x1 := .int .i64 0) (x2 := .int .i64 0) (x3 := .int .i64 0) (x4 := .int .i64 0) (by rw [hc _ _ (by simp)]; simp [go_sem]) (by rw [hc _ _ (by simp)]; simp [go_sem]) (by rw [hc _ _ (by simp)]; simp [go_sem]) (by rw [hc _ _ (by simp)]; simp [go_sem]) (by rw [hc _ _ (by simp)]; simp [go_sem])
  refine bodyPost_ret (v := .tuple #[.agg #[.int .i64 c, .int .i64 t, .int .i64 lo, .int .i64 hi, .int .i64 g], .int .i64 0]) (by simp [results, Try.results50, go_sem, r]) rfl ⟨rfl, ?_⟩
  have hB : Below w.heap.size w w1 := ((((Below.refl _ _).alloc (Nat.le_refl _) _).alloc (by simp) _)).trans (hb.mono (by simp; omega))
  exact below5 hB (by omega) _ _ _ _ _

/-- The error of a time. -/
def timedF (t x : Int) : Int := if 0 ≤ x ∧ x ≤ 1000 * t then 0 else 3

theorem timed_calls (c t lo hi x : Int) (ht0 : -1000000 ≤ t) (ht1 : t ≤ 1000000) (w : World) :
    Gives 52 #[.agg #[.int .i64 c, .int .i64 t, .int .i64 lo, .int .i64 hi], .int .i64 x] (.int .i64 (timedF t x)) w := by
  unfold Gives
  unfold timedF
  by_cases hx : 0 ≤ x ∧ x ≤ 1000 * t
  · rw [if_pos hx]
    have hm := btw_yes hx
    clear hx
    go_enter Try.func52, Try.ntmps52
    go_wp2_with (first | (go_at_call 64; refine (last_calls _ _ _ _ _ ht0 ht1).mono ?_; rintro e w1 ⟨rfl, hb⟩) | (go_at_call 58; refine (between_calls _ _ _ _).mono ?_; rintro e w2 ⟨rfl, rfl⟩))
    go_ret
    exact ⟨rfl, ((Below.refl _ _).alloc (Nat.le_refl _) _).trans (hb.mono (by simp))⟩
  · rw [if_neg hx]
    have hm := btw_no hx
    clear hx
    go_enter Try.func52, Try.ntmps52
    go_wp2_with (first | (go_at_call 64; refine (last_calls _ _ _ _ _ ht0 ht1).mono ?_; rintro e w1 ⟨rfl, hb⟩) | (go_at_call 58; refine (between_calls _ _ _ _).mono ?_; rintro e w2 ⟨rfl, rfl⟩))
    go_ret
    exact ⟨rfl, ((Below.refl _ _).alloc (Nat.le_refl _) _).trans (hb.mono (by simp))⟩

/-- The error of a place. -/
def placedF (c t g p : Int) : Int := if p < 0 then 3 else if arr c t g p < 0 then 11 else 0

theorem placed_calls {c t lo hi g p : Int} (h : Sound c t lo hi) (hg0 : 0 ≤ g) (hg1 : g ≤ 1000) (w : World) :
    Gives 54 #[.agg #[.int .i64 c, .int .i64 t, .int .i64 lo, .int .i64 hi, .int .i64 g], .int .i64 p] (.int .i64 (placedF c t g p)) w := by
  unfold Gives
  unfold placedF
  have H := Lib.hid h
  clear h
  by_cases hp : p < 0
  · rw [if_pos hp]
    go_enter Try.func54, Try.ntmps54
    go_wp2
    go_ret
    exact ⟨rfl, by go_grown⟩
  · rw [if_neg hp]
    by_cases ha : arr c t g p < 0
    · rw [if_pos ha]
      go_enter Try.func54, Try.ntmps54
      go_wp2_with (first | (go_at_call 55; refine (arrival_calls H.out hg0 hg1 _).mono ?_; rintro e w1 ⟨rfl, hb⟩))
      go_ret
      exact ⟨rfl, ((Below.refl _ _).alloc (Nat.le_refl _) _).trans (hb.mono (by simp))⟩
    · rw [if_neg ha]
      go_enter Try.func54, Try.ntmps54
      go_wp2_with (first | (go_at_call 55; refine (arrival_calls H.out hg0 hg1 _).mono ?_; rintro e w1 ⟨rfl, hb⟩))
      go_ret
      exact ⟨rfl, ((Below.refl _ _).alloc (Nat.le_refl _) _).trans (hb.mono (by simp))⟩
end Go.Proofs.Ytphbiaagmhhhbaa
