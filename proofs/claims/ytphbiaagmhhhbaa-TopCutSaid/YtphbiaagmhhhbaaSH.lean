/- The contracts of Arrival. -/
import Derived.Test.YtphbiaagmhhhbaaSG
namespace Go.Proofs.Ytphbiaagmhhhbaa
open Go.RowKit Go.Lib Go.Shelf

theorem arrival1_calls {c t lo hi g p : Int} (h : Sound c t lo hi) (hg0 : 0 ≤ g) (hg1 : g ≤ 1000) (w : World) (B : Nat) (hn : w.cell? ⟨B, 0, none⟩ = some (.int .i64 p)) :
    Gives 67 #[.agg #[.int .i64 c, .int .i64 t, .int .i64 lo, .int .i64 hi, .int .i64 g], .pointer (some ⟨B, 0, none⟩)] (.int .i64 (arr c t g p)) w := by
  unfold Gives
  have hB := World.block_lt_of_cell? w _ hn
  have H := Lib.hid h
  clear h
  go_enter Try.func67, Try.ntmps67
  go_wp2_with (go_at_call 55; refine (arrival_calls H.out hg0 hg1 _).mono ?_; rintro e w1 ⟨rfl, hb⟩)
  go_ret
  exact ⟨rfl, ((Below.refl _ _).alloc (Nat.le_refl _) _).trans (hb.mono (by simp))⟩

theorem eg67 : ∀ args w, (callFunc 67 args).run Try.prog w = .ok (.enter 67 args) w := enters_of Try.func67 (by kernel_rfl) rfl

theorem Arrival_no {c t lo hi p : Int} (h : ¬ Sound c t lo hi) (w : World) :
    Gives 30 #[.agg #[.int .i64 c, .int .i64 t, .int .i64 lo, .int .i64 hi], .int .i64 p] (.tuple #[.agg #[.int .i64 0, .int .i64 0], .int .i64 3]) w := by
  unfold Gives
  have hk := chk_no h
  clear h
  go_enter Try.func30, Try.ntmps30
  go_wp2_with (go_at_call 27; refine (check_calls _ _ _ _ _).mono ?_; rintro e w1 ⟨rfl, hb⟩; rw [hk]; obtain ⟨hc, hf⟩ := bcell hb; have hz := hb.size)
  have r := put2 (w := w1) (B := w.heap.size + 1 + 1) (a := .int .i64 0) (b := .int .i64 0) (x := .int .i64 0) (y := .int .i64 0) (by rw [hc _ _ (by simp)]; simp [go_sem]) (by rw [hc _ _ (by simp)]; simp [go_sem])
  refine bodyPost_ret (v := .tuple #[.agg #[.int .i64 0, .int .i64 0], .int .i64 3]) (by simp [results, Try.results30, go_sem, r.1, r.2]) rfl ⟨rfl, ?_⟩
  have hB : Below w.heap.size w w1 := ((((Below.refl _ _).alloc (Nat.le_refl _) _).alloc (by simp) _).alloc (by simp; omega) _).trans (hb.mono (by simp; omega))
  exact below2 hB (by omega) _ _

theorem Arrival_neg {c t lo hi p : Int} (h : Sound c t lo hi) (hn : p < 0) (w : World) :
    Gives 30 #[.agg #[.int .i64 c, .int .i64 t, .int .i64 lo, .int .i64 hi], .int .i64 p] (.tuple #[.agg #[.int .i64 0, .int .i64 0], .int .i64 3]) w := by
  unfold Gives
  have hk := chk_yes h
  clear h
  go_enter Try.func30, Try.ntmps30
  go_wp2_with (go_at_call 27; refine (check_calls _ _ _ _ _).mono ?_; rintro e w1 ⟨rfl, hb⟩; rw [hk]; obtain ⟨hc, hf⟩ := bcell hb; have hz := hb.size)
  have r := put2 (w := w1) (B := w.heap.size + 1 + 1) (a := .int .i64 0) (b := .int .i64 0) (x := .int .i64 0) (y := .int .i64 0) (by rw [hc _ _ (by simp)]; simp [go_sem]) (by rw [hc _ _ (by simp)]; simp [go_sem])
  refine bodyPost_ret (v := .tuple #[.agg #[.int .i64 0, .int .i64 0], .int .i64 3]) (by simp [results, Try.results30, go_sem, r.1, r.2]) rfl ⟨rfl, ?_⟩
  have hB : Below w.heap.size w w1 := ((((Below.refl _ _).alloc (Nat.le_refl _) _).alloc (by simp) _).alloc (by simp; omega) _).trans (hb.mono (by simp; omega))
  exact below2 hB (by omega) _ _

theorem Arrival_over {c t lo hi p a b : Int} (h : Sound c t lo hi) (hp : 0 ≤ p) (ha : min (arr c t lo p) (arr c t hi p) = a) (hb : max (arr c t lo p) (arr c t hi p) = b) (hn : a < 0) (w : World) :
    Gives 30 #[.agg #[.int .i64 c, .int .i64 t, .int .i64 lo, .int .i64 hi], .int .i64 p] (.tuple #[.agg #[.int .i64 0, .int .i64 0], .int .i64 11]) w := by
  unfold Gives
  have hk := chk_yes h
  have H := Lib.hid h
  have HA := Lib.hid ha
  have HB := Lib.hid hb
  clear h ha hb
  go_enter Try.func30, Try.ntmps30
  go_wp2_with (go_at_call 27; refine (check_calls _ _ _ _ _).mono ?_; rintro e w1 ⟨rfl, hb⟩; rw [hk]; obtain ⟨hc, hf⟩ := bcell hb; have hz := hb.size)
  have hz0 : w.heap.size + 1 + 1 < w1.heap.size := by simp at hz; omega
  have fn : FnAt 67 #[.pointer (some ⟨w.heap.size + 1, 0, none⟩)] c t lo hi (fun g => arr c t g p) w1 := by
    intro W x hW hx
    have hs := H.out
    exact arrival1_calls H.out (by have := hs.2.2; omega) (by have := hs.2.2; omega) W _ (by rw [(kept hW (Nat.lt_of_succ_lt hz0)).1, hc _ _ (by simp)]; simp [go_sem])
  have c0 : w1.cell? ⟨w.heap.size + 1 + 1, 0, none⟩ = some (.int .i64 0) := by rw [hc _ _ (by simp)]; simp [go_sem]
  have c1 : w1.cell? ⟨w.heap.size + 1 + 1, 1, none⟩ = some (.int .i64 0) := by rw [hc _ _ (by simp)]; simp [go_sem]
  have f0 : w1.frozen? ⟨w.heap.size + 1 + 1, 0, none⟩ = false := by rw [hf _ _ (by simp)]; simp [go_sem]
  have f1 : w1.frozen? ⟨w.heap.size + 1 + 1, 1, none⟩ = false := by rw [hf _ _ (by simp)]; simp [go_sem]
  refine (span_calls 67 _ eg67 c t lo hi _ w1 fn).mono ?_
  rintro e w2 ⟨rfl, hb2⟩
  rw [HA.out, HB.out]
  obtain ⟨k1, k2, k3⟩ := kept hb2 hz0
  have d0 : w2.cell? ⟨w.heap.size + 1 + 1, 0, none⟩ = some (.int .i64 0) := (k1 0).trans c0
  have d1 : w2.cell? ⟨w.heap.size + 1 + 1, 1, none⟩ = some (.int .i64 0) := (k1 1).trans c1
  have e0 : w2.frozen? ⟨w.heap.size + 1 + 1, 0, none⟩ = false := (k2 0).trans f0
  have e1 : w2.frozen? ⟨w.heap.size + 1 + 1, 1, none⟩ = false := (k2 1).trans f1
  have hB : Below w.heap.size w w1 := ((((Below.refl _ _).alloc (Nat.le_refl _) _).alloc (by simp) _).alloc (by simp; omega) _).trans (hb.mono (by simp; omega))
  have hB2 := Lib.hid (hB.trans (hb2.mono hB.size))
  clear hb hc hf hz fn c0 c1 f0 f1 k1 k2 hb2 hB
  go_wp2
  have r := put2 (a := .int .i64 0) (b := .int .i64 0) d0 d1
  refine bodyPost_ret (v := .tuple #[.agg #[.int .i64 0, .int .i64 0], .int .i64 11]) (by simp [results, Try.results30, go_sem, r.1, r.2, k3]) rfl ⟨rfl, ?_⟩
  exact (below2 hB2.out (by omega) _ _).alloc (by simp; exact hB2.out.size) _

theorem Arrival_yes {c t lo hi p a b : Int} (h : Sound c t lo hi) (hp : 0 ≤ p) (ha : min (arr c t lo p) (arr c t hi p) = a) (hb : max (arr c t lo p) (arr c t hi p) = b) (hn : 0 ≤ a) (w : World) :
    Gives 30 #[.agg #[.int .i64 c, .int .i64 t, .int .i64 lo, .int .i64 hi], .int .i64 p] (.tuple #[.agg #[.int .i64 a, .int .i64 b], .int .i64 0]) w := by
  unfold Gives
  have hk := chk_yes h
  have H := Lib.hid h
  have HA := Lib.hid ha
  have HB := Lib.hid hb
  clear h ha hb
  go_enter Try.func30, Try.ntmps30
  go_wp2_with (go_at_call 27; refine (check_calls _ _ _ _ _).mono ?_; rintro e w1 ⟨rfl, hb⟩; rw [hk]; obtain ⟨hc, hf⟩ := bcell hb; have hz := hb.size)
  have hz0 : w.heap.size + 1 + 1 < w1.heap.size := by simp at hz; omega
  have fn : FnAt 67 #[.pointer (some ⟨w.heap.size + 1, 0, none⟩)] c t lo hi (fun g => arr c t g p) w1 := by
    intro W x hW hx
    have hs := H.out
    exact arrival1_calls H.out (by have := hs.2.2; omega) (by have := hs.2.2; omega) W _ (by rw [(kept hW (Nat.lt_of_succ_lt hz0)).1, hc _ _ (by simp)]; simp [go_sem])
  have c0 : w1.cell? ⟨w.heap.size + 1 + 1, 0, none⟩ = some (.int .i64 0) := by rw [hc _ _ (by simp)]; simp [go_sem]
  have c1 : w1.cell? ⟨w.heap.size + 1 + 1, 1, none⟩ = some (.int .i64 0) := by rw [hc _ _ (by simp)]; simp [go_sem]
  have f0 : w1.frozen? ⟨w.heap.size + 1 + 1, 0, none⟩ = false := by rw [hf _ _ (by simp)]; simp [go_sem]
  have f1 : w1.frozen? ⟨w.heap.size + 1 + 1, 1, none⟩ = false := by rw [hf _ _ (by simp)]; simp [go_sem]
  refine (span_calls 67 _ eg67 c t lo hi _ w1 fn).mono ?_
  rintro e w2 ⟨rfl, hb2⟩
  rw [HA.out, HB.out]
  obtain ⟨k1, k2, k3⟩ := kept hb2 hz0
  have d0 : w2.cell? ⟨w.heap.size + 1 + 1, 0, none⟩ = some (.int .i64 0) := (k1 0).trans c0
  have d1 : w2.cell? ⟨w.heap.size + 1 + 1, 1, none⟩ = some (.int .i64 0) := (k1 1).trans c1
  have e0 : w2.frozen? ⟨w.heap.size + 1 + 1, 0, none⟩ = false := (k2 0).trans f0
  have e1 : w2.frozen? ⟨w.heap.size + 1 + 1, 1, none⟩ = false := (k2 1).trans f1
  have hB : Below w.heap.size w w1 := ((((Below.refl _ _).alloc (Nat.le_refl _) _).alloc (by simp) _).alloc (by simp; omega) _).trans (hb.mono (by simp; omega))
  have hB2 := Lib.hid (hB.trans (hb2.mono hB.size))
  clear hb hc hf hz fn c0 c1 f0 f1 k1 k2 hb2 hB
  go_wp2
  have r := put2 (a := .int .i64 a) (b := .int .i64 b) d0 d1
  refine bodyPost_ret (v := .tuple #[.agg #[.int .i64 a, .int .i64 b], .int .i64 0]) (by simp [results, Try.results30, go_sem, r.1, r.2, k3]) rfl ⟨rfl, ?_⟩
  exact (below2 hB2.out (by omega) _ _).alloc (by simp; exact hB2.out.size) _
end Go.Proofs.Ytphbiaagmhhhbaa
