/- The contracts of Place. -/
import Derived.Test.YtphbiaagmhhhbaaSF
namespace Go.Proofs.Ytphbiaagmhhhbaa
open Go.RowKit Go.Lib Go.Shelf

theorem place1_calls {c t lo hi g x : Int} (h : Sound c t lo hi) (hg0 : 0 ≤ g) (hg1 : g ≤ 1000) (h0 : 0 ≤ x) (h1 : x ≤ 1000 * t) (w : World) (B : Nat) (hn : w.cell? ⟨B, 0, none⟩ = some (.int .i64 x)) :
    Gives 65 #[.agg #[.int .i64 c, .int .i64 t, .int .i64 lo, .int .i64 hi, .int .i64 g], .pointer (some ⟨B, 0, none⟩)] (.int .i64 (plc c t g x)) w := by
  unfold Gives
  have hB := World.block_lt_of_cell? w _ hn
  have H := Lib.hid h
  clear h
  go_enter Try.func65, Try.ntmps65
  go_wp2_with (go_at_call 53; refine (place_calls H.out hg0 hg1 h0 h1 _).mono ?_; rintro e w1 ⟨rfl, hb⟩)
  go_ret
  exact ⟨rfl, ((Below.refl _ _).alloc (Nat.le_refl _) _).trans (hb.mono (by simp))⟩

theorem eg65 : ∀ args w, (callFunc 65 args).run Try.prog w = .ok (.enter 65 args) w := enters_of Try.func65 (by kernel_rfl) rfl

theorem Place_no {c t lo hi x : Int} (h : ¬ Sound c t lo hi) (w : World) :
    Gives 25 #[.agg #[.int .i64 c, .int .i64 t, .int .i64 lo, .int .i64 hi], .int .i64 x] (.tuple #[.agg #[.int .i64 0, .int .i64 0], .int .i64 3]) w := by
  unfold Gives
  have hk := chk_no h
  clear h
  go_enter Try.func25, Try.ntmps25
  go_wp2_with (go_at_call 27; refine (check_calls _ _ _ _ _).mono ?_; rintro e w1 ⟨rfl, hb⟩; rw [hk]; obtain ⟨hc, hf⟩ := bcell hb; have hz := hb.size)
  have r := put2 (w := w1) (B := w.heap.size + 1 + 1) (a := .int .i64 0) (b := .int .i64 0) (x := .int .i64 0) (y := .int .i64 0) (by rw [hc _ _ (by simp)]; simp [go_sem]) (by rw [hc _ _ (by simp)]; simp [go_sem])
  refine bodyPost_ret (v := .tuple #[.agg #[.int .i64 0, .int .i64 0], .int .i64 3]) (by simp [results, Try.results25, go_sem, r.1, r.2]) rfl ⟨rfl, ?_⟩
  have hB : Below w.heap.size w w1 := ((((Below.refl _ _).alloc (Nat.le_refl _) _).alloc (by simp) _).alloc (by simp; omega) _).trans (hb.mono (by simp; omega))
  exact below2 hB (by omega) _ _

set_option maxHeartbeats 1000000 in
theorem Place_far {c t lo hi x : Int} (h : Sound c t lo hi) (hn : ¬ (0 ≤ x ∧ x ≤ 1000 * t)) (w : World) :
    Gives 25 #[.agg #[.int .i64 c, .int .i64 t, .int .i64 lo, .int .i64 hi], .int .i64 x] (.tuple #[.agg #[.int .i64 0, .int .i64 0], .int .i64 3]) w := by
  unfold Gives
  have hk := chk_yes h
  have hm := btw_no hn
  have H := Lib.hid h
  clear h hn
  go_enter Try.func25, Try.ntmps25
  go_wp2_with (first | (go_at_call 27; refine (check_calls _ _ _ _ _).mono ?_; rintro e w1 ⟨rfl, hb⟩; rw [hk]; obtain ⟨hc, hf⟩ := bcell hb; have hz := hb.size))
  have b0 : Below w.heap.size w w1 := ((((Below.refl _ _).alloc (Nat.le_refl _) _).alloc (by simp) _).alloc (by simp; omega) _).trans (hb.mono (by simp; omega))
  have z0 : w.heap.size + 1 + 1 < w1.heap.size := by simp at hz; omega
  have c0 : w1.cell? ⟨w.heap.size, 0, none⟩ = some (.int .i64 c) ∧ w1.cell? ⟨w.heap.size, 1, none⟩ = some (.int .i64 t) ∧ w1.cell? ⟨w.heap.size, 2, none⟩ = some (.int .i64 lo) ∧ w1.cell? ⟨w.heap.size, 3, none⟩ = some (.int .i64 hi) := by
    refine ⟨?_, ?_, ?_, ?_⟩ <;> (rw [hc _ _ (by simp; omega)]; simp [go_sem])
  have c1 : w1.cell? ⟨w.heap.size + 1, 0, none⟩ = some (.int .i64 x) := by rw [hc _ _ (by simp)]; simp [go_sem]
  have c2 : w1.cell? ⟨w.heap.size + 1 + 1, 0, none⟩ = some (.int .i64 0) ∧ w1.cell? ⟨w.heap.size + 1 + 1, 1, none⟩ = some (.int .i64 0) := by
    refine ⟨?_, ?_⟩ <;> (rw [hc _ _ (by simp)]; simp [go_sem])
  have f2 : w1.frozen? ⟨w.heap.size + 1 + 1, 0, none⟩ = false ∧ w1.frozen? ⟨w.heap.size + 1 + 1, 1, none⟩ = false := by
    refine ⟨?_, ?_⟩ <;> (rw [hf _ _ (by simp)]; simp [go_sem])
  clear hb hc hf hz
  go_region_held3 (fun W => Below w.heap.size w W ∧ w.heap.size + 1 + 1 < W.heap.size ∧ (W.cell? ⟨w.heap.size, 0, none⟩ = some (.int .i64 c) ∧ W.cell? ⟨w.heap.size, 1, none⟩ = some (.int .i64 t) ∧ W.cell? ⟨w.heap.size, 2, none⟩ = some (.int .i64 lo) ∧ W.cell? ⟨w.heap.size, 3, none⟩ = some (.int .i64 hi)) ∧ W.cell? ⟨w.heap.size + 1, 0, none⟩ = some (.int .i64 x) ∧
      (W.cell? ⟨w.heap.size + 1 + 1, 0, none⟩ = some (.int .i64 0) ∧ W.cell? ⟨w.heap.size + 1 + 1, 1, none⟩ = some (.int .i64 0)) ∧ W.frozen? ⟨w.heap.size + 1 + 1, 0, none⟩ = false ∧ W.frozen? ⟨w.heap.size + 1 + 1, 1, none⟩ = false)
    (first | exact ⟨below_drewN' b0 1, z0, c0, c1, c2, f2⟩ | (rename_i hh _ _; exact hh) | (rename_i hh _ _; refine ⟨hh.1.trans (hb.mono hh.1.size), ?_⟩; have hk := kept hb hh.2.1; have hj := kept hb (Nat.lt_of_succ_lt hh.2.1); have hi := kept hb (Nat.lt_of_succ_lt (Nat.lt_of_succ_lt hh.2.1)); simp only [hk.1, hj.1, hi.1, hk.2.1]; exact ⟨hk.2.2, hh.2.2⟩))
    (first | (go_at_call 64; refine (last_calls _ _ _ _ _ (by have := H.out; unfold Sound at this; omega) (by have := H.out; unfold Sound at this; omega)).mono ?_; rintro e w' ⟨rfl, hb⟩) | (go_at_call 58; refine (between_calls _ _ _ _).mono ?_; rintro e w' ⟨rfl, rfl⟩))
  go_wp2
  rename_i hh
  have r := put2 (a := .int .i64 0) (b := .int .i64 0) hh.2.2.2.2.1.1 hh.2.2.2.2.1.2
  refine bodyPost_ret (v := .tuple #[.agg #[.int .i64 0, .int .i64 0], .int .i64 3]) (by simp [results, Try.results25, go_sem, r.1, r.2]) rfl ⟨rfl, ?_⟩
  exact below2 hh.1 (by omega) _ _
set_option maxHeartbeats 1000000 in
theorem Place_yes {c t lo hi x : Int} (h : Sound c t lo hi) (h0 : 0 ≤ x) (h1 : x ≤ 1000 * t) (w : World) :
    Gives 25 #[.agg #[.int .i64 c, .int .i64 t, .int .i64 lo, .int .i64 hi], .int .i64 x] (.tuple #[.agg #[.int .i64 (min (plc c t lo x) (plc c t hi x)), .int .i64 (max (plc c t lo x) (plc c t hi x))], .int .i64 0]) w := by
  unfold Gives
  have hk := chk_yes h
  have hm := btw_yes ⟨h0, h1⟩
  have H := Lib.hid h
  clear h
  go_enter Try.func25, Try.ntmps25
  go_wp2_with (first | (go_at_call 27; refine (check_calls _ _ _ _ _).mono ?_; rintro e w1 ⟨rfl, hb⟩; rw [hk]; obtain ⟨hc, hf⟩ := bcell hb; have hz := hb.size))
  have b0 : Below w.heap.size w w1 := ((((Below.refl _ _).alloc (Nat.le_refl _) _).alloc (by simp) _).alloc (by simp; omega) _).trans (hb.mono (by simp; omega))
  have z0 : w.heap.size + 1 + 1 < w1.heap.size := by simp at hz; omega
  have c0 : w1.cell? ⟨w.heap.size, 0, none⟩ = some (.int .i64 c) ∧ w1.cell? ⟨w.heap.size, 1, none⟩ = some (.int .i64 t) ∧ w1.cell? ⟨w.heap.size, 2, none⟩ = some (.int .i64 lo) ∧ w1.cell? ⟨w.heap.size, 3, none⟩ = some (.int .i64 hi) := by
    refine ⟨?_, ?_, ?_, ?_⟩ <;> (rw [hc _ _ (by simp; omega)]; simp [go_sem])
  have c1 : w1.cell? ⟨w.heap.size + 1, 0, none⟩ = some (.int .i64 x) := by rw [hc _ _ (by simp)]; simp [go_sem]
  have c2 : w1.cell? ⟨w.heap.size + 1 + 1, 0, none⟩ = some (.int .i64 0) ∧ w1.cell? ⟨w.heap.size + 1 + 1, 1, none⟩ = some (.int .i64 0) := by
    refine ⟨?_, ?_⟩ <;> (rw [hc _ _ (by simp)]; simp [go_sem])
  have f2 : w1.frozen? ⟨w.heap.size + 1 + 1, 0, none⟩ = false ∧ w1.frozen? ⟨w.heap.size + 1 + 1, 1, none⟩ = false := by
    refine ⟨?_, ?_⟩ <;> (rw [hf _ _ (by simp)]; simp [go_sem])
  clear hb hc hf hz
  go_region_held3 (fun W => Below w.heap.size w W ∧ w.heap.size + 1 + 1 < W.heap.size ∧ (W.cell? ⟨w.heap.size, 0, none⟩ = some (.int .i64 c) ∧ W.cell? ⟨w.heap.size, 1, none⟩ = some (.int .i64 t) ∧ W.cell? ⟨w.heap.size, 2, none⟩ = some (.int .i64 lo) ∧ W.cell? ⟨w.heap.size, 3, none⟩ = some (.int .i64 hi)) ∧ W.cell? ⟨w.heap.size + 1, 0, none⟩ = some (.int .i64 x) ∧
      (W.cell? ⟨w.heap.size + 1 + 1, 0, none⟩ = some (.int .i64 0) ∧ W.cell? ⟨w.heap.size + 1 + 1, 1, none⟩ = some (.int .i64 0)) ∧ W.frozen? ⟨w.heap.size + 1 + 1, 0, none⟩ = false ∧ W.frozen? ⟨w.heap.size + 1 + 1, 1, none⟩ = false)
    (first | exact ⟨below_drewN' b0 1, z0, c0, c1, c2, f2⟩ | (rename_i hh _ _; exact hh) | (rename_i hh _ _; refine ⟨hh.1.trans (hb.mono hh.1.size), ?_⟩; have hk := kept hb hh.2.1; have hj := kept hb (Nat.lt_of_succ_lt hh.2.1); have hi := kept hb (Nat.lt_of_succ_lt (Nat.lt_of_succ_lt hh.2.1)); simp only [hk.1, hj.1, hi.1, hk.2.1]; exact ⟨hk.2.2, hh.2.2⟩))
    (first | (go_at_call 64; refine (last_calls _ _ _ _ _ (by have := H.out; unfold Sound at this; omega) (by have := H.out; unfold Sound at this; omega)).mono ?_; rintro e w' ⟨rfl, hb⟩) | (go_at_call 58; refine (between_calls _ _ _ _).mono ?_; rintro e w' ⟨rfl, rfl⟩))
  rename_i hh
  obtain ⟨g0, g1, _, g3, g4, g5⟩ := hh
  have G := Lib.hid g0
  clear g0
  go_wp2_with fail
  have fn : FnAt 65 #[.pointer (some ⟨w.heap.size + 1, 0, none⟩)] c t lo hi (fun g => plc c t g x) w' := by
    intro W g hW hx
    have hs := H.out
    exact place1_calls H.out (by have := hs.2.2; omega) (by have := hs.2.2; omega) h0 h1 W _ (by rw [(kept hW (Nat.lt_of_succ_lt g1)).1]; exact g3)
  refine (span_calls 65 _ eg65 c t lo hi _ w' fn).mono ?_
  rintro e w2 ⟨rfl, hb2⟩
  obtain ⟨k1, k2, k3⟩ := kept hb2 g1
  have d0 : w2.cell? ⟨w.heap.size + 1 + 1, 0, none⟩ = some (.int .i64 0) := (k1 0).trans g4.1
  have d1 : w2.cell? ⟨w.heap.size + 1 + 1, 1, none⟩ = some (.int .i64 0) := (k1 1).trans g4.2
  have e0 : w2.frozen? ⟨w.heap.size + 1 + 1, 0, none⟩ = false := (k2 0).trans g5.1
  have e1 : w2.frozen? ⟨w.heap.size + 1 + 1, 1, none⟩ = false := (k2 1).trans g5.2
  have hB2 := Lib.hid (G.out.trans (hb2.mono G.out.size))
  have r := put2 (a := .int .i64 (min (plc c t lo x) (plc c t hi x))) (b := .int .i64 (max (plc c t lo x) (plc c t hi x))) d0 d1
  clear fn k1 k2 hb2 g3 g4 g5 b0 c0 c1 c2 f2
  go_wp2
  refine bodyPost_ret (v := .tuple #[.agg #[.int .i64 (min (plc c t lo x) (plc c t hi x)), .int .i64 (max (plc c t lo x) (plc c t hi x))], .int .i64 0]) (by simp [results, Try.results25, go_sem, r.1, r.2]) rfl ⟨rfl, ?_⟩
  exact below2 hB2.out (by omega) _ _
end Go.Proofs.Ytphbiaagmhhhbaa
