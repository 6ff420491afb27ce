/- The contracts of Length, Place, Arrival. -/
import Derived.Test.YtphbiaagmhhhbaaSE
namespace Go.Proofs.Ytphbiaagmhhhbaa
open Go.RowKit Go.Lib Go.Shelf

theorem length1_calls {c t lo hi g n : Int} (h : Sound c t lo hi) (hg0 : 0 ≤ g) (hg1 : g ≤ 1000) (h0 : 0 ≤ n) (h1 : n ≤ 1001) (w : World) (B : Nat) (hn : w.cell? ⟨B, 0, none⟩ = some (.int .i64 n)) :
    Gives 59 #[.agg #[.int .i64 c, .int .i64 t, .int .i64 lo, .int .i64 hi, .int .i64 g], .pointer (some ⟨B, 0, none⟩)] (.int .i64 (len c g n)) w := by
  unfold Gives
  have hB := World.block_lt_of_cell? w _ hn
  have H := Lib.hid h
  clear h
  go_enter Try.func59, Try.ntmps59
  go_wp2_with (go_at_call 60; refine (length_calls H.out hg0 hg1 h0 h1 _).mono ?_; rintro e w1 ⟨rfl, hb⟩)
  go_ret
  exact ⟨rfl, ((Below.refl _ _).alloc (Nat.le_refl _) _).trans (hb.mono (by simp))⟩

theorem eg59 : ∀ args w, (callFunc 59 args).run Try.prog w = .ok (.enter 59 args) w := enters_of Try.func59 (by kernel_rfl) rfl

/-- Length, where the spool is not sound. -/
theorem Length_no {c t lo hi n : Int} (h : ¬ Sound c t lo hi) (w : World) :
    Gives 22 #[.agg #[.int .i64 c, .int .i64 t, .int .i64 lo, .int .i64 hi], .int .i64 n] (.tuple #[.agg #[.int .i64 0, .int .i64 0], .int .i64 3]) w := by
  unfold Gives
  have hk := chk_no h
  clear h
  go_enter Try.func22, Try.ntmps22
  go_wp2_with (go_at_call 27; refine (check_calls _ _ _ _ _).mono ?_; rintro e w1 ⟨rfl, hb⟩; rw [hk]; obtain ⟨hc, hf⟩ := bcell hb; have hz := hb.size)
  have r := put2 (w := w1) (B := w.heap.size + 1 + 1) (a := .int .i64 0) (b := .int .i64 0) (x := .int .i64 0) (y := .int .i64 0) (by rw [hc _ _ (by simp)]; simp [go_sem]) (by rw [hc _ _ (by simp)]; simp [go_sem])
  refine bodyPost_ret (v := .tuple #[.agg #[.int .i64 0, .int .i64 0], .int .i64 3]) (by simp [results, Try.results22, go_sem, r.1, r.2]) rfl ⟨rfl, ?_⟩
  have hB : Below w.heap.size w w1 := ((((Below.refl _ _).alloc (Nat.le_refl _) _).alloc (by simp) _).alloc (by simp; omega) _).trans (hb.mono (by simp; omega))
  exact (hB.setCell (p := ⟨w.heap.size + 1 + 1, 0, none⟩) (by simp; omega) _).setCell (p := ⟨w.heap.size + 1 + 1, 1, none⟩) (by simp; omega) _

theorem below2 {b0 B : Nat} {w w1 : World} (h : Below b0 w w1) (hB : b0 ≤ B) (a b : Value) : Below b0 w ((w1.setCell ⟨B, 0, none⟩ a).setCell ⟨B, 1, none⟩ b) :=
  (h.setCell (p := ⟨B, 0, none⟩) hB _).setCell (p := ⟨B, 1, none⟩) hB _

theorem Length_far {c t lo hi n : Int} (h : Sound c t lo hi) (hn : ¬ (0 ≤ n ∧ n ≤ 1000)) (w : World) :
    Gives 22 #[.agg #[.int .i64 c, .int .i64 t, .int .i64 lo, .int .i64 hi], .int .i64 n] (.tuple #[.agg #[.int .i64 0, .int .i64 0], .int .i64 3]) w := by
  unfold Gives
  have hk := chk_yes h
  have hm := btw_no hn
  clear h hn
  go_enter Try.func22, Try.ntmps22
  go_wp2_with (first | (go_at_call 27; refine (check_calls _ _ _ _ _).mono ?_; rintro e w1 ⟨rfl, hb⟩; rw [hk]; obtain ⟨hc, hf⟩ := bcell hb; have hz := hb.size) | (go_at_call 58; refine (between_calls _ _ _ _).mono ?_; rintro e w2 ⟨rfl, rfl⟩))
  have r := put2 (w := w1) (B := w.heap.size + 1 + 1) (a := .int .i64 0) (b := .int .i64 0) (x := .int .i64 0) (y := .int .i64 0) (by rw [hc _ _ (by simp)]; simp [go_sem]) (by rw [hc _ _ (by simp)]; simp [go_sem])
  refine bodyPost_ret (v := .tuple #[.agg #[.int .i64 0, .int .i64 0], .int .i64 3]) (by simp [results, Try.results22, go_sem, r.1, r.2]) rfl ⟨rfl, ?_⟩
  have hB : Below w.heap.size w w1 := ((((Below.refl _ _).alloc (Nat.le_refl _) _).alloc (by simp) _).alloc (by simp; omega) _).trans (hb.mono (by simp; omega))
  exact below2 hB (by omega) _ _

theorem Length_yes {c t lo hi n : Int} (h : Sound c t lo hi) (h0 : 0 ≤ n) (h1 : n ≤ 1000) (w : World) :
    Gives 22 #[.agg #[.int .i64 c, .int .i64 t, .int .i64 lo, .int .i64 hi], .int .i64 n] (.tuple #[.agg #[.int .i64 (min (len c lo n) (len c hi n)), .int .i64 (max (len c lo n) (len c hi n))], .int .i64 0]) w := by
  unfold Gives
  have hk := chk_yes h
  have hm := btw_yes ⟨h0, h1⟩
  have H := Lib.hid h
  clear h
  go_enter Try.func22, Try.ntmps22
  go_wp2_with (first | (go_at_call 27; refine (check_calls _ _ _ _ _).mono ?_; rintro e w1 ⟨rfl, hb⟩; rw [hk]; obtain ⟨hc, hf⟩ := bcell hb; have hz := hb.size) | (go_at_call 58; refine (between_calls _ _ _ _).mono ?_; rintro e w2 ⟨rfl, rfl⟩))
  have hz0 : w.heap.size + 1 + 1 < w1.heap.size := by simp at hz; omega
  have fn : FnAt 59 #[.pointer (some ⟨w.heap.size + 1, 0, none⟩)] c t lo hi (fun x => len c x n) w1 := by
    intro W x hW hx
    have hs := H.out
    exact length1_calls H.out (by have := hs.2.2; omega) (by have := hs.2.2; omega) h0 (by omega) W _ (by rw [(kept hW (Nat.lt_of_succ_lt hz0)).1, hc _ _ (by simp)]; simp [go_sem])
  have c0 : w1.cell? ⟨w.heap.size + 1 + 1, 0, none⟩ = some (.int .i64 0) := by rw [hc _ _ (by simp)]; simp [go_sem]
  have c1 : w1.cell? ⟨w.heap.size + 1 + 1, 1, none⟩ = some (.int .i64 0) := by rw [hc _ _ (by simp)]; simp [go_sem]
  have f0 : w1.frozen? ⟨w.heap.size + 1 + 1, 0, none⟩ = false := by rw [hf _ _ (by simp)]; simp [go_sem]
  have f1 : w1.frozen? ⟨w.heap.size + 1 + 1, 1, none⟩ = false := by rw [hf _ _ (by simp)]; simp [go_sem]
  refine (span_calls 59 _ eg59 c t lo hi _ w1 fn).mono ?_
  rintro e w2 ⟨rfl, hb2⟩
  obtain ⟨k1, k2, k3⟩ := kept hb2 hz0
  have d0 : w2.cell? ⟨w.heap.size + 1 + 1, 0, none⟩ = some (.int .i64 0) := (k1 0).trans c0
  have d1 : w2.cell? ⟨w.heap.size + 1 + 1, 1, none⟩ = some (.int .i64 0) := (k1 1).trans c1
  have e0 : w2.frozen? ⟨w.heap.size + 1 + 1, 0, none⟩ = false := (k2 0).trans f0
  have e1 : w2.frozen? ⟨w.heap.size + 1 + 1, 1, none⟩ = false := (k2 1).trans f1
  have hB : Below w.heap.size w w1 := ((((Below.refl _ _).alloc (Nat.le_refl _) _).alloc (by simp) _).alloc (by simp; omega) _).trans (hb.mono (by simp; omega))
  have hB2 := Lib.hid (hB.trans (hb2.mono hB.size))
  have r := put2 (a := .int .i64 (min (len c lo n) (len c hi n))) (b := .int .i64 (max (len c lo n) (len c hi n))) d0 d1
  clear hb hc hf hz fn c0 c1 f0 f1 k1 k2 hb2 hB
  go_wp2
  refine bodyPost_ret (v := .tuple #[.agg #[.int .i64 (min (len c lo n) (len c hi n)), .int .i64 (max (len c lo n) (len c hi n))], .int .i64 0]) (by simp [results, Try.results22, go_sem, r.1, r.2]) rfl ⟨rfl, ?_⟩
  exact below2 hB2.out (by omega) _ _
end Go.Proofs.Ytphbiaagmhhhbaa
