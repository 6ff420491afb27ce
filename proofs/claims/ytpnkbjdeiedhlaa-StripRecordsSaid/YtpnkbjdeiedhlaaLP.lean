/- left; open. -/
import Derived.Test.YtpnkbjdeiedhlaaLO
namespace Go.Proofs.Ytpnkbjdeiedhlaa
open Go.RowKit Go.Lib Go.Shelf
open St

/-- How many are needed after a strip, at most. -/
def leftF (s x : St) : Nat := max (ndF (s.aft x)) (ndF (s.aft (s.rst x)))
set_option maxRecDepth 100000 in
set_option maxHeartbeats 4000000 in
theorem left_calls {s x : St} (hs : s.tubes ≤ 16) (hx : x.Le s) (w : World) : Gives 72 #[s.v, x.v] (.int .i64 (leftF s x : Int)) w := by
  unfold Gives leftF
  have h69a : ∀ X, Gives 69 #[s.v, x.v] (s.aft x).v X := fun X => after_calls (by omega) hx X
  have h70 : ∀ X, Gives 70 #[s.v, x.v] (s.rst x).v X := fun X => rest_calls (by omega) hx X
  have h69b : ∀ X, Gives 69 #[s.v, (s.rst x).v] (s.aft (s.rst x)).v X := fun X => after_calls (by omega) (rst_le s x) X
  have hat := aft_tubes hx
  generalize s.aft (s.rst x) = y2 at h69b hat ⊢
  generalize s.rst x = z at h69b h70
  generalize s.aft x = y1 at h69a hat ⊢
  have h64a : ∀ X, Gives 64 #[y1.v] (.int .i64 (ndF y1 : Int)) X := fun X => needed_calls (by omega) X
  have h64b : ∀ X, Gives 64 #[y2.v] (.int .i64 (ndF y2 : Int)) X := fun X => needed_calls (by omega) X
  generalize ndF y1 = n1 at h64a ⊢
  generalize ndF y2 = n2 at h64b ⊢
  have I0 := (Held.from (w0 := w) (Below.refl w.heap.size w) (Nat.le_refl _)).allocB s.cs 80
  have I1 := I0.allocB x.cs 80
  simp only [World.size_alloc] at I1
  have H69a := Lib.hid h69a
  have H69b := Lib.hid h69b
  have H70 := Lib.hid h70
  have H64a := Lib.hid h64a
  have H64b := Lib.hid h64b
  clear h69a h69b h70 h64a h64b hat hx hs I0
  go_enter Try.func72, Try.ntmps72
  go_upto_region 1 with fail
  change Held ((w.alloc (.cells #[.int .i64 (s.a : Int), .int .i64 (s.b : Int), .int .i64 (s.c : Int)] 80)).alloc (.cells #[.int .i64 (x.a : Int), .int .i64 (x.b : Int), .int .i64 (x.c : Int)] 80)) _ at I1
  generalize World.alloc _ _ = w1 at I1 ⊢
  have HI := Lib.hid I1
  have hS : ∀ X, Below w1.heap.size w1 X → (X.cell? ⟨w.heap.size, 0, none⟩ = some (.int .i64 (s.a : Int)) ∧ X.cell? ⟨w.heap.size, 1, none⟩ = some (.int .i64 (s.b : Int)) ∧ X.cell? ⟨w.heap.size, 2, none⟩ = some (.int .i64 (s.c : Int))) ∧ (X.cell? ⟨w.heap.size + 1, 0, none⟩ = some (.int .i64 (x.a : Int)) ∧ X.cell? ⟨w.heap.size + 1, 1, none⟩ = some (.int .i64 (x.b : Int)) ∧ X.cell? ⟨w.heap.size + 1, 2, none⟩ = some (.int .i64 (x.c : Int))) := fun X hX => ⟨(HI.out.at hX).1.2.three, (HI.out.at hX).2.three⟩
  have HS := Lib.hid hS
  clear hS I1
  go_region_held3 (fun X => (X.cell? ⟨w.heap.size, 0, none⟩ = some (.int .i64 (s.a : Int)) ∧ X.cell? ⟨w.heap.size, 1, none⟩ = some (.int .i64 (s.b : Int)) ∧ X.cell? ⟨w.heap.size, 2, none⟩ = some (.int .i64 (s.c : Int))) ∧ (X.cell? ⟨w.heap.size + 1, 0, none⟩ = some (.int .i64 (x.a : Int)) ∧ X.cell? ⟨w.heap.size + 1, 1, none⟩ = some (.int .i64 (x.b : Int)) ∧ X.cell? ⟨w.heap.size + 1, 2, none⟩ = some (.int .i64 (x.c : Int))))
    (first
      | with_reducible exact HS.out _ HBY.out
      | with_reducible exact HS.out _ (Below.refl _ _).drew
      | fail)
    (first
      | (go_at_call 69; (with_reducible refine (Gives.c (H69a.out _)).mono ?_); rintro e' wy ⟨rfl, hb⟩; (first | have HBZ := Lib.hid (HBY.out.trans (hb.mono HBY.out.size)) | have HBZ := Lib.hid ((Below.refl w1.heap.size w1).drew.trans hb)); have HBY := HBZ; clear HBZ hb)
      | (go_at_call 69; (with_reducible refine (Gives.c (H69b.out _)).mono ?_); rintro e' wy ⟨rfl, hb⟩; (first | have HBZ := Lib.hid (HBY.out.trans (hb.mono HBY.out.size)) | have HBZ := Lib.hid ((Below.refl w1.heap.size w1).drew.trans hb)); have HBY := HBZ; clear HBZ hb)
      | (go_at_call 70; (with_reducible refine (Gives.c (H70.out _)).mono ?_); rintro e' wy ⟨rfl, hb⟩; (first | have HBZ := Lib.hid (HBY.out.trans (hb.mono HBY.out.size)) | have HBZ := Lib.hid ((Below.refl w1.heap.size w1).drew.trans hb)); have HBY := HBZ; clear HBZ hb)
      | (go_at_call 64; (with_reducible refine (Gives.c (H64a.out _)).mono ?_); rintro e' wy ⟨rfl, hb⟩; (first | have HBZ := Lib.hid (HBY.out.trans (hb.mono HBY.out.size)) | have HBZ := Lib.hid ((Below.refl w1.heap.size w1).drew.trans hb)); have HBY := HBZ; clear HBZ hb)
      | (go_at_call 64; (with_reducible refine (Gives.c (H64b.out _)).mono ?_); rintro e' wy ⟨rfl, hb⟩; (first | have HBZ := Lib.hid (HBY.out.trans (hb.mono HBY.out.size)) | have HBZ := Lib.hid ((Below.refl w1.heap.size w1).drew.trans hb)); have HBY := HBZ; clear HBZ hb)
      | fail)
  all_goals
    go_wp2_with fail
    go_ret
    exact ⟨ret_int (by omega), (HI.out.at HBY.out).1.1⟩
end Go.Proofs.Ytpnkbjdeiedhlaa
