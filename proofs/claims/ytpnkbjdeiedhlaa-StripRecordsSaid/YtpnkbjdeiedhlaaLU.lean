/- Next where there is no strip: the error. -/
import Derived.Test.YtpnkbjdeiedhlaaLT
namespace Go.Proofs.Ytpnkbjdeiedhlaa
open Go.RowKit Go.Lib Go.Shelf
open St

theorem next_start (w : World) (N L : Int) (A : Option Addr) (n c : Nat) (l : List Tst) (hl : ReadsT w A n l) : Held ((((w.alloc (.cells #[.int .i64 N, .int .i64 L, .slice A n c] 24)).alloc (.cells #[.slice none 0 0] 31)).alloc (.cells #[.int .i64 0] 3)).alloc (.cells #[.int .i64 0] 32)) (fun W => ((Below w.heap.size w W ∧ ReadsT W A n l) ∧ Blk W w.heap.size [.int .i64 N, .int .i64 L, .slice A n c]) ∧ (Blk W (w.heap.size + 1) [.slice none 0 0] ∧ Blk W (w.heap.size + 1 + 1) [.int .i64 0] ∧ Blk W (w.heap.size + 1 + 1 + 1) [.int .i64 0])) := by
  have I1 := ((Held.from (w0 := w) (Below.refl w.heap.size w) (Nat.le_refl _)).with (.readsT hl)).allocB [Value.int .i64 N, .int .i64 L, .slice A n c] 24
  have I2 := I1.allocB [Value.slice none 0 0] 31
  have I3 := I2.allocB [Value.int .i64 0] 3
  have I4 := I3.allocB [Value.int .i64 0] 32
  intro W hW
  have h := I4 W hW
  simp only [World.size_alloc] at h
  exact ⟨h.1.1.1, h.1.1.2, h.1.2, h.2⟩

theorem store3 {w w4 : World} {b B : Nat} {a a' a'' x y z : Value} (hB : b ≤ B) (K1 : Below b w w4) (K2 : Blk w4 (B + 1) [a]) (K3 : Blk w4 (B + 1 + 1) [a']) (K4 : Blk w4 (B + 1 + 1 + 1) [a'']) :
    let W := ((w4.setCell ⟨B + 1, 0, none⟩ x).setCell ⟨B + 1 + 1, 0, none⟩ y).setCell ⟨B + 1 + 1 + 1, 0, none⟩ z
    Blk W (B + 1) [x] ∧ Blk W (B + 1 + 1) [y] ∧ Blk W (B + 1 + 1 + 1) [z] ∧ Below b w W := by
  intro W
  have h1 : b ≤ B + 1 := by omega
  have h2 : b ≤ B + 1 + 1 := by omega
  have h3 : b ≤ B + 1 + 1 + 1 := by omega
  refine ⟨(((K2.set 0 (by simp) x).other (by omega) 0 y).other (by omega) 0 z), (((K3.other (by omega) 0 x).set 0 (by simp) y).other (by omega) 0 z), (((K4.other (by omega) 0 x).other (by omega) 0 y).set 0 (by simp) z), ?_⟩
  exact ((K1.setCell (p := ⟨B + 1, 0, none⟩) h1 _).setCell (p := ⟨B + 1 + 1, 0, none⟩) h2 _).setCell (p := ⟨B + 1 + 1 + 1, 0, none⟩) h3 _

set_option maxRecDepth 100000 in
set_option maxHeartbeats 4000000 in
theorem Next_err (N L : Int) (A : Option Addr) (n c : Nat) (l : List Tst) (w : World) (hl : ReadsT w A n l) (s : St) (E : Int) (hE : ¬ E = 0)
    (h66 : ∀ W, ReadsT W A n l → Gives 66 #[rec N L A n c] (.tuple #[s.v, .int .i64 E]) W) :
    Gives 30 #[rec N L A n c] (.tuple #[.slice none 0 0, .int .i64 0, .int .i64 E]) w := by
  unfold Gives
  have I := next_start w N L A n c l hl
  have H66 := Lib.hid h66
  have hne : (E != 0) = true := by simp [hE]
  clear hl h66 hE
  go_enter Try.func30, Try.ntmps30
  go_wp2_with fail
  generalize World.alloc _ _ = w1 at I ⊢
  have q1 := I.now.1.2.three
  have q4 := I.now.2.2.2.one
  have f4 := I.now.2.2.2.free 0
  have z4 := I.now.2.2.2.lt
  go_upto_region 2 with (go_at_call 66; (with_reducible refine (Gives.c (H66.out _ I.now.1.1.2)).mono ?_); rintro e' w2 ⟨rfl, hb⟩; replace I := (I.next hb).allocB s.cs 80; clear hb q1 q4 f4 z4; have q4 := I.now.1.2.2.2.one; have f4 := I.now.1.2.2.2.free 0; have z4 := I.now.1.2.2.2.lt)
  have J1 := I.now.1.1.1.1
  have J2 := I.now.1.2.1
  have J3 := I.now.1.2.2.1
  have J4 := I.now.1.2.2.2
  generalize World.alloc _ _ = w3 at J1 J2 J3 J4 q4 f4 z4 ⊢
  have K1 := Lib.hid (J1.setCell (p := ⟨w.heap.size + 1 + 1 + 1, 0, none⟩) (by show w.heap.size ≤ w.heap.size + 1 + 1 + 1; omega) (.int .i64 E))
  have K2 := Lib.hid (J2.other (B' := w.heap.size + 1 + 1 + 1) (by omega) 0 (.int .i64 E))
  have K3 := Lib.hid (J3.other (B' := w.heap.size + 1 + 1 + 1) (by omega) 0 (.int .i64 E))
  have K4 := Lib.hid (J4.set 0 (by simp) (.int .i64 E))
  clear I H66 J1 J2 J3 J4
  go_upto_region 3 with fail
  generalize World.setCell _ _ _ = w4 at K1 K2 K3 K4 ⊢
  clear q4 f4 z4
  have q4 : w4.cell? ⟨w.heap.size + 1 + 1 + 1, 0, none⟩ = some (.int .i64 E) := K4.out.one
  have q2 := K2.out.one
  have q3 := K3.out.one
  have f2 := K2.out.free 0
  have f3 := K3.out.free 0
  have f4 := K4.out.free 0
  have z2 := K2.out.lt
  have z3 := K3.out.lt
  have z4 := K4.out.lt
  go_region
  have F := store3 (x := .slice none 0 0) (y := .int .i64 0) (z := .int .i64 E) (Nat.le_refl w.heap.size) K1.out K2.out K3.out K4.out
  have k1 := F.1.drew.one
  have k2 := F.2.1.drew.one
  have k3 := F.2.2.1.drew.one
  have kb := F.2.2.2.drew
  clear F q2 q3 q4 f2 f3 f4 z2 z3 z4 K1 K2 K3 K4
  generalize World.drew _ = wf at k1 k2 k3 kb ⊢
  go_wp2_with fail
  refine bodyPost_ret (v := .tuple #[.slice none 0 0, .int .i64 0, .int .i64 E]) (by simp [results, Try.results30, go_sem, k1, k2, k3]) rfl ⟨rfl, kb⟩
end Go.Proofs.Ytpnkbjdeiedhlaa
