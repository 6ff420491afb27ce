/- The contract of cutWorks. -/
import Derived.Test.YtphbiaagmhhhbaaTG
namespace Go.Proofs.Ytphbiaagmhhhbaa
open Go.RowKit Go.Lib Go.Shelf

theorem reads_blk {W : World} {B : Nat} {l : List Int} (h : Blk W B (nums l)) (hl : l.length ≤ 1000) : Reads W (some ⟨B, 0, none⟩) l.length l :=
  ⟨rfl, by omega, fun _ => ⟨B, 0, rfl, fun j hj => by
    have := h.cell j (.int .i64 (l[j]?.getD 0)) (by simp [nums, List.getElem?_map, List.getElem?_eq_getElem hj])
    simpa using this⟩⟩
theorem readsR2 {W : World} {B : Nat} {A0 A1 : Option Addr} {c0 c1 : Nat} {l0 l1 : List Int} (h : Blk W B [.slice A0 l0.length c0, .slice A1 l1.length c1]) (h0 : Reads W A0 l0.length l0) (h1 : Reads W A1 l1.length l1) : ReadsR W (some ⟨B, 0, none⟩) 2 [l0, l1] := by
  refine ⟨rfl, fun _ => ⟨B, 0, rfl, fun j hj => ?_⟩⟩
  have : j = 0 ∨ j = 1 := by omega
  rcases this with rfl | rfl
  · exact ⟨A0, c0, by simpa [rowAt] using h.cell 0 _ rfl, h0⟩
  · exact ⟨A1, c1, by simpa [rowAt] using h.cell 1 _ rfl, h1⟩
theorem list2_of {x y : Int} {w w' : World} {e : Ending} (h : ListOut ([x, y], 0) w e w') : ∃ b o c, e = .returned (.tuple #[.slice (some ⟨b, o, none⟩) 2 c, .int .i64 0]) ∧ w'.cell? ⟨b, o, none⟩ = some (.int .i64 x) ∧ w'.cell? ⟨b, o + 1, none⟩ = some (.int .i64 y) ∧ Below w.heap.size w w' := by
  obtain ⟨⟨A, n, c, rfl, hr⟩, hb⟩ := h
  obtain rfl : 2 = n := hr.1
  obtain ⟨b, o, rfl, hc⟩ := hr.2.2 (by omega)
  exact ⟨b, o, c, rfl, hc 0 (by omega), hc 1 (by omega), hb⟩
theorem list1_of {x : Int} {w w' : World} {e : Ending} (h : ListOut ([x], 0) w e w') : ∃ b o c, e = .returned (.tuple #[.slice (some ⟨b, o, none⟩) 1 c, .int .i64 0]) ∧ w'.cell? ⟨b, o, none⟩ = some (.int .i64 x) ∧ Below w.heap.size w w' := by
  obtain ⟨⟨A, n, c, rfl, hr⟩, hb⟩ := h
  obtain rfl : 1 = n := hr.1
  obtain ⟨b, o, rfl, hc⟩ := hr.2.2 (by omega)
  exact ⟨b, o, c, rfl, hc 0 (by omega), hb⟩

theorem ex_copies : Copies [[10, 24, 31, 45], [3, 17]] := by
  intro j hj
  have : j = 0 ∨ j = 1 := by simp at hj; omega
  rcases this with rfl | rfl
  · refine ⟨by decide, by decide, fun k => ?_⟩
    have : k = 0 ∨ k = 1 ∨ k = 2 ∨ k = 3 ∨ 4 ≤ k := by omega
    rcases this with rfl | rfl | rfl | rfl | h
    · decide
    · decide
    · decide
    · decide
    · rw [List.getElem?_eq_none (by simpa [rowAt] using h)]; decide
  · refine ⟨by decide, by decide, fun k => ?_⟩
    have : k = 0 ∨ k = 1 ∨ 2 ≤ k := by omega
    rcases this with rfl | rfl | h
    · decide
    · decide
    · rw [List.getElem?_eq_none (by simpa [rowAt] using h)]; decide

set_option maxRecDepth 100000 in
set_option maxHeartbeats 2000000 in
theorem cutWorks_calls (w : World) : Gives 21 #[] (.bool true) w := by
  unfold Gives
  have HC := Lib.hid ex_copies
  have I : Held w (fun W => Below w.heap.size w W) := .from (Below.refl _ _) (Nat.le_refl _)
  go_enter Try.func21, Try.ntmps21
  go_wp2_with (first
    | (go_at_call 25; (with_reducible refine (Gives.c (Place_calls ex_place _)).mono ?_); rintro e w1 ⟨rfl, hb⟩; replace I := (I.next hb).allocB [.int .i64 256, .int .i64 260] 26; clear hb; have J := ((I.allocB [.int .i64 10, .int .i64 24, .int .i64 31, .int .i64 45] 3).allocB [.int .i64 3, .int .i64 17] 3).allocB [.slice (some ⟨w1.heap.size + 1, 0, none⟩) 4 4, .slice (some ⟨w1.heap.size + 1 + 1, 0, none⟩) 2 2] 32; simp only [World.size_alloc] at J)
    | (go_at_call 20; (with_reducible refine (steps_calls (ls := [[10, 24, 31, 45], [3, 17]]) (by decide) (by decide) HC.out (by decide) (by decide) (by decide) _ (readsR2 (l0 := [10, 24, 31, 45]) (l1 := [3, 17]) J.now.2 (reads_blk (l := [10, 24, 31, 45]) J.now.1.1.2 (by decide)) (reads_blk (l := [3, 17]) J.now.1.2 (by decide)))).mono ?_); intro e w3 hh; obtain ⟨b, o, c, rfl, h0, h1, hb⟩ := list2_of (x := 5) (y := 7) hh; replace J := J.next hb; have q := J.now.1.1.1.2.two; clear hb hh))
  go_ret
  exact ⟨rfl, J.now.1.1.1.1⟩
end Go.Proofs.Ytphbiaagmhhhbaa
