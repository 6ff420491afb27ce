/- works: the examples. -/
import Derived.Test.YtjncoableanmpaaLX
import Derived.Test.YtjncoableanmpaaLP
import Derived.Test.YtjncoableanmpaaLQ
import Derived.Test.YtjncoableanmpaaLO
import Derived.Test.YtjncoableanmpaaLN
import Derived.Test.YtjncoableanmpaaLK
import Derived.Deep.CutRange
namespace Go.Proofs.Ytjncoableanmpaa
open Go.RowKit Go.Lib Go.Shelf

abbrev lA : List Cd := codingL [10, 10, 40]
abbrev lB : List Cd := [(0, 8, 12), (1, 9, 11), (2, 38, 42)]
abbrev lC : List Cd := [(0, 5, 5), (10, 0, 30), (20, 25, 25)]
theorem x_chk : chk lA = 0 ∧ chk lB = 0 ∧ chk lC = 0 := by decide +kernel
theorem x_best : lnv (lineF lA (bestC lA)) = .agg #[.int .i64 15, .int .i64 1, .int .i64 5, .int .i64 2] ∧ rv (bestC lA).off = .agg #[.int .i64 15, .int .i64 2] := by constructor <;> kernel_rfl
theorem x_bestB : rv (bestC lB).off = .agg #[.int .i64 9, .int .i64 1] := by kernel_rfl
theorem x_err : errF lA 15 1 5 1 = .tuple #[.agg #[.int .i64 10, .int .i64 1], .int .i64 0] := by kernel_rfl
theorem x_who : trl (bestC lA).who = [0, 1, 2] ∧ trl (bestC lC).who = [1] := by decide +kernel
theorem x_gains : gainsV lA 8 1 = .tuple #[.agg #[.int .i64 14, .int .i64 1], .agg #[.int .i64 16, .int .i64 1], .int .i64 0] := by kernel_rfl
theorem x_gains2 : gainsV lA 7 1 = .tuple #[.agg #[.int .i64 0, .int .i64 0], .agg #[.int .i64 0, .int .i64 0], .int .i64 11] := by kernel_rfl
theorem x_div : rv (dF lA 1 3).1 = .agg #[.int .i64 0, .int .i64 1] ∧ (dF lA 1 3).2.length = 2 := by constructor <;> kernel_rfl
theorem x_ver : verV lA [0, 1, 2] 15 2 = 0 ∧ verV lA [0, 1, 2] 8 1 = 14 := by decide +kernel

theorem guard24 : Try.prog.eqGuardType Try.prog.depth 24 = false := by kernel_rfl
theorem stood24 : Try.prog.stoodInHeld 24 = false := by kernel_rfl
theorem guard26 : Try.prog.eqGuardType Try.prog.depth 26 = false := by kernel_rfl
theorem stood26 : Try.prog.stoodInHeld 26 = false := by kernel_rfl
theorem w_coding (B : Nat) (W : World) (hB : Reads W (some ⟨B, 0, none⟩) 3 [10, 10, 40]) : Calls Try.prog 34 #[.slice (some ⟨B, 0, none⟩) 3 3] W (fun e w' => ∃ b o c, e = .returned (.slice (some ⟨b, o, none⟩) 3 c) ∧ ReadsC w' (some ⟨b, o, none⟩) 3 lA ∧ 3 ≤ c ∧ Below W.heap.size W w') :=
  (coding_calls _ 3 3 _ W hB (by omega)).mono fun _ _ ⟨B', c, he, ⟨hl, hc⟩, hb⟩ => by
    obtain ⟨b, o, e, _⟩ := hl.2.2 (by omega)
    subst e
    exact ⟨b, o, c, he, hl, hc, hb⟩
theorem readsC3 (w : World) (x y z : Cd) (t : TypeId) : ReadsC (w.alloc (.cells #[.int .i64 x.1, .int .i64 x.2.1, .int .i64 x.2.2, .int .i64 y.1, .int .i64 y.2.1, .int .i64 y.2.2, .int .i64 z.1, .int .i64 z.2.1, .int .i64 z.2.2] t)) (some ⟨w.heap.size, 0, none⟩) 3 [x, y, z] := by
  have k := Blk.new w [.int .i64 x.1, .int .i64 x.2.1, .int .i64 x.2.2, .int .i64 y.1, .int .i64 y.2.1, .int .i64 y.2.2, .int .i64 z.1, .int .i64 z.2.1, .int .i64 z.2.2] t
  refine ⟨rfl, by omega, fun _ => ⟨_, 0, rfl, fun j hj => ?_⟩⟩
  have : j = 0 ∨ j = 1 ∨ j = 2 := by omega
  rcases this with rfl | rfl | rfl
  · exact ⟨k.cell 0 _ rfl, k.cell 1 _ rfl, k.cell 2 _ rfl⟩
  · exact ⟨k.cell 3 _ rfl, k.cell 4 _ rfl, k.cell 5 _ rfl⟩
  · exact ⟨k.cell 6 _ rfl, k.cell 7 _ rfl, k.cell 8 _ rfl⟩
theorem readsK (w : World) (l : List Int) (t : TypeId) (hl : l.length ≤ 1000) : Reads (w.alloc (.cells (nums l).toArray t)) (some ⟨w.heap.size, 0, none⟩) l.length l := by
  have k := Blk.new w (nums l) t
  refine ⟨rfl, by omega, fun _ => ⟨_, 0, rfl, fun j hj => ?_⟩⟩
  rw [Nat.zero_add]
  refine k.cell j _ ?_
  unfold nums
  rw [List.getElem?_map, List.getElem?_eq_getElem hj]
  rfl
theorem B_calls (w : World) : Calls Try.prog 35 #[] w (fun e w' => ∃ b, e = .returned (.slice (some ⟨b, 0, none⟩) 3 3) ∧ ReadsC w' (some ⟨b, 0, none⟩) 3 lB ∧ Below w.heap.size w w') := by
  have I : Held w (fun W => Below w.heap.size w W) := .from (Below.refl _ _) (Nat.le_refl _)
  go_enter Try.func35, Try.ntmps35
  go_wp2_with (go_at_call 31; (with_reducible refine (Gives.c (code_calls _ _ _ _)).mono ?_); rintro e w' ⟨rfl, hb⟩; replace I := I.next hb; clear hb)
  go_ret
  exact ⟨_, rfl, readsC3 _ (0, 8, 12) (1, 9, 11) (2, 38, 42) _, (I.alloc _).now⟩
theorem C_calls (w : World) : Calls Try.prog 33 #[] w (fun e w' => ∃ b, e = .returned (.slice (some ⟨b, 0, none⟩) 3 3) ∧ ReadsC w' (some ⟨b, 0, none⟩) 3 lC ∧ Below w.heap.size w w') := by
  have I : Held w (fun W => Below w.heap.size w W) := .from (Below.refl _ _) (Nat.le_refl _)
  go_enter Try.func33, Try.ntmps33
  go_wp2_with (go_at_call 31; (with_reducible refine (Gives.c (code_calls _ _ _ _)).mono ?_); rintro e w' ⟨rfl, hb⟩; replace I := I.next hb; clear hb)
  go_ret
  exact ⟨_, rfl, readsC3 _ (0, 5, 5) (10, 0, 30) (20, 25, 25) _, (I.alloc _).now⟩
end Go.Proofs.Ytjncoableanmpaa
