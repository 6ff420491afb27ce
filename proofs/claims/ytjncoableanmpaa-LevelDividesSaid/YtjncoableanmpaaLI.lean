/- best. -/
import Derived.Test.YtjncoableanmpaaLH
namespace Go.Proofs.Ytjncoableanmpaa
open Go.RowKit Go.Lib Go.Shelf

set_option maxRecDepth 100000 in
set_option maxHeartbeats 2000000 in
theorem best_calls {b off c n : Nat} {l : List Cd} (w : World) (hl : ReadsC w (some ⟨b, off, none⟩) n l) (hg : Good l) :
    Gives 45 #[.slice (some ⟨b, off, none⟩) n c] (clv (bestC l)) w := by
  unfold Gives
  have I : Held ((w.alloc (.cells [Value.slice (some ⟨b, off, none⟩) n c].toArray 22)).alloc (.cells (clCells none).toArray 89)) (fun W => Below w.heap.size w W ∧ Blk W (w.heap.size + 1) (clCells none)) :=
    fun W hW => ⟨(((Below.refl _ _).alloc (Nat.le_refl _) _).alloc (by simp) _).trans (hW.mono (by simp; omega)), Blk.later (by simpa using Blk.new (w.alloc _) (clCells none) 89) hW⟩
  have K : ∀ W, Below ((w.alloc (.cells [Value.slice (some ⟨b, off, none⟩) n c].toArray 22)).alloc (.cells (clCells none).toArray 89)).heap.size ((w.alloc (.cells [Value.slice (some ⟨b, off, none⟩) n c].toArray 22)).alloc (.cells (clCells none).toArray 89)) W → Gives 64 #[.func (.func 62) #[] #[.pointer (some ⟨w.heap.size, 0, none⟩)], .func (.func 65) #[] #[]] (.tuple #[clv (bestC l), .bool true]) W := fun W hW =>
    greatest_calls w.heap.size W (((Hp.new w [.slice (some ⟨b, off, none⟩) n c] 22).alloc _).later hW) (hl.later ((((Below.refl _ _).alloc (Nat.le_refl _) _).alloc (by simp) _).trans (hW.mono (by simp; omega)))) hg
  generalize bestC l = y at K ⊢
  have HK := Lib.hid K
  clear hl hg K
  go_enter Try.func45, Try.ntmps45
  unfold clCells at I HK
  go_wp2_with fail
  generalize World.alloc _ _ = w1 at I HK ⊢
  go_upto_region 3 with (go_at_call 64; (with_reducible refine (Gives.c (HK.out _ (Below.refl _ _))).mono ?_); rintro e w2 ⟨rfl, hb⟩; unfold clv; replace I := I.next hb)
  have I2 := I.allocB [.int .i64 y.off.num, .int .i64 (y.off.den : Int), .bool y.up, .int .i64 (y.who.1 : Int), .int .i64 (y.who.2.1 : Int), .int .i64 (y.who.2.2 : Int)] 89
  have I3 : Held _ (fun W => (Below w.heap.size w W ∧ Blk W (w.heap.size + 1) [.int .i64 0, .int .i64 0, .bool false, .int .i64 0, .int .i64 0, .int .i64 0]) ∧ Blk W w2.heap.size [.int .i64 y.off.num, .int .i64 (y.off.den : Int), .bool y.up, .int .i64 (y.who.1 : Int), .int .i64 (y.who.2.1 : Int), .int .i64 (y.who.2.2 : Int)]) := I2
  generalize World.alloc _ _ = w3 at I3 ⊢
  have qx := I3.now.2.six
  have qr := I3.now.1.2.vals6
  have I2 := I3
  clear I3 I hb
  go_wp2
  have k6 := (I2.now.1.2.put6 (.int .i64 y.off.num) (.int .i64 (y.off.den : Int)) (.bool y.up) (.int .i64 (y.who.1 : Int)) (.int .i64 (y.who.2.1 : Int)) (.int .i64 (y.who.2.2 : Int))).six
  have kb := below6 I2.now.1.1 (show w.heap.size ≤ w.heap.size + 1 by omega) (.int .i64 y.off.num) (.int .i64 (y.off.den : Int)) (.bool y.up) (.int .i64 (y.who.1 : Int)) (.int .i64 (y.who.2.1 : Int)) (.int .i64 (y.who.2.2 : Int))
  generalize World.setCell _ _ _ = wf at k6 kb ⊢
  refine bodyPost_ret (v := clv y) (by simp [results, Try.results45, go_sem, clv, k6]) rfl ⟨rfl, kb⟩
end Go.Proofs.Ytjncoableanmpaa
