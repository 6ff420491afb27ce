/- How many strips are needed. -/
import Derived.Test.YtpnkbjdeiedhlaaLL
namespace Go.Proofs.Ytpnkbjdeiedhlaa
open Go.RowKit Go.Lib Go.Shelf
open St

theorem needed_start (w : World) (s : St) : Below w.heap.size w ((((w.alloc (.cells #[.int .i64 (s.a : Int), .int .i64 (s.b : Int), .int .i64 (s.c : Int)] 80)).alloc (.map #[] 0)).alloc (.cells #[.map (some (w.heap.size + 1))] 97)).alloc (.cells #[.nilFunc] 73)) ∧
    Hp ((((w.alloc (.cells #[.int .i64 (s.a : Int), .int .i64 (s.b : Int), .int .i64 (s.c : Int)] 80)).alloc (.map #[] 0)).alloc (.cells #[.map (some (w.heap.size + 1))] 97)).alloc (.cells #[.nilFunc] 73)) w.heap.size s.cs 80 ∧
    MapD ((((w.alloc (.cells #[.int .i64 (s.a : Int), .int .i64 (s.b : Int), .int .i64 (s.c : Int)] 80)).alloc (.map #[] 0)).alloc (.cells #[.map (some (w.heap.size + 1))] 97)).alloc (.cells #[.nilFunc] 73)) (w.heap.size + 1) (fun _ _ => none) ∧
    Hp ((((w.alloc (.cells #[.int .i64 (s.a : Int), .int .i64 (s.b : Int), .int .i64 (s.c : Int)] 80)).alloc (.map #[] 0)).alloc (.cells #[.map (some (w.heap.size + 1))] 97)).alloc (.cells #[.nilFunc] 73)) (w.heap.size + 1 + 1) [.map (some (w.heap.size + 1))] 97 ∧
    Hp ((((w.alloc (.cells #[.int .i64 (s.a : Int), .int .i64 (s.b : Int), .int .i64 (s.c : Int)] 80)).alloc (.map #[] 0)).alloc (.cells #[.map (some (w.heap.size + 1))] 97)).alloc (.cells #[.nilFunc] 73)) (w.heap.size + 1 + 1 + 1) [.nilFunc] 73 := by
  have e1 : (w.alloc (.cells #[.int .i64 (s.a : Int), .int .i64 (s.b : Int), .int .i64 (s.c : Int)] 80)).heap.size = w.heap.size + 1 := by simp
  have b0 := Hp.new w s.cs 80
  have b1 := MapD.made (w.alloc (.cells #[.int .i64 (s.a : Int), .int .i64 (s.b : Int), .int .i64 (s.c : Int)] 80))
  rw [e1] at b1
  change Hp (w.alloc (.cells #[.int .i64 (s.a : Int), .int .i64 (s.b : Int), .int .i64 (s.c : Int)] 80)) _ _ _ at b0
  have g0 : Below w.heap.size w (w.alloc (.cells #[.int .i64 (s.a : Int), .int .i64 (s.b : Int), .int .i64 (s.c : Int)] 80)) := (Below.refl _ _).alloc (Nat.le_refl _) _
  generalize w.alloc (.cells #[.int .i64 (s.a : Int), .int .i64 (s.b : Int), .int .i64 (s.c : Int)] 80) = w1 at e1 b0 b1 g0 ⊢
  have b0' := b0.alloc (.map #[] 0)
  have e2 : (w1.alloc (.map #[] 0)).heap.size = w.heap.size + 1 + 1 := by simp [e1]
  have g1 := stepA g0 (.map #[] 0)
  generalize w1.alloc (.map #[] 0) = w2 at e2 b0' b1 g1 ⊢
  have b2 := Hp.new w2 [.map (some (w.heap.size + 1))] 97
  rw [e2] at b2
  have b0'' := b0'.alloc (.cells #[.map (some (w.heap.size + 1))] 97)
  have b1' := b1.later ((Below.refl _ _).alloc (Nat.le_refl _) (.cells #[.map (some (w.heap.size + 1))] 97))
  have e3 : (w2.alloc (.cells #[.map (some (w.heap.size + 1))] 97)).heap.size = w.heap.size + 1 + 1 + 1 := by simp [e2]
  have g2 := stepA g1 (.cells #[.map (some (w.heap.size + 1))] 97)
  change Hp (w2.alloc (.cells #[.map (some (w.heap.size + 1))] 97)) _ _ _ at b2
  generalize w2.alloc (.cells #[.map (some (w.heap.size + 1))] 97) = w3 at e3 b0'' b1' b2 g2 ⊢
  have b3 := Hp.new w3 [.nilFunc] 73
  rw [e3] at b3
  exact ⟨stepA g2 _, b0''.alloc _, b1'.later ((Below.refl _ _).alloc (Nat.le_refl _) _), b2.alloc _, b3⟩

set_option maxRecDepth 100000 in
set_option maxHeartbeats 2000000 in
theorem needed_calls {s : St} (hs : s.tubes ≤ 16) (w : World) : Gives 64 #[s.v] (.int .i64 (ndF s : Int)) w := by
  unfold Gives
  have hmm := @run_makeMap Try.prog
  have h62 : ∀ W, Gives 62 #[s.v] (.int .i64 (bndF s : Int)) W := fun W => bound_calls hs W
  have hsr : ∀ (B Bp Bs Bc : Nat) (W : World), Mq (bndF s) B W → Sr B Bp Bs Bc s W → Calls Try.prog 81 #[.int .i64 (bndF s : Int), .pointer (some ⟨Bp, 0, none⟩), .pointer (some ⟨Bs, 0, none⟩), .pointer (some ⟨Bc, 0, none⟩)] W fun e W' => e = .returned (.int .i64 (ndF s : Int)) ∧ W.grownBy W' (some B) := fun B Bp Bs Bc W h1 h2 =>
    search_calls hs B Bp Bs Bc (ndF s - bndF s) (bndF s) (by have := bndF_le_ndF hs; omega) W h1 h2
  generalize ndF s = nd at hsr ⊢
  generalize bndF s = bn at hsr h62
  have H62 := Lib.hid h62
  have HSR := Lib.hid hsr
  have I := needed_start w s
  have eg := eg81
  clear h62 hsr
  go_enter Try.func64, Try.ntmps64
  go_upto_region 3 with fail
  generalize World.alloc _ _ = w4 at I ⊢
  obtain ⟨hB, h0, h1, h2, h3⟩ := I
  have q3 := h3.blk.one
  have f3 := h3.free 0
  have z3 := h3.lt
  have hst : (store ⟨w.heap.size + 1 + 1 + 1, 0, none⟩ (.func (.func 81) #[] #[.pointer (some ⟨w.heap.size + 1 + 1, 0, none⟩), .pointer (some ⟨w.heap.size, 0, none⟩), .pointer (some ⟨w.heap.size + 1 + 1 + 1, 0, none⟩)])).run Try.prog w4 = .ok () (w4.setCell ⟨w.heap.size + 1 + 1 + 1, 0, none⟩ (.func (.func 81) #[] #[.pointer (some ⟨w.heap.size + 1 + 1, 0, none⟩), .pointer (some ⟨w.heap.size, 0, none⟩), .pointer (some ⟨w.heap.size + 1 + 1 + 1, 0, none⟩)])) := by
    rw [run_store Try.prog w4 _ _ _ (by rfl), q3]
    simp [f3]
  go_upto_region 4 with fail
  clear hst
  have k3 := h3.set 0 (.func (.func 81) #[] #[.pointer (some ⟨w.heap.size + 1 + 1, 0, none⟩), .pointer (some ⟨w.heap.size, 0, none⟩), .pointer (some ⟨w.heap.size + 1 + 1 + 1, 0, none⟩)])
  have k0 := h0.other (B' := w.heap.size + 1 + 1 + 1) (by omega) 0 (.func (.func 81) #[] #[.pointer (some ⟨w.heap.size + 1 + 1, 0, none⟩), .pointer (some ⟨w.heap.size, 0, none⟩), .pointer (some ⟨w.heap.size + 1 + 1 + 1, 0, none⟩)])
  have k2 := h2.other (B' := w.heap.size + 1 + 1 + 1) (by omega) 0 (.func (.func 81) #[] #[.pointer (some ⟨w.heap.size + 1 + 1, 0, none⟩), .pointer (some ⟨w.heap.size, 0, none⟩), .pointer (some ⟨w.heap.size + 1 + 1 + 1, 0, none⟩)])
  have k1 := h1.kept (Below.heap_setCell w4 ⟨w.heap.size + 1 + 1 + 1, 0, none⟩ (.func (.func 81) #[] #[.pointer (some ⟨w.heap.size + 1 + 1, 0, none⟩), .pointer (some ⟨w.heap.size, 0, none⟩), .pointer (some ⟨w.heap.size + 1 + 1 + 1, 0, none⟩)]) (w.heap.size + 1) (by show w.heap.size + 1 ≠ w.heap.size + 1 + 1 + 1; omega))
  have kB := hB.setCell (p := ⟨w.heap.size + 1 + 1 + 1, 0, none⟩) (by show w.heap.size ≤ w.heap.size + 1 + 1 + 1; omega) (.func (.func 81) #[] #[.pointer (some ⟨w.heap.size + 1 + 1, 0, none⟩), .pointer (some ⟨w.heap.size, 0, none⟩), .pointer (some ⟨w.heap.size + 1 + 1 + 1, 0, none⟩)])
  clear h0 h1 h2 h3 hB q3 f3 z3
  generalize World.setCell _ _ _ = w5 at k0 k1 k2 k3 kB ⊢
  have HMq := Lib.hid (show ∀ X, Below w5.heap.size w5 X → Mq bn (w.heap.size + 1) X from fun X hX => ⟨fun _ _ => none, k1.later hX, fun _ _ _ _ h => (by cases h), fun _ _ _ => rfl⟩)
  have HSr := Lib.hid (show ∀ X, Below w5.heap.size w5 X → Sr (w.heap.size + 1) (w.heap.size + 1 + 1) w.heap.size (w.heap.size + 1 + 1 + 1) s X from fun X hX => ⟨k2.later hX, k0.later hX, k3.later hX, by omega, by omega, by omega⟩)
  have HS := Lib.hid (show ∀ X, Below w5.heap.size w5 X → X.cell? ⟨w.heap.size + 1 + 1 + 1, 0, none⟩ = some (.func (.func 81) #[] #[.pointer (some ⟨w.heap.size + 1 + 1, 0, none⟩), .pointer (some ⟨w.heap.size, 0, none⟩), .pointer (some ⟨w.heap.size + 1 + 1 + 1, 0, none⟩)]) ∧ (X.cell? ⟨w.heap.size, 0, none⟩ = some (.int .i64 (s.a : Int)) ∧ X.cell? ⟨w.heap.size, 1, none⟩ = some (.int .i64 (s.b : Int)) ∧ X.cell? ⟨w.heap.size, 2, none⟩ = some (.int .i64 (s.c : Int))) from fun X hX => ⟨(k3.later hX).blk.one, (k0.later hX).blk.three⟩)
  have HKB := Lib.hid kB
  clear k0 k1 k2 k3 kB hmm
  go_upto_region 4 with fail
  go_region_held3 (fun X => X.cell? ⟨w.heap.size + 1 + 1 + 1, 0, none⟩ = some (.func (.func 81) #[] #[.pointer (some ⟨w.heap.size + 1 + 1, 0, none⟩), .pointer (some ⟨w.heap.size, 0, none⟩), .pointer (some ⟨w.heap.size + 1 + 1 + 1, 0, none⟩)]) ∧ (X.cell? ⟨w.heap.size, 0, none⟩ = some (.int .i64 (s.a : Int)) ∧ X.cell? ⟨w.heap.size, 1, none⟩ = some (.int .i64 (s.b : Int)) ∧ X.cell? ⟨w.heap.size, 2, none⟩ = some (.int .i64 (s.c : Int))))
    (first
      | with_reducible exact HS.out _ (Below.refl _ _).drew
      | with_reducible exact HS.out _ HBY.out
      | exact ⟨HZ.out.hc.blk.one, HZ.out.hs.blk.three⟩
      | fail)
    (first
      | (go_at_call 62; (with_reducible refine (Gives.c (H62.out _)).mono ?_); rintro e' wy ⟨rfl, hb⟩; have HBY := Lib.hid ((Below.refl w5.heap.size w5).drew.trans hb))
      | (go_at_fn 81; (with_reducible refine (HSR.out _ _ _ _ _ (HMq.out _ HBY.out) (HSr.out _ HBY.out)).mono ?_); rintro e' wz ⟨rfl, hg⟩; have HG := Lib.hid hg; have HZ := Lib.hid ((HSr.out _ HBY.out).grown hg))
      | fail)
  all_goals
    go_wp2_with fail
    go_ret
    exact ⟨rfl, HKB.out.trans ((HBY.out.mono HKB.out.size).grown HG.out (Nat.le_trans HKB.out.size HBY.out.size) (fun k hk => by cases hk; omega))⟩
end Go.Proofs.Ytpnkbjdeiedhlaa
