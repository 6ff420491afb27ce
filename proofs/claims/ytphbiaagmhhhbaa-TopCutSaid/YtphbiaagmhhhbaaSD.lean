/- The contract of arrival. -/
import Derived.Test.YtphbiaagmhhhbaaSC
namespace Go.Proofs.Ytphbiaagmhhhbaa
open Go.RowKit Go.Lib Go.Shelf

def arr (c t g p : Int) : Int := if plc c t g (1000 * t) < p then -1 else bs (fun x => decide (p ≤ plc c t g x)) (1000 * t).toNat 0 (1000 * t)

theorem eg77 : ∀ args w, (callFunc 77 args).run Try.prog w = .ok (.enter 77 args) w := enters_of Try.func77 (by kernel_rfl) rfl

theorem arrival_calls {c t lo hi g p : Int} (h : Sound c t lo hi) (hg0 : 0 ≤ g) (hg1 : g ≤ 1000) (w : World) :
    Gives 55 #[.agg #[.int .i64 c, .int .i64 t, .int .i64 lo, .int .i64 hi, .int .i64 g], .int .i64 p] (.int .i64 (arr c t g p)) w := by
  unfold Gives
  have ht := h.2.1
  have hc := h.1
  have H := Lib.hid h
  clear h
  by_cases hq : plc c t g (1000 * t) < p
  · rw [show arr c t g p = -1 from if_pos hq]
    go_enter Try.func55, Try.ntmps55
    go_wp2_with fail
    go_region_held3 (fun W => Below w.heap.size w W ∧ w.heap.size + 1 < W.heap.size ∧ W.cell? ⟨w.heap.size, 0, none⟩ = some (.int .i64 c) ∧ W.cell? ⟨w.heap.size, 1, none⟩ = some (.int .i64 t) ∧ W.cell? ⟨w.heap.size, 2, none⟩ = some (.int .i64 lo) ∧ W.cell? ⟨w.heap.size, 3, none⟩ = some (.int .i64 hi) ∧ W.cell? ⟨w.heap.size, 4, none⟩ = some (.int .i64 g) ∧ W.cell? ⟨w.heap.size + 1, 0, none⟩ = some (.int .i64 p))
      (first | (refine ⟨(by repeat (first | exact Below.refl _ _ | refine below_drewN' ?_ _ | refine Below.drew ?_ | refine Below.alloc ?_ (by simp) _)), ?_⟩; go_keep) | (rename_i hh _ _; refine ⟨hh.1.trans (hb.mono hh.1.size), ?_⟩; have hk := kept hb hh.2.1; have hj := kept hb (Nat.lt_of_succ_lt hh.2.1); simp only [hk.1, hj.1]; exact ⟨hk.2.2, hh.2.2⟩))
      (first | (go_at_call 64; refine (last_calls _ _ _ _ _ (by omega) (by omega)).mono ?_; rintro e w' ⟨rfl, hb⟩) | (go_at_call 53; refine (place_calls H.out hg0 hg1 (by omega) (by omega) _).mono ?_; rintro e w' ⟨rfl, hb⟩))
    go_wp2
    go_ret
    rename_i hh
    exact ⟨rfl, hh.1⟩
  · rw [show arr c t g p = bs (fun x => decide (p ≤ plc c t g x)) (1000 * t).toNat 0 (1000 * t) from if_neg hq]
    go_enter Try.func55, Try.ntmps55
    go_wp2_with fail
    go_region_held3 (fun W => Below w.heap.size w W ∧ w.heap.size + 1 < W.heap.size ∧ W.cell? ⟨w.heap.size, 0, none⟩ = some (.int .i64 c) ∧ W.cell? ⟨w.heap.size, 1, none⟩ = some (.int .i64 t) ∧ W.cell? ⟨w.heap.size, 2, none⟩ = some (.int .i64 lo) ∧ W.cell? ⟨w.heap.size, 3, none⟩ = some (.int .i64 hi) ∧ W.cell? ⟨w.heap.size, 4, none⟩ = some (.int .i64 g) ∧ W.cell? ⟨w.heap.size + 1, 0, none⟩ = some (.int .i64 p))
      (first | (refine ⟨(by repeat (first | exact Below.refl _ _ | refine below_drewN' ?_ _ | refine Below.drew ?_ | refine Below.alloc ?_ (by simp) _)), ?_⟩; go_keep) | (rename_i hh _ _; refine ⟨hh.1.trans (hb.mono hh.1.size), ?_⟩; have hk := kept hb hh.2.1; have hj := kept hb (Nat.lt_of_succ_lt hh.2.1); simp only [hk.1, hj.1]; exact ⟨hk.2.2, hh.2.2⟩))
      (first | (go_at_call 64; refine (last_calls _ _ _ _ _ (by omega) (by omega)).mono ?_; rintro e w' ⟨rfl, hb⟩) | (go_at_call 53; refine (place_calls H.out hg0 hg1 (by omega) (by omega) _).mono ?_; rintro e w' ⟨rfl, hb⟩))
    rename_i w1 _ w2 _ hh
    obtain ⟨g0, g1, g2, g3, g4, g5, g6, g7⟩ := hh
    have G := Lib.hid g0
    clear g0
    go_wp2_with (first | (go_at_call 64; refine (last_calls _ _ _ _ _ (by omega) (by omega)).mono ?_; rintro e w3 ⟨rfl, hb⟩; have Hb := Lib.hid hb; clear hb))
    have K := kept Hb.out g1
    have J := kept Hb.out (Nat.lt_of_succ_lt g1)
    have hp : PredIn Try.prog 77 #[.pointer (some ⟨w.heap.size, 0, none⟩), .pointer (some ⟨w.heap.size + 1, 0, none⟩)] 0 (1000 * t) (fun x => decide (p ≤ plc c t g x)) w3 := by
      intro W x hW h0 h1
      have K' := kept hW K.2.2
      have J' := kept hW J.2.2
      exact (arr1_calls H.out hg0 hg1 h0 (by omega) W w.heap.size (w.heap.size + 1) (by rw [K'.1, K.1]; exact g7) (by rw [J'.1, J.1]; exact g2) (by rw [J'.1, J.1]; exact g3) (by rw [J'.1, J.1]; exact g4) (by rw [J'.1, J.1]; exact g5) (by rw [J'.1, J.1]; exact g6)).mono fun e W' ⟨he, hb⟩ => ⟨he, hW.trans (hb.mono hW.size)⟩
    refine (first_calls _ 77 _ eg77 0 (1000 * t) w3 (by omega) (by omega) (by omega) hp).mono ?_
    rintro e w4 ⟨rfl, hb4⟩
    have Hb4 := Lib.hid hb4
    clear hb4 hp K J
    go_wp2
    go_ret
    exact ⟨rfl, (G.out.trans (Hb.out.mono G.out.size)).trans (Hb4.out.mono (Nat.le_trans G.out.size Hb.out.size))⟩
end Go.Proofs.Ytphbiaagmhhhbaa
