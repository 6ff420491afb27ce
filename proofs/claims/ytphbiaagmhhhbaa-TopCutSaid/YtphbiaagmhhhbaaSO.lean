/- The contract of fits. -/
import Derived.Test.YtphbiaagmhhhbaaSN
namespace Go.Proofs.Ytphbiaagmhhhbaa
open Go.RowKit Go.Lib Go.Shelf

def leastP (c off a b : Int) (x : Int) : Bool := decide (b - off ≤ len c x a)
def aboveP (c off a b : Int) (x : Int) : Bool := decide (b + off < len c x a)
def fitLo (c lo hi off a b : Int) : Int := bs (leastP c off a b) (hi + 1 - lo).toNat lo (hi + 1)
def fitHi (c lo hi off a b : Int) : Int := bs (aboveP c off a b) (hi + 1 - lo).toNat lo (hi + 1) - 1

/-- A measurement and an error as stated. -/
def FineM (off a b : Int) : Prop := (0 ≤ a ∧ a ≤ 1000) ∧ (0 ≤ b ∧ b ≤ 1000000000) ∧ 0 ≤ off ∧ off ≤ 1000000

set_option maxHeartbeats 1000000 in
theorem least_calls {c t lo hi off a b x : Int} (h : Sound c t lo hi) (hm : FineM off a b) (h0 : 0 ≤ x) (h1 : x ≤ 1000) (w : World) (B0 B1 B2 : Nat) (k0 : Blk w B0 [.int .i64 c, .int .i64 t, .int .i64 lo, .int .i64 hi]) (k1 : Blk w B1 [.int .i64 a, .int .i64 b]) (k2 : Blk w B2 [.int .i64 off]) :
    Gives 90 #[.int .i64 x, .pointer (some ⟨B0, 0, none⟩), .pointer (some ⟨B1, 0, none⟩), .pointer (some ⟨B2, 0, none⟩)] (.bool (leastP c off a b x)) w := by
  unfold Gives leastP
  have q0 := k0.four
  have q1 := k1.two
  have q2 := k2.one
  have hw : IntKind.i64.wrap (b - off) = b - off := by rw [i64_w]; exact w64_in (by have := hm.2; omega) (by have := hm.2; omega)
  have H := Lib.hid h
  have HM := Lib.hid hm
  have K0 := Lib.hid k0
  have K1 := Lib.hid k1
  have K2 := Lib.hid k2
  clear h hm k0 k1 k2
  go_enter Try.func90, Try.ntmps90
  go_wp2_with fail
  go_region_held3 (fun W => Below w.heap.size w W ∧ (W.cell? ⟨B0, 0, none⟩ = some (.int .i64 c) ∧ W.cell? ⟨B0, 1, none⟩ = some (.int .i64 t) ∧ W.cell? ⟨B0, 2, none⟩ = some (.int .i64 lo) ∧ W.cell? ⟨B0, 3, none⟩ = some (.int .i64 hi)) ∧ (W.cell? ⟨B1, 0, none⟩ = some (.int .i64 a) ∧ W.cell? ⟨B1, 1, none⟩ = some (.int .i64 b)) ∧ W.cell? ⟨B2, 0, none⟩ = some (.int .i64 off))
    (first | exact ⟨below_drewN' (Below.refl _ _) 1, q0, q1, q2⟩ | (rename_i hh _ _; have hbb := hh.1.trans (hb.mono hh.1.size); exact ⟨hbb, (K0.out.later hbb).four, (K1.out.later hbb).two, (K2.out.later hbb).one⟩))
    (first | (go_at_call 60; refine (length_calls H.out h0 h1 HM.out.1.1 (by have := HM.out.1.2; omega) _).mono ?_; rintro e w' ⟨rfl, hb⟩))
  go_wp2
  go_ret
  rename_i hh
  exact ⟨rfl, hh.1⟩

set_option maxHeartbeats 1000000 in
theorem above_calls {c t lo hi off a b x : Int} (h : Sound c t lo hi) (hm : FineM off a b) (h0 : 0 ≤ x) (h1 : x ≤ 1000) (w : World) (B0 B1 B2 : Nat) (k0 : Blk w B0 [.int .i64 c, .int .i64 t, .int .i64 lo, .int .i64 hi]) (k1 : Blk w B1 [.int .i64 a, .int .i64 b]) (k2 : Blk w B2 [.int .i64 off]) :
    Gives 91 #[.int .i64 x, .pointer (some ⟨B0, 0, none⟩), .pointer (some ⟨B1, 0, none⟩), .pointer (some ⟨B2, 0, none⟩)] (.bool (aboveP c off a b x)) w := by
  unfold Gives aboveP
  have q0 := k0.four
  have q1 := k1.two
  have q2 := k2.one
  have hw : IntKind.i64.wrap (b + off) = b + off := by rw [i64_w]; exact w64_in (by have := hm.2; omega) (by have := hm.2; omega)
  have H := Lib.hid h
  have HM := Lib.hid hm
  have K0 := Lib.hid k0
  have K1 := Lib.hid k1
  have K2 := Lib.hid k2
  clear h hm k0 k1 k2
  go_enter Try.func91, Try.ntmps91
  go_wp2_with fail
  go_region_held3 (fun W => Below w.heap.size w W ∧ (W.cell? ⟨B0, 0, none⟩ = some (.int .i64 c) ∧ W.cell? ⟨B0, 1, none⟩ = some (.int .i64 t) ∧ W.cell? ⟨B0, 2, none⟩ = some (.int .i64 lo) ∧ W.cell? ⟨B0, 3, none⟩ = some (.int .i64 hi)) ∧ (W.cell? ⟨B1, 0, none⟩ = some (.int .i64 a) ∧ W.cell? ⟨B1, 1, none⟩ = some (.int .i64 b)) ∧ W.cell? ⟨B2, 0, none⟩ = some (.int .i64 off))
    (first | exact ⟨below_drewN' (Below.refl _ _) 1, q0, q1, q2⟩ | (rename_i hh _ _; have hbb := hh.1.trans (hb.mono hh.1.size); exact ⟨hbb, (K0.out.later hbb).four, (K1.out.later hbb).two, (K2.out.later hbb).one⟩))
    (first | (go_at_call 60; refine (length_calls H.out h0 h1 HM.out.1.1 (by have := HM.out.1.2; omega) _).mono ?_; rintro e w' ⟨rfl, hb⟩))
  go_wp2
  go_ret
  rename_i hh
  exact ⟨rfl, hh.1⟩

theorem eg90 : ∀ args w, (callFunc 90 args).run Try.prog w = .ok (.enter 90 args) w := enters_of Try.func90 (by kernel_rfl) rfl
theorem eg91 : ∀ args w, (callFunc 91 args).run Try.prog w = .ok (.enter 91 args) w := enters_of Try.func91 (by kernel_rfl) rfl

theorem bs_range (p : Int → Bool) (k : Nat) : ∀ lo hi, lo ≤ hi → lo ≤ bs p k lo hi ∧ bs p k lo hi ≤ hi := by
  induction k with
  | zero => intro lo hi h; exact ⟨Int.le_refl _, h⟩
  | succ k ih =>
    intro lo hi h
    simp only [bs]
    split
    · split
      · have := ih lo (lo + (hi - lo) / 2) (by omega); omega
      · have := ih (lo + (hi - lo) / 2 + 1) hi (by omega); omega
    · omega

set_option maxRecDepth 100000 in
set_option maxHeartbeats 4000000 in
theorem fits_calls {c t lo hi off a b : Int} (h : Sound c t lo hi) (hm : FineM off a b) (w : World) :
    Gives 75 #[.agg #[.int .i64 c, .int .i64 t, .int .i64 lo, .int .i64 hi], .agg #[.int .i64 a, .int .i64 b], .int .i64 off] (.agg #[.int .i64 (fitLo c lo hi off a b), .int .i64 (fitHi c lo hi off a b)]) w := by
  unfold Gives fitLo fitHi
  have hw : IntKind.i64.wrap (hi + 1) = hi + 1 := by rw [i64_w]; exact w64_in (by have := h.2.2; omega) (by have := h.2.2; omega)
  have hw2 : IntKind.i64.wrap (bs (aboveP c off a b) (hi + 1 - lo).toNat lo (hi + 1) - 1) = bs (aboveP c off a b) (hi + 1 - lo).toNat lo (hi + 1) - 1 := by
    have := bs_range (aboveP c off a b) (hi + 1 - lo).toNat lo (hi + 1) (by have := h.2.2; omega)
    rw [i64_w]; exact w64_in (by have := h.2.2; omega) (by have := h.2.2; omega)
  have H := Lib.hid h
  have HM := Lib.hid hm
  clear h hm
  go_enter Try.func75, Try.ntmps75
  go_wp2_with fail
  generalize hW : World.alloc _ _ = W0
  have b0 : Below w.heap.size w W0 := by rw [← hW]; go_grown
  have k0 : Blk W0 w.heap.size [.int .i64 c, .int .i64 t, .int .i64 lo, .int .i64 hi] := by rw [← hW]; exact (((Blk.new w _ 28).alloc _).alloc _).alloc _
  have k1 : Blk W0 (w.heap.size + 1) [.int .i64 a, .int .i64 b] := by rw [← hW]; exact Blk.alloc (Blk.alloc (by simpa using Blk.new (w.alloc _) [.int .i64 a, .int .i64 b] 80) _) _
  have k2 : Blk W0 (w.heap.size + 1 + 1) [.int .i64 off] := by rw [← hW]; exact Blk.alloc (by simpa using Blk.new ((w.alloc _).alloc _) [.int .i64 off] 3) _
  have k3 : Blk W0 (w.heap.size + 1 + 1 + 1) [.int .i64 0, .int .i64 0] := by rw [← hW]; simpa using Blk.new (((w.alloc _).alloc _).alloc _) [.int .i64 0, .int .i64 0] 26
  clear hW
  have F90 : ∀ W, Below W0.heap.size W0 W → Calls Try.prog 76 #[.int .i64 lo, .int .i64 (hi + 1), .func (.func 90) #[] #[.pointer (some ⟨w.heap.size, 0, none⟩), .pointer (some ⟨w.heap.size + 1, 0, none⟩), .pointer (some ⟨w.heap.size + 1 + 1, 0, none⟩)]] W fun e W' => e = .returned (.int .i64 (bs (leastP c off a b) (hi + 1 - lo).toNat lo (hi + 1))) ∧ Below W.heap.size W W' := by
    intro W hW
    refine first_calls _ 90 _ eg90 lo (hi + 1) W (by have := H.out.2.2; omega) (by have := H.out.2.2; omega) (by have := H.out.2.2; omega) ?_
    intro W2 x hW2 h0 h1
    have hh := hW.trans (hW2.mono hW.size)
    exact (least_calls H.out HM.out (by have := H.out.2.2; omega) (by have := H.out.2.2; omega) W2 _ _ _ (k0.later hh) (k1.later hh) (k2.later hh)).mono fun e W3 ⟨he, hb⟩ => ⟨he, hW2.trans (hb.mono hW2.size)⟩
  have F91 : ∀ W, Below W0.heap.size W0 W → Calls Try.prog 76 #[.int .i64 lo, .int .i64 (hi + 1), .func (.func 91) #[] #[.pointer (some ⟨w.heap.size, 0, none⟩), .pointer (some ⟨w.heap.size + 1, 0, none⟩), .pointer (some ⟨w.heap.size + 1 + 1, 0, none⟩)]] W fun e W' => e = .returned (.int .i64 (bs (aboveP c off a b) (hi + 1 - lo).toNat lo (hi + 1))) ∧ Below W.heap.size W W' := by
    intro W hW
    refine first_calls _ 91 _ eg91 lo (hi + 1) W (by have := H.out.2.2; omega) (by have := H.out.2.2; omega) (by have := H.out.2.2; omega) ?_
    intro W2 x hW2 h0 h1
    have hh := hW.trans (hW2.mono hW.size)
    exact (above_calls H.out HM.out (by have := H.out.2.2; omega) (by have := H.out.2.2; omega) W2 _ _ _ (k0.later hh) (k1.later hh) (k2.later hh)).mono fun e W3 ⟨he, hb⟩ => ⟨he, hW2.trans (hb.mono hW2.size)⟩
  have G90 := Lib.hid F90
  have G91 := Lib.hid F91
  clear F90 F91
  have q0 := k0.four
  have K0 := Lib.hid k0
  have K3 := Lib.hid k3
  have B0 := Lib.hid b0
  clear k0 k1 k2 k3 b0
  go_region_held3 (fun W => Below w.heap.size w W ∧ (W.cell? ⟨w.heap.size, 0, none⟩ = some (.int .i64 c) ∧ W.cell? ⟨w.heap.size, 1, none⟩ = some (.int .i64 t) ∧ W.cell? ⟨w.heap.size, 2, none⟩ = some (.int .i64 lo) ∧ W.cell? ⟨w.heap.size, 3, none⟩ = some (.int .i64 hi)) ∧
      (W.cell? ⟨w.heap.size + 1 + 1 + 1, 0, none⟩ = some (valAt W ⟨w.heap.size + 1 + 1 + 1, 0, none⟩) ∧ W.cell? ⟨w.heap.size + 1 + 1 + 1, 1, none⟩ = some (valAt W ⟨w.heap.size + 1 + 1 + 1, 1, none⟩) ∧ W.frozen? ⟨w.heap.size + 1 + 1 + 1, 0, none⟩ = false ∧ W.frozen? ⟨w.heap.size + 1 + 1 + 1, 1, none⟩ = false))
    (first
      | exact ⟨below_drewN' B0.out 1, q0, (K3.out.drewN 1).vals⟩
      | (exact ⟨below2 (B0.out.trans (hB2.mono B0.out.size)) (by omega) _ _, ((K0.out.later hB2).other2 (by omega) _ _).four, ((K3.out.later hB2).put2 _ _).vals⟩)
      | (exact ⟨B0.out.trans (hB2.mono B0.out.size), (K0.out.later hB2).four, (K3.out.later hB2).vals⟩)
      | (exact ⟨B0.out.trans (hB1.mono B0.out.size), (K0.out.later hB1).four, (K3.out.later hB1).vals⟩)
      | fail)
    (first
      | (go_at_call 76; (with_reducible refine (G90.out _ (Below.refl W0.heap.size W0).drew).mono ?_); rintro e w1 ⟨rfl, hb1⟩; have hB1 : Below W0.heap.size W0 w1 := (Below.refl W0.heap.size W0).drew.trans hb1)
      | (go_at_call 76; (with_reducible refine (G91.out _ hB1).mono ?_); rintro e w2 ⟨rfl, hb2⟩; have hB2 : Below W0.heap.size W0 w2 := hB1.trans (hb2.mono hB1.size))
      | fail)
  go_wp2
  have r := put2 (a := .int .i64 (bs (leastP c off a b) (hi + 1 - lo).toNat lo (hi + 1))) (b := .int .i64 (bs (aboveP c off a b) (hi + 1 - lo).toNat lo (hi + 1) - 1)) (K3.out.later hB2).two.1 (K3.out.later hB2).two.2
  refine bodyPost_ret (v := .agg #[.int .i64 (bs (leastP c off a b) (hi + 1 - lo).toNat lo (hi + 1)), .int .i64 (bs (aboveP c off a b) (hi + 1 - lo).toNat lo (hi + 1) - 1)]) (by simp [results, Try.results75, go_sem, r.1, r.2]) rfl ⟨rfl, ?_⟩
  rename_i hh
  exact hh.1
end Go.Proofs.Ytphbiaagmhhhbaa
