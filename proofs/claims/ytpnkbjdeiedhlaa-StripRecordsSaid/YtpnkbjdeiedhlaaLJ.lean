/- enough: the ways that ask nothing of further strips. -/
import Derived.Test.YtpnkbjdeiedhlaaLI
namespace Go.Proofs.Ytpnkbjdeiedhlaa
open Go.RowKit Go.Lib Go.Shelf
open St

/-- A player whose map is the block B. -/
abbrev pv (B : Nat) : Value := .agg #[.map (some B)]
/-- The boxes of enough. -/
def Bx (w0 : World) (B n : Nat) (s : St) (W : World) : Prop := (Below w0.heap.size w0 W ∧ Hp W w0.heap.size [.map (some B)] 97) ∧ (Hp W (w0.heap.size + 1) s.cs 80 ∧ Hp W (w0.heap.size + 1 + 1) [.int .i64 (n : Int)] 3)
theorem bx_start (w : World) (B n : Nat) (s : St) : Bx w B n s (((w.alloc (.cells #[.map (some B)] 97)).alloc (.cells #[.int .i64 (s.a : Int), .int .i64 (s.b : Int), .int .i64 (s.c : Int)] 80)).alloc (.cells #[.int .i64 (n : Int)] 3)) :=
  ⟨⟨by go_grown, ((Hp.new w [.map (some B)] 97).alloc _).alloc _⟩, Hp.alloc (by simpa using Hp.new (w.alloc (.cells #[.map (some B)] 97)) s.cs 80) _, by simpa using Hp.new ((w.alloc (.cells #[.map (some B)] 97)).alloc (.cells #[.int .i64 (s.a : Int), .int .i64 (s.b : Int), .int .i64 (s.c : Int)] 80)) [.int .i64 (n : Int)] 3⟩
theorem Bx.later {w0 : World} {B n : Nat} {s : St} {W X : World} (h : Bx w0 B n s W) (hb : Below W.heap.size W X) : Bx w0 B n s X :=
  ⟨⟨h.1.1.trans (hb.mono h.1.1.size), h.1.2.later hb⟩, h.2.1.later hb, h.2.2.later hb⟩
theorem Bx.cells {w0 : World} {B n : Nat} {s : St} {W : World} (h : Bx w0 B n s W) : W.cell? ⟨w0.heap.size, 0, none⟩ = some (.map (some B)) ∧ (W.cell? ⟨w0.heap.size + 1, 0, none⟩ = some (.int .i64 (s.a : Int)) ∧ W.cell? ⟨w0.heap.size + 1, 1, none⟩ = some (.int .i64 (s.b : Int)) ∧ W.cell? ⟨w0.heap.size + 1, 2, none⟩ = some (.int .i64 (s.c : Int))) ∧ W.cell? ⟨w0.heap.size + 1 + 1, 0, none⟩ = some (.int .i64 (n : Int)) :=
  ⟨h.1.2.cell rfl, h.2.1.blk.three, h.2.2.cell rfl⟩

set_option maxRecDepth 100000 in
set_option maxHeartbeats 2000000 in
theorem enough_few {s : St} (h : s.tubes < 2) (n B : Nat) (w : World) : Gives 68 #[pv B, s.v, .int .i64 (n : Int)] (.bool true) w := by
  unfold Gives
  have I := bx_start w B n s
  have h79 : ∀ W, Gives 79 #[s.v] (.int .i64 (s.tubes : Int)) W := fun W => tubes_calls (by omega) W
  generalize s.tubes = T at h h79
  have H79 := Lib.hid h79
  have hT : (T : Int) < 2 := by omega
  clear h79
  go_enter Try.func68, Try.ntmps68
  go_wp2_with fail
  generalize World.alloc _ _ = w1 at I ⊢
  have q0 := I.cells
  go_wp2_with (go_at_call 79; (with_reducible refine (Gives.c (H79.out _)).mono ?_); rintro e' w2 ⟨rfl, hb⟩; replace I := I.later hb; clear hb)
  go_ret
  exact ⟨rfl, I.1.1⟩

set_option maxRecDepth 100000 in
set_option maxHeartbeats 4000000 in
/-- To the test of the weight: what the first switch does. -/
theorem enough_heavy {s : St} (h2 : 2 ≤ s.tubes ∧ s.tubes ≤ 16) {n : Nat} (hn : n ≤ 49) (hw : 2 ^ n < s.wt n) (B : Nat) (w : World) : Gives 68 #[pv B, s.v, .int .i64 (n : Int)] (.bool false) w := by
  unfold Gives
  have I := bx_start w B n s
  have h79 : ∀ W, Gives 79 #[s.v] (.int .i64 (s.tubes : Int)) W := fun W => tubes_calls (by omega) W
  have h58 : ∀ W, Gives 58 #[s.v, .int .i64 (n : Int)] (.int .i64 (s.wt n : Int)) W := fun W => weight_calls (by omega) (by omega) W
  obtain ⟨P, hP⟩ : ∃ P, P = 2 ^ n := ⟨_, rfl⟩
  have hPk : P ≤ 562949953421312 := by rw [hP]; exact Nat.le_trans (Nat.pow_le_pow_right (by omega) hn) (by decide)
  have wK : IntKind.i64.wrap ((2 : Int) ^ n) = (P : Int) := by
    have e : ((2 : Int) ^ n) = (P : Int) := by rw [hP, Int.natCast_pow]; rfl
    rw [e]
    exact i64_in (by omega) (by omega)
  rw [← hP] at hw
  have hn64 : (n : Int) ≤ 64 := by omega
  generalize s.tubes = T at h2 h79
  generalize s.wt n = W at hw h58
  have H79 := Lib.hid h79
  have H58 := Lib.hid h58
  have hT : ¬ (T : Int) < 2 := by omega
  have hgt : (P : Int) < (W : Int) := by omega
  clear h79 h58 hP
  go_enter Try.func68, Try.ntmps68
  go_wp2_with fail
  generalize World.alloc _ _ = w1 at I ⊢
  have q0 := I.cells
  go_upto_region 3 with (go_at_call 79; (with_reducible refine (Gives.c (H79.out _)).mono ?_); rintro e' w2 ⟨rfl, hb⟩; replace I := I.later hb; clear hb q0)
  have HI := Lib.hid I
  have hS : ∀ X, Below w2.heap.size w2 X → Bx w B n s X := fun X hX => HI.out.later hX
  have HS := Lib.hid hS
  clear hS I
  go_region_held3 (fun X => X.cell? ⟨w.heap.size, 0, none⟩ = some (.map (some B)) ∧ (X.cell? ⟨w.heap.size + 1, 0, none⟩ = some (.int .i64 (s.a : Int)) ∧ X.cell? ⟨w.heap.size + 1, 1, none⟩ = some (.int .i64 (s.b : Int)) ∧ X.cell? ⟨w.heap.size + 1, 2, none⟩ = some (.int .i64 (s.c : Int))) ∧ X.cell? ⟨w.heap.size + 1 + 1, 0, none⟩ = some (.int .i64 (n : Int)))
    (first
      | with_reducible exact (HS.out _ (Below.refl _ _).drew).cells
      | with_reducible exact (HS.out _ HBY.out).cells
      | fail)
    (first
      | (go_at_call 58; (with_reducible refine (Gives.c (H58.out _)).mono ?_); rintro e' wy ⟨rfl, hb⟩; have HBY := Lib.hid ((Below.refl w2.heap.size w2).drew.trans hb))
      | fail)
  all_goals
    go_wp2_with fail
    go_ret
    exact ⟨rfl, (HS.out _ HBY.out).1.1⟩

set_option maxRecDepth 100000 in
set_option maxHeartbeats 4000000 in
theorem enough_known {s : St} (h2 : 2 ≤ s.tubes ∧ s.tubes ≤ 16) {n : Nat} (hn : n ≤ 49) (hw : ¬ 2 ^ n < s.wt n) (B : Nat) {f : Kn} {b : Bool} (hk : f s n = some b) (w : World) (hM : MapD w B f) : Gives 68 #[pv B, s.v, .int .i64 (n : Int)] (.bool b) w := by
  unfold Gives
  have I := bx_start w B n s
  have h79 : ∀ W, Gives 79 #[s.v] (.int .i64 (s.tubes : Int)) W := fun W => tubes_calls (by omega) W
  have h58 : ∀ W, Gives 58 #[s.v, .int .i64 (n : Int)] (.int .i64 (s.wt n : Int)) W := fun W => weight_calls (by omega) (by omega) W
  have hlk : ∀ X, Below w.heap.size w X → (Instr.lookup 95 (.map (some B)) (.agg #[.int .i64 (s.a : Int), .int .i64 (s.b : Int), .int .i64 (s.c : Int), .int .i64 (n : Int)]) true).run Try.prog X = .ok (.tuple #[.bool b, .bool true]) X := fun X hX => by
    have := (hM.later hX).look (s := s) (n := n) (by omega) (by omega) true
    rw [hk] at this
    simpa using this
  have HLK := Lib.hid hlk
  obtain ⟨P, hP⟩ : ∃ P, P = 2 ^ n := ⟨_, rfl⟩
  have hPk : P ≤ 562949953421312 := by rw [hP]; exact Nat.le_trans (Nat.pow_le_pow_right (by omega) hn) (by decide)
  have wK : IntKind.i64.wrap ((2 : Int) ^ n) = (P : Int) := by
    have e : ((2 : Int) ^ n) = (P : Int) := by rw [hP, Int.natCast_pow]; rfl
    rw [e]
    exact i64_in (by omega) (by omega)
  rw [← hP] at hw
  have hn64 : (n : Int) ≤ 64 := by omega
  generalize s.tubes = T at h2 h79
  generalize s.wt n = W at hw h58
  have H79 := Lib.hid h79
  have H58 := Lib.hid h58
  have hT : ¬ (T : Int) < 2 := by omega
  have hgt : ¬ (P : Int) < (W : Int) := by omega
  clear h79 h58 hP hlk hk hM
  go_enter Try.func68, Try.ntmps68
  go_wp2_with fail
  generalize World.alloc _ _ = w1 at I ⊢
  have q0 := I.cells
  go_upto_region 3 with (go_at_call 79; (with_reducible refine (Gives.c (H79.out _)).mono ?_); rintro e' w2 ⟨rfl, hb⟩; replace I := I.later hb; clear hb q0)
  have HI := Lib.hid I
  have hS : ∀ X, Below w2.heap.size w2 X → Bx w B n s X := fun X hX => HI.out.later hX
  have HS := Lib.hid hS
  clear hS I
  go_cut [17] (fun s17 wx => s17 = .bool false ∧ Aside (Below w2.heap.size w2 wx))
  case first =>
    go_region_held3 (fun X => X.cell? ⟨w.heap.size, 0, none⟩ = some (.map (some B)) ∧ (X.cell? ⟨w.heap.size + 1, 0, none⟩ = some (.int .i64 (s.a : Int)) ∧ X.cell? ⟨w.heap.size + 1, 1, none⟩ = some (.int .i64 (s.b : Int)) ∧ X.cell? ⟨w.heap.size + 1, 2, none⟩ = some (.int .i64 (s.c : Int))) ∧ X.cell? ⟨w.heap.size + 1 + 1, 0, none⟩ = some (.int .i64 (n : Int)))
      (first
        | with_reducible exact (HS.out _ (Below.refl _ _).drew).cells
        | with_reducible exact (HS.out _ HBY.out).cells
        | fail)
      (first
        | (go_at_call 58; (with_reducible refine (Gives.c (H58.out _)).mono ?_); rintro e' wy ⟨rfl, hb⟩; have HBY := Lib.hid ((Below.refl w2.heap.size w2).drew.trans hb))
        | fail)
    all_goals
      go_wp2_with fail
      go_meet
      exact ⟨by simp, HBY.out⟩
  case rest =>
    obtain ⟨rfl, HB2⟩ := hcut
    have J := HS.out _ HB2.out
    have q0 := J.cells
    clear HS HI
    go_upto_region 6 with fail
    have J2 := J.later ((Below.refl wc.heap.size wc).alloc (Nat.le_refl _) (.cells #[.int .i64 (s.a : Int), .int .i64 (s.b : Int), .int .i64 (s.c : Int), .int .i64 (n : Int)] 111))
    have q7 := (Blk.new wc [.int .i64 (s.a : Int), .int .i64 (s.b : Int), .int .i64 (s.c : Int), .int .i64 (n : Int)] 111).four
    clear q0
    change Bx w B n s (wc.alloc (.cells #[.int .i64 (s.a : Int), .int .i64 (s.b : Int), .int .i64 (s.c : Int), .int .i64 (n : Int)] 111)) at J2
    generalize World.alloc _ _ = w5 at J2 q7 ⊢
    have q0 := J2.cells
    have hlk := HLK.out _ J2.1.1
    go_wp2_with fail
    go_ret
    exact ⟨rfl, J2.1.1⟩
end Go.Proofs.Ytpnkbjdeiedhlaa
