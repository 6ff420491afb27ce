/- open: the state of a record, if the fault is open. -/
import Derived.Test.YtpnkbjdeiedhlaaLP
namespace Go.Proofs.Ytpnkbjdeiedhlaa
open Go.RowKit Go.Lib Go.Shelf
open St

theorem guard80 : Try.prog.eqGuardType Try.prog.depth 80 = false := by kernel_rfl
theorem run_eq80 (x0 x1 x2 y0 y1 y2 : Int) (w : World) : (Go.binOp .eql 80 (Value.agg #[.int .i64 x0, .int .i64 x1, .int .i64 x2]) (Value.agg #[.int .i64 y0, .int .i64 y1, .int .i64 y2])).run Try.prog w = .ok (.bool ((x0 == y0) && ((x1 == y1) && (x2 == y2)))) w := by
  obtain ⟨i0, hi, _, _, _⟩ := info_parts info3
  rw [run_eql_struct, show (10000 : Nat) = 9999 + 1 from rfl, run_equalIn_array w 9999 _ _ und80 hi]
  have hc : Try.prog.cellsOf 3 = 1 := by kernel_rfl
  rw [hc]
  simp only [Op.eqItems, List.range, List.range.loop]
  by_cases h0 : x0 = y0
  · by_cases h1 : x1 = y1
    · by_cases h2 : x2 = y2
      · simp [go_sem, h0, h1, h2]
      · simp [go_sem, h0, h1, h2]
    · simp [go_sem, h0, h1]
  · simp [go_sem, h0]
/-- The error of a state. -/
def opE (s : St) : Int := if s.tubes = 0 then 15 else if s.tubes = 1 then 23 else 0
set_option maxRecDepth 100000 in
set_option maxHeartbeats 4000000 in
theorem open_bad (N L : Int) (A : Option Addr) (n c : Nat) (l : List Tst) (w : World) (hl : ReadsT w A n l) (h : ¬ rchk N L l = 0) :
    Gives 66 #[rec N L A n c] (.tuple #[.agg #[.int .i64 0, .int .i64 0, .int .i64 0], .int .i64 (rchk N L l)]) w := by
  unfold Gives
  have I0 := ((Held.from (w0 := w) (Below.refl w.heap.size w) (Nat.le_refl _)).with (.readsT hl)).allocB [Value.int .i64 N, .int .i64 L, .slice A n c] 24
  have I := I0.allocB [Value.int .i64 0, .int .i64 0, .int .i64 0] 80
  simp only [World.size_alloc] at I
  have h22 : ∀ W, ReadsT W A n l → Gives 22 #[rec N L A n c] (.int .i64 (rchk N L l)) W := fun W h => check_calls N L A n c l W h
  generalize rchk N L l = e at h h22 ⊢
  have H22 := Lib.hid h22
  have hne : (e != 0) = true := by simp [h]
  clear hl h22 h I0
  go_enter Try.func66, Try.ntmps66
  go_wp2_with fail
  change Held ((w.alloc (.cells #[.int .i64 N, .int .i64 L, .slice A n c] 24)).alloc (.cells #[.int .i64 0, .int .i64 0, .int .i64 0] 80)) _ at I
  generalize World.alloc _ _ = w1 at I ⊢
  have q1 := I.now.1.2.three
  go_wp2_with (go_at_call 22; (with_reducible refine (Gives.c (H22.out _ I.now.1.1.2)).mono ?_); rintro e' w2 ⟨rfl, hb⟩; replace I := I.next hb; clear hb q1; have q2 := I.now.2.three; have f2 := I.now.2.free3; have z2 := I.now.2.lt)
  have k3 := (I.now.2.put3 (.int .i64 0) (.int .i64 0) (.int .i64 0)).three
  have kb := below3 I.now.1.1.1 (Nat.le_succ w.heap.size) (.int .i64 0) (.int .i64 0) (.int .i64 0)
  generalize World.setCell _ _ _ = wf at k3 kb ⊢
  refine bodyPost_ret (v := .tuple #[.agg #[.int .i64 0, .int .i64 0, .int .i64 0], .int .i64 e]) (by simp [results, Try.results66, go_sem, k3]) rfl ⟨rfl, kb⟩

set_option maxRecDepth 100000 in
set_option maxHeartbeats 4000000 in
theorem open_good {N L : Nat} (hN : N ≤ 16) (hL : L ≤ 2) (A : Option Addr) (n c : Nat) (l : List Tst) (w : World) (hl : ReadsT w A n l) (h : rchk N L l = 0) (hn : n ≤ 1000) :
    Gives 66 #[rec N L A n c] (.tuple #[(stK L l N).v, .int .i64 (opE (stK L l N))]) w := by
  unfold Gives
  have I0 := ((Held.from (w0 := w) (Below.refl w.heap.size w) (Nat.le_refl _)).with (.readsT hl)).allocB [Value.int .i64 (N : Int), .int .i64 (L : Int), .slice A n c] 24
  have I := I0.allocB [Value.int .i64 0, .int .i64 0, .int .i64 0] 80
  simp only [World.size_alloc] at I
  have h22 : ∀ W, ReadsT W A n l → Gives 22 #[rec N L A n c] (.int .i64 0) W := fun W h' => by rw [← h]; exact check_calls N L A n c l W h'
  have h50 : ∀ W, ReadsT W A n l → Gives 50 #[rec N L A n c] (stK L l N).v W := fun W h => state_calls hN hL A n c l W h hn
  have htb := stK_tubes L l N
  generalize stK L l N = s at h50 htb ⊢
  have h79 : ∀ W, Gives 79 #[s.v] (.int .i64 (s.tubes : Int)) W := fun W => tubes_calls (by omega) W
  have H22 := Lib.hid h22
  have H50 := Lib.hid h50
  have heq := run_eq80
  have hgt := guard80
  have hz : s.tubes = 0 ↔ (s.a = 0 ∧ s.b = 0 ∧ s.c = 0) := by unfold tubes; omega
  obtain ⟨E, hE⟩ : ∃ E, opE s = E := ⟨_, rfl⟩
  rw [hE]
  unfold opE at hE
  generalize s.tubes = T at h79 hz hE
  have H79 := Lib.hid h79
  have HZ := Lib.hid hz
  have HE := Lib.hid hE
  clear hl h22 h50 h79 h I0 htb hz hE
  go_enter Try.func66, Try.ntmps66
  go_wp2_with fail
  change Held ((w.alloc (.cells #[.int .i64 (N : Int), .int .i64 (L : Int), .slice A n c] 24)).alloc (.cells #[.int .i64 0, .int .i64 0, .int .i64 0] 80)) _ at I
  generalize World.alloc _ _ = w1 at I ⊢
  have q1 := I.now.1.2.three
  go_upto_region 4 with (go_at_call 22; (with_reducible refine (Gives.c (H22.out _ I.now.1.1.2)).mono ?_); rintro e' w2 ⟨rfl, hb⟩; replace I := I.next hb; clear hb q1; have q1 := I.now.1.2.three)
  go_upto_region 5 with (go_at_call 50; (with_reducible refine (Gives.c (H50.out _ I.now.1.1.2)).mono ?_); rintro e' w3 ⟨rfl, hb⟩; replace I := (I.next hb).allocB s.cs 80; clear hb q1)
  change Held (w3.alloc (.cells #[.int .i64 (s.a : Int), .int .i64 (s.b : Int), .int .i64 (s.c : Int)] 80)) _ at I
  generalize World.alloc _ _ = w4 at I ⊢
  have q5 := I.now.2.three
  have q2 := I.now.1.2.three
  have f2 := I.now.1.2.free3
  have z2 := I.now.1.2.lt
  go_cut [14] (fun s14 wx => s14 = .bool (decide (T = 0)) ∧ wx = w4)
  case first =>
    go_wp2_with fail
    go_meet
    refine ⟨?_, rfl⟩
    congr 1
    rw [Bool.eq_iff_iff]
    simp only [Bool.and_eq_true, beq_iff_eq, decide_eq_true_eq]
    have := HZ.out
    omega
  case rest =>
    obtain ⟨rfl, rfl⟩ := hcut
    clear heq hgt
    by_cases h0 : T = 0
    · simp only [h0, decide_true]
      have e15 : E = 15 := by rw [← HE.out, if_pos h0]
      subst e15
      clear HE HZ H79
      go_wp2_with fail
      have k3 := (I.now.1.2.put3 (.int .i64 (s.a : Int)) (.int .i64 (s.b : Int)) (.int .i64 (s.c : Int))).three
      have kb := below3 I.now.1.1.1.1 (Nat.le_succ w.heap.size) (.int .i64 (s.a : Int)) (.int .i64 (s.b : Int)) (.int .i64 (s.c : Int))
      generalize World.setCell _ _ _ = wf at k3 kb ⊢
      refine bodyPost_ret (v := .tuple #[s.v, .int .i64 15]) (by simp [results, Try.results66, go_sem, k3]) rfl ⟨rfl, kb⟩
    · by_cases h1 : T = 1
      · have e23 : E = 23 := by rw [← HE.out, if_neg h0, if_pos h1]
        subst e23
        subst h1
        simp only [show decide ((1 : Nat) = 0) = false from rfl]
        clear HE HZ
        go_wp2_with (go_at_call 79; (with_reducible refine (Gives.c (H79.out _)).mono ?_); rintro e' w5 ⟨rfl, hb⟩; replace I := I.next hb; clear hb q5 q2 f2 z2; have q5 := I.now.2.three; have q2 := I.now.1.2.three; have f2 := I.now.1.2.free3; have z2 := I.now.1.2.lt)
        have k3 := (I.now.1.2.put3 (.int .i64 (s.a : Int)) (.int .i64 (s.b : Int)) (.int .i64 (s.c : Int))).three
        have kb := below3 I.now.1.1.1.1 (Nat.le_succ w.heap.size) (.int .i64 (s.a : Int)) (.int .i64 (s.b : Int)) (.int .i64 (s.c : Int))
        generalize World.setCell _ _ _ = wf at k3 kb ⊢
        refine bodyPost_ret (v := .tuple #[s.v, .int .i64 23]) (by simp [results, Try.results66, go_sem, k3]) rfl ⟨rfl, kb⟩
      · have e0 : E = 0 := by rw [← HE.out, if_neg h0, if_neg h1]
        subst e0
        have hd : ((T : Int) == 1) = false := by simp; omega
        simp only [show decide (T = 0) = false from decide_eq_false h0]
        clear HE HZ h0 h1
        go_wp2_with (go_at_call 79; (with_reducible refine (Gives.c (H79.out _)).mono ?_); rintro e' w5 ⟨rfl, hb⟩; replace I := I.next hb; clear hb q5 q2 f2 z2; have q5 := I.now.2.three; have q2 := I.now.1.2.three; have f2 := I.now.1.2.free3; have z2 := I.now.1.2.lt)
        have k3 := (I.now.1.2.put3 (.int .i64 (s.a : Int)) (.int .i64 (s.b : Int)) (.int .i64 (s.c : Int))).three
        have kb := below3 I.now.1.1.1.1 (Nat.le_succ w.heap.size) (.int .i64 (s.a : Int)) (.int .i64 (s.b : Int)) (.int .i64 (s.c : Int))
        generalize World.setCell _ _ _ = wf at k3 kb ⊢
        refine bodyPost_ret (v := .tuple #[s.v, .int .i64 0]) (by simp [results, Try.results66, go_sem, k3]) rfl ⟨rfl, kb⟩
end Go.Proofs.Ytpnkbjdeiedhlaa
