/- The record of the examples; works. -/
import Derived.Test.YtpnkbjdeiedhlaaPB
import Derived.Test.YtpnkbjdeiedhlaaLV
namespace Go.Proofs.Ytpnkbjdeiedhlaa
open Go.RowKit Go.Lib Go.Shelf
open St

theorem readsK (w : World) (l : List Int) (t : TypeId) (hl : l.length ≤ 1000) : Reads (w.alloc (.cells (nums l).toArray t)) (some ⟨w.heap.size, 0, none⟩) l.length l := by
  have k := Blk.new w (nums l) t
  refine ⟨rfl, by omega, fun _ => ⟨_, 0, rfl, fun j hj => ?_⟩⟩
  rw [Nat.zero_add]
  exact k.cell j _ (nums_at hj)
theorem readsK1 (w : World) (a : Int) (t : TypeId) : Reads (w.alloc (.cells #[.int .i64 a] t)) (some ⟨w.heap.size, 0, none⟩) 1 [a] := readsK w [a] t (by simp)
theorem readsK2 (w : World) (a b : Int) (t : TypeId) : Reads (w.alloc (.cells #[.int .i64 a, .int .i64 b] t)) (some ⟨w.heap.size, 0, none⟩) 2 [a, b] := readsK w [a, b] t (by simp)
theorem readsK3 (w : World) (a b c : Int) (t : TypeId) : Reads (w.alloc (.cells #[.int .i64 a, .int .i64 b, .int .i64 c] t)) (some ⟨w.heap.size, 0, none⟩) 3 [a, b, c] := readsK w [a, b, c] t (by simp)
theorem Blk.reads2 {w : World} {B : Nat} {a b : Int} (h : Blk w B [.int .i64 a, .int .i64 b]) : Reads w (some ⟨B, 0, none⟩) 2 [a, b] := by
  refine ⟨rfl, by omega, fun _ => ⟨_, 0, rfl, fun j hj => ?_⟩⟩
  have : j = 0 ∨ j = 1 := by omega
  rcases this with rfl | rfl
  · exact h.cell 0 _ rfl
  · exact h.cell 1 _ rfl
/-- The tests of the examples. -/
def lX : List Tst := [⟨[0, 1], true⟩, ⟨[0, 2], true⟩]
set_option maxRecDepth 100000 in
theorem X_calls (w : World) : Calls Try.prog 46 #[] w fun e w' => ∃ A, e = .returned (rec 4 1 A 2 2) ∧ ReadsT w' A 2 lX ∧ Below w.heap.size w w' := by
  have I := (((((Held.from (w0 := w) (Below.refl w.heap.size w) (Nat.le_refl _)).allocB [Value.int .i64 4, .int .i64 1, .slice (some ⟨w.heap.size + 1 + 1 + 1, 0, none⟩) 2 2] 24).allocB [.int .i64 0, .int .i64 1] 3).allocB [.int .i64 0, .int .i64 2] 3).allocB [.slice (some ⟨w.heap.size + 1, 0, none⟩) 2 2, .bool true, .slice (some ⟨w.heap.size + 1 + 1, 0, none⟩) 2 2, .bool true] 66)
  simp only [World.size_alloc] at I
  go_enter Try.func46, Try.ntmps46
  go_wp2_with fail
  generalize World.alloc _ _ = wf at I ⊢
  have k0 := I.now.1.1.1.2.three
  have kt : ReadsT wf (some ⟨w.heap.size + 1 + 1 + 1, 0, none⟩) 2 lX := by
    have h4 := I.now.2
    have h2 := I.now.1.1.2.reads2
    have h3 := I.now.1.2.reads2
    refine ⟨rfl, by omega, fun _ => ⟨_, 0, rfl, fun j hj => ?_⟩⟩
    have : j = 0 ∨ j = 1 := by omega
    rcases this with rfl | rfl
    · exact ⟨⟨_, 2, 2, h4.cell 0 _ rfl, h2, by omega⟩, h4.cell 1 _ rfl⟩
    · exact ⟨⟨_, 2, 2, h4.cell 2 _ rfl, h3, by omega⟩, h4.cell 3 _ rfl⟩
  have kb := I.now.1.1.1.1
  clear I
  refine bodyPost_ret (v := rec 4 1 (some ⟨w.heap.size + 1 + 1 + 1, 0, none⟩) 2 2) (by simp [results, Try.results46, go_sem, k0]) rfl ⟨_, rfl, kt, kb⟩

/-! ### What the examples answer. -/
theorem wk_weight : WtF [2, 0] 2 = 6 ∧ WtE [2, 0] 2 = 0 := by decide +kernel
theorem wk_bound : askF bndF [8, 0] = 6 ∧ gchk [8, 0] = 0 := by decide +kernel
theorem wk_state : stL 1 (stK 1 lX 4) = [1, 2] ∧ rchk 4 1 lX = 0 := by decide +kernel
theorem wk_pos : posK 1 lX 4 = [0, 1, 2] := by decide +kernel
theorem wk_tab0 : tabF 0 3 = 8 := by decide +kernel
theorem wk_tab1 : tabF 1 3 = 2 := by decide +kernel
theorem wk_st : stK 1 lX 4 = ⟨0, 1, 2⟩ := by decide +kernel
theorem wk_nd : ndF ⟨0, 1, 2⟩ = 3 := by decide +kernel
theorem w_weight (W : World) : Gives 24 #[.slice (some ⟨W.heap.size, 0, none⟩) 2 2, .int .i64 2] (.tuple #[.int .i64 6, .int .i64 0]) (W.alloc (.cells #[.int .i64 2, .int .i64 0] 3)) := by
  have h := Weight_calls _ 2 2 _ 2 _ (readsK2 W 2 0 3)
  rw [wk_weight.1, wk_weight.2] at h
  unfold Gives at h ⊢
  exact h.mono fun e w' ⟨h1, h2⟩ => ⟨h1, h2⟩
theorem w_bound (W : World) : Gives 26 #[.slice (some ⟨W.heap.size, 0, none⟩) 2 2] (.tuple #[.int .i64 6, .int .i64 0]) (W.alloc (.cells #[.int .i64 8, .int .i64 0] 3)) := by
  have h := Bound_calls _ 2 2 _ _ (readsK2 W 8 0 3)
  rwa [wk_bound.1, wk_bound.2] at h
theorem w_state {A : Option Addr} {W : World} (h : ReadsT W A 2 lX) : Calls Try.prog 19 #[rec 4 1 A 2 2] W fun e w' => ∃ A' c', e = .returned (.tuple #[.slice A' 2 c', .int .i64 0]) ∧ Reads w' A' 2 [1, 2] ∧ Below W.heap.size W w' :=
  (State_good (N := 4) (L := 1) (by omega) (by omega) A 2 2 lX W h wk_state.2 (by omega)).mono fun e w' ⟨A', c', h1, h2, h3⟩ => ⟨A', c', h1, by rw [wk_state.1] at h2; exact h2, h3⟩
theorem w_pos {A : Option Addr} {W : World} (h : ReadsT W A 2 lX) : Calls Try.prog 17 #[rec 4 1 A 2 2] W fun e w' => ∃ A' m c', e = .returned (.tuple #[.slice A' m c', .int .i64 0]) ∧ Reads w' A' m [0, 1, 2] ∧ Below W.heap.size W w' :=
  (Possible_good (N := 4) (L := 1) (by omega) (by omega) A 2 2 lX W h wk_state.2 (by omega)).mono fun e w' ⟨A', m, c', h1, h2, h3⟩ => ⟨A', m, c', h1, by rw [wk_pos] at h2; exact h2, h3⟩
theorem w_tab0 (W : World) : Gives 34 #[.int .i64 0, .int .i64 3] (.tuple #[.int .i64 8, .int .i64 0]) W := by
  have h := Table_calls (L := 0) (S := 3) (by omega) (by omega) W
  rwa [wk_tab0] at h
theorem w_tab1 (W : World) : Gives 34 #[.int .i64 1, .int .i64 3] (.tuple #[.int .i64 2, .int .i64 0]) W := by
  have h := Table_calls (L := 1) (S := 3) (by omega) (by omega) W
  rwa [wk_tab1] at h
theorem w_num2 {A : Option Addr} {m c : Nat} {a b : Int} {W : World} (h : Reads W A m [a, b]) : Gives 21 #[.slice A m c, .slice (some ⟨W.heap.size, 0, none⟩) 2 2] (.bool true) (W.alloc (.cells #[.int .i64 a, .int .i64 b] 3)) := by
  have h := numbers_calls A _ m 2 c 2 [a, b] [a, b] _ (h.later ((Below.refl _ _).alloc (Nat.le_refl _) _)) (readsK2 W a b 3)
  rwa [decide_eq_true rfl] at h
theorem w_num3 {A : Option Addr} {m cp : Nat} {a b c : Int} {W : World} (h : Reads W A m [a, b, c]) : Gives 21 #[.slice A m cp, .slice (some ⟨W.heap.size, 0, none⟩) 3 3] (.bool true) (W.alloc (.cells #[.int .i64 a, .int .i64 b, .int .i64 c] 3)) := by
  have h := numbers_calls A _ m 3 cp 3 [a, b, c] [a, b, c] _ (h.later ((Below.refl _ _).alloc (Nat.le_refl _) _)) (readsK3 W a b c 3)
  rwa [decide_eq_true rfl] at h
theorem opE_ok {s : St} (h : 2 ≤ s.tubes) : opE s = 0 := by
  unfold opE
  rw [if_neg (by omega), if_neg (by omega)]
/-- What Next returns is accepted, and leaves one strip less. -/
theorem next_verified {N L : Nat} {l : List Tst} (ht : 2 ≤ (stK L l N).tubes) {x : St} (hx : x.Le (stK L l N)) (h : both (ndF (stK L l N) - 1) (stK L l N) x = true) :
    vfF N L l (chK L l x N).2 = (((ndF (stK L l N) - 1 : Nat) : Int), 0) ∧ leftF (stK L l N) x = ndF (stK L l N) - 1 ∧ 1 ≤ ndF (stK L l N) := by
  have h1 := left_good ht hx h
  obtain ⟨h2, h3⟩ := chosen_spec l hx
  have h0 : 1 ≤ ndF (stK L l N) := by
    rcases Nat.eq_zero_or_pos (ndF (stK L l N)) with e | e
    · have := (ndF_spec (stK L l N)).1
      rw [e] at this
      have : (stK L l N).tubes ≤ 1 := this
      omega
    · exact e
  refine ⟨?_, h1, h0⟩
  unfold vfF
  rw [if_neg (fun h => h (opE_ok ht)), if_neg (fun h => h (schk_iff.2 h3)), h2, h1, if_neg (by omega)]
theorem w_next {A : Option Addr} {W : World} (h : ReadsT W A 2 lX) : Calls Try.prog 30 #[rec 4 1 A 2 2] W fun e w' => ∃ A' m c' ts, e = .returned (.tuple #[.slice A' m c', .int .i64 2, .int .i64 0]) ∧ (Reads w' A' m ts ∧ vfF 4 1 lX ts = (2, 0)) ∧ Below W.heap.size W w' := by
  have ht : 2 ≤ (stK 1 lX 4).tubes := by rw [wk_st]; decide
  have h66 : ∀ X, ReadsT X A 2 lX → Gives 66 #[rec (4 : Nat) (1 : Nat) A 2 2] (.tuple #[(stK 1 lX 4).v, .int .i64 0]) X := fun X hX => by
    have := open_good (N := 4) (L := 1) (by omega) (by omega) A 2 2 lX X hX wk_state.2 (by omega)
    rwa [opE_ok ht] at this
  refine (Next_good (N := 4) (L := 1) (by omega) (by omega) A 2 2 lX W h (by omega) (stK 1 lX 4) ⟨ht, by rw [wk_st]; decide⟩ h66).mono ?_
  rintro e w' ⟨x, A', m, c', ⟨⟨h1, _⟩, h2⟩, h3, h4⟩
  obtain ⟨v1, v2, _⟩ := next_verified ht x.2 h1
  have hn : ndF (stK 1 lX 4) = 3 := by rw [wk_st]; exact wk_nd
  rw [hn] at v1 v2
  rw [v2] at h2
  exact ⟨A', m, c', _, h2, ⟨h3, v1⟩, h4⟩
theorem w_verify {A : Option Addr} {W : World} (h : ReadsT W A 2 lX) {B : Option Addr} {m c : Nat} {ts : List Int} (hr : Reads W B m ts) (hv : vfF 4 1 lX ts = (2, 0)) : Gives 32 #[rec 4 1 A 2 2, .slice B m c] (.tuple #[.int .i64 2, .int .i64 0]) W := by
  have h := Verify_good (N := 4) (L := 1) (by omega) (by omega) A 2 2 lX B m c ts W h wk_state.2 (by omega) hr
  rw [hv] at h
  exact h
theorem w_n1 {want a : Int} (h : gchk [a] = 0 ∧ askF ndF [a] = want) (W : World) : Gives 47 #[.int .i64 want, .slice (some ⟨W.heap.size, 0, none⟩) 1 1] (.bool true) (W.alloc (.cells #[.int .i64 a] 3)) :=
  needs_calls want _ 1 1 [a] _ (readsK1 W a 3) h.1 h.2
theorem w_n2 {want a b : Int} (h : gchk [a, b] = 0 ∧ askF ndF [a, b] = want) (W : World) : Gives 47 #[.int .i64 want, .slice (some ⟨W.heap.size, 0, none⟩) 2 2] (.bool true) (W.alloc (.cells #[.int .i64 a, .int .i64 b] 3)) :=
  needs_calls want _ 2 2 [a, b] _ (readsK2 W a b 3) h.1 h.2
theorem wn1 : gchk [8] = 0 ∧ askF ndF [8] = 3 := by decide +kernel
theorem wn2 : gchk [9] = 0 ∧ askF ndF [9] = 4 := by decide +kernel
theorem wn3 : gchk [1] = 0 ∧ askF ndF [1] = 0 := by decide +kernel
theorem wn4 : gchk [2, 0] = 0 ∧ askF ndF [2, 0] = 3 := by decide +kernel
theorem wn5 : gchk [0, 2] = 0 ∧ askF ndF [0, 2] = 1 := by decide +kernel
theorem wn6 : gchk [1, 1] = 0 ∧ askF ndF [1, 1] = 2 := by decide +kernel
theorem wn7 : gchk [8, 0] = 0 ∧ askF ndF [8, 0] = 6 := by decide +kernel
theorem wn8 : gchk [1, 2] = 0 ∧ askF ndF [1, 2] = 3 := by decide +kernel

set_option maxRecDepth 1000000 in
set_option maxHeartbeats 8000000 in
theorem works_calls (w : World) : Gives 15 #[] (.bool true) w := by
  unfold Gives
  have I : Held w (fun W => Below w.heap.size w W) := .from (Below.refl _ _) (Nat.le_refl _)
  go_enter Try.func15, Try.ntmps15
  go_upto_region 9 with (first
    | (go_at_call 24; (with_reducible refine (Gives.c (w_weight _)).mono ?_); rintro e w1 ⟨rfl, hb⟩; replace I := (I.alloc _).next hb; clear hb)
    | (go_at_call 26; (with_reducible refine (Gives.c (w_bound _)).mono ?_); rintro e w2 ⟨rfl, hb⟩; replace I := (I.alloc _).next hb; clear hb)
    | (go_at_call 46; (with_reducible refine (X_calls _).mono ?_); rintro e w3 ⟨xA, rfl, hr, hb⟩; replace I := I.next hb; clear hb)
    | (go_at_call 19; (with_reducible refine (w_state hr).mono ?_); rintro e w4 ⟨sA, sc, rfl, hs, hb⟩; replace I := (I.next hb).with (.reads hs); clear hb hs hr)
    | (go_at_call 17; (with_reducible refine (w_pos hr).mono ?_); rintro e w5 ⟨pA, pm, pc, rfl, hs, hb⟩; replace I := (I.next hb).with (.reads hs); clear hb hs hr)
    | (go_at_call 34; (with_reducible refine (Gives.c (w_tab0 _)).mono ?_); rintro e w6 ⟨rfl, hb⟩; replace I := I.next hb; clear hb)
    | (go_at_call 34; (with_reducible refine (Gives.c (w_tab1 _)).mono ?_); rintro e w7 ⟨rfl, hb⟩; replace I := I.next hb; clear hb)
    | (go_at_call 21; (with_reducible refine (Gives.c (w_num2 I.now.1.2)).mono ?_); rintro e w8 ⟨rfl, hb⟩; replace I := (I.alloc _).next hb; clear hb)
    | (go_at_call 21; (with_reducible refine (Gives.c (w_num3 I.now.2)).mono ?_); rintro e w9 ⟨rfl, hb⟩; replace I := (I.alloc _).next hb; clear hb))
  go_wp2_with (first
    | (go_at_call 46; (with_reducible refine (X_calls _).mono ?_); rintro e w3 ⟨xA, rfl, hr, hb⟩; replace I := I.next hb; clear hb)
    | (go_at_call 30; (with_reducible refine (w_next hr).mono ?_); rintro e w10 ⟨nA, nm, nc, ts, rfl, ⟨hs, hv⟩, hb⟩; replace I := (I.next hb).with (.reads hs); have HV := Lib.hid hv; clear hb hs hr hv)
    | (go_at_call 32; (with_reducible refine (Gives.c (w_verify hr I.now.2 HV.out)).mono ?_); rintro e w11 ⟨rfl, hb⟩; replace I := I.next hb; clear hb hr)
    | (go_at_call 47; (with_reducible refine (Gives.c (w_n1 wn1 _)).mono ?_); rintro e w12 ⟨rfl, hb⟩; replace I := (I.alloc _).next hb; clear hb)
    | (go_at_call 47; (with_reducible refine (Gives.c (w_n1 wn2 _)).mono ?_); rintro e w12 ⟨rfl, hb⟩; replace I := (I.alloc _).next hb; clear hb)
    | (go_at_call 47; (with_reducible refine (Gives.c (w_n1 wn3 _)).mono ?_); rintro e w12 ⟨rfl, hb⟩; replace I := (I.alloc _).next hb; clear hb)
    | (go_at_call 47; (with_reducible refine (Gives.c (w_n2 wn4 _)).mono ?_); rintro e w12 ⟨rfl, hb⟩; replace I := (I.alloc _).next hb; clear hb)
    | (go_at_call 47; (with_reducible refine (Gives.c (w_n2 wn5 _)).mono ?_); rintro e w12 ⟨rfl, hb⟩; replace I := (I.alloc _).next hb; clear hb)
    | (go_at_call 47; (with_reducible refine (Gives.c (w_n2 wn6 _)).mono ?_); rintro e w12 ⟨rfl, hb⟩; replace I := (I.alloc _).next hb; clear hb)
    | (go_at_call 47; (with_reducible refine (Gives.c (w_n2 wn7 _)).mono ?_); rintro e w12 ⟨rfl, hb⟩; replace I := (I.alloc _).next hb; clear hb)
    | (go_at_call 47; (with_reducible refine (Gives.c (w_n2 wn8 _)).mono ?_); rintro e w12 ⟨rfl, hb⟩; replace I := (I.alloc _).next hb; clear hb))
  go_ret
  exact ⟨rfl, I.now.1.1.1⟩
end Go.Proofs.Ytpnkbjdeiedhlaa
