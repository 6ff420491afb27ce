/- Divide, and the reference's: what they answer where a coding is not valid, or the players are out of range. -/
import Derived.Test.YtjncoableanmpaaLW
import Derived.Test.YtjncoableanmpaaQF
namespace Go.Proofs.Ytjncoableanmpaa
open Go.RowKit Go.Lib Go.Shelf

set_option maxRecDepth 100000 in
set_option maxHeartbeats 2000000 in
theorem divide_chk (A : Option Addr) (n c : Nat) (l : List Cd) (pl : Int) (w : World) (hl : ReadsC w A n l) (hk : ¬ chk l = 0) :
    Gives 21 #[.slice A n c, .int .i64 pl] (.tuple #[.slice none 0 0, .agg #[.int .i64 0, .int .i64 0], .int .i64 (chk l)]) w := by
  unfold Gives
  have I : Held (w.alloc (.cells [Value.int .i64 0, .int .i64 0].toArray 24)) (fun W => (Below w.heap.size w W ∧ ReadsC W A n l) ∧ Blk W w.heap.size [Value.int .i64 0, .int .i64 0]) :=
    ((Held.from (Below.refl _ _) (Nat.le_refl _)).with (.readsC hl)).allocB [Value.int .i64 0, .int .i64 0] 24
  have C1 : ∀ W, ReadsC W A n l → Gives 15 #[.slice A n c] (.int .i64 (chk l)) W := fun W h => check_calls A n c l W h
  have HC1 := Lib.hid C1
  have hne : (chk l == 0) = false := beq_eq_false_iff_ne.2 hk
  generalize chk l = e at hne HC1 hk
  clear hl C1
  go_enter Try.func21, Try.ntmps21
  go_wp2_with fail
  generalize World.alloc _ _ = w1 at I ⊢
  go_wp2_with (go_at_call 15; (with_reducible refine (Gives.c (HC1.out _ I.now.1.2)).mono ?_); rintro e' w2 ⟨rfl, hb⟩; replace I := I.next hb; clear hb; have q5 := I.now.2.two; have f5 := I.now.2.free2; have z5 := I.now.2.lt)
  have k2 := (I.now.2.put2 (.int .i64 0) (.int .i64 0)).two
  have kb := below2 I.now.1.1 (Nat.le_refl w.heap.size) (.int .i64 0) (.int .i64 0)
  generalize World.setCell _ _ _ = wf at k2 kb ⊢
  refine bodyPost_ret (v := .tuple #[.slice none 0 0, .agg #[.int .i64 0, .int .i64 0], .int .i64 e]) (by simp [results, Try.results21, go_sem, k2]) rfl ⟨rfl, kb⟩

set_option maxRecDepth 100000 in
set_option maxHeartbeats 2000000 in
theorem divide_rng (A : Option Addr) (n c : Nat) (l : List Cd) (pl : Int) (w : World) (hl : ReadsC w A n l) (hk : chk l = 0) (hp : ¬ (1 ≤ pl ∧ pl ≤ (n : Int))) :
    Gives 21 #[.slice A n c, .int .i64 pl] (.tuple #[.slice none 0 0, .agg #[.int .i64 0, .int .i64 0], .int .i64 3]) w := by
  unfold Gives
  have I : Held (w.alloc (.cells [Value.int .i64 0, .int .i64 0].toArray 24)) (fun W => (Below w.heap.size w W ∧ ReadsC W A n l) ∧ Blk W w.heap.size [Value.int .i64 0, .int .i64 0]) :=
    ((Held.from (Below.refl _ _) (Nat.le_refl _)).with (.readsC hl)).allocB [Value.int .i64 0, .int .i64 0] 24
  have C1 : ∀ W, ReadsC W A n l → Gives 15 #[.slice A n c] (.int .i64 (chk l)) W := fun W h => check_calls A n c l W h
  rw [hk] at C1
  have HC1 := Lib.hid C1
  have hB : ∀ lo n hi W, Quiet 42 #[.int .i64 lo, .int .i64 n, .int .i64 hi] (.bool (btw lo n hi)) W := between_calls
  have HBT := Lib.hid hB
  have d1 : btw 1 pl (n : Int) = false := btw_no hp
  clear hl C1 hB hk hp
  go_enter Try.func21, Try.ntmps21
  go_wp2_with fail
  generalize World.alloc _ _ = w1 at I ⊢
  go_wp2_with (first
    | (go_at_call 15; (with_reducible refine (Gives.c (HC1.out _ I.now.1.2)).mono ?_); rintro e' w2 ⟨rfl, hb⟩; replace I := I.next hb; clear hb; have q5 := I.now.2.two; have f5 := I.now.2.free2; have z5 := I.now.2.lt)
    | (go_at_call 42; (with_reducible refine (Quiet.c (HBT.out _ _ _ _)).mono ?_); rintro e w3 ⟨rfl, rfl⟩))
  have k2 := (I.now.2.put2 (.int .i64 0) (.int .i64 0)).two
  have kb := below2 I.now.1.1 (Nat.le_refl w.heap.size) (.int .i64 0) (.int .i64 0)
  generalize World.setCell _ _ _ = wf at k2 kb ⊢
  refine bodyPost_ret (v := .tuple #[.slice none 0 0, .agg #[.int .i64 0, .int .i64 0], .int .i64 3]) (by simp [results, Try.results21, go_sem, k2]) rfl ⟨rfl, kb⟩

set_option maxRecDepth 100000 in
set_option maxHeartbeats 2000000 in
theorem rdivide_chk (A : Option Addr) (n c : Nat) (l : List Cd) (pl : Int) (w : World) (hl : ReadsC w A n l) (hcap : n ≤ c) (hk : ¬ chk l = 0) :
    Gives 22 #[.slice A n c, .int .i64 pl] (.tuple #[.slice none 0 0, .agg #[.int .i64 0, .int .i64 0], .int .i64 (chk l)]) w := by
  unfold Gives
  have I : Held (w.alloc (.cells [Value.int .i64 0, .int .i64 0].toArray 24)) (fun W => (Below w.heap.size w W ∧ ReadsC W A n l) ∧ Blk W w.heap.size [Value.int .i64 0, .int .i64 0]) :=
    ((Held.from (Below.refl _ _) (Nat.le_refl _)).with (.readsC hl)).allocB [Value.int .i64 0, .int .i64 0] 24
  have C1 : ∀ W, ReadsC W A n l → Gives 16 #[.slice A n c] (.int .i64 (chk l)) W := fun W h => rcheck_calls A n c l W h hcap
  have HC1 := Lib.hid C1
  have hne : (chk l == 0) = false := beq_eq_false_iff_ne.2 hk
  generalize chk l = e at hne HC1 hk
  clear hl C1 hcap
  go_enter Try.func22, Try.ntmps22
  go_wp2_with fail
  generalize World.alloc _ _ = w1 at I ⊢
  go_wp2_with (go_at_call 16; (with_reducible refine (Gives.c (HC1.out _ I.now.1.2)).mono ?_); rintro e' w2 ⟨rfl, hb⟩; replace I := I.next hb; clear hb; have q5 := I.now.2.two; have f5 := I.now.2.free2; have z5 := I.now.2.lt)
  have k2 := (I.now.2.put2 (.int .i64 0) (.int .i64 0)).two
  have kb := below2 I.now.1.1 (Nat.le_refl w.heap.size) (.int .i64 0) (.int .i64 0)
  generalize World.setCell _ _ _ = wf at k2 kb ⊢
  refine bodyPost_ret (v := .tuple #[.slice none 0 0, .agg #[.int .i64 0, .int .i64 0], .int .i64 e]) (by simp [results, Try.results22, go_sem, k2]) rfl ⟨rfl, kb⟩

set_option maxRecDepth 100000 in
set_option maxHeartbeats 2000000 in
theorem rdivide_rng (A : Option Addr) (n c : Nat) (l : List Cd) (pl : Int) (w : World) (hl : ReadsC w A n l) (hcap : n ≤ c) (hk : chk l = 0) (hp : ¬ (1 ≤ pl ∧ pl ≤ (n : Int))) :
    Gives 22 #[.slice A n c, .int .i64 pl] (.tuple #[.slice none 0 0, .agg #[.int .i64 0, .int .i64 0], .int .i64 3]) w := by
  unfold Gives
  have I : Held (w.alloc (.cells [Value.int .i64 0, .int .i64 0].toArray 24)) (fun W => (Below w.heap.size w W ∧ ReadsC W A n l) ∧ Blk W w.heap.size [Value.int .i64 0, .int .i64 0]) :=
    ((Held.from (Below.refl _ _) (Nat.le_refl _)).with (.readsC hl)).allocB [Value.int .i64 0, .int .i64 0] 24
  have C1 : ∀ W, ReadsC W A n l → Gives 16 #[.slice A n c] (.int .i64 (chk l)) W := fun W h => rcheck_calls A n c l W h hcap
  rw [hk] at C1
  have HC1 := Lib.hid C1
  have hB : ∀ n lo hi W, Quiet 43 #[.int .i64 n, .int .i64 lo, .int .i64 hi] (.bool (btw lo n hi)) W := is_calls
  have HBT := Lib.hid hB
  have d1 : btw 1 pl (n : Int) = false := btw_no hp
  clear hl C1 hB hk hp hcap
  go_enter Try.func22, Try.ntmps22
  go_wp2_with fail
  generalize World.alloc _ _ = w1 at I ⊢
  go_wp2_with (first
    | (go_at_call 16; (with_reducible refine (Gives.c (HC1.out _ I.now.1.2)).mono ?_); rintro e' w2 ⟨rfl, hb⟩; replace I := I.next hb; clear hb; have q5 := I.now.2.two; have f5 := I.now.2.free2; have z5 := I.now.2.lt)
    | (go_at_call 43; (with_reducible refine (Quiet.c (HBT.out _ _ _ _)).mono ?_); rintro e w3 ⟨rfl, rfl⟩))
  have k2 := (I.now.2.put2 (.int .i64 0) (.int .i64 0)).two
  have kb := below2 I.now.1.1 (Nat.le_refl w.heap.size) (.int .i64 0) (.int .i64 0)
  generalize World.setCell _ _ _ = wf at k2 kb ⊢
  refine bodyPost_ret (v := .tuple #[.slice none 0 0, .agg #[.int .i64 0, .int .i64 0], .int .i64 3]) (by simp [results, Try.results22, go_sem, k2]) rfl ⟨rfl, kb⟩

end Go.Proofs.Ytjncoableanmpaa
