/- TopCut: notes on steps of time that are cut for a spool play on these steps; with drift they are found within the error: the call returns true at every four numbers, rows of notes, offsets and growths. -/
import Derived.Test.YtphbiaagmhhhbaaTJ
namespace Go.Proofs.Ytphbiaagmhhhbaa
open Go.ChangeShapes Go.WideShapes Go.ChangeAt Go.RowKit Go.Lib Go.Shelf
attribute [local go_sem] run_max3

def u8s (l : List Nat) : List Value := l.map fun (x : Nat) => Value.int .u8 (x : Int)
theorem u8s_at (l : List Nat) (j : Nat) (h : j < l.length) : (u8s l)[j]? = some (.int .u8 ((l[j]?.getD 0 : Nat) : Int)) := by
  simp [u8s, List.getElem?_map, List.getElem?_eq_getElem h]
theorem u8_at {l : List Nat} (h : ∀ x ∈ l, x ≤ 255) (j : Nat) : l[j]?.getD 0 ≤ 255 := by
  by_cases hj : j < l.length
  · rw [List.getElem?_eq_getElem hj]
    exact h _ (List.getElem_mem hj)
  · rw [List.getElem?_eq_none (by omega)]
    decide

theorem index22_0 (a b c d : Int) (w : World) : (Instr.index 22 (.agg #[.int .u8 a, .int .u8 b, .int .u8 c, .int .u8 d]) (.int .i64 0)).run Try.prog w = .ok (.int .u8 a) w := by
  unfold Instr.index
  simp [go_sem]
theorem index22_1 (a b c d : Int) (w : World) : (Instr.index 22 (.agg #[.int .u8 a, .int .u8 b, .int .u8 c, .int .u8 d]) (.int .i64 1)).run Try.prog w = .ok (.int .u8 b) w := by
  unfold Instr.index
  simp [go_sem]
theorem index22_2 (a b c d : Int) (w : World) : (Instr.index 22 (.agg #[.int .u8 a, .int .u8 b, .int .u8 c, .int .u8 d]) (.int .i64 2)).run Try.prog w = .ok (.int .u8 c) w := by
  unfold Instr.index
  simp [go_sem]
theorem index22_3 (a b c d : Int) (w : World) : (Instr.index 22 (.agg #[.int .u8 a, .int .u8 b, .int .u8 c, .int .u8 d]) (.int .i64 3)).run Try.prog w = .ok (.int .u8 d) w := by
  unfold Instr.index
  simp [go_sem]

section
variable (c t hi : Int) (K : Nat) (rs os gs : List Nat)
/-- The growth, the times, what is heard: of copy k. -/
def gOf (k : Nat) : Int := 2 + ((gs[k]?.getD 0 : Nat) : Int) % (hi - 2 + 1)
def tOf (k : Nat) : List Int := timesF (os[k]?.getD 0) K [rs[k * 4]?.getD 0, rs[k * 4 + 1]?.getD 0, rs[k * 4 + 2]?.getD 0, rs[k * 4 + 3]?.getD 0]
def lOf (k : Nat) : List Int := (tOf K rs os k).map (lateF c t hi (gOf hi gs k))
def tUp : Nat → List (List Int)
  | 0 => []
  | k + 1 => tUp k ++ [tOf K rs os k]
def lUp : Nat → List (List Int)
  | 0 => []
  | k + 1 => lUp k ++ [lOf c t hi K rs os gs k]
def farUp : Nat → Int
  | 0 => 0
  | k + 1 => farF c t hi (gOf hi gs k) (farUp k) (tOf K rs os k)
end

theorem info32 : (Try.prog.info? 32).map (fun i => (i.zero, i.size, i.bytes)) = some (some (.slice none 0 0), 1, 24) := by kernel_rfl
theorem tUp_length (K : Nat) (rs os : List Nat) : ∀ k : Nat, (tUp K rs os k).length = k
  | 0 => rfl
  | k + 1 => by rw [tUp, List.length_append, tUp_length K rs os k]; rfl
theorem lUp_length (c t hi : Int) (K : Nat) (rs os gs : List Nat) : ∀ k : Nat, (lUp c t hi K rs os gs k).length = k
  | 0 => rfl
  | k + 1 => by rw [lUp, List.length_append, lUp_length c t hi K rs os gs k]; rfl

theorem rowAt_two {a b : List Int} : rowAt [a, b] 0 = a ∧ rowAt [a, b] 1 = b := ⟨rfl, rfl⟩
theorem posns_of {l : List Int} (h : ∀ x ∈ l, 0 ≤ x ∧ x ≤ 1000000) : Posns l := fun j => by
  by_cases hj : j < l.length
  · rw [List.getElem?_eq_getElem hj]
    exact h _ (List.getElem_mem hj)
  · rw [List.getElem?_eq_none (by omega)]
    exact ⟨by decide, by decide⟩
section
variable {c t hi : Int} {K : Nat} {rs os gs : List Nat} (hs : Sound c t 2 hi) (hK : 5 ≤ K ∧ K ≤ 34)
include hs hK
theorem gOf_bd (k : Nat) : 2 ≤ gOf hi gs k ∧ gOf hi gs k ≤ hi := by
  have _u := hK
  have hh := hs.2.2.2.1
  have h1 := Int.emod_nonneg ((gs[k]?.getD 0 : Nat) : Int) (show hi - 2 + 1 ≠ 0 by omega)
  have h2 := Int.emod_lt_of_pos ((gs[k]?.getD 0 : Nat) : Int) (show 0 < hi - 2 + 1 by omega)
  unfold gOf
  omega
theorem tOf_bd (k : Nat) : ∀ x ∈ tOf K rs os k, 0 ≤ x ∧ x ≤ 679 ∧ x ≤ 1000 * t := fun x hx => by
  have h := times_mem hK.1 hK.2 hx
  have ht := hs.2.1.1
  omega
theorem lOf_bd (k : Nat) : ∀ y ∈ lOf c t hi K rs os gs k, 0 ≤ y ∧ y ≤ 679 := fun y hy => by
  obtain ⟨x, hx, rfl⟩ := List.mem_map.1 hy
  have hb := tOf_bd hs hK k x hx
  have hg := gOf_bd (gs := gs) hs hK k
  have := late_bd hs hg.1 hg.2 (x := x) ⟨hb.1, hb.2.2⟩
  omega
theorem copies_t : Copies (tUp K rs os 2) := fun j hj => by
  have : j = 0 ∨ j = 1 := by rw [tUp_length] at hj; omega
  rcases this with rfl | rfl
  · exact ⟨Nat.le_of_ble_eq_true rfl, Nat.le_of_ble_eq_true rfl, posns_of fun x hx => by have := tOf_bd (rs := rs) (os := os) hs hK 0 x hx; omega⟩
  · exact ⟨Nat.le_of_ble_eq_true rfl, Nat.le_of_ble_eq_true rfl, posns_of fun x hx => by have := tOf_bd (rs := rs) (os := os) hs hK 1 x hx; omega⟩
theorem copies_l : Copies (lUp c t hi K rs os gs 2) := fun j hj => by
  have : j = 0 ∨ j = 1 := by rw [lUp_length] at hj; omega
  rcases this with rfl | rfl
  · exact ⟨Nat.le_of_ble_eq_true rfl, Nat.le_of_ble_eq_true rfl, posns_of fun x hx => by have := lOf_bd (rs := rs) (os := os) (gs := gs) hs hK 0 x hx; omega⟩
  · exact ⟨Nat.le_of_ble_eq_true rfl, Nat.le_of_ble_eq_true rfl, posns_of fun x hx => by have := lOf_bd (rs := rs) (os := os) (gs := gs) hs hK 1 x hx; omega⟩
theorem steps_t : stepsF 0 (tUp K rs os 2) (K : Int) ((K : Int) + 1 - (K : Int)).toNat = [(K : Int)] := by
  have _u := hs
  refine stepsF_one ?_
  have e : stepOk 0 (tUp K rs os 2) (K : Int) (tUp K rs os 2).length = ((true && allowsF 0 (K : Int) (tOf K rs os 0)) && allowsF 0 (K : Int) (tOf K rs os 1)) := rfl
  rw [e]
  unfold tOf
  rw [allows_times hK.1 hK.2 (by simp), allows_times hK.1 hK.2 (by simp)]
  rfl
theorem steps_l : stepsF (farUp c t hi K rs os gs 2) (lUp c t hi K rs os gs 2) (K : Int) ((K : Int) + 1 - (K : Int)).toNat = [(K : Int)] := by
  have _u := hs
  refine stepsF_one ?_
  have e : stepOk (farUp c t hi K rs os gs 2) (lUp c t hi K rs os gs 2) (K : Int) (lUp c t hi K rs os gs 2).length = ((true && allowsF (farUp c t hi K rs os gs 2) (K : Int) (lOf c t hi K rs os gs 0)) && allowsF (farUp c t hi K rs os gs 2) (K : Int) (lOf c t hi K rs os gs 1)) := rfl
  have f1 := farF_ge (c := c) (t := t) (hi := hi) (g := gOf hi gs 0) (tOf K rs os 0) 0
  have f2 := farF_ge (c := c) (t := t) (hi := hi) (g := gOf hi gs 1) (tOf K rs os 1) (farUp c t hi K rs os gs 1)
  have e1 : farUp c t hi K rs os gs 1 = farF c t hi (gOf hi gs 0) 0 (tOf K rs os 0) := rfl
  have e2 : farUp c t hi K rs os gs 2 = farF c t hi (gOf hi gs 1) (farUp c t hi K rs os gs 1) (tOf K rs os 1) := rfl
  rw [← e1] at f1
  rw [← e2] at f2
  rw [e]
  unfold lOf
  have a1 : allowsF (farUp c t hi K rs os gs 2) (K : Int) ((tOf K rs os 0).map (lateF c t hi (gOf hi gs 0))) = true := allows_lates hK.1 hK.2 (by simp) (by omega) fun x hx => by have := f1.2 x hx; omega
  have a2 : allowsF (farUp c t hi K rs os gs 2) (K : Int) ((tOf K rs os 1).map (lateF c t hi (gOf hi gs 1))) = true := allows_lates hK.1 hK.2 (by simp) (by omega) fun x hx => f2.2 x hx
  rw [a1, a2]
  rfl
end
theorem farUp_nonneg {c t hi : Int} {K : Nat} {rs os gs : List Nat} : ∀ k : Nat, 0 ≤ farUp c t hi K rs os gs k
  | 0 => Int.le_refl _
  | k + 1 => Int.le_trans (farUp_nonneg k) (farF_ge (tOf K rs os k) _).1

section
variable {c t hi g : Int} (hs : Sound c t 2 hi) (h0 : 2 ≤ g) (h1 : g ≤ hi) {l : List Int} (hx : ∀ x ∈ l, 0 ≤ x ∧ x ≤ 1000 * t)
include hs h0 h1 hx
theorem placed_back : ∀ y ∈ l.map (plc c t g), placedF c t g y = 0 := fun y hy => by
  have _u := h1
  obtain ⟨x, hxl, rfl⟩ := List.mem_map.1 hy
  have hb := arr_back (c := c) (t := t) (g := g) hs.2.1.1 hs.2.1.2 (by omega) (hx x hxl).1 (hx x hxl).2
  have hp := plc_bd (c := c) (t := t) (g := g) hs.2.1.1 hs.2.1.2 hs.1.2 (by omega) (by have := hs.2.2.2.2; omega) (hx x hxl).1 (hx x hxl).2
  have := (hx x hxl).1
  unfold placedF
  rw [if_neg (by omega), if_neg (by omega)]
theorem placed_late : ∀ y ∈ l.map (plc c t g), placedF c t hi y = 0 := fun y hy => by
  obtain ⟨x, hxl, rfl⟩ := List.mem_map.1 hy
  have hb := late_bd hs h0 h1 (hx x hxl)
  have hp := plc_bd (c := c) (t := t) (g := g) hs.2.1.1 hs.2.1.2 hs.1.2 (by omega) (by have := hs.2.2.2.2; omega) (hx x hxl).1 (hx x hxl).2
  unfold lateF at hb
  unfold placedF
  rw [if_neg (by omega), if_neg (by omega)]
theorem map_back : (l.map (plc c t g)).map (arr c t g) = l := by
  have _u := h1
  rw [List.map_map]
  have h : l.map (arr c t g ∘ plc c t g) = l.map id := List.map_congr_left fun x hxl => arr_back hs.2.1.1 hs.2.1.2 (by omega) (hx x hxl).1 (hx x hxl).2
  rw [h, List.map_id]
end
theorem timed_all {t : Int} {l : List Int} (hx : ∀ x ∈ l, 0 ≤ x ∧ x ≤ 1000 * t) : ∀ x ∈ l, timedF t x = 0 := fun x h => if_pos (hx x h)
theorem map_late (c t hi g : Int) (l : List Int) : (l.map (plc c t g)).map (arr c t hi) = l.map (lateF c t hi g) := by
  rw [List.map_map]
  rfl
set_option maxRecDepth 1000000 in
set_option maxHeartbeats 8000000 in
theorem topcut_walk {core ticks grow every : Nat} {rs os gs : List Nat} (h1 : core ≤ 255) (h2 : ticks ≤ 255) (h3 : grow ≤ 255) (h4 : every ≤ 255) (hrs : rs.length = 8) (hos : os.length = 2) (hgs : gs.length = 2)
    (hr : ∀ x ∈ rs, x ≤ 255) (ho : ∀ x ∈ os, x ≤ 255) (hg : ∀ x ∈ gs, x ≤ 255) (w : World) :
    Gives 3 #[.int .u8 (core : Int), .int .u8 (ticks : Int), .int .u8 (grow : Int), .int .u8 (every : Int), .agg (u8s rs).toArray, .agg (u8s os).toArray, .agg (u8s gs).toArray] (.bool true) w := by
  unfold Gives
  obtain ⟨i0, hi0, hz0, hz1, hz2⟩ := info_parts info3
  obtain ⟨j0, hj0, hy0, hy1, hy2⟩ := info_parts info32
  have m1 : (ticks : Int).tmod 12 = ((ticks % 12 : Nat) : Int) := by rw [Int.tmod_eq_emod_of_nonneg (by omega)]; push_cast; rfl
  have m2 : (grow : Int).tmod 5 = ((grow % 5 : Nat) : Int) := by rw [Int.tmod_eq_emod_of_nonneg (by omega)]; push_cast; rfl
  have m3 : (every : Int).tmod 30 = ((every % 30 : Nat) : Int) := by rw [Int.tmod_eq_emod_of_nonneg (by omega)]; push_cast; rfl
  have b1 := Nat.mod_lt ticks (show 0 < 12 by omega)
  have b2 := Nat.mod_lt grow (show 0 < 5 by omega)
  have b3 := Nat.mod_lt every (show 0 < 30 by omega)
  generalize ticks % 12 = tk at m1 b1
  generalize grow % 5 = gk at m2 b2
  generalize every % 30 = ek at m3 b3
  have w1 : IntKind.i64.wrap (ticks : Int) = (ticks : Int) := i64_in (by omega) (by omega)
  have w2 : IntKind.i64.wrap (core : Int) = (core : Int) := i64_in (by omega) (by omega)
  have w3 : IntKind.i64.wrap (grow : Int) = (grow : Int) := i64_in (by omega) (by omega)
  have w4 : IntKind.i64.wrap (every : Int) = (every : Int) := i64_in (by omega) (by omega)
  obtain ⟨t, ht⟩ : ∃ t : Int, 1 + (tk : Int) = t := ⟨_, rfl⟩
  obtain ⟨c, hc⟩ : ∃ c : Int, t + (core : Int) = c := ⟨_, rfl⟩
  obtain ⟨hi, hh⟩ : ∃ hi : Int, 2 + (gk : Int) = hi := ⟨_, rfl⟩
  obtain ⟨K, hK⟩ : ∃ K : Nat, 5 + (ek : Int) = (K : Int) := ⟨5 + ek, by push_cast; rfl⟩
  have v1 : IntKind.i64.wrap t = t := i64_in (by omega) (by omega)
  have v2 : IntKind.i64.wrap c = c := i64_in (by omega) (by omega)
  have v3 : IntKind.i64.wrap hi = hi := i64_in (by omega) (by omega)
  have v4 : IntKind.i64.wrap (K : Int) = (K : Int) := i64_in (by omega) (by omega)
  have hs : Sound c t 2 hi := ⟨by omega, by omega, by omega, by omega, by omega⟩
  have hK5 : 5 ≤ K ∧ K ≤ 34 := by omega
  have hhb : 2 ≤ hi ∧ hi ≤ 6 := by omega
  have htb : 1 ≤ t ∧ t ≤ 12 := by omega
  have HS := Lib.hid hs
  have HRS := Lib.hid hrs
  have HOS := Lib.hid hos
  have HGS := Lib.hid hgs
  have HR := Lib.hid (u8_at hr)
  have HO := Lib.hid (u8_at ho)
  have HG := Lib.hid (u8_at hg)
  clear hs hrs hos hgs hr ho hg
  have I : TInv w ((((((w.alloc (.cells (u8s rs).toArray 23)).alloc (.cells (u8s os).toArray 24)).alloc (.cells (u8s gs).toArray 24)).alloc (.cells [Value.int .i64 c, .int .i64 t, .int .i64 2, .int .i64 hi].toArray 28)).alloc (.cells [Value.int .i64 0, .slice none 0 0].toArray 31)).alloc (.cells [Value.int .i64 0, .slice none 0 0].toArray 31)) (u8s rs) (u8s os) (u8s gs) [.int .i64 c, .int .i64 t, .int .i64 2, .int .i64 hi] (.slice none 0 0) (.slice none 0 0) [] [] (tUp K rs os 0) (lUp c t hi K rs os gs 0) :=
    ⟨by go_grown, by simp, ((((((Blk.new w _ 23).alloc _).alloc _).alloc _).alloc _).alloc _), ((((by simpa using Blk.new (w.alloc (.cells (u8s rs).toArray 23)) (u8s os) 24 : Blk _ (w.heap.size + 1) _).alloc _).alloc _).alloc _).alloc _,
      (((by simpa using Blk.new ((w.alloc (.cells (u8s rs).toArray 23)).alloc (.cells (u8s os).toArray 24)) (u8s gs) 24 : Blk _ (w.heap.size + 2) _).alloc _).alloc _).alloc _,
      ((by simpa using Blk.new (((w.alloc (.cells (u8s rs).toArray 23)).alloc (.cells (u8s os).toArray 24)).alloc (.cells (u8s gs).toArray 24)) [Value.int .i64 c, .int .i64 t, .int .i64 2, .int .i64 hi] 28 : Blk _ (w.heap.size + 3) _).alloc _).alloc _,
      (by simpa using Blk.new ((((w.alloc (.cells (u8s rs).toArray 23)).alloc (.cells (u8s os).toArray 24)).alloc (.cells (u8s gs).toArray 24)).alloc (.cells [Value.int .i64 c, .int .i64 t, .int .i64 2, .int .i64 hi].toArray 28)) [Value.int .i64 0, .slice none 0 0] 31 : Blk _ (w.heap.size + 4) _).alloc _,
      by simpa using Blk.new (((((w.alloc (.cells (u8s rs).toArray 23)).alloc (.cells (u8s os).toArray 24)).alloc (.cells (u8s gs).toArray 24)).alloc (.cells [Value.int .i64 c, .int .i64 t, .int .i64 2, .int .i64 hi].toArray 28)).alloc (.cells [Value.int .i64 0, .slice none 0 0].toArray 31)) [Value.int .i64 0, .slice none 0 0] 31,
      OwnsL.nil _ _ _, OwnsL.nil _ _ _, fun k hk => by simp [Value.ownBlock] at hk⟩
  go_enter Try.func3, Try.ntmps3
  go_upto_region 7 with fail
  generalize World.alloc _ _ = W0 at I ⊢
  have HH := Lib.hid (And.intro ht (And.intro hc (And.intro hh hK)))
  clear ht hc hh hK m1 m2 m3 w1 w2 w3 w4 v1 v2 v3 v4
  go_wp2_with fail
  go_loopw [19, 58] (fun far i wr => ∃ (k : Nat) (v1 v2 : Value) (x1 x2 : List Value), k ≤ 2 ∧ i = .int .i64 k ∧ far = .int .i64 (farUp c t hi K rs os gs k) ∧ Aside (TInv w wr (u8s rs) (u8s os) (u8s gs) [.int .i64 c, .int .i64 t, .int .i64 2, .int .i64 hi] v1 v2 x1 x2 (tUp K rs os k) (lUp c t hi K rs os gs k))) (fun _ i _ => 2 - (intOf i).toNat)
  case atStart => exact ⟨0, _, _, _, _, by omega, rfl, rfl, I⟩
  case round =>
    obtain ⟨k, v1, v2, x1, x2, hk, rfl, rfl, HI⟩ := hrel
    clear I
    have J := HI.out.held
    by_cases hlt : k < 2
    · have hlt' : (k : Int) < 2 := by omega
      have hw1 : IntKind.i64.wrap ((k : Int) + 1) = (k : Int) + 1 := i64_in (by omega) (by omega)
      -- the growth
      have q3 := J.now.spool.four
      have qg := J.now.gros.cell k _ (u8s_at gs k (by rw [HGS.out]; exact hlt))
      have hgb := HG.out k
      have hgo : gOf hi gs k = 2 + ((gs[k]?.getD 0 : Nat) : Int) % (hi - 2 + 1) := rfl
      generalize gs[k]?.getD 0 = g0 at qg hgb hgo
      have e0 : (hi - 2 + 1 == 0) = false := beq_eq_false_iff_ne.2 (by omega)
      have e0' : ¬ hi - 2 + 1 = 0 := by omega
      have e1 : IntKind.i64.wrap (hi - 2) = hi - 2 := i64_in (by omega) (by omega)
      have e2 : IntKind.i64.wrap (hi - 2 + 1) = hi - 2 + 1 := i64_in (by omega) (by omega)
      have e3 : IntKind.i64.wrap (g0 : Int) = (g0 : Int) := i64_in (by omega) (by omega)
      have e4 : (g0 : Int).tmod (hi - 2 + 1) = (g0 : Int) % (hi - 2 + 1) := Int.tmod_eq_emod_of_nonneg (by omega)
      have hm0 := Int.emod_nonneg (g0 : Int) e0'
      have hm1 := Int.emod_lt_of_pos (g0 : Int) (show 0 < hi - 2 + 1 by omega)
      generalize (g0 : Int) % (hi - 2 + 1) = gm at hgo e4 hm0 hm1
      have e5 : IntKind.i64.wrap gm = gm := i64_in (by omega) (by omega)
      have e6 : IntKind.i64.wrap (2 + gm) = 2 + gm := i64_in (by omega) (by omega)
      go_upto_region 10 with fail
      go_quiet (fail)
      replace J := J.next (below_drewN' (Below.refl _ _) nq)
      generalize World.drewN _ _ = wa at J ⊢
      rw [← hgo]
      have hgb1 : 2 ≤ gOf hi gs k ∧ gOf hi gs k ≤ hi := by rw [hgo]; omega
      generalize hgg : gOf hi gs k = gg at hgb1 ⊢
      have HGG := Lib.hid hgg
      clear hgg hgo q3 qg e0 e0' e1 e2 e3 e4 hm0 hm1 e5 e6 hgb
      -- the times
      have r0 := J.now.rows.cell (k * 4) _ (u8s_at rs (k * 4) (by rw [HRS.out]; omega))
      have r1 := J.now.rows.cell (k * 4 + 1) _ (u8s_at rs (k * 4 + 1) (by rw [HRS.out]; omega))
      have r2 := J.now.rows.cell (k * 4 + 2) _ (u8s_at rs (k * 4 + 2) (by rw [HRS.out]; omega))
      have r3 := J.now.rows.cell (k * 4 + 3) _ (u8s_at rs (k * 4 + 3) (by rw [HRS.out]; omega))
      have qo := J.now.offs.cell k _ (u8s_at os k (by rw [HOS.out]; exact hlt))
      have rb0 := HR.out (k * 4)
      have rb1 := HR.out (k * 4 + 1)
      have rb2 := HR.out (k * 4 + 2)
      have rb3 := HR.out (k * 4 + 3)
      have ob := HO.out k
      have hto : tOf K rs os k = timesF (os[k]?.getD 0) K [rs[k * 4]?.getD 0, rs[k * 4 + 1]?.getD 0, rs[k * 4 + 2]?.getD 0, rs[k * 4 + 3]?.getD 0] := rfl
      generalize rs[k * 4]?.getD 0 = a0 at r0 rb0 hto
      generalize rs[k * 4 + 1]?.getD 0 = a1 at r1 rb1 hto
      generalize rs[k * 4 + 2]?.getD 0 = a2 at r2 rb2 hto
      generalize rs[k * 4 + 3]?.getD 0 = a3 at r3 rb3 hto
      generalize os[k]?.getD 0 = o0 at qo ob hto
      have HTO := Lib.hid hto
      have QO := Lib.hid qo
      clear hto
      go_wp2_with fail
      have hl4 : (timesF o0 K [a0, a1, a2, a3]).length = 4 := rfl
      go_loopw [23, 81] (fun v i wr => ∃ m : Nat, m ≤ 4 ∧ i = .int .i64 m ∧ Aside (wr.ownsRow wa.heap.size 3 1 v m (nums ((timesF o0 K [a0, a1, a2, a3]).take m))) ∧ Aside (Below wa.heap.size wa wr)) (fun _ i _ => 4 - (intOf i).toNat)
      case atStart => exact ⟨0, by omega, rfl, World.ownsRow_nil _ _ _ _, Below.refl _ _⟩
      case round =>
        clear r0 r1 r2 r3 qo
        obtain ⟨m, hm, rfl, HOW, HB⟩ := hrel
        have JJ := J.next HB.out
        by_cases hlm : m < 4
        · have hlm' : (m : Int) < 4 := by omega
          have hwm : IntKind.i64.wrap ((m : Int) + 1) = (m : Int) + 1 := i64_in (by omega) (by omega)
          have qo : _ = some (Value.int .u8 (o0 : Int)) := (HB.out.cell (p := ⟨w.heap.size + 1, k, none⟩) J.now.offs.lt).trans QO.out
          have hz : ((K : Int) == 0) = false := beq_eq_false_iff_ne.2 (by omega)
          have hz' : ¬ K = 0 := by omega
          have hz'' : ¬ (K : Int) = 0 := by omega
          have f1 : IntKind.i64.wrap (o0 : Int) = (o0 : Int) := i64_in (by omega) (by omega)
          have f2 : (o0 : Int).tmod (K : Int) = ((o0 % K : Nat) : Int) := by rw [Int.tmod_eq_emod_of_nonneg (by omega)]; push_cast; rfl
          have f3 := Nat.mod_lt o0 (show 0 < K by omega)
          have hsn : nums ((timesF o0 K [a0, a1, a2, a3]).take (m + 1)) = nums ((timesF o0 K [a0, a1, a2, a3]).take m) ++ [Value.int .i64 ((timesF o0 K [a0, a1, a2, a3])[m]?.getD 0)] := by
            unfold nums
            rw [List.take_succ_eq_append_getElem (by rw [hl4]; exact hlm), List.map_append, List.getElem?_eq_getElem (by rw [hl4]; exact hlm)]
            rfl
          have HSN := Lib.hid hsn
          clear hsn
          have hm4 : m = 0 ∨ m = 1 ∨ m = 2 ∨ m = 3 := by omega
          rcases hm4 with rfl | rfl | rfl | rfl
          · have g1 : IntKind.i64.wrap (a0 : Int) = (a0 : Int) := i64_in (by omega) (by omega)
            have g2 : (a0 : Int).tmod 20 = ((a0 % 20 : Nat) : Int) := by rw [Int.tmod_eq_emod_of_nonneg (by omega)]; push_cast; rfl
            have g3 := Nat.mod_lt a0 (show 0 < 20 by omega)
            have hval := Lib.hid (show (timesF o0 K [a0, a1, a2, a3])[0]?.getD 0 = ((o0 % K : Nat) : Int) + (K : Int) * ((a0 % 20 : Nat) : Int) from rfl)
            have g4 := mul_bd (a := (K : Int)) (b := ((a0 % 20 : Nat) : Int)) (A := 34) (B := 19) (by omega) (by omega) (by omega) (by omega)
            have g5 : IntKind.i64.wrap ((K : Int) * ((a0 % 20 : Nat) : Int)) = (K : Int) * ((a0 % 20 : Nat) : Int) := i64_in (by omega) (by omega)
            have g6 : IntKind.i64.wrap (((o0 % K : Nat) : Int) + (K : Int) * ((a0 % 20 : Nat) : Int)) = ((o0 % K : Nat) : Int) + (K : Int) * ((a0 % 20 : Nat) : Int) := i64_in (by omega) (by omega)
            generalize o0 % K = om at f2 f3 g4 g5 g6 hval
            generalize a0 % 20 = am at g2 g3 g4 g5 g6 hval
            generalize hx : ((om : Int) + (K : Int) * (am : Int)) = x at g6 hval
            have hix := index22_0 a0 a1 a2 a3 wr
            have hO := HOW.out
            have hsz := HB.out.size
            clear hm hlm hlm' hwm
            go_wp2_with (first
              | (at_builtin; refine wpList_append_own _ rfl _ _ 32 rfl wa.heap.size 3 i0 (.int .i64 0) 1 8 Try.underlying32 hi0 hz0 hz1 hz2 rfl (by decide) _ _ _ rfl (hO.alloc _) ⟨wr.heap.size, 0, none⟩ 1 1 [.int .i64 x] rfl rfl (cell_one_new _ _ _) (by intro u hu; simp at hu; subst hu; rfl) ?c3 ?c4 ?c5 ?_))
            case c3 => unfold maxLen; omega
            case c4 => omega
            case c5 => simp; omega
            intro v' w7 hown' hgrow _
            have HO' := Lib.hid hown'
            have HB4 := Lib.hid ((HB.out.alloc HB.out.size _).grown hgrow (by simp; omega) (by intro j hj; exact own_base' hO j hj))
            clear hown' hgrow hO hx
            go_wp2
            go_roundw
            case measure => simp [intOf]
            case rel => exact ⟨1, by omega, rfl, (show Aside _ from by rw [HSN.out, hval.out]; exact HO'.out), HB4.out⟩
          · have g1 : IntKind.i64.wrap (a1 : Int) = (a1 : Int) := i64_in (by omega) (by omega)
            have g2 : (a1 : Int).tmod 20 = ((a1 % 20 : Nat) : Int) := by rw [Int.tmod_eq_emod_of_nonneg (by omega)]; push_cast; rfl
            have g3 := Nat.mod_lt a1 (show 0 < 20 by omega)
            have hval := Lib.hid (show (timesF o0 K [a0, a1, a2, a3])[1]?.getD 0 = ((o0 % K : Nat) : Int) + (K : Int) * ((a1 % 20 : Nat) : Int) from rfl)
            have g4 := mul_bd (a := (K : Int)) (b := ((a1 % 20 : Nat) : Int)) (A := 34) (B := 19) (by omega) (by omega) (by omega) (by omega)
            have g5 : IntKind.i64.wrap ((K : Int) * ((a1 % 20 : Nat) : Int)) = (K : Int) * ((a1 % 20 : Nat) : Int) := i64_in (by omega) (by omega)
            have g6 : IntKind.i64.wrap (((o0 % K : Nat) : Int) + (K : Int) * ((a1 % 20 : Nat) : Int)) = ((o0 % K : Nat) : Int) + (K : Int) * ((a1 % 20 : Nat) : Int) := i64_in (by omega) (by omega)
            generalize o0 % K = om at f2 f3 g4 g5 g6 hval
            generalize a1 % 20 = am at g2 g3 g4 g5 g6 hval
            generalize hx : ((om : Int) + (K : Int) * (am : Int)) = x at g6 hval
            have hix := index22_1 a0 a1 a2 a3 wr
            have hO := HOW.out
            have hsz := HB.out.size
            clear hm hlm hlm' hwm
            go_wp2_with (first
              | (at_builtin; refine wpList_append_own _ rfl _ _ 32 rfl wa.heap.size 3 i0 (.int .i64 0) 1 8 Try.underlying32 hi0 hz0 hz1 hz2 rfl (by decide) _ _ _ rfl (hO.alloc _) ⟨wr.heap.size, 0, none⟩ 1 1 [.int .i64 x] rfl rfl (cell_one_new _ _ _) (by intro u hu; simp at hu; subst hu; rfl) ?c3 ?c4 ?c5 ?_))
            case c3 => unfold maxLen; omega
            case c4 => omega
            case c5 => simp; omega
            intro v' w7 hown' hgrow _
            have HO' := Lib.hid hown'
            have HB4 := Lib.hid ((HB.out.alloc HB.out.size _).grown hgrow (by simp; omega) (by intro j hj; exact own_base' hO j hj))
            clear hown' hgrow hO hx
            go_wp2
            go_roundw
            case measure => simp [intOf]
            case rel => exact ⟨2, by omega, rfl, (show Aside _ from by rw [HSN.out, hval.out]; exact HO'.out), HB4.out⟩
          · have g1 : IntKind.i64.wrap (a2 : Int) = (a2 : Int) := i64_in (by omega) (by omega)
            have g2 : (a2 : Int).tmod 20 = ((a2 % 20 : Nat) : Int) := by rw [Int.tmod_eq_emod_of_nonneg (by omega)]; push_cast; rfl
            have g3 := Nat.mod_lt a2 (show 0 < 20 by omega)
            have hval := Lib.hid (show (timesF o0 K [a0, a1, a2, a3])[2]?.getD 0 = ((o0 % K : Nat) : Int) + (K : Int) * ((a2 % 20 : Nat) : Int) from rfl)
            have g4 := mul_bd (a := (K : Int)) (b := ((a2 % 20 : Nat) : Int)) (A := 34) (B := 19) (by omega) (by omega) (by omega) (by omega)
            have g5 : IntKind.i64.wrap ((K : Int) * ((a2 % 20 : Nat) : Int)) = (K : Int) * ((a2 % 20 : Nat) : Int) := i64_in (by omega) (by omega)
            have g6 : IntKind.i64.wrap (((o0 % K : Nat) : Int) + (K : Int) * ((a2 % 20 : Nat) : Int)) = ((o0 % K : Nat) : Int) + (K : Int) * ((a2 % 20 : Nat) : Int) := i64_in (by omega) (by omega)
            generalize o0 % K = om at f2 f3 g4 g5 g6 hval
            generalize a2 % 20 = am at g2 g3 g4 g5 g6 hval
            generalize hx : ((om : Int) + (K : Int) * (am : Int)) = x at g6 hval
            have hix := index22_2 a0 a1 a2 a3 wr
            have hO := HOW.out
            have hsz := HB.out.size
            clear hm hlm hlm' hwm
            go_wp2_with (first
              | (at_builtin; refine wpList_append_own _ rfl _ _ 32 rfl wa.heap.size 3 i0 (.int .i64 0) 1 8 Try.underlying32 hi0 hz0 hz1 hz2 rfl (by decide) _ _ _ rfl (hO.alloc _) ⟨wr.heap.size, 0, none⟩ 1 1 [.int .i64 x] rfl rfl (cell_one_new _ _ _) (by intro u hu; simp at hu; subst hu; rfl) ?c3 ?c4 ?c5 ?_))
            case c3 => unfold maxLen; omega
            case c4 => omega
            case c5 => simp; omega
            intro v' w7 hown' hgrow _
            have HO' := Lib.hid hown'
            have HB4 := Lib.hid ((HB.out.alloc HB.out.size _).grown hgrow (by simp; omega) (by intro j hj; exact own_base' hO j hj))
            clear hown' hgrow hO hx
            go_wp2
            go_roundw
            case measure => simp [intOf]
            case rel => exact ⟨3, by omega, rfl, (show Aside _ from by rw [HSN.out, hval.out]; exact HO'.out), HB4.out⟩
          · have g1 : IntKind.i64.wrap (a3 : Int) = (a3 : Int) := i64_in (by omega) (by omega)
            have g2 : (a3 : Int).tmod 20 = ((a3 % 20 : Nat) : Int) := by rw [Int.tmod_eq_emod_of_nonneg (by omega)]; push_cast; rfl
            have g3 := Nat.mod_lt a3 (show 0 < 20 by omega)
            have hval := Lib.hid (show (timesF o0 K [a0, a1, a2, a3])[3]?.getD 0 = ((o0 % K : Nat) : Int) + (K : Int) * ((a3 % 20 : Nat) : Int) from rfl)
            have g4 := mul_bd (a := (K : Int)) (b := ((a3 % 20 : Nat) : Int)) (A := 34) (B := 19) (by omega) (by omega) (by omega) (by omega)
            have g5 : IntKind.i64.wrap ((K : Int) * ((a3 % 20 : Nat) : Int)) = (K : Int) * ((a3 % 20 : Nat) : Int) := i64_in (by omega) (by omega)
            have g6 : IntKind.i64.wrap (((o0 % K : Nat) : Int) + (K : Int) * ((a3 % 20 : Nat) : Int)) = ((o0 % K : Nat) : Int) + (K : Int) * ((a3 % 20 : Nat) : Int) := i64_in (by omega) (by omega)
            generalize o0 % K = om at f2 f3 g4 g5 g6 hval
            generalize a3 % 20 = am at g2 g3 g4 g5 g6 hval
            generalize hx : ((om : Int) + (K : Int) * (am : Int)) = x at g6 hval
            have hix := index22_3 a0 a1 a2 a3 wr
            have hO := HOW.out
            have hsz := HB.out.size
            clear hm hlm hlm' hwm
            go_wp2_with (first
              | (at_builtin; refine wpList_append_own _ rfl _ _ 32 rfl wa.heap.size 3 i0 (.int .i64 0) 1 8 Try.underlying32 hi0 hz0 hz1 hz2 rfl (by decide) _ _ _ rfl (hO.alloc _) ⟨wr.heap.size, 0, none⟩ 1 1 [.int .i64 x] rfl rfl (cell_one_new _ _ _) (by intro u hu; simp at hu; subst hu; rfl) ?c3 ?c4 ?c5 ?_))
            case c3 => unfold maxLen; omega
            case c4 => omega
            case c5 => simp; omega
            intro v' w7 hown' hgrow _
            have HO' := Lib.hid hown'
            have HB4 := Lib.hid ((HB.out.alloc HB.out.size _).grown hgrow (by simp; omega) (by intro j hj; exact own_base' hO j hj))
            clear hown' hgrow hO hx
            go_wp2
            go_roundw
            case measure => simp [intOf]
            case rel => exact ⟨4, by omega, rfl, (show Aside _ from by rw [HSN.out, hval.out]; exact HO'.out), HB4.out⟩
        · obtain rfl : m = 4 := by omega
          have hO := HOW.out
          rw [← hl4, List.take_length, hl4] at hO
          obtain ⟨AT, cT, rfl, hRT, hNT⟩ := own_reads_new hO (by omega)
          rw [← HTO.out] at hRT
          replace JJ : Held wr _ := JJ.with (J.now.apart hRT (by omega) hNT).held
          clear hO hRT hNT HOW HB J hm
          have hgm := HGG.out
          have hTm : ∀ x ∈ tOf K rs os k, 0 ≤ x ∧ x ≤ 1000 * t := fun x hx => by
            rw [HTO.out] at hx
            have := times_mem (by omega) (by omega) hx
            omega
          have hT4 : (tOf K rs os k).length = 4 := by rw [HTO.out]; exact hl4
          have htu : tUp K rs os (k + 1) = tUp K rs os k ++ [tOf K rs os k] := rfl
          have hlu : lUp c t hi K rs os gs (k + 1) = lUp c t hi K rs os gs k ++ [(tOf K rs os k).map (lateF c t hi (gOf hi gs k))] := rfl
          have hfu : farUp c t hi K rs os gs (k + 1) = farF c t hi (gOf hi gs k) (farUp c t hi K rs os gs k) (tOf K rs os k) := rfl
          rw [hgm] at hlu hfu
          clear hgm HTO HGG
          generalize tOf K rs os k = TL at hTm hT4 htu hlu hfu JJ
          have HP0 := Lib.hid (timed_all hTm)
          have HP1 := Lib.hid (placed_back HS.out hgb1.1 hgb1.2 hTm)
          have HP2 := Lib.hid (placed_late HS.out hgb1.1 hgb1.2 hTm)
          have HB1 := Lib.hid (map_back HS.out hgb1.1 hgb1.2 hTm)
          have HTM := Lib.hid hTm
          have HT4 := Lib.hid hT4
          have HTU := Lib.hid htu
          have HLU := Lib.hid hlu
          have HFU := Lib.hid hfu
          clear hTm hT4 htu hlu hfu
          have q3 := JJ.now.1.spool.four
          go_upto_region 21 with (first
            | (go_at_call 17; (with_reducible refine (cut_new HS.out hgb1 (by omega) HP0.out _ JJ.now.2.r).mono ?_); intro e w2 hh; obtain ⟨⟨A1, n1, c1, rfl, hr1, hn1⟩, hb⟩ := hh; obtain rfl : 4 = n1 := (by have := hr1.1; rw [List.length_map, HT4.out] at this; exact this); replace JJ := (JJ.next hb).with (JJ.now.1.apart hr1 (by omega) hn1).held; clear hr1 hn1 hb q3; have q3 := JJ.now.1.1.spool.four)
            | (go_at_call 18; (with_reducible refine (play_new HS.out hgb1 (by omega) HP1.out _ JJ.now.2.r).mono ?_); intro e w3 hh; obtain ⟨⟨A2, n2, c2, rfl, hr2, hn2⟩, hb⟩ := hh; rw [HB1.out] at hr2; obtain rfl : 4 = n2 := (by have := hr2.1; rw [HT4.out] at this; exact this); replace JJ := (JJ.next hb).with (JJ.now.1.1.apart hr2 (by omega) hn2).held; clear hr2 hb q3 hn2; have q3 := JJ.now.1.1.1.spool.four; have q4 := JJ.now.1.1.1.x.two))
          have hO := JJ.now.1.1.1.o1.1
          have htl : (tUp K rs os k).length ≤ 2 := by rw [tUp_length]; omega
          have hsz := JJ.now.1.1.1.size
          obtain ⟨-, b2, o2, rfl, p1, p2, p3, p4⟩ := JJ.now.2
          go_wp2_with (first
            | (at_builtin; refine wpList_append_own_at _ rfl _ _ 29 rfl (w.heap.size + 6) 32 j0 (.slice none 0 0) 1 24 Try.underlying29 hj0 hy0 hy1 hy2 rfl (by decide) _ _ _ rfl (hO.alloc _) ⟨w3.heap.size, 0, none⟩ 1 1 [.slice (some ⟨b2, o2, none⟩) 4 c2] rfl rfl (cell_one_new _ _ _) (by intro u hu; simp at hu; subst hu; rfl) ?c3 ?c4 ?c5 ?_))
          case c3 => unfold maxLen; omega
          case c4 => omega
          case c5 => simp; omega
          intro v' w7 hown' hgrow _ hloc
          obtain ⟨g', cap', rfl⟩ := ownsRow_succ hown'
          rw [show w3.heap.size + 1 = (w3.alloc (.cells #[.slice (some ⟨b2, o2, none⟩) 4 c2] 32)).heap.size by simp] at hloc
          have hbA : Below w3.heap.size w3 (w3.alloc (.cells #[.slice (some ⟨b2, o2, none⟩) 4 c2] 32)) := (Below.refl _ _).alloc (Nat.le_refl _) _
          have JA := JJ.next hbA
          have hown2 : w7.ownsRow (w.heap.size + 6) 32 1 (.slice (some ⟨g', 0, none⟩) ((tUp K rs os k).length + 1) cap') ((tUp K rs os k).length + 1) (x1 ++ [.slice (some ⟨b2, o2, none⟩) TL.length c2]) := by rw [HT4.out]; exact hown'
          have JN := JA.now.1.1.1.addX hgrow hown2 hloc (by rw [HT4.out]; exact JA.now.2.r) p1 (by simp; omega) p3 p4
          rw [← HTU.out] at JN
          have K1 := (JA.now.1.1.2.step1 hgrow hloc (B := w.heap.size + 4) (by omega) 1 (.slice (some ⟨g', 0, none⟩) ((tUp K rs os k).length + 1) cap')).held
          have K2 := (JA.now.1.2.step1 hgrow hloc (B := w.heap.size + 4) (by omega) 1 (.slice (some ⟨g', 0, none⟩) ((tUp K rs os k).length + 1) cap')).held
          have K3 := (JA.now.2.step1 hgrow hloc (B := w.heap.size + 4) (by omega) 1 (.slice (some ⟨g', 0, none⟩) ((tUp K rs os k).length + 1) cap')).held
          have hx7 := JA.now.1.1.1.x.grown hgrow (own_ge JA.now.1.1.1.o1.1 (by omega))
          have q7 := hx7.two
          have f7 := hx7.free2
          have JM := (JN.held.with K1).with (K2.with K3)
          clear hown' hown2 hgrow hloc hO htl hsz JA JN K1 K2 K3 hx7 q3 q4 p1 p2 p3 p4 JJ hbA
          go_upto_region 22 with fail
          generalize World.setCell _ _ _ = wb at JM ⊢
          generalize (Value.slice (some ⟨g', 0, none⟩) ((tUp K rs os k).length + 1) cap') = u1 at JM
          clear HP0 HP1 HB1
          -- what is heard on the thickest paper
          have q3 := JM.now.1.1.spool.four
          go_wp2_with (first
            | (go_at_call 18; (with_reducible refine (play_new HS.out (And.intro hhb.1 (Int.le_refl _)) (by omega) HP2.out _ JM.now.2.1.r).mono ?_); intro e w8 hh; obtain ⟨⟨A3, n3, c3, rfl, hr3, hn3⟩, hb⟩ := hh; rw [map_late] at hr3; obtain rfl : 4 = n3 := (by have := hr3.1; rw [List.length_map, HT4.out] at this; exact this); replace JM := (JM.next hb).with (JM.now.1.1.apart hr3 (by omega) hn3).held; clear hr3 hb q3 hn3; have q3 := JM.now.1.1.1.spool.four))
          go_loopw [19, 153] (fun far i wr => ∃ m : Nat, m ≤ 4 ∧ i = .int .i64 m ∧ far = .int .i64 (farF c t hi gg (farUp c t hi K rs os gs k) (TL.take m)) ∧ Aside (Below w8.heap.size w8 wr)) (fun _ i _ => 4 - (intOf i).toNat)
          case atStart => exact ⟨0, by omega, rfl, rfl, Below.refl _ _⟩
          case round =>
            clear q3
            obtain ⟨m, hm, rfl, rfl, HB⟩ := hrel
            have JR := JM.next HB.out
            by_cases hlm : m < 4
            · have hlm' : (m : Int) < 4 := by omega
              have hwm : IntKind.i64.wrap ((m : Int) + 1) = (m : Int) + 1 := i64_in (by omega) (by omega)
              have q3 := JR.now.1.1.1.spool.four
              have hlT := HT4.out
              obtain ⟨bt, ot, rfl, hct⟩ := JR.now.1.1.2.r.2.2 (by omega)
              obtain ⟨bl, ol, rfl, hcl⟩ := JR.now.2.r.2.2 (by omega)
              obtain ⟨bp, op, ep, hcp⟩ := JR.now.1.2.2.r.2.2 (by omega)
              have hx := hct m hlm
              have hy := hcl m hlm
              have hp := hcp m hlm
              cases ep
              have hmem : TL[m]?.getD 0 ∈ TL := by rw [List.getElem?_eq_getElem (by omega)]; exact List.getElem_mem _
              have hym : (TL.map (lateF c t hi gg))[m]?.getD 0 = lateF c t hi gg (TL[m]?.getD 0) := by
                rw [List.getElem?_map, List.getElem?_eq_getElem (by omega)]
                rfl
              have hfs : farF c t hi gg (farUp c t hi K rs os gs k) (TL.take (m + 1)) = max (max (farF c t hi gg (farUp c t hi K rs os gs k) (TL.take m)) (TL[m]?.getD 0 - lateF c t hi gg (TL[m]?.getD 0))) (lateF c t hi gg (TL[m]?.getD 0) - TL[m]?.getD 0) := by
                rw [List.take_succ_eq_append_getElem (by omega), farF_snoc, List.getElem?_eq_getElem (by omega)]
                rfl
              have hbd := HTM.out _ hmem
              rw [hym] at hy
              generalize TL[m]?.getD 0 = x at hx hy hp hbd hfs
              have hlb := late_bd HS.out hgb1.1 hgb1.2 hbd
              obtain ⟨da, db, de, hdr, hcase⟩ := late_drift HS.out hgb1.1 hgb1.2 hbd
              generalize lateF c t hi gg x = y at hy hfs hlb hcase
              generalize farF c t hi gg (farUp c t hi K rs os gs k) (TL.take m) = F at hfs ⊢
              have HFS := Lib.hid hfs
              have HDR := Lib.hid hdr
              have y1 : IntKind.i64.wrap (x - y) = x - y := i64_in (by omega) (by omega)
              have y2 : IntKind.i64.wrap (y - x) = y - x := i64_in (by omega) (by omega)
              have y3 : decide (y < 0) = false := decide_eq_false (by omega)
              have zt := World.block_lt_of_cell? wr _ hx
              have zl := World.block_lt_of_cell? wr _ hy
              have zp := World.block_lt_of_cell? wr _ hp
              clear hct hcl hcp hym hmem hfs hdr hlT hbd
              rcases hcase with ⟨rfl, c1, c2⟩ | ⟨rfl, rfl, rfl⟩
              · have y4 : decide (y < da) = false := decide_eq_false (by omega)
                have y5 : decide (db < y) = false := decide_eq_false (by omega)
                go_upto_region 29 with (go_at_call 19; (with_reducible refine (Gives.c (Drift_calls HDR.out _)).mono ?_); rintro e w9 ⟨rfl, hb9⟩; have hB9 := hb9.alloc hb9.size (.cells #[.int .i64 da, .int .i64 db] 26); have hx9 := (hB9.cell (p := ⟨bt, ot + m, none⟩) zt).trans hx; have hy9 := (hB9.cell (p := ⟨bl, ol + m, none⟩) zl).trans hy; have hp9 := (hB9.cell (p := ⟨b2, o2 + m, none⟩) zp).trans hp; have q9 := (Blk.new w9 [.int .i64 da, .int .i64 db] 26).two; clear hb9 hx hy hp q3)
                go_quiet (fail)
                have hBq := below_drewN' hB9 nq
                have hx10 : ((w9.alloc (.cells #[.int .i64 da, .int .i64 db] 26)).drewN nq).cell? ⟨bt, ot + m, none⟩ = some (.int .i64 x) := hx9
                have hy10 : ((w9.alloc (.cells #[.int .i64 da, .int .i64 db] 26)).drewN nq).cell? ⟨bl, ol + m, none⟩ = some (.int .i64 y) := hy9
                clear hx9 hy9 hp9 q9 hB9
                generalize World.drewN _ _ = wz at hBq hx10 hy10 ⊢
                go_upto_region 31 with fail
                go_quiet (fail)
                go_wp2
                go_roundw
                case measure => simp [intOf]; omega
                case rel => exact ⟨m + 1, by omega, by go_num, (by rw [HFS.out]; congr 1; omega), HB.out.trans ((below_drewN' hBq _).mono HB.out.size)⟩
              · go_upto_region 29 with (go_at_call 19; (with_reducible refine (Gives.c (Drift_calls HDR.out _)).mono ?_); rintro e w9 ⟨rfl, hb9⟩; have hB9 := hb9.alloc hb9.size (.cells #[.int .i64 0, .int .i64 0] 26); have hx9 := (hB9.cell (p := ⟨bt, ot + m, none⟩) zt).trans hx; have hy9 := (hB9.cell (p := ⟨bl, ol + m, none⟩) zl).trans hy; have hp9 := (hB9.cell (p := ⟨b2, o2 + m, none⟩) zp).trans hp; have q9 := (Blk.new w9 [.int .i64 0, .int .i64 0] 26).two; clear hb9 hx hy hp q3)
                go_quiet (fail)
                have hBq := below_drewN' hB9 nq
                have hx10 : ((w9.alloc (.cells #[.int .i64 0, .int .i64 0] 26)).drewN nq).cell? ⟨bt, ot + m, none⟩ = some (.int .i64 x) := hx9
                have hy10 : ((w9.alloc (.cells #[.int .i64 0, .int .i64 0] 26)).drewN nq).cell? ⟨bl, ol + m, none⟩ = some (.int .i64 y) := hy9
                clear hx9 hy9 hp9 q9 hB9
                generalize World.drewN _ _ = wz at hBq hx10 hy10 ⊢
                go_upto_region 31 with fail
                go_quiet (fail)
                go_wp2
                go_roundw
                case measure => simp [intOf]; omega
                case rel => exact ⟨m + 1, by omega, by go_num, (by rw [HFS.out]; congr 1; omega), HB.out.trans ((below_drewN' hBq _).mono HB.out.size)⟩
            · obtain rfl : m = 4 := by omega
              have hft : farF c t hi gg (farUp c t hi K rs os gs k) (TL.take 4) = farUp c t hi K rs os gs (k + 1) := by
                rw [HFU.out]
                congr 1
                have h4 := HT4.out
                rw [← h4, List.take_length]
              rw [hft]
              have HFT := Lib.hid hft
              have JT := JR.now.1.1.1
              have hO := JT.o2.1
              have htl : (lUp c t hi K rs os gs k).length ≤ 2 := by rw [lUp_length]; omega
              have hsz := JT.size
              have q4 := JT.d.two
              obtain ⟨-, b3, o3, e3, p1, p2, p3, p4⟩ := JR.now.2
              subst e3
              clear hft hm hlm
              go_wp2_with (first
                | (at_builtin; refine wpList_append_own_at _ rfl _ _ 29 rfl (w.heap.size + 6) 32 j0 (.slice none 0 0) 1 24 Try.underlying29 hj0 hy0 hy1 hy2 rfl (by decide) _ _ _ rfl (hO.alloc _) ⟨wr.heap.size, 0, none⟩ 1 1 [.slice (some ⟨b3, o3, none⟩) 4 c3] rfl rfl (cell_one_new _ _ _) (by intro u hu; simp at hu; subst hu; rfl) ?c3 ?c4 ?c5 ?_))
              case c3 => unfold maxLen; omega
              case c4 => omega
              case c5 => simp; omega
              intro v'' w7 hown' hgrow _ hloc
              obtain ⟨g2, cap2, rfl⟩ := ownsRow_succ hown'
              rw [show wr.heap.size + 1 = (wr.alloc (.cells #[.slice (some ⟨b3, o3, none⟩) 4 c3] 32)).heap.size by simp] at hloc
              have hbA : Below wr.heap.size wr (wr.alloc (.cells #[.slice (some ⟨b3, o3, none⟩) 4 c3] 32)) := (Below.refl _ _).alloc (Nat.le_refl _) _
              have JA := JR.next hbA
              have hl4' : (TL.map (lateF c t hi gg)).length = 4 := by rw [List.length_map, HT4.out]
              have hown2 : w7.ownsRow (w.heap.size + 6) 32 1 (.slice (some ⟨g2, 0, none⟩) ((lUp c t hi K rs os gs k).length + 1) cap2) ((lUp c t hi K rs os gs k).length + 1) (x2 ++ [.slice (some ⟨b3, o3, none⟩) (TL.map (lateF c t hi gg)).length c3]) := by rw [hl4']; exact hown'
              have JN := JA.now.1.1.1.addD hgrow hown2 hloc (by rw [hl4']; exact JA.now.2.r) p1 (by simp; omega) p4 p3
              rw [← HLU.out] at JN
              have hx7 := JA.now.1.1.1.d.grown hgrow (own_ge JA.now.1.1.1.o2.1 (by omega))
              have q7 := hx7.two
              have f7 := hx7.free2
              have JN := Lib.hid JN
              clear hown' hown2 hgrow hloc hO htl hsz JA hx7 q4 p1 p2 p3 p4 hbA hl4' JT JR
              go_wp2
              go_roundw
              case measure => simp [intOf]; omega
              case rel => exact ⟨k + 1, _, _, _, _, by omega, by go_num, rfl, JN.out⟩
    · obtain rfl : k = 2 := by omega
      have hf0 := farUp_nonneg (c := c) (t := t) (hi := hi) (K := K) (rs := rs) (os := os) (gs := gs) 2
      have HS1 := Lib.hid (steps_t (rs := rs) (os := os) HS.out hK5)
      have HS2 := Lib.hid (steps_l (c := c) (t := t) (hi := hi) (rs := rs) (os := os) (gs := gs) HS.out hK5)
      have HC1 := Lib.hid (copies_t (rs := rs) (os := os) HS.out hK5)
      have HC2 := Lib.hid (copies_l (rs := rs) (os := os) (gs := gs) HS.out hK5)
      have hlt2 := tUp_length K rs os 2
      have hll2 := lUp_length c t hi K rs os gs 2
      generalize farUp c t hi K rs os gs 2 = F at hf0 HS2 ⊢
      generalize tUp K rs os 2 = LT at HS1 HC1 hlt2 HI
      generalize lUp c t hi K rs os gs 2 = LL at HS2 HC2 hll2 HI J
      have JX := HI.out
      clear J HI
      obtain ⟨A1, ca1, rfl, hR1⟩ := JX.o1.reads
      obtain ⟨A2, ca2, rfl, hR2⟩ := JX.o2.reads
      rw [hlt2] at hR1 JX
      rw [hll2] at hR2 JX
      have HR1 := Lib.hid hR1
      have hll2' := hll2
      clear hR1 hR2 hlt2
      have J := JX.held
      have q1 := JX.x.two
      go_upto_region 38 with (go_at_call 20; (with_reducible refine (steps_calls (ls := LT) (And.intro (Int.le_refl 0) (by omega)) (And.intro (by omega) (by omega)) HC1.out (by omega) (Int.le_refl _) (by omega) _ HR1.out).mono ?_); intro e w9 hh; rw [HS1.out] at hh; obtain ⟨b, o, cc, rfl, hx, hb⟩ := list1_of hh; replace J := J.next hb; clear hb q1)
      clear hx
      by_cases h50 : 50 < F
      · have d50 : decide (50 < F) = true := decide_eq_true h50
        go_wp2_with (go_at_call 21; (with_reducible refine (Gives.c (cutWorks_calls _)).mono ?_); rintro e w10 ⟨rfl, hb⟩; replace J := J.next hb)
        go_ret
        exact ⟨rfl, J.now.below⟩
      · have d50 : decide (50 < F) = false := decide_eq_false h50
        obtain ⟨k1, k2, k3⟩ := J.now.off (.int .i64 F)
        obtain ⟨A3, ca3, e3, hR3⟩ := k3.reads
        rw [hll2'] at e3 hR3
        cases e3
        have qd := J.now.d.two
        have fd := J.now.d.free2
        have J3 := (Held.from k1 (by have := J.now.size; simp; omega)).with (.blk k2)
        have HR3 := Lib.hid hR3
        clear k1 k2 k3 hR3
        go_upto_region 41 with fail
        generalize World.setCell _ _ _ = wf at J3 HR3 ⊢
        clear qd fd J
        have q3 := J3.now.2.two
        go_wp2_with (first
          | (go_at_call 20; (with_reducible refine (steps_calls (ls := LL) (And.intro hf0 (by omega)) (And.intro (by omega) (by omega)) HC2.out (by omega) (Int.le_refl _) (by omega) _ HR3.out).mono ?_); intro e w11 hh; rw [HS2.out] at hh; obtain ⟨b2, o2, cc2, rfl, hx2, hb⟩ := list1_of hh; replace J3 := J3.next hb; clear hb q3)
          | (go_at_call 21; (with_reducible refine (Gives.c (cutWorks_calls _)).mono ?_); rintro e w12 ⟨rfl, hb⟩; replace J3 := J3.next hb))
        go_ret
        exact ⟨rfl, J3.now.1⟩

/-! ### The arguments. -/
section
variable {H : Type} {enc : TypeId × Value → H}
set_option maxRecDepth 100000 in
theorem two_arg {W : World} {base : Nat} {v : Value} {d : DataW H} {p : List MemPlace} (h : Value.okWide Try.prog W .any base 24 v) (hd : DataW.Trod enc Try.prog W 0 (fun _ => true) true 24 v d p) :
    ∃ a b : Nat, v = .agg #[.int .u8 (a : Int), .int .u8 (b : Int)] ∧ a ≤ 255 ∧ b ≤ 255 := by
  have h' : ∃ cs, v = .agg cs ∧ cs.size = Try.prog.cellsOf 24 ∧ Row.okWide Try.prog W .any base 24 cs := by
    unfold Value.okWide at h
    simpa only [Try.underlying24] using h
  obtain ⟨cs, rfl, hl, _⟩ := h'
  obtain ⟨fuel, hf⟩ := hd
  have h1 : Try.prog.cellsOf 5 = 1 := by kernel_rfl
  have h2 : Try.prog.cellsOf 24 = 2 := by kernel_rfl
  obtain ⟨ys, k, _, _, _, hy, ha⟩ := DataW.trod_array Try.underlying24 hf
  have a0 := ha 0 (by omega)
  have a1 := ha 1 (by omega)
  rw [List.getElem?_eq_getElem (by omega)] at a0 a1
  obtain ⟨x0, c0, r0⟩ := byte_of a0
  obtain ⟨x1, c1, r1⟩ := byte_of a1
  rw [h1] at c0 c1
  rw [h2] at hl
  obtain ⟨n0, rfl⟩ := Int.eq_ofNat_of_zero_le r0.1
  obtain ⟨n1, rfl⟩ := Int.eq_ofNat_of_zero_le r1.1
  refine ⟨n0, n1, ?_, by omega, by omega⟩
  have hc : (Value.agg cs).cells.toList = cs.toList := rfl
  rw [hc] at c0 c1
  have hl2 : cs.toList.length = 2 := by simpa using hl
  obtain ⟨l⟩ := cs
  match l, hl2 with
  | [z0, z1], _ =>
    simp at c0 c1
    subst c0 c1
    rfl

set_option maxRecDepth 100000 in
/-- Four bytes of an array. -/
theorem four_of {W : World} {fuel : Nat} {cs : List Value} {y : DataW H × List MemPlace} (h : DataW.trod enc Try.prog W 0 (fun _ => true) true fuel 22 cs = some y) (hl : cs.length = 4) : ∃ rs : List Nat, rs.length = 4 ∧ (∀ x ∈ rs, x ≤ 255) ∧ cs = u8s rs := by
  have h1 : Try.prog.cellsOf 5 = 1 := by kernel_rfl
  obtain ⟨ys, k, _, _, _, hy, ha⟩ := DataW.trod_array Try.underlying22 h
  have a0 := ha 0 (by omega)
  have a1 := ha 1 (by omega)
  have a2 := ha 2 (by omega)
  have a3 := ha 3 (by omega)
  rw [List.getElem?_eq_getElem (by omega)] at a0 a1 a2 a3
  obtain ⟨x0, c0, r0⟩ := byte_of a0
  obtain ⟨x1, c1, r1⟩ := byte_of a1
  obtain ⟨x2, c2, r2⟩ := byte_of a2
  obtain ⟨x3, c3, r3⟩ := byte_of a3
  rw [h1] at c0 c1 c2 c3
  obtain ⟨n0, rfl⟩ := Int.eq_ofNat_of_zero_le r0.1
  obtain ⟨n1, rfl⟩ := Int.eq_ofNat_of_zero_le r1.1
  obtain ⟨n2, rfl⟩ := Int.eq_ofNat_of_zero_le r2.1
  obtain ⟨n3, rfl⟩ := Int.eq_ofNat_of_zero_le r3.1
  refine ⟨[n0, n1, n2, n3], rfl, fun x hx => ?_, ?_⟩
  · simp only [List.mem_cons, List.not_mem_nil, or_false] at hx
    omega
  · match cs, hl with
    | [z0, z1, z2, z3], _ =>
      simp at c0 c1 c2 c3
      subst c0 c1 c2 c3
      rfl
set_option maxRecDepth 100000 in
theorem rows_arg {W : World} {base : Nat} {v : Value} {d : DataW H} {p : List MemPlace} (h : Value.okWide Try.prog W .any base 23 v) (hd : DataW.Trod enc Try.prog W 0 (fun _ => true) true 23 v d p) :
    ∃ rs : List Nat, rs.length = 8 ∧ (∀ x ∈ rs, x ≤ 255) ∧ v = .agg (u8s rs).toArray := by
  have h' : ∃ cs, v = .agg cs ∧ cs.size = Try.prog.cellsOf 23 ∧ Row.okWide Try.prog W .any base 23 cs := by
    unfold Value.okWide at h
    simpa only [Try.underlying23] using h
  obtain ⟨cs, rfl, hl, _⟩ := h'
  obtain ⟨fuel, hf⟩ := hd
  have h4 : Try.prog.cellsOf 22 = 4 := by kernel_rfl
  have h8 : Try.prog.cellsOf 23 = 8 := by kernel_rfl
  obtain ⟨ys, k, _, _, _, hy, ha⟩ := DataW.trod_array Try.underlying23 hf
  have a0 := ha 0 (by omega)
  have a1 := ha 1 (by omega)
  rw [List.getElem?_eq_getElem (by omega), h4] at a0 a1
  rw [h8] at hl
  have hc : (Value.agg cs).cells.toList = cs.toList := rfl
  rw [hc] at a0 a1
  have hl8 : cs.toList.length = 8 := by simpa using hl
  obtain ⟨r0, k0, m0, e0⟩ := four_of a0 (by simp; omega)
  obtain ⟨r1, k1, m1, e1⟩ := four_of a1 (by simp; omega)
  refine ⟨r0 ++ r1, by simp [k0, k1], fun x hx => ?_, ?_⟩
  · rcases List.mem_append.1 hx with hx | hx
    · exact m0 x hx
    · exact m1 x hx
  · have e : cs.toList = u8s (r0 ++ r1) := by
      have hs : u8s (r0 ++ r1) = u8s r0 ++ u8s r1 := by simp [u8s]
      rw [hs, ← e0, ← e1]
      simp only [Nat.zero_mul, Nat.one_mul, List.drop_zero]
      have ht : (cs.toList.drop 4).take 4 = cs.toList.drop 4 := List.take_of_length_le (by simp; omega)
      rw [ht, List.take_append_drop]
    rw [← e]
end

theorem top_own : ownKnob Try.prog.godebug = none := by kernel_rfl

set_option maxRecDepth 100000 in
theorem top_lifted (os : Os) (started : os.Started) (H : Type) (enc : TypeId × Value → H) :
    ReturnsInHanded {} Try.checked os 3 .any (Rows.topCutSpec.pre6 enc Try.prog Try.f3 Rows.topCutRow.domain false) (Rows.topCutSpec.post enc Try.prog Try.f3 false true false false) := by
  refine returnsInHanded_of_change (C := Try.checked) top_own started (by kernel_rfl) Try.func3
    (ChangeSpec.witness6 (enc := enc) (C := Try.checked) false ⟨#[], #[.int .u8 0, .int .u8 0, .int .u8 0, .int .u8 0, .agg #[.int .u8 0, .int .u8 0, .int .u8 0, .int .u8 0, .int .u8 0, .int .u8 0, .int .u8 0, .int .u8 0], .agg #[.int .u8 0, .int .u8 0], .agg #[.int .u8 0, .int .u8 0]], []⟩ 8 (by kernel_rfl) (by kernel_rfl) (by kernel_rfl) (by kernel_rfl)) ?_
  intro W base args ds gs before hval0 hW hcnd _
  have hval : ∀ (j : Nat) t v, Try.f3.params[j]? = some t → args[j]? = some v → Value.okWide Try.prog W .any base t v := hval0
  have hW' := hW
  obtain ⟨p, q, hA, hV, rfl, hfz, hnd⟩ := hW
  rw [Try.params3] at hA hval
  obtain ⟨v1, l1, d1, ds1, p1, q1, e1, rfl, rfl, h1, hA⟩ := trodAll_cons hA
  obtain ⟨v2, l2, d2, ds2, p2, q2, rfl, rfl, rfl, h2, hA⟩ := trodAll_cons hA
  obtain ⟨v3, l3, d3, ds3, p3, q3, rfl, rfl, rfl, h3, hA⟩ := trodAll_cons hA
  obtain ⟨v4, l4, d4, ds4, p4, q4, rfl, rfl, rfl, h4, hA⟩ := trodAll_cons hA
  obtain ⟨v5, l5, d5, ds5, p5, q5, rfl, rfl, rfl, h5, hA⟩ := trodAll_cons hA
  obtain ⟨v6, l6, d6, ds6, p6, q6, rfl, rfl, rfl, h6, hA⟩ := trodAll_cons hA
  obtain ⟨v7, l7, d7, ds7, p7, q7, rfl, rfl, rfl, h7, hA⟩ := trodAll_cons hA
  obtain ⟨rfl, rfl, rfl⟩ := trodAll_nil hA
  obtain ⟨rfl, rfl⟩ := trodVars_none hV
  obtain rfl : args = #[v1, v2, v3, v4, v5, v6, v7] := by cases args; simp_all
  obtain ⟨n1, rfl, b1⟩ := byte_arg (hval 0 5 v1 rfl rfl) h1
  obtain ⟨n2, rfl, b2⟩ := byte_arg (hval 1 5 v2 rfl rfl) h2
  obtain ⟨n3, rfl, b3⟩ := byte_arg (hval 2 5 v3 rfl rfl) h3
  obtain ⟨n4, rfl, b4⟩ := byte_arg (hval 3 5 v4 rfl rfl) h4
  obtain ⟨rs, hrl, hrs, rfl⟩ := rows_arg (hval 4 23 v5 rfl rfl) h5
  obtain ⟨o0, o1, rfl, ho0, ho1⟩ := two_arg (hval 5 24 v6 rfl rfl) h6
  obtain ⟨g0, g1, rfl, hg0, hg1⟩ := two_arg (hval 6 24 v7 rfl rfl) h7
  have ho : ∀ x ∈ [o0, o1], x ≤ 255 := fun x hx => by simp only [List.mem_cons, List.not_mem_nil, or_false] at hx; omega
  have hg : ∀ x ∈ [g0, g1], x ≤ 255 := fun x hx => by simp only [List.mem_cons, List.not_mem_nil, or_false] at hx; omega
  refine (Gives.c (topcut_walk (os := [o0, o1]) (gs := [g0, g1]) b1 b2 b3 b4 hrl rfl rfl hrs ho hg W)).mono fun e W' ⟨he, hb⟩ => ?_
  subst he
  exact ⟨_, rfl, post_true hW' rfl rfl rfl (by decide) hb⟩

theorem top_over : Rows.topCutRow.holds Try.pinned (OpenSpec.ofChange Rows.topCutSpec) :=
  OpenClaim.holds_of_wide 3 Try.f3 rfl rfl rfl rfl rfl rfl rfl ⟨rfl, rfl, rfl, rfl, rfl⟩ rfl rfl rfl rfl rfl (by kernel_rfl) Try.func3 (by kernel_rfl)
    (of_decide_eq_true (by kernel_rfl)) (by unfold Func.isWrapper; first | (rw [if_pos (by decide +kernel)]; kernel_rfl) | (rw [if_neg (by decide +kernel)]; exact ⟨rfl, rfl⟩))
    (fun os started H enc _ => top_lifted os started H enc)

/-- TopCut returns true. -/
theorem topCut_holds : Rows.TopCutSaid := top_over
#print axioms topCut_holds
end Go.Proofs.Ytphbiaagmhhhbaa
