/- The iterator over trios. -/
import Derived.Test.YtjncoableanmpaaLD
import Derived.RangeFuncNested
import Derived.RangeFuncBound
import Derived.RangeFuncCalls
import Derived.RangeFuncLeaves
import Derived.Shelf.Abstract
import Derived.Shelf.RegionOpen
import Derived.OwnWalkIn
import Derived.TacticsInMore
import Derived.LoopNIn
import Derived.LoopIn
import Derived.Sort.QuietIn
namespace Go.Proofs.Ytjncoableanmpaa
open Go.RowKit Go.Lib Go.Shelf
attribute [local go_sem] Oper.semAt_some

abbrev Tx (n : Nat) := { t : Trio // TrioOk n t }
/-- A trio in Go. -/
abbrev tv (t : Trio) : Value := .agg #[.int .i64 (t.1 : Int), .int .i64 (t.2.1 : Int), .int .i64 (t.2.2 : Int)]
def encT (n : Nat) (x : Tx n) : Array Value := #[tv x.1]

theorem all_calls (n : Int) (w : World) :
    Calls Try.prog 63 #[.int .i64 n] w fun e w' => e = .returned (.func (.func 68) #[] #[.pointer (some ⟨w.heap.size, 0, none⟩)]) ∧ w.alloc (.cells #[.int .i64 n] 3) = w' := by
  go_enter Try.func63, Try.ntmps63
  go_wp2
  go_ret
  exact ⟨rfl, rfl⟩

theorem triR_len (i j k : Nat) : (triR i j k).length ≤ k := by
  induction k with
  | zero => simp [triR]
  | succ k ih =>
    unfold triR
    split
    · simp; omega
    · simp
theorem triQ_len {n : Nat} (hn : n ≤ 24) (i j : Nat) : (triQ n i j).length ≤ 24 * j := by
  induction j with
  | zero => simp [triQ]
  | succ j ih =>
    unfold triQ
    split
    · have := triR_len i j n
      simp; omega
    · simp
theorem triP_len {n : Nat} (hn : n ≤ 24) (i : Nat) : (triP n i).length ≤ 600 * i := by
  induction i with
  | zero => simp [triP]
  | succ i ih =>
    unfold triP
    have := triQ_len hn i n
    simp; omega
theorem len_of_map {n : Nat} {pre : List (Tx n)} {l : List Trio} (h : pre.map (·.1) = l) : pre.length = l.length := by rw [← h, List.length_map]

/-- What a round keeps: all below n₀, and the block Bs. -/
def KpC (n₀ Bs : Nat) (W W' : World) : Prop := Below n₀ W W' ∧ W'.heap[Bs]? = W.heap[Bs]?
theorem KpC.refl (n₀ Bs : Nat) (W : World) : KpC n₀ Bs W W := ⟨Below.refl _ _, rfl⟩
theorem KpC.trans {n₀ Bs : Nat} {A B C : World} (h : KpC n₀ Bs A B) (k : KpC n₀ Bs B C) : KpC n₀ Bs A C := ⟨h.1.trans k.1, k.2.trans h.2⟩
theorem KpC.putObj {n₀ Bs : Nat} {w : World} (hn : n₀ ≤ w.heap.size) (hB : Bs < w.heap.size) (W : World) (l : Nat) (o o' : Obj) (hl : w.heap.size ≤ l) (h : W.heap[l]? = some o) (h1 : o.isCells = false) (h2 : o.isWalk = false) : KpC n₀ Bs W (W.putObj l o') :=
  ⟨belowK_b hn W l o o' hl h h1 h2, World.putObj_heap_other (by omega)⟩

set_option maxRecDepth 100000 in
set_option maxHeartbeats 2000000 in
theorem all1_in (m : Nat) (hm : 1 ≤ m) (r Bs n₀ n : Nat) (hreach : n ≤ 24) (J Jx : List (Tx n) → World → Prop)
    (hY : ∀ pre x W, J pre W → pre.length < 100000 → YieldAt Fence.wide (m - 1) Try.prog r (encT n x) W fun e W' =>
      (e = .returned (.bool true) ∧ J (pre ++ [x]) W' ∧ KpC n₀ Bs W W') ∨ (e = .returned (.bool false) ∧ Jx (pre ++ [x]) W'))
    (W : World) (hBs : W.cell? ⟨Bs, 0, none⟩ = some (.int .i64 (n : Int))) (h0 : J [] W) :
    CallsIn Fence.wide m Try.prog 68 #[.func (.yield r) #[] #[], .pointer (some ⟨Bs, 0, none⟩)] W fun e W' => (∃ v, e = .returned v) ∧
      ((∃ ys : List (Tx n), ys.map (·.1) = trios n ∧ J ys W') ∨ (∃ pre : List (Tx n), Jx pre W')) := by
  refine callsIn_of_wp Try.func68 rfl trivial ?_ rfl
  simp only [Try.ntmps68, List.size_toArray, List.length_cons, List.length_nil, Nat.reduceAdd, Nat.reduceSub, Array.replicate_succ, Array.replicate_zero, List.push_toArray, List.append_toArray, List.nil_append, List.cons_append]
  have HY := Lib.hid hY
  clear hY
  gi_wp2
  gi_loopw [7] (fun v wr => ∃ (i : Nat) (pre : List (Tx n)), i ≤ n ∧ v = .int .i64 i ∧ Aside (pre.map (·.1) = triP n i) ∧ Aside (J pre wr) ∧ Aside (KpC n₀ Bs W wr))
    (fun v _ => n - (intOf v).toNat)
  case atStart => exact ⟨0, [], Nat.zero_le _, rfl, rfl, h0, KpC.refl _ _ _⟩
  case round =>
    obtain ⟨i, pre, hi, rfl, HP, HJ, HK⟩ := hrel
    clear h0
    obtain ⟨wo, hwo⟩ : ∃ x, x = wr := ⟨_, rfl⟩
    subst hwo
    by_cases hlt : i < n
    · have hlt' : (i : Int) < (n : Int) := by omega
      obtain ⟨fn, tmps, assign, body, hy, hR⟩ := HY.out pre ⟨(i, i, i), hlt, .inl ⟨rfl, rfl⟩⟩ wo HJ.out (by have h1 := len_of_map HP.out; have h2 := triP_len hreach i; omega)
      have HR := Lib.hid hR
      clear hR
      have wi : IntKind.i64.wrap ((i : Int) + 1) = (i : Int) + 1 := i64_in (by omega) (by omega)
      unfold encT tv at hy
      dsimp only at hy
      gi_wp2
      refine HR.out.mono ?_
      rintro e W3 (⟨rfl, hJ3, hk3⟩ | ⟨rfl, hJx3⟩)
      · have HJ3 := Lib.hid hJ3
        have HK3 := Lib.hid (HK.out.trans hk3)
        have HP3 : Aside ((pre ++ [(⟨(i, i, i), hlt, .inl ⟨rfl, rfl⟩⟩ : Tx n)]).map (·.1) = triP n i ++ [(i, i, i)]) := (by rw [List.map_append, HP.out]; rfl)
        clear hJ3 hk3 HJ HK HP
        generalize pre ++ [(⟨(i, i, i), hlt, .inl ⟨rfl, rfl⟩⟩ : Tx n)] = pre3 at HJ3 HP3
        gi_wp2
        gi_loopw [4] (fun v wr => ∃ (j : Nat) (pre : List (Tx n)), i < j ∧ j ≤ n ∧ v = .int .i64 j ∧ Aside (pre.map (·.1) = triP n i ++ [(i, i, i)] ++ triQ n i j) ∧ Aside (J pre wr) ∧ Aside (KpC n₀ Bs W wr))
          (fun v _ => n - (intOf v).toNat)
        case atStart => 
          refine ⟨i + 1, pre3, by omega, by omega, by go_num, ?_, HJ3.out, HK3.out⟩
          show List.map (fun x => x.val) pre3 = _
          rw [HP3.out]
          simp [triQ]
        case round =>
          obtain ⟨j, pre, hij, hj, rfl, HP, HJ, HK⟩ := hrel
          clear HJ3 HK3 HP3
          obtain ⟨wj, hwj⟩ : ∃ x, x = wr := ⟨_, rfl⟩
          subst hwj
          have hB := (World.cell?_of_block (w := W) (a := ⟨Bs, 0, none⟩) HK.out.2).trans hBs
          by_cases hjn : j < n
          · have hjn' : (j : Int) < (n : Int) := by omega
            have wj1 : IntKind.i64.wrap ((j : Int) + 1) = (j : Int) + 1 := i64_in (by omega) (by omega)
            gi_wp2
            gi_loopw [5] (fun v wr => ∃ (k : Nat) (pre : List (Tx n)), j < k ∧ k ≤ n ∧ v = .int .i64 k ∧ Aside (pre.map (·.1) = triP n i ++ [(i, i, i)] ++ (triQ n i j ++ triR i j k)) ∧ Aside (J pre wr) ∧ Aside (KpC n₀ Bs W wr))
              (fun v _ => n - (intOf v).toNat)
            case atStart =>
              refine ⟨j + 1, pre, by omega, by omega, by go_num, ?_, HJ.out, HK.out⟩
              show List.map (fun x => x.val) pre = _
              rw [HP.out]
              simp [triR]
            case round =>
              obtain ⟨k, pre, hjk, hk, rfl, HP, HJ, HK⟩ := hrel
              obtain ⟨wk, hwk⟩ : ∃ x, x = wr := ⟨_, rfl⟩
              subst hwk
              clear hB
              have hB := (World.cell?_of_block (w := W) (a := ⟨Bs, 0, none⟩) HK.out.2).trans hBs
              by_cases hkn : k < n
              · have hkn' : (k : Int) < (n : Int) := by omega
                obtain ⟨fn, tmps, assign, body, hy, hR⟩ := HY.out pre ⟨(i, j, k), hkn, .inr ⟨hij, hjk⟩⟩ wk HJ.out (by have h1 := len_of_map HP.out; have h2 := triP_len hreach i; have h3 := triQ_len hreach i j; have h4 := triR_len i j k; simp at h1; omega)
                have HR := Lib.hid hR
                clear hR
                have wk1 : IntKind.i64.wrap ((k : Int) + 1) = (k : Int) + 1 := i64_in (by omega) (by omega)
                unfold encT tv at hy
                dsimp only at hy
                gi_wp2
                refine HR.out.mono ?_
                rintro e W3 (⟨rfl, hJ3, hk3⟩ | ⟨rfl, hJx3⟩)
                · have HJ3 := Lib.hid hJ3
                  have HK3 := Lib.hid (HK.out.trans hk3)
                  clear hJ3 hk3 HK
                  gi_wp2
                  go_roundw
                  case rel =>
                    refine ⟨k + 1, pre ++ [(⟨(i, j, k), hkn, .inr ⟨hij, hjk⟩⟩ : Tx n)], by omega, by omega, by go_num, ?_, HJ3.out, HK3.out⟩
                    show List.map (fun x => x.val) (pre ++ [(⟨(i, j, k), hkn, .inr ⟨hij, hjk⟩⟩ : Tx n)]) = _
                    rw [List.map_append, HP.out]
                    simp [triR, hjk]
                  case measure => simp [intOf]; omega
                · have HJx3 := Lib.hid hJx3
                  clear hJx3
                  gi_wp2
                  refine bodyPost_ret (results_none rfl _ _ _) rfl ?_
                  exact ⟨⟨_, rfl⟩, .inr ⟨_, HJx3.out⟩⟩
              · obtain rfl : k = n := by omega
                gi_wp2
                go_roundw
                case rel =>
                  refine ⟨j + 1, pre, by omega, by omega, by go_num, ?_, HJ.out, HK.out⟩
                  show List.map (fun x => x.val) pre = _
                  rw [HP.out]
                  simp [triQ, hij]
                case measure => simp [intOf]; omega
          · obtain rfl : j = n := by omega
            gi_wp2
            go_roundw
            case rel =>
              refine ⟨i + 1, pre, by omega, by go_num, ?_, HJ.out, HK.out⟩
              show List.map (fun x => x.val) pre = _
              rw [HP.out]
              simp [triP]
            case measure => simp [intOf]; omega
      · have HJx3 := Lib.hid hJx3
        clear hJx3
        gi_wp2
        refine bodyPost_ret (results_none rfl _ _ _) rfl ?_
        exact ⟨⟨_, rfl⟩, .inr ⟨_, HJx3.out⟩⟩
    · obtain rfl : i = n := by omega
      gi_wp2
      go_end0
      exact ⟨⟨_, rfl⟩, .inl ⟨_, HP.out, HJ.out⟩⟩

theorem all_stops (m : Nat) (hm : 1 ≤ m) (Bs n₀ n : Nat) (hreach : n ≤ 24) (w : World) (hBs0 : Bs < w.heap.size) (hBs : w.cell? ⟨Bs, 0, none⟩ = some (.int .i64 (n : Int))) :
    SeqStopsK Fence.wide m Try.prog 68 #[.pointer (some ⟨Bs, 0, none⟩)] (encT n) (KpC n₀ Bs) (fun ys : List (Tx n) => ys.map (·.1) = trios n) (fun _ => True) 100000 w := by
  intro r J Jx W hW _ _ hY h0
  refine (all1_in m hm r Bs n₀ n hreach J Jx hY W ((hW.cell (p := ⟨Bs, 0, none⟩) hBs0).trans hBs) h0).mono ?_
  rintro e W' ⟨h1, h2 | ⟨pre, h2⟩⟩
  · exact ⟨h1, .inl h2⟩
  · exact ⟨h1, .inr ⟨pre, trivial, h2⟩⟩
end Go.Proofs.Ytjncoableanmpaa
