/- The iterator over strips. -/
import Derived.Test.YtpnkbjdeiedhlaaLH
import Derived.RangeFuncNested
import Derived.RangeFuncBound
import Derived.RangeFuncCalls
import Derived.RangeFuncLeaves
import Derived.Shelf.Abstract
import Derived.Shelf.RegionOpen
import Derived.OwnWalkIn
import Derived.TacticsInMore
import Derived.LoopNIn
import Derived.LoopIn
import Derived.Sort.QuietIn
namespace Go.Proofs.Ytpnkbjdeiedhlaa
open Go.RowKit Go.Lib Go.Shelf
open St
attribute [local go_sem] Oper.semAt_some

abbrev Sx (s : St) := { x : St // x.Le s }
def encS (s : St) (x : Sx s) : Array Value := #[x.1.v]

theorem strips_calls (s : St) (w : World) :
    Calls Try.prog 67 #[s.v] w fun e w' => e = .returned (.func (.func 83) #[] #[.pointer (some ⟨w.heap.size, 0, none⟩)]) ∧ w.alloc (.cells s.cs.toArray 80) = w' := by
  go_enter Try.func67, Try.ntmps67
  go_wp2
  go_ret
  exact ⟨rfl, rfl⟩

/-- What a round keeps: the block Bs. -/
def KpS (Bs : Nat) (W W' : World) : Prop := W'.heap[Bs]? = W.heap[Bs]?
theorem KpS.refl (Bs : Nat) (W : World) : KpS Bs W W := rfl
theorem KpS.trans {Bs : Nat} {A B C : World} (h : KpS Bs A B) (k : KpS Bs B C) : KpS Bs A C := Eq.trans k h
theorem KpS.putObj {Bs : Nat} {w : World} (hB : Bs < w.heap.size) (W : World) (l : Nat) (o' : Obj) (hl : w.heap.size ≤ l) : KpS Bs W (W.putObj l o') := World.putObj_heap_other (by omega)

/-- What has come when the loops stand at i, j, k. -/
def Has (s : St) (i j k : Nat) (pre : List (Sx s)) : Prop :=
  (∀ x : Sx s, (x.1.a < i ∨ (x.1.a = i ∧ (x.1.b < j ∨ (x.1.b = j ∧ x.1.c < k)))) → x ∈ pre) ∧ pre.length ≤ i * 400 + j * 20 + k
theorem Has.start (s : St) : Has s 0 0 0 [] := by
  constructor
  · intro x h
    omega
  · rw [List.length_nil]
    exact Nat.zero_le _
set_option maxRecDepth 100000 in
theorem Has.next {s : St} {i j k : Nat} {pre : List (Sx s)} (h : Has s i j k pre) {y : Sx s} (hy : y.1 = ⟨i, j, k⟩) : Has s i j (k + 1) (pre ++ [y]) := by
  refine ⟨fun x hx => ?_, by
    have h2 := h.2
    rw [List.length_append]
    show pre.length + 1 ≤ _
    omega⟩
  rw [List.mem_append]
  by_cases he : x.1.a = i ∧ x.1.b = j ∧ x.1.c = k
  · right
    rw [List.mem_singleton]
    apply Subtype.ext
    rw [hy]
    exact St.ext' he.1 he.2.1 he.2.2
  · exact .inl (h.1 x (by omega))
set_option maxRecDepth 100000 in
theorem Has.nextJ {s : St} {i j : Nat} {pre : List (Sx s)} (hs : s.tubes ≤ 16) (h : Has s i j (s.c + 1) pre) : Has s i (j + 1) 0 pre := by
  unfold tubes at hs
  obtain ⟨h1, h2⟩ := h
  constructor
  · intro x hx
    have h3 := x.2.2.2
    exact h1 x (by omega)
  · omega
set_option maxRecDepth 100000 in
theorem Has.nextI {s : St} {i : Nat} {pre : List (Sx s)} (hs : s.tubes ≤ 16) (h : Has s i (s.b + 1) 0 pre) : Has s (i + 1) 0 0 pre := by
  unfold tubes at hs
  obtain ⟨h1, h2⟩ := h
  constructor
  · intro x hx
    have h3 := x.2.2.1
    exact h1 x (by omega)
  · omega
theorem Has.all {s : St} {pre : List (Sx s)} (h : Has s (s.a + 1) 0 0 pre) : ∀ x : Sx s, x ∈ pre := fun x => h.1 x (by have := x.2.1; omega)

set_option maxRecDepth 100000 in
set_option maxHeartbeats 2000000 in
theorem strips1_in (m : Nat) (hm : 1 ≤ m) (r Bs : Nat) (s : St) (hs : s.tubes ≤ 16) (J Jx : List (Sx s) → World → Prop)
    (hY : ∀ pre x W, J pre W → pre.length < 100000 → YieldAt Fence.wide (m - 1) Try.prog r (encS s x) W fun e W' =>
      (e = .returned (.bool true) ∧ J (pre ++ [x]) W' ∧ KpS Bs W W') ∨ (e = .returned (.bool false) ∧ Jx (pre ++ [x]) W'))
    (W : World) (hBs : Hp W Bs s.cs 80) (h0 : J [] W) :
    CallsIn Fence.wide m Try.prog 83 #[.func (.yield r) #[] #[], .pointer (some ⟨Bs, 0, none⟩)] W fun e W' => (∃ v, e = .returned v) ∧
      ((∃ ys : List (Sx s), (∀ x : Sx s, x ∈ ys) ∧ J ys W') ∨ (∃ pre : List (Sx s), Jx pre W')) := by
  refine callsIn_of_wp Try.func83 rfl trivial ?_ rfl
  simp only [Try.ntmps83, List.size_toArray, List.length_cons, List.length_nil, Nat.reduceAdd, Nat.reduceSub, Array.replicate_succ, Array.replicate_zero, List.push_toArray, List.append_toArray, List.nil_append, List.cons_append]
  have HY := Lib.hid hY
  have hst := hs
  unfold tubes at hst
  have HBS := Lib.hid hBs
  have HS := Lib.hid hs
  clear hY hBs hs
  have q0 := HBS.out.blk.three
  have wa : IntKind.i64.wrap ((s.a : Int) + 1) = (s.a : Int) + 1 := i64_in (by omega) (by omega)
  have wb : IntKind.i64.wrap ((s.b : Int) + 1) = (s.b : Int) + 1 := i64_in (by omega) (by omega)
  have wc' : IntKind.i64.wrap ((s.c : Int) + 1) = (s.c : Int) + 1 := i64_in (by omega) (by omega)
  gi_wp2
  gi_loopw [9] (fun v wr => ∃ (i : Nat) (pre : List (Sx s)), i ≤ s.a + 1 ∧ v = .int .i64 i ∧ Aside (Has s i 0 0 pre) ∧ Aside (J pre wr) ∧ Aside (KpS Bs W wr))
    (fun v _ => s.a + 1 - (intOf v).toNat)
  case atStart => exact ⟨0, [], Nat.zero_le _, rfl, Has.start s, h0, KpS.refl _ _⟩
  case round =>
    obtain ⟨i, pre, hi, rfl, HP, HJ, HK⟩ := hrel
    clear h0 q0
    obtain ⟨wo, hwo⟩ : ∃ x, x = wr := ⟨_, rfl⟩
    subst hwo
    by_cases hlt : i < s.a + 1
    · have hlt' : (i : Int) < (s.a : Int) + 1 := by omega
      have hw1 : IntKind.i64.wrap ((i : Int) + 1) = (i : Int) + 1 := i64_in (by omega) (by omega)
      have q0 := (show Hp wo Bs s.cs 80 from Eq.trans (show wo.heap[Bs]? = W.heap[Bs]? from HK.out) HBS.out).blk.three
      gi_wp2
      gi_loopw [15] (fun v wr => ∃ (j : Nat) (pre : List (Sx s)), j ≤ s.b + 1 ∧ v = .int .i64 j ∧ Aside (Has s i j 0 pre) ∧ Aside (J pre wr) ∧ Aside (KpS Bs W wr))
        (fun v _ => s.b + 1 - (intOf v).toNat)
      case atStart => exact ⟨0, pre, Nat.zero_le _, rfl, HP.out, HJ.out, HK.out⟩
      case round =>
        obtain ⟨j, pre, hj, rfl, HP, HJ, HK⟩ := hrel
        clear q0
        obtain ⟨wj, hwj⟩ : ∃ x, x = wr := ⟨_, rfl⟩
        subst hwj
        by_cases hltj : j < s.b + 1
        · have hltj' : (j : Int) < (s.b : Int) + 1 := by omega
          have hw2 : IntKind.i64.wrap ((j : Int) + 1) = (j : Int) + 1 := i64_in (by omega) (by omega)
          have q0 := (show Hp wj Bs s.cs 80 from Eq.trans (show wj.heap[Bs]? = W.heap[Bs]? from HK.out) HBS.out).blk.three
          gi_wp2
          gi_loopw [21] (fun v wr => ∃ (k : Nat) (pre : List (Sx s)), k ≤ s.c + 1 ∧ v = .int .i64 k ∧ Aside (Has s i j k pre) ∧ Aside (J pre wr) ∧ Aside (KpS Bs W wr))
            (fun v _ => s.c + 1 - (intOf v).toNat)
          case atStart => exact ⟨0, pre, Nat.zero_le _, rfl, HP.out, HJ.out, HK.out⟩
          case round =>
            obtain ⟨k, pre, hk, rfl, HP, HJ, HK⟩ := hrel
            clear q0
            obtain ⟨wk, hwk⟩ : ∃ x, x = wr := ⟨_, rfl⟩
            subst hwk
            by_cases hltk : k < s.c + 1
            · have hltk' : (k : Int) < (s.c : Int) + 1 := by omega
              have hw3 : IntKind.i64.wrap ((k : Int) + 1) = (k : Int) + 1 := i64_in (by omega) (by omega)
              obtain ⟨y, hy0⟩ : ∃ y : Sx s, y.1 = ⟨i, j, k⟩ := ⟨⟨⟨i, j, k⟩, Nat.le_of_lt_succ hlt, Nat.le_of_lt_succ hltj, Nat.le_of_lt_succ hltk⟩, rfl⟩
              obtain ⟨fn, tmps, assign, body, hy, hR⟩ := HY.out pre y wk HJ.out (by have := HP.out.2; omega)
              have HR := Lib.hid hR
              have HP3 := Lib.hid (HP.out.next hy0)
              unfold encS at hy
              rw [hy0] at hy
              clear hR hy0
              gi_wp2
              refine HR.out.mono ?_
              rintro e W3 (⟨rfl, hJ3, hk3⟩ | ⟨rfl, hJx3⟩)
              · have HJ3 := Lib.hid hJ3
                have HK3 := Lib.hid (HK.out.trans hk3)
                clear hJ3 hk3 hy
                gi_wp2
                go_roundw
                case rel => exact ⟨k + 1, pre ++ [y], by omega, by go_num, HP3.out, HJ3.out, HK3.out⟩
                case measure => simp [intOf]; omega
              · have HJx3 := Lib.hid hJx3
                clear hJx3 hy
                gi_wp2
                refine bodyPost_ret (results_none rfl _ _ _) rfl ?_
                exact ⟨⟨_, rfl⟩, .inr ⟨_, HJx3.out⟩⟩
            · obtain rfl : k = s.c + 1 := by omega
              have hltk' : ¬ ((s.c : Int) + 1) < (s.c : Int) + 1 := by omega
              have HP3 := Lib.hid (HP.out.nextJ HS.out)
              gi_wp2
              go_roundw
              case rel => exact ⟨j + 1, pre, by omega, by go_num, HP3.out, HJ.out, HK.out⟩
              case measure => simp [intOf]; omega
        · obtain rfl : j = s.b + 1 := by omega
          have hltj' : ¬ ((s.b : Int) + 1) < (s.b : Int) + 1 := by omega
          have HP3 := Lib.hid (HP.out.nextI HS.out)
          gi_wp2
          go_roundw
          case rel => exact ⟨i + 1, pre, by omega, by go_num, HP3.out, HJ.out, HK.out⟩
          case measure => simp [intOf]; omega
    · obtain rfl : i = s.a + 1 := by omega
      have hlt' : ¬ ((s.a : Int) + 1) < (s.a : Int) + 1 := by omega
      have HP3 := Lib.hid HP.out.all
      gi_wp2
      go_end0
      exact ⟨⟨_, rfl⟩, .inl ⟨_, fun a b => HP3.out ⟨a, b⟩, HJ.out⟩⟩

theorem strips_stops (m : Nat) (hm : 1 ≤ m) (Bs : Nat) (s : St) (hs : s.tubes ≤ 16) (w : World) (hBs : Hp w Bs s.cs 80) :
    SeqStopsK Fence.wide m Try.prog 83 #[.pointer (some ⟨Bs, 0, none⟩)] (encS s) (KpS Bs) (fun ys : List (Sx s) => ∀ x : Sx s, x ∈ ys) (fun _ => True) 100000 w := by
  intro r J Jx W hW _ _ hY h0
  refine (strips1_in m hm r Bs s hs J Jx hY W (hBs.later hW) h0).mono ?_
  rintro e W' ⟨h1, ⟨ys, h2, h3⟩ | ⟨pre, h2⟩⟩
  · exact ⟨h1, .inl ⟨ys, h2, h3⟩⟩
  · exact ⟨h1, .inr ⟨pre, trivial, h2⟩⟩
end Go.Proofs.Ytpnkbjdeiedhlaa
