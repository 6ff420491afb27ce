/- The iterator over measurements that differ from the one before them. -/
import Derived.Test.YtphbiaagmhhhbaaSO
import Derived.RangeFuncNested
import Derived.RangeFuncBound
import Derived.RangeFuncCalls
import Derived.RangeFuncLeaves
import Derived.Shelf.Abstract
import Derived.Shelf.RegionOpen
import Derived.OwnWalkIn
import Derived.TacticsInMore
import Derived.LoopNIn
import Derived.LoopIn
import Derived.Sort.QuietIn
namespace Go.Proofs.Ytphbiaagmhhhbaa
open Go.RowKit Go.Lib Go.Shelf
attribute [local go_sem] Oper.semAt_some

/-- The numbers of the first k measurements that are not equal to the one before them. -/
def diffIx (l : List (Int × Int)) : Nat → List Nat
  | 0 => []
  | k + 1 => if 0 < k ∧ l[k]?.getD (0, 0) = l[k - 1]?.getD (0, 0) then diffIx l k else diffIx l k ++ [k]
theorem diffIx_length (l : List (Int × Int)) (k : Nat) : (diffIx l k).length ≤ k := by
  induction k with
  | zero => simp [diffIx]
  | succ k ih =>
    simp only [diffIx]
    split
    · omega
    · simp; omega

abbrev Ix (l : List (Int × Int)) := { k : Nat // k < l.length }
theorem guard80 : Try.prog.eqGuardType Try.prog.depth 80 = false := by kernel_rfl
theorem stood80 : Try.prog.stoodInHeld 80 = false := by kernel_rfl
theorem fields80 : Try.prog.underlying 80 = some (.struct (Try.prog.fieldsOf 80)) := by kernel_rfl

/-- The i-th measurement. -/
def mAt (l : List (Int × Int)) (i : Nat) : Int × Int := l[i]?.getD (0, 0)
def encIx (l : List (Int × Int)) (x : Ix l) : Array Value := #[.int .i64 (x.1 : Int), .agg #[.int .i64 (mAt l x.1).1, .int .i64 (mAt l x.1).2]]

theorem different_calls (A : Option Addr) (n c : Nat) (w : World) :
    Calls Try.prog 89 #[.slice A n c] w fun e w' => e = .returned (.func (.func 97) #[] #[.pointer (some ⟨w.heap.size, 0, none⟩)]) ∧ w.alloc (.cells #[.slice A n c] 55) = w' := by
  go_enter Try.func89, Try.ntmps89
  go_wp2
  go_ret
  exact ⟨rfl, rfl⟩

/-- What a round keeps: all below n₀, and the block Bs. -/
def KpIx (n₀ Bs : Nat) (W W' : World) : Prop := Below n₀ W W' ∧ W'.heap[Bs]? = W.heap[Bs]?
theorem KpIx.refl (n₀ Bs : Nat) (W : World) : KpIx n₀ Bs W W := ⟨Below.refl _ _, rfl⟩
theorem KpIx.trans {n₀ Bs : Nat} {A B C : World} (h : KpIx n₀ Bs A B) (k : KpIx n₀ Bs B C) : KpIx n₀ Bs A C := ⟨h.1.trans k.1, k.2.trans h.2⟩
theorem KpIx.allocN {n₀ Bs : Nat} {W wr : World} (h : KpIx n₀ Bs W wr) (hn0 : n₀ ≤ W.heap.size) (hB : Bs < W.heap.size) (o : Obj) (k : Nat) : KpIx n₀ Bs W ((wr.alloc o).drewN k) :=
  ⟨below_drewN' (h.1.alloc (Nat.le_trans hn0 h.1.size) o) k, (Below.heap_alloc wr o Bs (Nat.lt_of_lt_of_le hB h.1.size)).trans h.2⟩
theorem KpIx.putObj {n₀ Bs : Nat} {w : World} (hn : n₀ ≤ w.heap.size) (hB : Bs < w.heap.size) (W : World) (l : Nat) (o o' : Obj) (hl : w.heap.size ≤ l) (h : W.heap[l]? = some o) (h1 : o.isCells = false) (h2 : o.isWalk = false) : KpIx n₀ Bs W (W.putObj l o') :=
  ⟨belowK_b hn W l o o' hl h h1 h2, World.putObj_heap_other (by omega)⟩

set_option maxRecDepth 100000 in
set_option maxHeartbeats 2000000 in
theorem diff1_in (n : Nat) (hn : 1 ≤ n) (r Bs n₀ b off cap : Nat) (l : List (Int × Int)) (hreach : l.length ≤ 1000000) (hb : b < n₀) (J Jx : List (Ix l) → World → Prop)
    (hJ : ∀ s W o, J s W → J s (W.alloc o)) (hJd : ∀ s W k, J s W → J s (W.drewN k))
    (hY : ∀ pre x W, J pre W → pre.length < l.length → YieldAt Fence.wide (n - 1) Try.prog r (encIx l x) W fun e W' =>
      (e = .returned (.bool true) ∧ J (pre ++ [x]) W' ∧ KpIx n₀ Bs W W') ∨ (e = .returned (.bool false) ∧ Jx (pre ++ [x]) W'))
    (W : World) (hn0 : n₀ ≤ W.heap.size) (hBs0 : Bs < W.heap.size) (hBs : W.cell? ⟨Bs, 0, none⟩ = some (.slice (some ⟨b, off, none⟩) l.length cap))
    (hc : ∀ j, j < l.length → W.cell? ⟨b, off + j * 2, none⟩ = some (.int .i64 (l[j]?.getD (0, 0)).1) ∧ W.cell? ⟨b, off + j * 2 + 1, none⟩ = some (.int .i64 (l[j]?.getD (0, 0)).2)) (h0 : J [] W) :
    CallsIn Fence.wide n Try.prog 97 #[.func (.yield r) #[] #[], .pointer (some ⟨Bs, 0, none⟩)] W fun e W' => (∃ v, e = .returned v) ∧
      ((∃ ys : List (Ix l), ys.map (·.1) = diffIx l l.length ∧ J ys W') ∨ (∃ pre : List (Ix l), (∃ k, k ≤ l.length ∧ pre.map (·.1) = diffIx l k) ∧ Jx pre W')) := by
  refine callsIn_of_wp Try.func97 rfl trivial ?_ rfl
  simp only [Try.ntmps97, List.size_toArray, List.length_cons, List.length_nil, Nat.reduceAdd, Nat.reduceSub, Array.replicate_succ, Array.replicate_zero, List.push_toArray, List.append_toArray, List.nil_append, List.cons_append]
  have HC := Lib.hid hc
  have HJ := Lib.hid hJ
  have HJd := Lib.hid hJd
  have HY := Lib.hid hY
  clear hc hJ hJd hY
  gi_wp2
  gi_loopw [7] (fun i wr => ∃ (k : Nat) (pre : List (Ix l)), k ≤ l.length ∧ i = .int .i64 k ∧ Aside (pre.map (·.1) = diffIx l k) ∧ Aside (J pre wr) ∧ Aside (KpIx n₀ Bs W wr))
    (fun i _ => l.length - (intOf i).toNat)
  case atStart => exact ⟨0, [], Nat.zero_le _, rfl, rfl, h0, KpIx.refl _ _ _⟩
  case round =>
    obtain ⟨k, pre, hk, rfl, HP, HJs, HK⟩ := hrel
    have HB := Lib.hid HK.out.1
    clear h0
    have hBs' := (World.cell?_of_block (w := W) (a := ⟨Bs, 0, none⟩) HK.out.2).trans hBs
    have hBw : Bs < wr.heap.size := Nat.lt_of_lt_of_le hBs0 HB.out.size
    have hbw : b < wr.heap.size := Nat.lt_of_lt_of_le hb (Nat.le_trans hn0 HB.out.size)
    by_cases hlt : k < l.length
    · have hlt' : (k : Int) < (l.length : Int) := by omega
      have hck := HC.out k hlt
      have hx0 := (HB.out.cell (p := ⟨b, off + k * 2, none⟩) hb).trans hck.1
      have hx1 := (HB.out.cell (p := ⟨b, off + k * 2 + 1, none⟩) hb).trans hck.2
      clear hck hBs
      have hY := HY.out pre ⟨k, hlt⟩ 
      unfold encIx mAt at hY
      dsimp only at hY
      have hs : k + 1 ≤ l.length := hlt
      generalize hx : l[k]?.getD (0, 0) = x at hx0 hx1 hY
      have HX := Lib.hid hx
      have HLT := Lib.hid hlt
      have HY' := Lib.hid hY
      clear hx hY
      by_cases hk0 : 0 < k
      · have hd : decide ((0 : Int) < (k : Int)) = true := decide_eq_true (by omega)
        have hd' : decide (0 < k) = true := decide_eq_true hk0
        have hcp := HC.out (k - 1) (by omega)
        have hp0 := (HB.out.cell (p := ⟨b, off + (k - 1) * 2, none⟩) hb).trans hcp.1
        have hp1 := (HB.out.cell (p := ⟨b, off + (k - 1) * 2 + 1, none⟩) hb).trans hcp.2
        clear hcp
        generalize hy : l[k - 1]?.getD (0, 0) = y at hp0 hp1
        have HYY := Lib.hid hy
        clear hy
        have hw : IntKind.i64.wrap ((k : Int) - 1) = (k : Int) - 1 := by rw [i64_w]; exact w64_in (by omega) (by omega)
        have hg0 : (0 : Int) ≤ (k : Int) - 1 := by omega
        have hg1 : (k : Int) - 1 < (l.length : Int) := by omega
        have hg2 : ((k : Int) - 1).toNat = k - 1 := by omega
        have hgt := guard80
        have hst := stood80
        have hcom : ¬ x = y → ¬ (0 < k ∧ l[k]?.getD (0, 0) = l[k - 1]?.getD (0, 0)) := fun h1 h => h1 (by rw [← HX.out, ← HYY.out]; exact h.2)
        have hsame : x = y → (0 < k ∧ l[k]?.getD (0, 0) = l[k - 1]?.getD (0, 0)) := fun h1 => ⟨hk0, by rw [HX.out, HYY.out]; exact h1⟩
        have HCM := Lib.hid hcom
        have HSM := Lib.hid hsame
        clear hcom hsame
        by_cases h1 : x.fst = y.fst
        · have he1 : (x.fst == y.fst) = true := beq_iff_eq.2 h1
          by_cases h2 : x.snd = y.snd
          · have he2 : (x.snd == y.snd) = true := beq_iff_eq.2 h2
            have HS := Lib.hid (HSM.out (Prod.ext h1 h2))
            clear h1 h2
            gi_wp2
            gi_quiet (fail)
            gi_wp2
            go_roundw
            case rel =>
              refine ⟨k + 1, pre, hs, by go_num, ?_, HJd.out _ _ _ (HJ.out _ _ _ HJs.out), HK.out.allocN hn0 hBs0 _ nq⟩
              show List.map (fun x => x.val) pre = diffIx l (k + 1)
              rw [HP.out]; simp only [diffIx]; rw [if_pos HS.out]
            case measure => simp [intOf]; omega
          · have he2 : (x.snd == y.snd) = false := beq_eq_false_iff_ne.2 h2
            have HCOM := Lib.hid (HCM.out (fun h => h2 (by rw [h])))
            clear h1 h2
            gi_wp2
            gi_quiet (fail)
            obtain ⟨fn, tmps, assign, body, hy, hR⟩ := HY'.out ((wr.alloc (.cells #[.int .i64 x.fst, .int .i64 x.snd] 80)).drewN nq) (HJd.out _ _ _ (HJ.out _ _ _ HJs.out)) (by have h1 := diffIx_length l k; rw [← HP.out, List.length_map] at h1; omega)
            have HR := Lib.hid hR
            clear hR
            gi_wp2
            refine HR.out.mono ?_
            rintro e W3 (⟨rfl, hJ3, hk3⟩ | ⟨rfl, hJx3⟩)
            · have HJ3 := Lib.hid hJ3
              have HK3 := Lib.hid ((HK.out.allocN hn0 hBs0 _ nq).trans hk3)
              clear hJ3 hk3
              gi_wp2
              go_roundw
              case rel =>
                refine ⟨k + 1, pre ++ [(⟨k, HLT.out⟩ : Ix l)], hs, by go_num, ?_, ?_, HK3.out⟩
                · show List.map (fun x => x.val) (pre ++ [(⟨k, HLT.out⟩ : Ix l)]) = diffIx l (k + 1)
                  rw [List.map_append, HP.out]; simp only [diffIx]; rw [if_neg HCOM.out]; rfl
                · exact HJ3.out
              case measure => simp [intOf]; omega
            · have HJx3 := Lib.hid hJx3
              clear hJx3
              gi_wp2
              refine bodyPost_ret (results_none rfl _ _ _) rfl ?_
              exact ⟨⟨_, rfl⟩, .inr ⟨_, ⟨k + 1, hs, by rw [List.map_append, HP.out]; simp only [diffIx]; rw [if_neg HCOM.out]; rfl⟩, HJx3.out⟩⟩
        · have he1 : (x.fst == y.fst) = false := beq_eq_false_iff_ne.2 h1
          have HCOM := Lib.hid (HCM.out (fun h => h1 (by rw [h])))
          clear h1
          gi_wp2
          gi_quiet (fail)
          obtain ⟨fn, tmps, assign, body, hy, hR⟩ := HY'.out ((wr.alloc (.cells #[.int .i64 x.fst, .int .i64 x.snd] 80)).drewN nq) (HJd.out _ _ _ (HJ.out _ _ _ HJs.out)) (by have h1 := diffIx_length l k; rw [← HP.out, List.length_map] at h1; omega)
          have HR := Lib.hid hR
          clear hR
          gi_wp2
          refine HR.out.mono ?_
          rintro e W3 (⟨rfl, hJ3, hk3⟩ | ⟨rfl, hJx3⟩)
          · have HJ3 := Lib.hid hJ3
            have HK3 := Lib.hid ((HK.out.allocN hn0 hBs0 _ nq).trans hk3)
            clear hJ3 hk3
            gi_wp2
            go_roundw
            case rel =>
              refine ⟨k + 1, pre ++ [(⟨k, HLT.out⟩ : Ix l)], hs, by go_num, ?_, ?_, HK3.out⟩
              · show List.map (fun x => x.val) (pre ++ [(⟨k, HLT.out⟩ : Ix l)]) = diffIx l (k + 1)
                rw [List.map_append, HP.out]; simp only [diffIx]; rw [if_neg HCOM.out]; rfl
              · exact HJ3.out
            case measure => simp [intOf]; omega
          · have HJx3 := Lib.hid hJx3
            clear hJx3
            gi_wp2
            refine bodyPost_ret (results_none rfl _ _ _) rfl ?_
            exact ⟨⟨_, rfl⟩, .inr ⟨_, ⟨k + 1, hs, by rw [List.map_append, HP.out]; simp only [diffIx]; rw [if_neg HCOM.out]; rfl⟩, HJx3.out⟩⟩
      · have hd : decide ((0 : Int) < (k : Int)) = false := decide_eq_false (by omega)
        have hd' : decide (0 < k) = false := decide_eq_false (by omega)
        have Z := Lib.hid hk0
        clear hk0
        have hcom : ¬ (0 < k ∧ l[k]?.getD (0, 0) = l[k - 1]?.getD (0, 0)) := fun h => Z.out h.1
        have HCOM := Lib.hid hcom
        clear hcom
        gi_wp2
        gi_quiet (fail)
        obtain ⟨fn, tmps, assign, body, hy, hR⟩ := HY'.out ((wr.alloc (.cells #[.int .i64 x.fst, .int .i64 x.snd] 80)).drewN nq) (HJd.out _ _ _ (HJ.out _ _ _ HJs.out)) (by have h1 := diffIx_length l k; rw [← HP.out, List.length_map] at h1; omega)
        have HR := Lib.hid hR
        clear hR
        gi_wp2
        refine HR.out.mono ?_
        rintro e W3 (⟨rfl, hJ3, hk3⟩ | ⟨rfl, hJx3⟩)
        · have HJ3 := Lib.hid hJ3
          have HK3 := Lib.hid ((HK.out.allocN hn0 hBs0 _ nq).trans hk3)
          clear hJ3 hk3
          gi_wp2
          go_roundw
          case rel =>
            refine ⟨k + 1, pre ++ [(⟨k, HLT.out⟩ : Ix l)], hs, by go_num, ?_, ?_, HK3.out⟩
            · show List.map (fun x => x.val) (pre ++ [(⟨k, HLT.out⟩ : Ix l)]) = diffIx l (k + 1)
              rw [List.map_append, HP.out]; simp only [diffIx]; rw [if_neg HCOM.out]; rfl
            · exact HJ3.out
          case measure => simp [intOf]; omega
        · have HJx3 := Lib.hid hJx3
          clear hJx3
          gi_wp2
          refine bodyPost_ret (results_none rfl _ _ _) rfl ?_
          exact ⟨⟨_, rfl⟩, .inr ⟨_, ⟨k + 1, hs, by rw [List.map_append, HP.out]; simp only [diffIx]; rw [if_neg HCOM.out]; rfl⟩, HJx3.out⟩⟩
    · obtain rfl : k = l.length := by omega
      clear hBs
      gi_wp2
      go_end0
      exact ⟨⟨_, rfl⟩, .inl ⟨_, HP.out, HJs.out⟩⟩

set_option maxRecDepth 100000 in
theorem diff1_nil (n : Nat) (r Bs c : Nat) (A : Option Addr) (J : List (Ix []) → World → Prop) (W : World) (hBs : W.cell? ⟨Bs, 0, none⟩ = some (.slice A 0 c)) (h0 : J [] W) :
    CallsIn Fence.wide n Try.prog 97 #[.func (.yield r) #[] #[], .pointer (some ⟨Bs, 0, none⟩)] W fun e W' => (∃ v, e = .returned v) ∧ J [] W' := by
  refine callsIn_of_wp Try.func97 rfl trivial ?_ rfl
  simp only [Try.ntmps97, List.size_toArray, List.length_cons, List.length_nil, Nat.reduceAdd, Nat.reduceSub, Array.replicate_succ, Array.replicate_zero, List.push_toArray, List.append_toArray, List.nil_append, List.cons_append]
  gi_wp2
  gi_loopw [7] (fun i wr => i = .int .i64 0 ∧ J [] wr) (fun _ _ => 0)
  case atStart => exact ⟨rfl, h0⟩
  case round =>
    obtain ⟨rfl, hJs⟩ := hrel
    gi_wp2
    go_end0
    exact ⟨⟨_, rfl⟩, hJs⟩

theorem diff_stops (n : Nat) (hn : 1 ≤ n) (Bs n₀ : Nat) (A : Option Addr) (cap : Nat) (l : List (Int × Int)) (hreach : l.length ≤ 1000000) (w : World) (hBs : Bs < w.heap.size) (hn₀ : n₀ ≤ w.heap.size)
    (hc : w.cell? ⟨Bs, 0, none⟩ = some (.slice A l.length cap))
    (hl : 0 < l.length → ∃ b off, A = some ⟨b, off, none⟩ ∧ b < n₀ ∧ ∀ j, j < l.length → w.cell? ⟨b, off + j * 2, none⟩ = some (.int .i64 (l[j]?.getD (0, 0)).1) ∧ w.cell? ⟨b, off + j * 2 + 1, none⟩ = some (.int .i64 (l[j]?.getD (0, 0)).2)) :
    SeqStopsK Fence.wide n Try.prog 97 #[.pointer (some ⟨Bs, 0, none⟩)] (encIx l) (KpIx n₀ Bs) (fun ys : List (Ix l) => ys.map (·.1) = diffIx l l.length) (fun pre : List (Ix l) => ∃ k, k ≤ l.length ∧ pre.map (·.1) = diffIx l k) l.length w := by
  intro r J Jx W hW hJ _ hY h0
  have hc' := (hW.cell (p := ⟨Bs, 0, none⟩) hBs).trans hc
  rcases Nat.eq_zero_or_pos l.length with he | he
  · obtain rfl : l = [] := List.eq_nil_of_length_eq_zero he
    exact (diff1_nil n r Bs cap A J W hc' h0).mono fun e W' ⟨h1, h2⟩ => ⟨h1, .inl ⟨[], rfl, h2⟩⟩
  · obtain ⟨b, off, rfl, hb, hcs⟩ := hl he
    refine diff1_in n hn r Bs n₀ b off cap l hreach hb J Jx (fun s W o hs => hJ s W _ none hs (World.grownBy_alloc W o none) (by simp)) (fun s W k hs => hJ s W _ none hs ⟨rfl, rfl, rfl, Nat.le_refl _, fun _ _ _ => rfl⟩ (by simp))
      hY W (Nat.le_trans hn₀ hW.size) (Nat.lt_of_lt_of_le hBs hW.size) hc' (fun j hj => ?_) h0
    exact ⟨(hW.cell (p := ⟨b, off + j * 2, none⟩) (Nat.lt_of_lt_of_le hb hn₀)).trans (hcs j hj).1, (hW.cell (p := ⟨b, off + j * 2 + 1, none⟩) (Nat.lt_of_lt_of_le hb hn₀)).trans (hcs j hj).2⟩
end Go.Proofs.Ytphbiaagmhhhbaa
