/- A range over an iterator that tells something of what it yields; slices.Clone. -/
import Derived.Test.YtjncoableanmpaaLP
namespace Go.Proofs.Ytjncoableanmpaa
open Go.RowKit Go.Lib Go.Shelf
attribute [local go_sem] Oper.semAt_some

/-- The same, where of each thing that is yielded something holds. -/
def SeqP {α : Type} (m g : Nat) (lb : Array Value) (encs : α → Array Value) (n₀ B x : Nat) (Px : α → World → Prop) (S : List α → Prop) (N : Nat) (w : World) : Prop :=
  ∀ (r : Nat) (J : List α → World → Prop) (W : World), Below w.heap.size w W → B ≤ W.heap.size → OwnFrom W.heap.size J →
    (∀ pre y W1, J pre W1 → Px y W1 → pre.length < N → YieldAt Fence.wide (m - 1) Try.prog r (encs y) W1 fun e W' => e = .returned (.bool true) ∧ J (pre ++ [y]) W' ∧ KpG n₀ B x W1 W') →
    J [] W → CallsIn Fence.wide m Try.prog g (#[.func (.yield r) #[] #[]] ++ lb) W fun e W' => (∃ v, e = .returned v) ∧ ∃ xs, S xs ∧ J xs W'

theorem range_ownP {α : Type} {g : Operand} {ps : Array Tmp} {assign body : Code} {Q : Exit → Act → World → Prop} {a : Act} {w : World} {n gf : Nat} {lb : Array Value}
    (hg : a.eval g = .func (.func gf) #[] lb) (eg : ∀ args w, (callFunc gf args).run Try.prog w = .ok (.enter gf args) w)
    {encs : α → Array Value} {n₀ B rx : Nat} {Px : α → World → Prop} {S : List α → Prop} {N : Nat} {w0 : World} (hn0 : n₀ ≤ w.heap.size) (hrx : w.heap.size + 1 < B ∨ w.heap.size + 1 = rx) (hBw : B ≤ w.heap.size + 2) (hseq : SeqP (n - 1) gf lb encs n₀ B rx Px S N w0) (hb0 : Below w0.heap.size w0 w) (hps : ∀ x : α, (encs x).size = ps.size)
    (I : List α → World → Prop) (hI : OwnFrom w.heap.size I) (h0 : I [] w) (Ax : α → Act → World → Prop) (hAx : ∀ x a', OwnFrom w.heap.size (fun (_ : Unit) W => Ax x a' W))
    (hassign : ∀ (l : Nat) (pre : List α) (x : α) (W : World) (K : Act → World → Prop), I pre W → Px x W → (∀ a' W', KeepsFrom w.heap.size W W' → KpG n₀ B rx W W' → I pre W' → Ax x a' W' → K a' W') →
      assign.wpIn (Fence.wide.inRound l) (n - 1 - 1) Try.prog (Exit.then K (fun _ _ _ => False)) { tmps := (ps.zip (encs x)).foldl (fun t (p, v) => t.setIfInBounds p v) a.tmps, defers := [] } W)
    (hbody : ∀ (l : Nat) (pre : List α) (x : α) (a' : Act) (W : World), I pre W → Ax x a' W → pre.length < N → body.wpIn (Fence.wide.inRound l) (n - 1 - 1) Try.prog (fun e _ W' => e = .normal ∧ KeepsFrom w.heap.size W W' ∧ KpG n₀ B rx W W' ∧ I (pre ++ [x]) W') a' W)
    (hdone : ∀ (D : Nat) (xs : List α) (W : World), w.heap.size ≤ D → S xs → I xs W → W.heap[D]? = some (.deferred (some [])) → Q .normal { a with defers := { target := .collected D, args := #[] } :: a.defers } W) :
    (Code.rangeFunc g ps assign body).wpIn Fence.wide n Try.prog Q a w := by
  refine wpIn_rangeFunc fun fn hfn => ?_
  let rc : LoopState → Loop := fun st => { state := st, pending := none, fn, tmps := a.tmps, params := ps, assign, body, defers := w.heap.size }
  have e1 : (w.alloc (.deferred (some []))).heap.size = w.heap.size + 1 := by simp
  have g1 : Below w.heap.size w ((w.alloc (.deferred (some []))).alloc (.loop (rc .ready))) := ((Below.refl _ _).alloc (Nat.le_refl _) _).alloc (by simp) _
  have hD : ((w.alloc (.deferred (some []))).alloc (.loop (rc .ready))).heap[w.heap.size]? = some (.deferred (some [])) := (Below.heap_alloc _ _ _ (by simp)).trans (World.alloc_heap_new w _)
  have hL : ((w.alloc (.deferred (some []))).alloc (.loop (rc .ready))).heap[w.heap.size + 1]? = some (.loop (rc .ready)) := by
    have h := World.alloc_heap_new (w.alloc (.deferred (some []))) (.loop (rc .ready))
    rwa [e1] at h
  have hi1 : I [] ((w.alloc (.deferred (some []))).alloc (.loop (rc .ready))) := hI _ _ _ none (hI _ _ _ none h0 (World.grownBy_alloc _ _ none) (by simp)) (World.grownBy_alloc _ _ none) (by simp)
  have hsz : ((w.alloc (.deferred (some []))).alloc (.loop (rc .ready))).heap.size = w.heap.size + 2 := by simp
  refine ⟨w.heap.size + 1, [{ target := .collected w.heap.size, args := #[] }], ((w.alloc (.deferred (some []))).alloc (.loop (rc .ready))), { target := .fn (.func gf) lb, args := #[.func (.yield (w.heap.size + 1)) #[] #[]] }, ((w.alloc (.deferred (some []))).alloc (.loop (rc .ready))), gf, #[.func (.yield (w.heap.size + 1)) #[] #[]] ++ lb, ((w.alloc (.deferred (some []))).alloc (.loop (rc .ready))), run_enterLoop_outer _ _ _ _ _, ?_, fun _ _ => trivial, ?_, (fun h => by cases h), ?_⟩
  · simp only [resolve, hg]
    simp [go_sem]
  · simp [invoke, go_sem, eg]
  · change CallsIn _ _ _ _ _ ((w.alloc (.deferred (some []))).alloc (.loop (rc .ready))) _
    generalize ((w.alloc (.deferred (some []))).alloc (.loop (rc .ready))) = w1 at g1 hD hL hi1 hsz ⊢
    refine (hseq (w.heap.size + 1) (fun pre W => I pre W ∧ W.heap[w.heap.size + 1]? = some (.loop (rc .ready)) ∧ W.heap[w.heap.size]? = some (.deferred (some []))) w1 (hb0.trans (g1.mono hb0.size)) (by omega)
      (fun s X Y row hs hg' hr => ?_) (fun pre x W h hpx hlen => ?_) ⟨hi1, hL, hD⟩).mono ?_
    · have hne : ∀ k, k < w.heap.size + 2 → some k ≠ row := fun k hk e => by have := (hr k e.symm).1; omega
      refine ⟨hI s X Y row hs.1 hg' (fun r e => ⟨by have := (hr r e).1; omega, (hr r e).2⟩), ?_, ?_⟩
      · exact (hg'.block _ (Array.getElem?_eq_some_iff.1 hs.2.1).1 (hne _ (by omega))).trans hs.2.1
      · exact (hg'.block _ (Array.getElem?_eq_some_iff.1 hs.2.2).1 (hne _ (by omega))).trans hs.2.2
    · obtain ⟨hi, hl, hd⟩ := h
      refine ⟨fn, _, assign, body, run_yield (r := rc .ready) hl (hps x), roundIn_of_wpIn hfn (hassign _ pre x W _ hi hpx fun a' Wa hkf hkp hia hax => ?_)⟩
      have hl1 := hkf.same _ _ (by omega) hl rfl
      have hd1 := hkf.same _ _ (Nat.le_refl _) hd rfl
      have hlt := (Array.getElem?_eq_some_iff.1 hl1).1
      refine ⟨_, run_beginRound (r := rc .ready) hl1 rfl, ?_⟩
      have hl2 : (Wa.putObj (w.heap.size + 1) (.loop { rc .ready with state := .busy })).heap[w.heap.size + 1]? = some (.loop (rc .busy)) := World.putObj_heap_same hlt
      have hd2 : (Wa.putObj (w.heap.size + 1) (.loop { rc .ready with state := .busy })).heap[w.heap.size]? = some (.deferred (some [])) := (World.putObj_heap_other (by omega)).trans hd1
      have hk2 : KpG n₀ B rx Wa (Wa.putObj (w.heap.size + 1) (.loop { rc .ready with state := .busy })) := KpG.putObj Wa _ _ _ (by omega) hrx hl1
      have hi2 := hI.putObj (.loop { rc .ready with state := .busy }) hia (show w.heap.size ≤ w.heap.size + 1 by omega) hl1 rfl
      have hx2 := (hAx x a').putObj (s := ()) (.loop { rc .ready with state := .busy }) hax (show w.heap.size ≤ w.heap.size + 1 by omega) hl1 rfl
      generalize Wa.putObj (w.heap.size + 1) (.loop { rc .ready with state := .busy }) = Wb at hl2 hd2 hk2 hi2 hx2 ⊢
      refine wpIn_mono (hbody _ pre x a' Wb hi2 hx2 hlen) ?_
      rintro e a3 W3 ⟨rfl, hk3, hkp3, hi3⟩
      have hl3 := hk3.same _ _ (by omega) hl2 rfl
      have hd3 := hk3.same _ _ (Nat.le_refl _) hd2 rfl
      refine ⟨_, _, run_endRound (r := rc .busy) none hl3, rfl, ⟨hI.putObj _ hi3 (by omega) hl3 rfl, World.putObj_heap_same (Array.getElem?_eq_some_iff.1 hl3).1, (World.putObj_heap_other (by omega)).trans hd3⟩, ?_⟩
      exact hkp.trans (hk2.trans (hkp3.trans (KpG.putObj W3 _ _ _ (by omega) hrx hl3)))
    · rintro e W2 ⟨⟨v, rfl⟩, xs, hS, hi, hl, hd⟩
      exact ⟨none, _, run_endLoop (r := rc .ready) hl (by simp [rc]), hdone _ xs _ (Nat.le_refl _) hS (hI.putObj _ hi (by omega) hl rfl) ((World.putObj_heap_other (by omega)).trans hd)⟩


theorem und38 : Try.prog.underlying 38 = some (.slice 3) := by kernel_rfl
theorem run_eqnil (a : Addr) (n c : Nat) (w : World) : (binOp .eql 38 (.slice (some a) n c) (.slice none 0 0)).run Try.prog w = .ok (.bool false) w := by
  have h : ∀ d : Nat, (Op.equalIn (d + 1) 38 (.slice (some a) n c) (.slice none 0 0)).run Try.prog w = .ok false w := fun d => by
    simp [Op.equalIn, run_underlying und38]
  simp only [binOp]
  simp [Op.equal, Op.maxDepth, h 9999]
attribute [local go_sem] run_eqnil
theorem nums_at {l : List Int} {j : Nat} (h : j < l.length) : (nums l)[j]? = some (.int .i64 (l[j]?.getD 0)) := by
  simp [nums, List.getElem?_map, List.getElem?_eq_getElem h]

set_option maxRecDepth 100000 in
set_option maxHeartbeats 2000000 in
theorem clone_calls {b off m c : Nat} {xs : List Int} (w : World) (h : Reads w (some ⟨b, off, none⟩) m xs) (hm : m ≤ 100) :
    Calls Try.prog 57 #[.slice (some ⟨b, off, none⟩) m c] w fun e w' => (∃ v, e = .returned v ∧ w'.ownsRow w.heap.size 3 1 v m (nums xs)) ∧ Below w.heap.size w w' := by
  obtain ⟨i0, hi0, hz0, hz1, hz2⟩ := info_parts info3
  have HR := Lib.hid h
  clear h
  go_enter Try.func57, Try.ntmps57
  have hO : (w.alloc (.cells #[] 3)).ownsRow w.heap.size 3 1 (.slice (some ⟨w.heap.size, 0, none⟩) 0 0) 0 (nums []) := by
    exact ⟨rfl, .inr ⟨w.heap.size, 0, #[], rfl, Nat.le_refl _, World.alloc_heap_new w _, Nat.le_refl _, Nat.zero_le _, rfl, rfl⟩⟩
  have hx : ∀ j u, (nums xs)[j]? = some u → (w.alloc (.cells #[] 3)).cell? ((⟨b, off, none⟩ : Addr).add j) = some u := fun j u hu => by
    have hj : j < xs.length := by
      have := (List.getElem?_eq_some_iff.1 hu).1
      simpa [nums] using this
    rw [nums_at hj] at hu
    cases hu
    have hr := HR.out
    obtain ⟨b', o', e, hc⟩ := hr.2.2 (by rw [← hr.1]; omega)
    cases e
    have h1 := hc j (by rw [← hr.1]; exact hj)
    rw [WideShapes.add_plain, World.cell?_alloc_past (hn := World.block_lt_of_cell? w _ h1)]
    exact h1
  have HX := Lib.hid hx
  clear hx
  go_wp2_with (at_builtin; refine wpList_append_own _ rfl _ _ 38 rfl w.heap.size 3 i0 (.int .i64 0) 1 8 Try.underlying38 hi0 hz0 hz1 hz2 rfl (by decide) _ _ _ rfl hO ⟨b, off, none⟩ m c (nums xs) rfl (by simp [nums, HR.out.1]) HX.out (by intro u hu; obtain ⟨y, _, rfl⟩ := List.mem_map.1 hu; rfl) ?c3 ?c4 ?c5 ?_)
  case c3 => unfold maxLen; omega
  case c4 => omega
  case c5 => simp
  intro v' w7 hown' hgrow _
  have HO' := Lib.hid hown'
  have HB4 := Lib.hid (((Below.refl w.heap.size w).alloc (Nat.le_refl _) (.cells #[] 3)).grown hgrow (by simp) (by intro j hj; cases hj; exact Nat.le_refl _))
  clear hown' hgrow hO
  go_wp2
  go_ret
  exact ⟨⟨v', rfl, HO'.out⟩, HB4.out⟩
end Go.Proofs.Ytjncoableanmpaa
