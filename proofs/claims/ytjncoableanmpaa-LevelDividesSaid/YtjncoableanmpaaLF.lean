/- An iterator that ranges over another iterator: a law of its own, for rounds that are never left. -/
import Derived.Test.YtjncoableanmpaaLE
namespace Go.Proofs.Ytjncoableanmpaa
open Go.RowKit Go.Lib Go.Shelf
attribute [local go_sem] Oper.semAt_some

theorem wide_room (k : Nat) : Fence.wide.room k := fun d h => by cases h
theorem yield_deep {m : Nat} (m' : Nat) {l : Nat} {args : Array Value} {W : World} {R : Ending → World → Prop} (h : YieldAt Fence.wide m Try.prog l args W R) : YieldAt Fence.wide m' Try.prog l args W R := by
  obtain ⟨fn, tmps, assign, body, hy, hR⟩ := h
  exact ⟨fn, tmps, assign, body, hy, hR.1, fun c cs _ => hR.2 c cs (wide_room _)⟩

/-- What a round keeps: all below n₀, and all blocks from B on but for x. -/
structure KpG (n₀ B x : Nat) (W W' : World) : Prop where
  low : Below n₀ W W'
  high : ∀ k o, B ≤ k → k ≠ x → W.heap[k]? = some o → W'.heap[k]? = some o
theorem KpG.refl (n₀ B x : Nat) (W : World) : KpG n₀ B x W W := ⟨Below.refl _ _, fun _ _ _ _ h => h⟩
theorem KpG.trans {n₀ B x : Nat} {X Y Z : World} (h : KpG n₀ B x X Y) (k : KpG n₀ B x Y Z) : KpG n₀ B x X Z := ⟨h.low.trans k.low, fun i o hi hx ho => k.high i o hi hx (h.high i o hi hx ho)⟩
theorem KpG.putObj {n₀ B x : Nat} (W : World) (l : Nat) (o o' : Obj) (hn : n₀ ≤ l) (hx : l < B ∨ l = x) (h : W.heap[l]? = some o) : KpG n₀ B x W (W.putObj l o') :=
  ⟨(Below.refl n₀ W).grown (grownBy_putObj' W l o') (by have := (Array.getElem?_eq_some_iff.1 h).1; omega) (fun k e => by cases e; omega), fun k p hB hne hk => (World.putObj_heap_other (by omega)).trans hk⟩
theorem KpG.of_below {n₀ B x : Nat} {W W' : World} (hn : n₀ ≤ W.heap.size) (h : Below W.heap.size W W') : KpG n₀ B x W W' := ⟨h.mono hn, fun k _ _ _ hk => (h.block k (Array.getElem?_eq_some_iff.1 hk).1).trans hk⟩
theorem KpG.alloc {n₀ B x : Nat} {W W' : World} (h : KpG n₀ B x W W') (hn : n₀ ≤ W'.heap.size) (o : Obj) : KpG n₀ B x W (W'.alloc o) := h.trans (KpG.of_below hn ((Below.refl _ _).alloc (Nat.le_refl _) _))
theorem KpG.but {n₀ B y : Nat} {W W' : World} (h : KpG n₀ B 0 W W') (hB : 0 < B) : KpG n₀ B y W W' := ⟨h.low, fun k o hk _ ho => h.high k o hk (by omega) ho⟩
theorem KpG.keeps {n₀ B B' : Nat} {W W' : World} (h : KpG n₀ B 0 W W') (hB : 0 < B) (hB' : B ≤ B') : KeepsFrom B' W W' := ⟨h.low.size, fun k o hk ho _ => h.high k o (by omega) (by omega) ho⟩
theorem Hp.kp {n₀ B x Bx : Nat} {W W' : World} {cs : List Value} {t : TypeId} (h : Hp W Bx cs t) (hk : KpG n₀ B x W W') (hB : B ≤ Bx) (hx : Bx ≠ x) : Hp W' Bx cs t := hk.high Bx _ hB hx h

/-- An iterator that yields a list, whatever its rounds keep of their own. -/
def SeqO {α : Type} (m g : Nat) (lb : Array Value) (encs : α → Array Value) (n₀ B x : Nat) (S : List α → Prop) (N : Nat) (w : World) : Prop :=
  ∀ (r : Nat) (J : List α → World → Prop) (W : World), Below w.heap.size w W → B ≤ W.heap.size → OwnFrom W.heap.size J →
    (∀ pre y W1, J pre W1 → pre.length < N → YieldAt Fence.wide (m - 1) Try.prog r (encs y) W1 fun e W' => e = .returned (.bool true) ∧ J (pre ++ [y]) W' ∧ KpG n₀ B x W1 W') →
    J [] W → CallsIn Fence.wide m Try.prog g (#[.func (.yield r) #[] #[]] ++ lb) W fun e W' => (∃ v, e = .returned v) ∧ ∃ xs, S xs ∧ J xs W'

theorem OwnFrom.more {β : Type} {B B' : Nat} {I : β → World → Prop} (h : OwnFrom B I) (hB : B ≤ B') : OwnFrom B' I := fun s X Y row hs hg hr => h s X Y row hs hg (fun r e => ⟨Nat.le_trans hB (hr r e).1, (hr r e).2⟩)

theorem range_own {α : Type} {g : Operand} {ps : Array Tmp} {assign body : Code} {Q : Exit → Act → World → Prop} {a : Act} {w : World} {n gf : Nat} {lb : Array Value}
    (hg : a.eval g = .func (.func gf) #[] lb) (eg : ∀ args w, (callFunc gf args).run Try.prog w = .ok (.enter gf args) w)
    {encs : α → Array Value} {n₀ B rx : Nat} {S : List α → Prop} {N : Nat} {w0 : World} (hn0 : n₀ ≤ w.heap.size) (hrx : w.heap.size + 1 < B ∨ w.heap.size + 1 = rx) (hBw : B ≤ w.heap.size + 2) (hseq : SeqO (n - 1) gf lb encs n₀ B rx S N w0) (hb0 : Below w0.heap.size w0 w) (hps : ∀ x : α, (encs x).size = ps.size)
    (I : List α → World → Prop) (hI : OwnFrom w.heap.size I) (h0 : I [] w) (Ax : α → Act → World → Prop) (hAx : ∀ x a', OwnFrom w.heap.size (fun (_ : Unit) W => Ax x a' W))
    (hassign : ∀ (l : Nat) (pre : List α) (x : α) (W : World) (K : Act → World → Prop), I pre W → (∀ a' W', KeepsFrom w.heap.size W W' → KpG n₀ B rx W W' → I pre W' → Ax x a' W' → K a' W') →
      assign.wpIn (Fence.wide.inRound l) (n - 1 - 1) Try.prog (Exit.then K (fun _ _ _ => False)) { tmps := (ps.zip (encs x)).foldl (fun t (p, v) => t.setIfInBounds p v) a.tmps, defers := [] } W)
    (hbody : ∀ (l : Nat) (pre : List α) (x : α) (a' : Act) (W : World), I pre W → Ax x a' W → pre.length < N → body.wpIn (Fence.wide.inRound l) (n - 1 - 1) Try.prog (fun e _ W' => e = .normal ∧ KeepsFrom w.heap.size W W' ∧ KpG n₀ B rx W W' ∧ I (pre ++ [x]) W') a' W)
    (hdone : ∀ (D : Nat) (xs : List α) (W : World), w.heap.size ≤ D → S xs → I xs W → W.heap[D]? = some (.deferred (some [])) → Q .normal { a with defers := { target := .collected D, args := #[] } :: a.defers } W) :
    (Code.rangeFunc g ps assign body).wpIn Fence.wide n Try.prog Q a w := by
  refine wpIn_rangeFunc fun fn hfn => ?_
  let rc : LoopState → Loop := fun st => { state := st, pending := none, fn, tmps := a.tmps, params := ps, assign, body, defers := w.heap.size }
  have e1 : (w.alloc (.deferred (some []))).heap.size = w.heap.size + 1 := by simp
  have g1 : Below w.heap.size w ((w.alloc (.deferred (some []))).alloc (.loop (rc .ready))) := ((Below.refl _ _).alloc (Nat.le_refl _) _).alloc (by simp) _
  have hD : ((w.alloc (.deferred (some []))).alloc (.loop (rc .ready))).heap[w.heap.size]? = some (.deferred (some [])) := (Below.heap_alloc _ _ _ (by simp)).trans (World.alloc_heap_new w _)
  have hL : ((w.alloc (.deferred (some []))).alloc (.loop (rc .ready))).heap[w.heap.size + 1]? = some (.loop (rc .ready)) := by
    have h := World.alloc_heap_new (w.alloc (.deferred (some []))) (.loop (rc .ready))
    rwa [e1] at h
  have hi1 : I [] ((w.alloc (.deferred (some []))).alloc (.loop (rc .ready))) := hI _ _ _ none (hI _ _ _ none h0 (World.grownBy_alloc _ _ none) (by simp)) (World.grownBy_alloc _ _ none) (by simp)
  have hsz : ((w.alloc (.deferred (some []))).alloc (.loop (rc .ready))).heap.size = w.heap.size + 2 := by simp
  refine ⟨w.heap.size + 1, [{ target := .collected w.heap.size, args := #[] }], ((w.alloc (.deferred (some []))).alloc (.loop (rc .ready))), { target := .fn (.func gf) lb, args := #[.func (.yield (w.heap.size + 1)) #[] #[]] }, ((w.alloc (.deferred (some []))).alloc (.loop (rc .ready))), gf, #[.func (.yield (w.heap.size + 1)) #[] #[]] ++ lb, ((w.alloc (.deferred (some []))).alloc (.loop (rc .ready))), run_enterLoop_outer _ _ _ _ _, ?_, fun _ _ => trivial, ?_, (fun h => by cases h), ?_⟩
  · simp only [resolve, hg]
    simp [go_sem]
  · simp [invoke, go_sem, eg]
  · change CallsIn _ _ _ _ _ ((w.alloc (.deferred (some []))).alloc (.loop (rc .ready))) _
    generalize ((w.alloc (.deferred (some []))).alloc (.loop (rc .ready))) = w1 at g1 hD hL hi1 hsz ⊢
    refine (hseq (w.heap.size + 1) (fun pre W => I pre W ∧ W.heap[w.heap.size + 1]? = some (.loop (rc .ready)) ∧ W.heap[w.heap.size]? = some (.deferred (some []))) w1 (hb0.trans (g1.mono hb0.size)) (by omega)
      (fun s X Y row hs hg' hr => ?_) (fun pre x W h hlen => ?_) ⟨hi1, hL, hD⟩).mono ?_
    · have hne : ∀ k, k < w.heap.size + 2 → some k ≠ row := fun k hk e => by have := (hr k e.symm).1; omega
      refine ⟨hI s X Y row hs.1 hg' (fun r e => ⟨by have := (hr r e).1; omega, (hr r e).2⟩), ?_, ?_⟩
      · exact (hg'.block _ (Array.getElem?_eq_some_iff.1 hs.2.1).1 (hne _ (by omega))).trans hs.2.1
      · exact (hg'.block _ (Array.getElem?_eq_some_iff.1 hs.2.2).1 (hne _ (by omega))).trans hs.2.2
    · obtain ⟨hi, hl, hd⟩ := h
      refine ⟨fn, _, assign, body, run_yield (r := rc .ready) hl (hps x), roundIn_of_wpIn hfn (hassign _ pre x W _ hi fun a' Wa hkf hkp hia hax => ?_)⟩
      have hl1 := hkf.same _ _ (by omega) hl rfl
      have hd1 := hkf.same _ _ (Nat.le_refl _) hd rfl
      have hlt := (Array.getElem?_eq_some_iff.1 hl1).1
      refine ⟨_, run_beginRound (r := rc .ready) hl1 rfl, ?_⟩
      have hl2 : (Wa.putObj (w.heap.size + 1) (.loop { rc .ready with state := .busy })).heap[w.heap.size + 1]? = some (.loop (rc .busy)) := World.putObj_heap_same hlt
      have hd2 : (Wa.putObj (w.heap.size + 1) (.loop { rc .ready with state := .busy })).heap[w.heap.size]? = some (.deferred (some [])) := (World.putObj_heap_other (by omega)).trans hd1
      have hk2 : KpG n₀ B rx Wa (Wa.putObj (w.heap.size + 1) (.loop { rc .ready with state := .busy })) := KpG.putObj Wa _ _ _ (by omega) hrx hl1
      have hi2 := hI.putObj (.loop { rc .ready with state := .busy }) hia (show w.heap.size ≤ w.heap.size + 1 by omega) hl1 rfl
      have hx2 := (hAx x a').putObj (s := ()) (.loop { rc .ready with state := .busy }) hax (show w.heap.size ≤ w.heap.size + 1 by omega) hl1 rfl
      generalize Wa.putObj (w.heap.size + 1) (.loop { rc .ready with state := .busy }) = Wb at hl2 hd2 hk2 hi2 hx2 ⊢
      refine wpIn_mono (hbody _ pre x a' Wb hi2 hx2 hlen) ?_
      rintro e a3 W3 ⟨rfl, hk3, hkp3, hi3⟩
      have hl3 := hk3.same _ _ (by omega) hl2 rfl
      have hd3 := hk3.same _ _ (Nat.le_refl _) hd2 rfl
      refine ⟨_, _, run_endRound (r := rc .busy) none hl3, rfl, ⟨hI.putObj _ hi3 (by omega) hl3 rfl, World.putObj_heap_same (Array.getElem?_eq_some_iff.1 hl3).1, (World.putObj_heap_other (by omega)).trans hd3⟩, ?_⟩
      exact hkp.trans (hk2.trans (hkp3.trans (KpG.putObj W3 _ _ _ (by omega) hrx hl3)))
    · rintro e W2 ⟨⟨v, rfl⟩, xs, hS, hi, hl, hd⟩
      exact ⟨none, _, run_endLoop (r := rc .ready) hl (by simp [rc]), hdone _ xs _ (Nat.le_refl _) hS (hI.putObj _ hi (by omega) hl rfl) ((World.putObj_heap_other (by omega)).trans hd)⟩

/-- The iterator over trios, for such rounds. -/
theorem all_seq (m : Nat) (hm : 1 ≤ m) (Bs n₀ B x n : Nat) (hreach : n ≤ 24) (w : World) (hBs : Hp w Bs [.int .i64 (n : Int)] 3) (hB : B ≤ Bs) (hx : Bs ≠ x) :
    SeqO m 68 #[.pointer (some ⟨Bs, 0, none⟩)] (encT n) n₀ B x (fun ys : List (Tx n) => ys.map (·.1) = trios n) 100000 w := by
  intro r J W hW _ _ hY h0
  have hBW := hBs.later hW
  refine (all1_in m hm r Bs n₀ n hreach (fun pre W => J pre W ∧ Hp W Bs [.int .i64 (n : Int)] 3) (fun _ _ => False) (fun pre x W1 h hlen => ?_) W (hBW.cell rfl) ⟨h0, hBW⟩).mono ?_
  · refine (hY pre x W1 h.1 hlen).mono ?_
    rintro e W' ⟨rfl, hJ', hK⟩
    have h' := h.2.kp hK hB hx
    exact .inl ⟨rfl, ⟨hJ', h'⟩, hK.low, by rw [show W'.heap[Bs]? = _ from h', show W1.heap[Bs]? = _ from h.2]⟩
  · rintro e W' ⟨h1, ⟨ys, h2, h3, _⟩ | ⟨_, hf⟩⟩
    · exact ⟨h1, ys, h2, h3⟩
    · exact hf.elim
end Go.Proofs.Ytjncoableanmpaa
