/- The reference's Divide: one try is noted: appending what reads as a list, and what stays. -/
import Derived.Test.YtjncoableanmpaaQS
namespace Go.Proofs.Ytjncoableanmpaa
open Go.RowKit Go.Lib Go.Shelf

theorem run_append_nothing {P : Program} (w : World) (base : Nat) (t ty e : TypeId) (i : TypeInfo) (ht : P.underlying t = some (.slice e)) (hi : P.info? e = some i) (v : Value) (n : Nat) (xs : List Value) (hown : w.ownsRow base e 1 v n xs) (c : Nat) :
    (Builtin.append_ #[t, t] ty #[v, .slice none 0 c]).run P w = .ok v w := by
  rcases hown.2 with ⟨rfl, rfl⟩ | ⟨g, cap, cur, rfl, hbg, hg, hnc, hcm, hcs, htake⟩
  · simp [Builtin.append_, run_underlying ht, sizeOf, typeInfo, hi, Builtin.lenOf, Builtin.firstCells]
  · simp [Builtin.append_, run_underlying ht, sizeOf, typeInfo, hi, Builtin.lenOf, Builtin.firstCells, loadCells, hnc, storeCells]

/-- Whole numbers that lie somewhere are appended to what the call owns. -/
theorem wp_append_reads {o : Oper} {a : Act} {K : Act → World → Prop} {Q : Exit → Act → World → Prop} (w : World) (s x : Operand) (t : TypeId)
    (ho : o.op = .call { callee := .builtin .append, args := #[s, x], argTypes := #[t, t] })
    (base : Nat) (i : TypeInfo) (z : Value) (bytes : Nat) (ht : Try.prog.underlying t = some (.slice 3)) (hi : Try.prog.info? 3 = some i) (hz : i.zero = some z)
    (hsize : i.size = 1) (hby : i.bytes = bytes) (hzs : z.cells.size = 1)
    (v : Value) (n : Nat) (xs : List Int) (hs : a.eval s = v) (hown : w.ownsRow base 3 1 v n (nums xs))
    (A : Option Addr) (m c : Nat) (ys : List Int) (hx : a.eval x = .slice A m c) (hr : Reads w A m ys)
    (h63 : n + m ≤ maxLen) (hbytes : (n + m) * bytes ≤ 140737488355328) (hbase : base ≤ w.heap.size)
    (h : ∀ v' w', w'.ownsRow base 3 1 v' (n + m) (nums (xs ++ ys)) → w.grownBy w' v.ownBlock → K (a.put o.dst v') w') : o.wp Try.prog a w K Q := by
  rcases Nat.eq_zero_or_pos m with h0 | h0
  · subst h0
    have hys : ys = [] := List.eq_nil_of_length_eq_zero hr.1
    subst hys
    rw [List.append_nil, Nat.add_zero] at h
    have hk := h v w hown ⟨rfl, rfl, rfl, Nat.le_refl _, fun _ _ _ => rfl⟩
    cases A with
    | none =>
      have hrun := run_append_nothing (P := Try.prog) w base t o.type 3 i ht hi v n (nums xs) hown c
      unfold Oper.wp execOp
      simp only [ho, resolve, invoke, builtin, Sem.run_bind, Sem.run_pure, Result.andThen_ok, List.map_toArray, List.map_cons, List.map_nil, hs, hx, hrun]
      exact hk
    | some ad =>
      refine wp_append_own w s x t ho base 3 i z 1 bytes ht hi hz hsize hby hzs (by decide) v n (nums xs) hs hown ad 0 c [] hx rfl (by simp) (by simp) (by simpa using h63) (by simpa using hbytes) hbase ?_
      intro v' w' h1 h2 _
      rw [List.append_nil] at h1
      exact h v' w' (by simpa using h1) h2
  · obtain ⟨b, off, e, hc⟩ := hr.2.2 h0
    subst e
    refine wp_append_own w s x t ho base 3 i z 1 bytes ht hi hz hsize hby hzs (by decide) v n (nums xs) hs hown ⟨b, off, none⟩ m c (nums ys) hx (by simp [nums, hr.1]) ?_ (by intro u hu; obtain ⟨y, _, rfl⟩ := List.mem_map.1 hu; rfl) h63 hbytes hbase ?_
    · intro j u hu
      have hj : j < ys.length := by
        have := (List.getElem?_eq_some_iff.1 hu).1
        simpa [nums] using this
      rw [nums_at hj] at hu
      cases hu
      rw [WideShapes.add_plain]
      exact hc j (by rw [← hr.1]; exact hj)
    · intro v' w' h1 h2 _
      refine h v' w' ?_ h2
      rw [show nums (xs ++ ys) = nums xs ++ nums ys by simp [nums]]
      exact h1

/-- Between the world W and X nothing of W's blocks has changed but B11 and B12, which hold these rows. -/
structure Mid (wo W : World) (B11 B12 n : Nat) (v : Nat → Int × Int) (sv : Nat → Value) (X : World) : Prop where
  base : Below wo.heap.size wo X
  size : W.heap.size ≤ X.heap.size
  same : ∀ b, b < W.heap.size → b ≠ B11 → b ≠ B12 → X.heap[b]? = W.heap[b]?
  r : Row2 X B11 n v
  s : RowS X B12 n sv
  lt : B11 < W.heap.size ∧ B12 < W.heap.size
  hne : B11 ≠ B12
  ge : wo.heap.size ≤ B11 ∧ wo.heap.size ≤ B12
section
variable {wo W X Y : World} {B11 B12 n : Nat} {v : Nat → Int × Int} {sv : Nat → Value}
theorem Mid.next (h : Mid wo W B11 B12 n v sv X) (hb : Below X.heap.size X Y) : Mid wo W B11 B12 n v sv Y :=
  ⟨h.base.trans (hb.mono h.base.size), Nat.le_trans h.size hb.size, fun b h1 h2 h3 => (hb.block b (Nat.lt_of_lt_of_le h1 h.size)).trans (h.same b h1 h2 h3), h.r.later hb, h.s.later hb, h.lt, h.hne, h.ge⟩
theorem Mid.drew (h : Mid wo W B11 B12 n v sv X) : Mid wo W B11 B12 n v sv X.drew := h.next (Below.refl _ _).drew
theorem Mid.alloc (h : Mid wo W B11 B12 n v sv X) (o : Obj) : Mid wo W B11 B12 n v sv (X.alloc o) := h.next ((Below.refl _ _).alloc (Nat.le_refl _) _)
theorem Row2.kept {w w' : World} {B : Nat} {row : Option Nat} (h : Row2 w B n v) (hg : w.grownBy w' row) (hne : some B ≠ row) : Row2 w' B n v := by
  obtain ⟨ds, h1, h2, h3⟩ := h
  exact ⟨ds, h1, h2.kept hg hne, h3⟩
theorem RowS.kept {w w' : World} {B : Nat} {row : Option Nat} (h : RowS w B n sv) (hg : w.grownBy w' row) (hne : some B ≠ row) : RowS w' B n sv := by
  obtain ⟨ds, h1, h2, h3⟩ := h
  exact ⟨ds, h1, h2.kept hg hne, h3⟩
theorem Mid.grown (h : Mid wo W B11 B12 n v sv X) {row : Option Nat} (hg : X.grownBy Y row) (hr : ∀ k, row = some k → W.heap.size ≤ k) (hw : wo.heap.size ≤ W.heap.size) : Mid wo W B11 B12 n v sv Y :=
  ⟨h.base.grown hg h.base.size (fun k hk => Nat.le_trans hw (hr k hk)), Nat.le_trans h.size hg.size, fun b h1 h2 h3 => (hg.block b (Nat.lt_of_lt_of_le h1 h.size) (fun e => by have := hr b e.symm; omega)).trans (h.same b h1 h2 h3),
   h.r.kept hg (fun e => by have := hr _ e.symm; have := h.lt.1; omega), h.s.kept hg (fun e => by have := hr _ e.symm; have := h.lt.2; omega), h.lt, h.hne, h.ge⟩
theorem Mid.put2 (h : Mid wo W B11 B12 n v sv X) {e : Nat} (he : e ≤ n) (a b : Int) : Mid wo W B11 B12 n (upd v e (a, b)) sv ((X.setCell ⟨B11, e * 2, none⟩ (.int .i64 a)).setCell ⟨B11, e * 2 + 1, none⟩ (.int .i64 b)) :=
  ⟨(h.base.setCell (p := ⟨B11, e * 2, none⟩) h.ge.1 _).setCell (p := ⟨B11, e * 2 + 1, none⟩) h.ge.1 _, by simpa using h.size, fun c h1 h2 h3 => by
    rw [Below.heap_setCell _ ⟨B11, e * 2 + 1, none⟩ _ c (fun e' => h2 e'), Below.heap_setCell _ ⟨B11, e * 2, none⟩ _ c (fun e' => h2 e')]
    exact h.same c h1 h2 h3, h.r.set he (a, b), (h.s.other h.hne _ _).other h.hne _ _, h.lt, h.hne, h.ge⟩
theorem Mid.put1 (h : Mid wo W B11 B12 n v sv X) {e : Nat} (he : e ≤ n) (x : Value) : Mid wo W B11 B12 n v (upd sv e x) (X.setCell ⟨B12, e, none⟩ x) :=
  ⟨h.base.setCell (p := ⟨B12, e, none⟩) h.ge.2 _, by simpa using h.size, fun c h1 h2 h3 => by
    rw [Below.heap_setCell _ ⟨B12, e, none⟩ _ c (fun e' => h3 e')]
    exact h.same c h1 h2 h3, h.r.other (Ne.symm h.hne) _ _, h.s.set he x, h.lt, h.hne, h.ge⟩
theorem Mid.start (hb : Below wo.heap.size wo W) (hr : Row2 W B11 n v) (hs : RowS W B12 n sv) (hne : B11 ≠ B12) (hg : wo.heap.size ≤ B11 ∧ wo.heap.size ≤ B12) : Mid wo W B11 B12 n v sv W :=
  ⟨hb, Nat.le_refl _, fun _ _ _ _ => rfl, hr, hs, ⟨hr.lt, hs.lt⟩, hne, hg⟩
theorem Mid.blk (h : Mid wo W B11 B12 n v sv X) {B : Nat} {cs : List Value} (k : Blk W B cs) (h1 : B ≠ B11) (h2 : B ≠ B12) : Blk X B cs :=
  ⟨Nat.lt_of_lt_of_le k.lt h.size, fun j u hu => (World.cell?_of_block (a := ⟨B, j, none⟩) (h.same B k.lt h1 h2)).trans (k.cell j u hu), fun j => (World.frozen?_of_block (a := ⟨B, j, none⟩) (h.same B k.lt h1 h2)).trans (k.free j)⟩
theorem Mid.reads (h : Mid wo W B11 B12 n v sv X) {A : Option Addr} {m : Nat} {xs : List Int} (k : Reads W A m xs) (hA : ∀ a, A = some a → a.block ≠ B11 ∧ a.block ≠ B12) : Reads X A m xs := by
  refine ⟨k.1, k.2.1, fun h0 => ?_⟩
  obtain ⟨b, off, e, hc⟩ := k.2.2 h0
  have h2 := hA _ e
  exact ⟨b, off, e, fun j hj => (World.cell?_of_block (a := ⟨b, off + j, none⟩) (h.same b (World.block_lt_of_cell? W _ (hc j hj)) h2.1 h2.2)).trans (hc j hj)⟩
theorem Mid.lies (h : Mid wo W B11 B12 n v sv X) {k : Nat} {x : Value} (hl : Lies W k B11 B12 x) : Lies X k B11 B12 x := by
  obtain ⟨A, m, c, xs, e, hr, h1, h2, h3⟩ := hl
  exact ⟨A, m, c, xs, e, h.reads hr h3, h1, h2, h3⟩
/-- The cells that the walk asks for. -/
theorem Mid.cells (h : Mid wo W B11 B12 n v sv X) {T B9 f e : Nat} {a b u : Value} {sv0 : Nat → Value} {n0 : Nat} (hT : Blk W T [a, b]) (hT1 : T ≠ B11 ∧ T ≠ B12) (h9 : RowS W B9 n0 sv0) (h91 : B9 ≠ B11 ∧ B9 ≠ B12) (hf : f ≤ n0) (hu : sv0 f = u) (he : e ≤ n) :
    (X.cell? ⟨T, 0, none⟩ = some a ∧ X.cell? ⟨T, 1, none⟩ = some b) ∧ X.cell? ⟨B9, f, none⟩ = some u ∧
    (X.cell? ⟨B11, e * 2, none⟩ = some (valAt X ⟨B11, e * 2, none⟩) ∧ X.cell? ⟨B11, e * 2 + 1, none⟩ = some (valAt X ⟨B11, e * 2 + 1, none⟩) ∧ X.frozen? ⟨B11, e * 2, none⟩ = false ∧ X.frozen? ⟨B11, e * 2 + 1, none⟩ = false) ∧
    (X.cell? ⟨B12, e, none⟩ = some (valAt X ⟨B12, e, none⟩) ∧ X.frozen? ⟨B12, e, none⟩ = false) := by
  have k9 : Blk X B9 _ := h.blk h9.choose_spec.2.1 h91.1 h91.2
  have kr := h.r.at he
  have ks := h.s.at he
  exact ⟨(h.blk hT hT1.1 hT1.2).two, by rw [← hu]; exact k9.cell _ _ (h9.choose_spec.2.2 f hf), ⟨valAt_of kr.1.1, valAt_of kr.1.2, kr.2.1, kr.2.2⟩, valAt_of ks.1, ks.2⟩
end
theorem own_put {w : World} {base n : Nat} {e : TypeId} {size : Nat} {v : Value} {xs : List Value} (h : w.ownsRow base e size v n xs) {B : Nat} (hB : B < base) (i : Nat) (x : Value) : (w.setCell ⟨B, i, none⟩ x).ownsRow base e size v n xs :=
  h.kept (grow_setCell w B i x) (by
    cases hv : v.ownBlock with
    | none => simp
    | some g => have := own_base' h g hv; simp; omega)
theorem own_made {w : World} {M G : Nat} (h : w.heap.size = G) (hM : M ≤ G) : (w.alloc (.cells #[] 3)).ownsRow M 3 1 (.slice (some ⟨G, 0, none⟩) 0 0) 0 (nums []) := by
  subst h
  exact ⟨rfl, .inr ⟨w.heap.size, 0, #[], rfl, hM, World.alloc_heap_new w _, Nat.le_refl _, Nat.zero_le _, rfl, rfl⟩⟩
theorem own_drew {w : World} {base n : Nat} {e : TypeId} {size : Nat} {v : Value} {xs : List Value} (h : w.ownsRow base e size v n xs) : w.drew.ownsRow base e size v n xs := own_later h (Below.refl _ _).drew
/-- An owned slice, as the rows want it. -/
theorem lies_own {w : World} {base m k B1 B2 : Nat} {v : Value} {xs : List Int} (h : w.ownsRow base 3 1 v m (nums xs)) (hm : 0 < m) (hk : m ≤ k) (hbig : m ≤ 17592186044416) (h1 : B1 < base) (h2 : B2 < base) : Lies w k B1 B2 v := by
  obtain ⟨A, c, e, hr⟩ := own_reads h hbig
  subst e
  refine ⟨A, m, c, xs, rfl, hr, hk, ?_, fun a ha => ?_⟩
  · rcases h.2 with ⟨_, h0⟩ | ⟨g, cap, cur, hv, _, _, hle, _⟩
    · omega
    · cases hv
      exact hle
  · obtain ⟨g, cap, hv, hb, _⟩ := h.form hm
    cases hv
    cases ha
    show g ≠ B1 ∧ g ≠ B2
    omega
/-- What column e holds before and after one try. -/
theorem Col.dec {p : Prop} [Decidable p] (b : Bool) (h : decide p = b) : (b = true → p) ∧ (b = false → ¬ p) := by
  subst h
  exact ⟨fun h => of_decide_eq_true h, fun h => of_decide_eq_false h⟩
end Go.Proofs.Ytjncoableanmpaa
