/- What holds between two copies of TopCut: two sheets that grow, each beside the other. -/
import Derived.Test.YtphbiaagmhhhbaaTI
namespace Go.Proofs.Ytphbiaagmhhhbaa
open Go.RowKit Go.Lib Go.Shelf

/-- max of three. -/
theorem run_max3 {P : Program} (w : World) (ts : Array TypeId) (t : TypeId) (k k' k'' : IntKind) (x y z : Int) :
    (Builtin.max_ ts t #[.int k x, .int k' y, .int k'' z]).run P w = .ok (.int k (max (max x y) z)) w := by
  have e : ∀ a b : Int, (if a < b then b else a) = max a b := fun a b => by
    split <;> omega
  have h2 : ∀ (k k' : IntKind) (x y : Int), Builtin.max2 (.int k x) (.int k' y) = pure (.int k (max x y)) := fun k k' x y => by
    simp only [Builtin.max2]
    rw [e]
  have h3 : Builtin.max_ ts t #[.int k x, .int k' y, .int k'' z] = (Builtin.max2 (.int k x) (.int k' y) >>= fun s => Builtin.max2 s (.int k'' z) >>= fun s => pure s) := by
    simp only [Builtin.max_, List.foldlM_cons, List.foldlM_nil]
  rw [h3, h2]
  simp only [pure_bind, h2]
  rfl

theorem Reads.grown {w w' : World} {A : Option Addr} {n : Nat} {l : List Int} {row : Option Nat} (h : Reads w A n l) (hg : w.grownBy w' row) (hne : ∀ p, A = some p → some p.block ≠ row) : Reads w' A n l := by
  refine ⟨h.1, h.2.1, fun h0 => ?_⟩
  obtain ⟨b, off, rfl, hc⟩ := h.2.2 h0
  exact ⟨b, off, rfl, fun j hj => hg.cell (hc j hj) (by have := hne _ rfl; exact this)⟩
theorem grown_set (W : World) (B j : Nat) (v : Value) : W.grownBy (W.setCell ⟨B, j, none⟩ v) (some B) :=
  ⟨rfl, rfl, rfl, by simp, fun k _ hk => Below.heap_setCell W ⟨B, j, none⟩ v k (fun e => hk (by rw [e]))⟩
theorem Blk.grown {w w' : World} {B : Nat} {cs : List Value} {row : Option Nat} (h : Blk w B cs) (hg : w.grownBy w' row) (hne : some B ≠ row) : Blk w' B cs :=
  ⟨Nat.lt_of_lt_of_le h.lt hg.size, fun j v hv => hg.cell (h.cell j v hv) hne, fun j => (World.frozen?_of_block (a := ⟨B, j, none⟩) (hg.block B h.lt hne)).trans (h.free j)⟩

/-- A slice of lists of the call's own; the lists lie apart from it, and from another block. -/
def OwnsL (W : World) (base : Nat) (v : Value) (xs : List Value) (ls : List (List Int)) (no : Option Nat) : Prop :=
  W.ownsRow base 32 1 v ls.length xs ∧ ∀ j, j < ls.length → ∃ p c, xs[j]? = some (.slice (some p) (rowAt ls j).length c) ∧ Reads W (some p) (rowAt ls j).length (rowAt ls j) ∧ base ≤ p.block ∧ p.block < W.heap.size ∧ some p.block ≠ v.ownBlock ∧ some p.block ≠ no
theorem OwnsL.nil (W : World) (base : Nat) (no : Option Nat) : OwnsL W base (.slice none 0 0) [] [] no := ⟨World.ownsRow_nil _ _ _ _, fun _ hj => absurd hj (Nat.not_lt_zero _)⟩
theorem OwnsL.grown {W W' : World} {base : Nat} {v : Value} {xs : List Value} {ls : List (List Int)} {no row no' : Option Nat} (h : OwnsL W base v xs ls no) (hg : W.grownBy W' row) (hv : v.ownBlock = none ∨ v.ownBlock ≠ row)
    (hb : ∀ k, row = some k → k < base ∨ row = no) (hno : no' = no ∨ ∃ k, no' = some k ∧ W.heap.size ≤ k) : OwnsL W' base v xs ls no' := by
  refine ⟨h.1.kept hg hv, fun j hj => ?_⟩
  obtain ⟨p, c, hx, hr, h1, h2, h3, h4⟩ := h.2 j hj
  refine ⟨p, c, hx, hr.grown hg fun q hq e => ?_, h1, Nat.lt_of_lt_of_le h2 hg.size, h3, ?_⟩
  · cases hq
    rcases hb p.block e.symm with h | h
    · omega
    · exact h4 (e.trans h)
  · rcases hno with rfl | ⟨k, rfl, hk⟩
    · exact h4
    · intro e
      cases e
      omega
theorem OwnsL.later {W W' : World} {base : Nat} {v : Value} {xs : List Value} {ls : List (List Int)} {no : Option Nat} (h : OwnsL W base v xs ls no) (hb : Below W.heap.size W W') : OwnsL W' base v xs ls no :=
  h.grown (row := none) ⟨hb.os, hb.tape, hb.output, hb.size, fun i hi _ => hb.block i hi⟩ (by cases v.ownBlock <;> simp) (fun k hk => by cases hk) (.inl rfl)
/-- A list is appended. -/
theorem OwnsL.append {W W' : World} {base : Nat} {v v' : Value} {xs : List Value} {ls : List (List Int)} {no : Option Nat} {p : Addr} {c : Nat} {l : List Int} (h : OwnsL W base v xs ls no) (hg : W.grownBy W' v.ownBlock)
    (ho : W'.ownsRow base 32 1 v' (ls.length + 1) (xs ++ [.slice (some p) l.length c])) (hl : v'.ownBlock = v.ownBlock ∨ ∃ k, v'.ownBlock = some k ∧ W.heap.size ≤ k)
    (hr : Reads W (some p) l.length l) (h1 : base ≤ p.block) (h2 : p.block < W.heap.size) (h3 : some p.block ≠ v.ownBlock) (h4 : some p.block ≠ no) : OwnsL W' base v' (xs ++ [.slice (some p) l.length c]) (ls ++ [l]) no := by
  have hxl : xs.length = ls.length := by have := h.1.1; simpa using this
  have hne : ∀ b, b < W.heap.size → some b ≠ v.ownBlock → some b ≠ v'.ownBlock := fun b hb hv => by
    rcases hl with e | ⟨k, e, hk⟩
    · rw [e]; exact hv
    · rw [e]; intro e'; cases e'; omega
  refine ⟨by simpa using ho, fun j hj => ?_⟩
  rw [List.length_append, List.length_singleton] at hj
  by_cases e : j = ls.length
  · subst e
    have er : rowAt (ls ++ [l]) ls.length = l := by unfold rowAt; rw [List.getElem?_append_right (Nat.le_refl _), Nat.sub_self]; rfl
    rw [er]
    refine ⟨p, c, by rw [List.getElem?_append_right (by omega), hxl, Nat.sub_self]; rfl, hr.grown hg fun q hq => ?_, h1, Nat.lt_of_lt_of_le h2 hg.size, hne _ h2 h3, h4⟩
    cases hq
    exact h3
  · have er : rowAt (ls ++ [l]) j = rowAt ls j := by unfold rowAt; rw [List.getElem?_append_left (by omega)]
    rw [er]
    obtain ⟨q, d, k1, k2, k3, k4, k5, k6⟩ := h.2 j (by omega)
    refine ⟨q, d, by rw [List.getElem?_append_left (by omega)]; exact k1, k2.grown hg fun r hr => ?_, k3, Nat.lt_of_lt_of_le k4 hg.size, hne _ k4 k5, k6⟩
    cases hr
    exact k5
theorem OwnsL.reads {W : World} {base : Nat} {v : Value} {xs : List Value} {ls : List (List Int)} {no : Option Nat} (h : OwnsL W base v xs ls no) : ∃ A c, v = .slice A ls.length c ∧ ReadsR W A ls.length ls := by
  have hxl : xs.length = ls.length := by have := h.1.1; simpa using this
  rcases Nat.eq_zero_or_pos ls.length with h0 | h0
  · rcases h.1.2 with ⟨rfl, _⟩ | ⟨g, cap, cur, rfl, _⟩
    · exact ⟨none, 0, by rw [h0], rfl, fun hp => absurd hp (by omega)⟩
    · exact ⟨_, cap, rfl, rfl, fun hp => absurd hp (by omega)⟩
  · obtain ⟨g, cap, rfl, _, _⟩ := h.1.form h0
    refine ⟨_, cap, rfl, rfl, fun _ => ⟨g, 0, rfl, fun j hj => ?_⟩⟩
    obtain ⟨p, c, k1, k2, _⟩ := h.2 j hj
    have hc := h.1.cells (g := g) rfl j _ k1
    rw [WideShapes.add_plain] at hc
    exact ⟨_, c, hc, k2⟩

/-- What holds between two copies. -/
structure TInv (w W : World) (rc oc gc sc : List Value) (v1 v2 : Value) (x1 x2 : List Value) (l1 l2 : List (List Int)) : Prop where
  below : Below w.heap.size w W
  size : w.heap.size + 6 ≤ W.heap.size
  rows : Blk W w.heap.size rc
  offs : Blk W (w.heap.size + 1) oc
  gros : Blk W (w.heap.size + 2) gc
  spool : Blk W (w.heap.size + 3) sc
  x : Blk W (w.heap.size + 4) [.int .i64 0, v1]
  d : Blk W (w.heap.size + 5) [.int .i64 0, v2]
  o1 : OwnsL W (w.heap.size + 6) v1 x1 l1 v2.ownBlock
  o2 : OwnsL W (w.heap.size + 6) v2 x2 l2 v1.ownBlock
  ne : ∀ k, v1.ownBlock = some k → v2.ownBlock ≠ some k
section
variable {w W : World} {rc oc gc sc : List Value} {v1 v2 : Value} {x1 x2 : List Value} {l1 l2 : List (List Int)}
theorem TInv.later {W' : World} (h : TInv w W rc oc gc sc v1 v2 x1 x2 l1 l2) (hb : Below W.heap.size W W') : TInv w W' rc oc gc sc v1 v2 x1 x2 l1 l2 :=
  ⟨h.below.trans (hb.mono h.below.size), Nat.le_trans h.size hb.size, h.rows.later hb, h.offs.later hb, h.gros.later hb, h.spool.later hb, h.x.later hb, h.d.later hb, h.o1.later hb, h.o2.later hb, h.ne⟩
theorem TInv.held (h : TInv w W rc oc gc sc v1 v2 x1 x2 l1 l2) : Held W (fun W => TInv w W rc oc gc sc v1 v2 x1 x2 l1 l2) := fun _ hW => h.later hW
theorem own_ge {W : World} {base n : Nat} {e : TypeId} {size : Nat} {v : Value} {xs : List Value} (h : W.ownsRow base e size v n xs) {b : Nat} (hb : b < base) : some b ≠ v.ownBlock := fun e => by have := (h.lt b e.symm).1; omega
theorem own_ge' {W : World} {base n : Nat} {e : TypeId} {size : Nat} {v : Value} {xs : List Value} (h : W.ownsRow base e size v n xs) {b : Nat} (hb : W.heap.size ≤ b) : some b ≠ v.ownBlock := fun e => by have := (h.lt b e.symm).2; omega
theorem none_or {v : Value} {b : Nat} (h : some b ≠ v.ownBlock) : v.ownBlock = none ∨ v.ownBlock ≠ some b := .inr fun e => h e.symm
/-- x.Copies = append(x.Copies, l). -/
theorem TInv.addX {W' : World} {v' : Value} {p : Addr} {c : Nat} {l : List Int} (h : TInv w W rc oc gc sc v1 v2 x1 x2 l1 l2) (hg : W.grownBy W' v1.ownBlock)
    (ho : W'.ownsRow (w.heap.size + 6) 32 1 v' (l1.length + 1) (x1 ++ [.slice (some p) l.length c])) (hl : v'.ownBlock = v1.ownBlock ∨ v'.ownBlock = some W.heap.size)
    (hr : Reads W (some p) l.length l) (h1 : w.heap.size + 6 ≤ p.block) (h2 : p.block < W.heap.size) (h3 : some p.block ≠ v1.ownBlock) (h4 : some p.block ≠ v2.ownBlock) :
    TInv w (W'.setCell ⟨w.heap.size + 4, 1, none⟩ v') rc oc gc sc v' v2 (x1 ++ [.slice (some p) l.length c]) x2 (l1 ++ [l]) l2 := by
  have hv : ∀ b, b < w.heap.size + 6 → some b ≠ v1.ownBlock := fun b hb => own_ge h.o1.1 hb
  have hv' : ∀ b, b < w.heap.size + 6 → some b ≠ v'.ownBlock := fun b hb => own_ge ho hb
  have hw2 : ∀ b, b < w.heap.size + 6 → some b ≠ v2.ownBlock := fun b hb => own_ge h.o2.1 hb
  have gs := grown_set W' (w.heap.size + 4) 1 v'
  have hl' : v'.ownBlock = v1.ownBlock ∨ ∃ k, v'.ownBlock = some k ∧ W.heap.size ≤ k := hl.imp id (fun h => ⟨_, h, Nat.le_refl _⟩)
  have hno : v'.ownBlock = v1.ownBlock ∨ ∃ k, v'.ownBlock = some k ∧ W.heap.size ≤ k := hl'
  have hv12 : v2.ownBlock = none ∨ v2.ownBlock ≠ v1.ownBlock := by
    cases e : v1.ownBlock with
    | none => cases e2 : v2.ownBlock with
      | none => exact .inl rfl
      | some k => exact .inr (by simp)
    | some k => exact .inr (h.ne k e)
  refine ⟨(h.below.grown hg h.below.size (fun k hk => by have := own_base' h.o1.1 k hk; omega)).setCell (p := ⟨w.heap.size + 4, 1, none⟩) (by simp) _, by have := h.size; have := hg.size; simp; omega,
    (h.rows.grown hg (hv _ (by omega))).other (by omega) _ _, (h.offs.grown hg (hv _ (by omega))).other (by omega) _ _, (h.gros.grown hg (hv _ (by omega))).other (by omega) _ _, (h.spool.grown hg (hv _ (by omega))).other (by omega) _ _,
    (h.x.grown hg (hv _ (by omega))).set 1 (by simp) v', (h.d.grown hg (hv _ (by omega))).other (by omega) _ _, ?_, ?_, ?_⟩
  · refine (h.o1.append hg ho hl' hr h1 h2 h3 h4).grown gs (none_or (hv' _ (by omega))) (fun k hk => by cases hk; exact .inl (by omega)) (.inl rfl)
  · exact (h.o2.grown hg hv12 (fun k hk => .inr rfl) hno).grown gs (none_or (hw2 _ (by omega))) (fun k hk => by cases hk; exact .inl (by omega)) (.inl rfl)
  · intro k hk e
    rcases hl with e' | e'
    · exact h.ne k (e' ▸ hk) e
    · rw [hk] at e'
      cases e'
      exact own_ge' h.o2.1 (Nat.le_refl _) e.symm
/-- drifted.Copies = append(drifted.Copies, l). -/
theorem TInv.addD {W' : World} {v' : Value} {p : Addr} {c : Nat} {l : List Int} (h : TInv w W rc oc gc sc v1 v2 x1 x2 l1 l2) (hg : W.grownBy W' v2.ownBlock)
    (ho : W'.ownsRow (w.heap.size + 6) 32 1 v' (l2.length + 1) (x2 ++ [.slice (some p) l.length c])) (hl : v'.ownBlock = v2.ownBlock ∨ v'.ownBlock = some W.heap.size)
    (hr : Reads W (some p) l.length l) (h1 : w.heap.size + 6 ≤ p.block) (h2 : p.block < W.heap.size) (h3 : some p.block ≠ v2.ownBlock) (h4 : some p.block ≠ v1.ownBlock) :
    TInv w (W'.setCell ⟨w.heap.size + 5, 1, none⟩ v') rc oc gc sc v1 v' x1 (x2 ++ [.slice (some p) l.length c]) l1 (l2 ++ [l]) := by
  have hv : ∀ b, b < w.heap.size + 6 → some b ≠ v2.ownBlock := fun b hb => own_ge h.o2.1 hb
  have hv' : ∀ b, b < w.heap.size + 6 → some b ≠ v'.ownBlock := fun b hb => own_ge ho hb
  have hw2 : ∀ b, b < w.heap.size + 6 → some b ≠ v1.ownBlock := fun b hb => own_ge h.o1.1 hb
  have gs := grown_set W' (w.heap.size + 5) 1 v'
  have hl' : v'.ownBlock = v2.ownBlock ∨ ∃ k, v'.ownBlock = some k ∧ W.heap.size ≤ k := hl.imp id (fun h => ⟨_, h, Nat.le_refl _⟩)
  have hv12 : v1.ownBlock = none ∨ v1.ownBlock ≠ v2.ownBlock := by
    cases e : v1.ownBlock with
    | none => exact .inl rfl
    | some k => exact .inr fun e2 => h.ne k e e2.symm
  refine ⟨(h.below.grown hg h.below.size (fun k hk => by have := own_base' h.o2.1 k hk; omega)).setCell (p := ⟨w.heap.size + 5, 1, none⟩) (by simp) _, by have := h.size; have := hg.size; simp; omega,
    (h.rows.grown hg (hv _ (by omega))).other (by omega) _ _, (h.offs.grown hg (hv _ (by omega))).other (by omega) _ _, (h.gros.grown hg (hv _ (by omega))).other (by omega) _ _, (h.spool.grown hg (hv _ (by omega))).other (by omega) _ _,
    (h.x.grown hg (hv _ (by omega))).other (by omega) _ _, (h.d.grown hg (hv _ (by omega))).set 1 (by simp) v', ?_, ?_, ?_⟩
  · exact (h.o1.grown hg hv12 (fun k hk => .inr rfl) hl').grown gs (none_or (hw2 _ (by omega))) (fun k hk => by cases hk; exact .inl (by omega)) (.inl rfl)
  · exact (h.o2.append hg ho hl' hr h1 h2 h3 h4).grown gs (none_or (hv' _ (by omega))) (fun k hk => by cases hk; exact .inl (by omega)) (.inl rfl)
  · intro k hk e
    rcases hl with e' | e'
    · exact h.ne k hk (e' ▸ e)
    · rw [e] at e'
      cases e'
      exact own_ge' h.o1.1 (Nat.le_refl _) hk.symm
/-- drifted.Off = f. -/
theorem TInv.off (h : TInv w W rc oc gc sc v1 v2 x1 x2 l1 l2) (f : Value) : Below w.heap.size w (W.setCell ⟨w.heap.size + 5, 0, none⟩ f) ∧ Blk (W.setCell ⟨w.heap.size + 5, 0, none⟩ f) (w.heap.size + 5) [f, v2] ∧ OwnsL (W.setCell ⟨w.heap.size + 5, 0, none⟩ f) (w.heap.size + 6) v2 x2 l2 v1.ownBlock :=
  ⟨h.below.setCell (p := ⟨w.heap.size + 5, 0, none⟩) (by simp) _, h.d.set 0 (by simp) f, h.o2.grown (grown_set W _ _ _) (none_or (own_ge h.o2.1 (by omega))) (fun k hk => by cases hk; exact .inl (by omega)) (.inl rfl)⟩
/-- A list that lies apart from both sheets' slices. -/
def Apart (base : Nat) (v1 v2 : Value) (W : World) (A : Option Addr) (n : Nat) (l : List Int) : Prop :=
  Reads W A n l ∧ ∃ b o, A = some ⟨b, o, none⟩ ∧ base ≤ b ∧ b < W.heap.size ∧ some b ≠ v1.ownBlock ∧ some b ≠ v2.ownBlock
theorem TInv.apart {W' : World} (h : TInv w W rc oc gc sc v1 v2 x1 x2 l1 l2) {A : Option Addr} {n : Nat} {l : List Int} (hr : Reads W' A n l) (hn : 0 < n) (hA : ∀ p, A = some p → W.heap.size ≤ p.block) : Apart (w.heap.size + 6) v1 v2 W' A n l := by
  obtain ⟨b, o, e, hc⟩ := hr.2.2 hn
  have hb := hA _ e
  have hs := h.size
  exact ⟨hr, b, o, e, by dsimp at hb; omega, World.block_lt_of_cell? W' _ (hc 0 hn), own_ge' h.o1.1 hb, own_ge' h.o2.1 hb⟩
section
variable {base : Nat} {A : Option Addr} {n : Nat} {l : List Int} {W' : World}
theorem Apart.r (h : Apart base v1 v2 W A n l) : Reads W A n l := h.1
theorem Apart.held (h : Apart base v1 v2 W A n l) : Held W (fun W => Apart base v1 v2 W A n l) := fun W' hW => by
  obtain ⟨hr, b, o, e, h1, h2, h3, h4⟩ := h
  exact ⟨hr.later hW, b, o, e, h1, Nat.lt_of_lt_of_le h2 hW.size, h3, h4⟩
theorem Apart.step1 {v' : Value} (h : Apart base v1 v2 W A n l) (hg : W.grownBy W' v1.ownBlock) (hl : v'.ownBlock = v1.ownBlock ∨ v'.ownBlock = some W.heap.size) {B : Nat} (hB : B < base) (j : Nat) (u : Value) : Apart base v' v2 (W'.setCell ⟨B, j, none⟩ u) A n l := by
  obtain ⟨hr, b, o, rfl, h1, h2, h3, h4⟩ := h
  refine ⟨(hr.grown hg fun p hp => ?_).grown (grown_set W' B j u) fun p hp => ?_, b, o, rfl, h1, ?_, ?_, h4⟩
  · cases hp; exact h3
  · cases hp; intro e; have e2 : b = B := Option.some.inj e; omega
  · have := hg.size; simp; omega
  · rcases hl with e | e
    · rw [e]; exact h3
    · rw [e]; intro e'; cases e'; omega
theorem Apart.step2 {v' : Value} (h : Apart base v1 v2 W A n l) (hg : W.grownBy W' v2.ownBlock) (hl : v'.ownBlock = v2.ownBlock ∨ v'.ownBlock = some W.heap.size) {B : Nat} (hB : B < base) (j : Nat) (u : Value) : Apart base v1 v' (W'.setCell ⟨B, j, none⟩ u) A n l := by
  obtain ⟨hr, b, o, rfl, h1, h2, h3, h4⟩ := h
  refine ⟨(hr.grown hg fun p hp => ?_).grown (grown_set W' B j u) fun p hp => ?_, b, o, rfl, h1, ?_, h3, ?_⟩
  · cases hp; exact h4
  · cases hp; intro e; have e2 : b = B := Option.some.inj e; omega
  · have := hg.size; simp; omega
  · rcases hl with e | e
    · rw [e]; exact h4
    · rw [e]; intro e'; cases e'; omega
end
end
end Go.Proofs.Ytphbiaagmhhhbaa
