/- The laws' helpers: the record of numbers. -/
import Derived.Test.YtpnkbjdeiedhlaaNA
import Derived.Test.YtpnkbjdeiedhlaaRV
namespace Go.Proofs.Ytpnkbjdeiedhlaa
open Go.RowKit Go.Lib Go.Shelf
open St

theorem own_alloc {w : World} {base n : Nat} {e : TypeId} {size : Nat} {v : Value} {xs : List Value} (h : w.ownsRow base e size v n xs) (o : Obj) : (w.alloc o).ownsRow base e size v n xs := own_later h ((Below.refl _ _).alloc (Nat.le_refl _) _)
theorem info66 : (Try.prog.info? 66).map (fun i => (i.zero, i.size, i.bytes)) = some (some (.agg #[.slice none 0 0, .bool false]), 2, 32) := by kernel_rfl
theorem Reads.grown {w w1 : World} {A : Option Addr} {n : Nat} {l : List Int} {row : Option Nat} (h : Reads w A n l) (hg : w.grownBy w1 row) (hf : ∀ p, A = some p → 0 < n → row ≠ some p.block) : Reads w1 A n l := by
  refine ⟨h.1, h.2.1, fun h0 => ?_⟩
  obtain ⟨b, off, e, hc⟩ := h.2.2 h0
  refine ⟨b, off, e, fun j hj => ?_⟩
  have h1 := hc j hj
  rw [← h1]
  exact World.cell?_of_block (a := ⟨b, off + j, none⟩) (hg.block b (World.block_lt_of_cell? w _ h1) (Ne.symm (hf _ e h0)))
/-- A strip that lies apart from a row. -/
structure StripAt (X : World) (base : Nat) (v : Value) (A : Option Addr) (m c : Nat) (l : List Int) : Prop where
  rd : Reads X A m l
  le : m ≤ c
  fr : ∀ p, A = some p → 0 < m → base ≤ p.block ∧ v.ownBlock ≠ some p.block
section
variable {X Y : World} {base : Nat} {v v' : Value} {A : Option Addr} {m c : Nat} {l : List Int}
theorem StripAt.later (h : StripAt X base v A m c l) (hb : Below X.heap.size X Y) : StripAt Y base v A m c l := ⟨h.rd.later hb, h.le, h.fr⟩
theorem StripAt.grown (h : StripAt X base v A m c l) (hg : X.grownBy Y v.ownBlock) (hv : v'.ownBlock = v.ownBlock ∨ v'.ownBlock = some X.heap.size) : StripAt Y base v' A m c l :=
  ⟨h.rd.grown hg (fun p hp h0 => (h.fr p hp h0).2), h.le, fun p hp h0 => ⟨(h.fr p hp h0).1, by
    rcases hv with hv | hv
    · rw [hv]; exact (h.fr p hp h0).2
    · rw [hv]
      intro e
      obtain ⟨b, off, e2, hc⟩ := h.rd.2.2 h0
      have h1 := World.block_lt_of_cell? X _ (hc 0 h0)
      rw [e2] at hp
      cases hp
      simp at e
      simp at h1
      omega⟩⟩
theorem StripAt.set (h : StripAt X base v A m c l) {B : Nat} (hB : B < base) (i : Nat) (u : Value) : StripAt (X.setCell ⟨B, i, none⟩ u) base v A m c l :=
  ⟨⟨h.rd.1, h.rd.2.1, fun h0 => by
    obtain ⟨b, off, e, hc⟩ := h.rd.2.2 h0
    refine ⟨b, off, e, fun j hj => ?_⟩
    have := (h.fr _ e h0).1
    rw [World.cell?_setCell_other _ _ _ _ (by intro e'; cases e'; simp at this; omega)]
    exact hc j hj⟩, h.le, h.fr⟩
end
/-- The tests' cells: slices that read as the strips. -/
def CellsT (w : World) (base : Nat) (v : Value) (cs : List Value) (l : List Tst) : Prop := cs.length = l.length * 2 ∧ ∀ j, j < l.length → (∃ B m c, cs[j * 2]? = some (.slice B m c) ∧ StripAt w base v B m c (l[j]?.getD ⟨[], false⟩).strip) ∧ cs[j * 2 + 1]? = some (.bool (l[j]?.getD ⟨[], false⟩).ans)
section
variable {w w1 : World} {base : Nat} {v v' : Value} {cs : List Value} {l : List Tst}
theorem CellsT.map (h : CellsT w base v cs l) (hs : ∀ B m c s, StripAt w base v B m c s → StripAt w1 base v' B m c s) : CellsT w1 base v' cs l :=
  ⟨h.1, fun j hj => by
    obtain ⟨⟨B, m, c, h1, h2⟩, h4⟩ := h.2 j hj
    exact ⟨⟨B, m, c, h1, hs _ _ _ _ h2⟩, h4⟩⟩
theorem CellsT.later (h : CellsT w base v cs l) (hb : Below w.heap.size w w1) : CellsT w1 base v cs l := h.map fun _ _ _ _ hs => hs.later hb
theorem CellsT.grown (h : CellsT w base v cs l) (hg : w.grownBy w1 v.ownBlock) (hv : v'.ownBlock = v.ownBlock ∨ v'.ownBlock = some w.heap.size) : CellsT w1 base v' cs l := h.map fun _ _ _ _ hs => hs.grown hg hv
theorem CellsT.set (h : CellsT w base v cs l) {B : Nat} (hB : B < base) (i : Nat) (u : Value) : CellsT (w.setCell ⟨B, i, none⟩ u) base v cs l := h.map fun _ _ _ _ hs => hs.set hB i u
theorem CellsT.snoc (h : CellsT w base v cs l) {B : Option Addr} {m c : Nat} {x : Tst} (hr : StripAt w base v B m c x.strip) : CellsT w base v (cs ++ [.slice B m c, .bool x.ans]) (l ++ [x]) := by
  have hl1 := h.1
  refine ⟨by simp [h.1]; omega, fun j hj => ?_⟩
  rw [List.length_append, List.length_singleton] at hj
  by_cases e : j = l.length
  · subst e
    rw [List.getElem?_append_right (by omega), List.getElem?_append_right (by omega), List.getElem?_append_right (by omega), h.1, Nat.sub_self, Nat.sub_self, show l.length * 2 + 1 - l.length * 2 = 1 by omega]
    exact ⟨⟨B, m, c, rfl, hr⟩, rfl⟩
  · rw [List.getElem?_append_left (by omega), List.getElem?_append_left (by omega), List.getElem?_append_left (by omega)]
    exact h.2 j (by omega)
theorem CellsT.nil (w : World) (base : Nat) (v : Value) : CellsT w base v [] [] := ⟨rfl, fun _ hj => absurd hj (Nat.not_lt_zero _)⟩
/-- What is owned reads as tests. -/
theorem own_readsT {n : Nat} {e : TypeId} (h : w.ownsRow base e 2 v n cs) (hc : CellsT w base v cs l) (hl : l.length = n) (hn : n ≤ 17592186044416) : ∃ A c, v = .slice A n c ∧ ReadsT w A n l ∧ n ≤ c := by
  rcases Nat.eq_zero_or_pos n with h0 | h0
  · subst h0
    rcases h.2 with ⟨rfl, _⟩ | ⟨g, cap, cur, rfl, _⟩
    · exact ⟨none, 0, rfl, ⟨hl, by omega, fun hp => absurd hp (by omega)⟩, by omega⟩
    · exact ⟨_, cap, rfl, ⟨hl, by omega, fun hp => absurd hp (by omega)⟩, by omega⟩
  · have hcap := own_cap h
    obtain ⟨g, cap, rfl, _, _⟩ := h.form h0
    refine ⟨_, cap, rfl, ⟨hl, hn, fun _ => ⟨g, 0, rfl, fun j hj => ?_⟩⟩, hcap _ _ rfl⟩
    obtain ⟨⟨B, m, c, h1, h2⟩, h4⟩ := hc.2 j (by omega)
    have k1 := h.cells (g := g) rfl _ _ h1
    have k2 := h.cells (g := g) rfl _ _ h4
    rw [WideShapes.add_plain] at k1 k2
    exact ⟨⟨B, m, c, k1, h2.rd, h2.le⟩, by rw [← Nat.add_assoc] at k2; exact k2⟩
end
/-- A row that is owned reads as tests, also behind a store to an elder block. -/
structure RowR (X : World) (base : Nat) (A : Option Addr) (n c : Nat) (l : List Tst) : Prop where
  ex : ∃ cs, X.ownsRow base 66 2 (.slice A n c) n cs ∧ CellsT X base (.slice A n c) cs l
  len : l.length = n
theorem RowR.mk' {X : World} {base : Nat} {A : Option Addr} {n c : Nat} {l : List Tst} {cs : List Value} (h1 : X.ownsRow base 66 2 (.slice A n c) n cs) (h2 : CellsT X base (.slice A n c) cs l) (h3 : l.length = n) : RowR X base A n c l := ⟨⟨cs, h1, h2⟩, h3⟩
theorem RowR.set {X : World} {base : Nat} {A : Option Addr} {n c : Nat} {l : List Tst} (h : RowR X base A n c l) {B : Nat} (hB : B < base) (i : Nat) (u : Value) : RowR (X.setCell ⟨B, i, none⟩ u) base A n c l := by
  obtain ⟨⟨cs, h1, h2⟩, h3⟩ := h
  exact ⟨⟨cs, own_set h1 hB i u, h2.set hB i u⟩, h3⟩
theorem RowR.reads {X : World} {base : Nat} {A : Option Addr} {n c : Nat} {l : List Tst} (h : RowR X base A n c l) (hn : n ≤ 17592186044416 := by omega) : ReadsT X A n l := by
  obtain ⟨⟨cs, h1, h2⟩, h3⟩ := h
  obtain ⟨A', c', e, hr, _⟩ := own_readsT h1 h2 h3 hn
  cases e
  exact hr
/-- A record's box, and the row of its tests. -/
def RowA (X : World) (B5 base : Nat) (M K v : Value) (k : Nat) (lk : List Tst) : Prop := Hp X B5 [M, K, v] 24 ∧ ∃ cs, X.ownsRow base 66 2 v k cs ∧ CellsT X base v cs lk
/-- The row has grown; the box is not written yet. -/
def RowB (X : World) (B5 base : Nat) (M K v v' : Value) (k : Nat) (lk : List Tst) : Prop := Hp X B5 [M, K, v] 24 ∧ (∃ g cap, v' = .slice (some ⟨g, 0, none⟩) k cap) ∧ ∃ cs, X.ownsRow base 66 2 v' k cs ∧ CellsT X base v' cs lk
section
variable {X Y : World} {B5 base : Nat} {M K v v' : Value} {k : Nat} {lk : List Tst}
theorem RowA.later (h : RowA X B5 base M K v k lk) (hb : Below X.heap.size X Y) : RowA Y B5 base M K v k lk := by
  obtain ⟨h5, cs, h1, h2⟩ := h
  exact ⟨h5.later hb, cs, own_later h1 hb, h2.later hb⟩
theorem RowB.store (h : RowB X B5 base M K v v' k lk) (hB : B5 < base) : RowA (X.setCell ⟨B5, 2, none⟩ v') B5 base M K v' k lk := by
  obtain ⟨h5, _, cs, h1, h2⟩ := h
  exact ⟨h5.set 2 v', cs, own_set h1 hB 2 v', h2.set hB 2 v'⟩
theorem RowA.grow {x : Tst} {A3 : Option Addr} {m3 c3 : Nat} {cs : List Value} (h5 : Hp X B5 [M, K, v] 24) (ho : X.ownsRow base 66 2 v k cs) (hc : CellsT X base v cs lk) (hB : B5 < base) (hx : StripAt X base v A3 m3 c3 x.strip)
    (hown : Y.ownsRow base 66 2 v' (k + 1) (cs ++ [.slice A3 m3 c3, .bool x.ans])) (hg : X.grownBy Y v.ownBlock) (hv : v'.ownBlock = v.ownBlock ∨ v'.ownBlock = some X.heap.size) : RowB Y B5 base M K v v' (k + 1) (lk ++ [x]) := by
  refine ⟨h5.kept hg (fun e => ?_), ?_, _, hown, (hc.grown hg hv).snoc (hx.grown hg hv)⟩
  · have := own_base' ho B5 e.symm
    omega
  · obtain ⟨g, cap, e, _, _⟩ := hown.form (by omega)
    exact ⟨g, cap, e⟩
end
/-- append to a row that is owned: the block is the old one or a new one. -/
theorem wp_append_at {o : Oper} {a : Act} {w : World} {K : Act → World → Prop} {Q : Exit → Act → World → Prop} (s x : Operand) (t : TypeId)
    (ho : o.op = .call { callee := .builtin .append, args := #[s, x], argTypes := #[t, t] })
    (base : Nat) (e : TypeId) (i : TypeInfo) (z : Value) (size bytes : Nat) (ht : Try.prog.underlying t = some (.slice e)) (hi : Try.prog.info? e = some i) (hz : i.zero = some z)
    (hsize : i.size = size) (hby : i.bytes = bytes) (hzs : z.cells.size = size) (hsz : 0 < size)
    (v : Value) (n : Nat) (xs : List Value) (hs : a.eval s = v) (hown : w.ownsRow base e size v n xs)
    (ad : Addr) (m c : Nat) (news : List Value) (hx : a.eval x = .slice (some ad) m c) (hl : news.length = m * size) (hnews : ∀ j u, news[j]? = some u → w.cell? (ad.add j) = some u) (h1 : ∀ u ∈ news, u.oneCell' = true)
    (h63 : n + m ≤ maxLen) (hbytes : (n + m) * bytes ≤ 140737488355328) (hbase : base ≤ w.heap.size)
    (h : ∀ v' w', w'.ownsRow base e size v' (n + m) (xs ++ news) → w.grownBy w' v.ownBlock → (v'.ownBlock = v.ownBlock ∨ v'.ownBlock = some w.heap.size) → K (a.put o.dst v') w') : o.wp Try.prog a w K Q := by
  obtain ⟨v', w', hr, h2, h3, _, h5⟩ := run_append_own_at (P := Try.prog) w base t o.type e i z size bytes ht hi hz hsize hby hzs hsz v n xs hown ad m c news hl hnews h1 h63 hbytes hbase
  unfold Oper.wp execOp
  simp only [ho, resolve, invoke, builtin, Sem.run_bind, Sem.run_pure, Result.andThen_ok, List.map_toArray, List.map_cons, List.map_nil, hs, hx, hr]
  exact h v' w' h2 h3 h5
theorem own_lt {w : World} {base n : Nat} {e : TypeId} {size : Nat} {v : Value} {xs : List Value} (h : w.ownsRow base e size v n xs) (k : Nat) (hk : v.ownBlock = some k) : k < w.heap.size := by
  rcases h.2 with ⟨rfl, _⟩ | ⟨g, cap, cur, rfl, hb, hg, _⟩
  · simp [Value.ownBlock] at hk
  · have e : g = k := by simpa [Value.ownBlock] using hk
    subst e
    exact (Array.getElem?_eq_some_iff.1 hg).1
theorem Blk.news {w : World} {B : Nat} {cs : List Value} (h : Blk w B cs) : ∀ j u, cs[j]? = some u → w.cell? ((⟨B, 0, none⟩ : Addr).add j) = some u := by
  intro j u hj
  rw [WideShapes.add_plain, Nat.zero_add]
  exact h.cell j u hj
theorem not_yet {Lst : Nat → Bool} {n i : Nat} (h : Lst n = true → ∀ j, j < n → Lst j = true) (hi : i < n) (hf : Lst i = false) : Lst n = false := by
  cases hb : Lst n with
  | false => rfl
  | true => rw [h hb i hi] at hf; cases hf
/-- A test by its bits. -/
def madeT (N : Nat) (b : Nat) : Tst := ⟨segK (bit b) N, decide (128 ≤ b)⟩
/-- The tests of a record of numbers. -/
def madeL (N : Nat) (l : List Nat) : List Tst := (l.take 6).map (madeT N)

/-- Between two operations of the region. -/
def InvM (w1 : World) (B5 base Bw bb off n c M k b : Nat) (Kv v : Value) (lk : List Tst) (x : Tst) (Fr : Value → Value → Value → Value → Value → Value → Value → Value → Value → Value → Value → Value → Value → Value → Value → Value → Value → Value → Value → Value → Value → Act) (Lst : Nat → Bool) (a : Act) (X : World) : Prop := ∃ t30 t31 t32 t33 t34 t35 t36 t37 t38 t39 t40 t41 t42 t43 t44 t45 t46 t47 t48 t49 t50 : Value, a = Fr t30 t31 t32 t33 t34 t35 t36 t37 t38 t39 t40 t41 t42 t43 t44 t45 t46 t47 t48 t49 t50 ∧ (Below w1.heap.size w1 X ∧ base ≤ X.heap.size) ∧ ((Lst 21 = true → ∀ j, j < 21 → Lst j = true) ∧ (Lst 19 = true → Lst 1 = true ∧ Lst 10 = true ∧ Lst 18 = true) ∧ (Lst 18 = true → Lst 17 = true) ∧ (Lst 17 = true → Lst 10 = true)) ∧ ((Lst 19 = false → RowA X B5 base (.int .i64 (M : Int)) Kv v k lk) ∧ (Lst 19 = true → Lst 21 = false → RowB X B5 base (.int .i64 (M : Int)) Kv v t49 (k + 1) (lk ++ [x])) ∧ (Lst 21 = true → RowA X B5 base (.int .i64 (M : Int)) Kv t49 (k + 1) (lk ++ [x]))) ∧ ((Lst 0 = true → t30 = .pointer (some ⟨B5, 2, none⟩)) ∧ (Lst 1 = true → t31 = v) ∧ (Lst 2 = true → t32 = .pointer (some ⟨B5, 0, none⟩)) ∧ (Lst 3 = true → t33 = .int .i64 (M : Int)) ∧ (Lst 4 = true → t34 = .pointer (some ⟨Bw, 2, none⟩))) ∧ ((Lst 5 = true → t35 = .slice (some ⟨bb, off, none⟩) n c) ∧ (Lst 6 = true → t36 = .int .i64 (k : Int)) ∧ (Lst 7 = true → t37 = .pointer (some ⟨bb, off + k, none⟩)) ∧ (Lst 8 = true → t38 = .int .u8 (b : Int)) ∧ (Lst 9 = true → t39 = .int .i64 (b : Int))) ∧ ((Lst 10 = true → Lst 19 = false → ∃ A3 m3 c3, t40 = .slice A3 m3 c3 ∧ StripAt X base v A3 m3 c3 x.strip) ∧ (Lst 11 = true → t41 = .pointer (some ⟨Bw, 2, none⟩)) ∧ (Lst 12 = true → t42 = .slice (some ⟨bb, off, none⟩) n c) ∧ (Lst 13 = true → t43 = .int .i64 (k : Int)) ∧ (Lst 14 = true → t44 = .pointer (some ⟨bb, off + k, none⟩))) ∧ ((Lst 15 = true → t45 = .int .u8 (b : Int)) ∧ (Lst 16 = true → t46 = .bool x.ans) ∧ (Lst 17 = true → Lst 19 = false → ∃ A3 m3 c3, t47 = .agg #[.slice A3 m3 c3, .bool x.ans] ∧ StripAt X base v A3 m3 c3 x.strip) ∧ (Lst 18 = true → Lst 19 = false → ∃ A3 m3 c3 b8, t48 = .slice (some ⟨b8, 0, none⟩) 1 1 ∧ Blk X b8 [.slice A3 m3 c3, .bool x.ans] ∧ StripAt X base v A3 m3 c3 x.strip) ∧ (Lst 20 = true → t50 = .pointer (some ⟨B5, 2, none⟩)))

set_option maxRecDepth 100000 in
set_option maxHeartbeats 4000000 in
theorem made_calls {N L : Nat} (hN : N ≤ 255) (hL : L ≤ 255) {A : Option Addr} {n c : Nat} {l : List Nat} {q : Nat} (hq : 2 ≤ q ∧ q ≤ 14) (w : World) (hl : ReadsB w A n l) :
    Calls Try.prog 36 #[trial N L A n c, .int .i64 ((q + 1 : Nat) : Int)] w fun e w' => ∃ A' k c', e = .returned (rec ((2 + N % q : Nat) : Int) ((L % 3 : Nat) : Int) A' k c') ∧ (ReadsT w' A' k (madeL (2 + N % q) l) ∧ k ≤ c' ∧ k ≤ 6 ∧ (k = 0 → A' = none ∧ c' = 0)) ∧ Below w.heap.size w w' := by
  obtain ⟨i0, hi0, hz0, hz1, hz2⟩ := info_parts info66
  have I : Held ((w.alloc (.cells #[.int .u8 (N : Int), .int .u8 (L : Int), .slice A n c] 53)).alloc (.cells #[.int .i64 0, .int .i64 0, .slice none 0 0] 24)) (fun W => (((Below w.heap.size w W ∧ ReadsB W A n l) ∧ Blk W w.heap.size [.int .u8 (N : Int), .int .u8 (L : Int), .slice A n c]) ∧ Blk W (w.heap.size + 1) [.int .i64 0, .int .i64 0, .slice none 0 0])) := by
    have I1 := ((Held.from (w0 := w) (Below.refl w.heap.size w) (Nat.le_refl _)).with (.readsB hl)).allocB [Value.int .u8 (N : Int), .int .u8 (L : Int), .slice A n c] 53
    have I2 := I1.allocB [Value.int .i64 0, .int .i64 0, .slice none 0 0] 24
    simpa using I2
  have hln := hl.1
  have hmx := hl.2.1
  clear hl
  obtain ⟨r, hr⟩ : ∃ r, N % q = r := ⟨_, rfl⟩
  have hr0 : r < q := by rw [← hr]; exact Nat.mod_lt _ (by omega)
  obtain ⟨M, hM⟩ : ∃ M, 2 + r = M := ⟨_, rfl⟩
  obtain ⟨K, hK⟩ : ∃ K, L % 3 = K := ⟨_, rfl⟩
  rw [hr, hM, hK]
  have wN : IntKind.i64.wrap (N : Int) = (N : Int) := i64_in (by omega) (by omega)
  have wL : IntKind.i64.wrap (L : Int) = (L : Int) := i64_in (by omega) (by omega)
  have mN2 : (N : Int) % (q : Int) = (r : Int) := by rw [← hr, Int.natCast_emod]
  have mN : (N : Int).tmod (q : Int) = (r : Int) := by rw [Int.tmod_eq_emod_of_nonneg (by omega)]; exact mN2
  have mL : (L : Int).tmod 3 = (K : Int) := by rw [Int.tmod_eq_emod_of_nonneg (by omega)]; omega
  have wM : IntKind.i64.wrap (2 + (r : Int)) = (M : Int) := by rw [i64_in (by omega) (by omega)]; omega
  have wq : IntKind.i64.wrap (((q + 1 : Nat) : Int) - 1) = (q : Int) := by rw [i64_in (by omega) (by omega)]; omega
  have hz : ((q : Int) == 0) = false := beq_eq_false_iff_ne.2 (by omega)
  have hz' : ¬ (q : Int) = 0 := by omega
  have hzn : ¬ q = 0 := by omega
  have hM20 : M ≤ 20 := by omega
  generalize ((q + 1 : Nat) : Int) = q1 at wq ⊢
  clear hr hr0 hM hK
  go_enter Try.func36, Try.ntmps36
  go_wp2_with fail
  generalize World.alloc _ _ = w1 at I ⊢
  have q1 := I.now.1.2.three
  have z1 := I.now.1.2.lt
  have hS : ∀ X, Below w1.heap.size w1 X → Below w1.heap.size w1 X ∧ (X.cell? ⟨w.heap.size, 0, none⟩ = some (.int .u8 (N : Int)) ∧ X.cell? ⟨w.heap.size, 1, none⟩ = some (.int .u8 (L : Int)) ∧ X.cell? ⟨w.heap.size, 2, none⟩ = some (.slice A n c)) := fun X hX => ⟨hX, (I.at hX).1.2.three⟩
  have HS := Lib.hid hS
  clear hS q1
  go_cut [5] (fun s5 wx => ∃ B5, s5 = .pointer (some ⟨B5, 0, none⟩) ∧ Aside ((w1.heap.size ≤ B5 ∧ Hp wx B5 [.int .i64 (M : Int), .int .i64 (K : Int), .slice none 0 0] 24) ∧ Below w1.heap.size w1 wx))
  case first =>
    go_region_held3 (fun X => Below w1.heap.size w1 X ∧ (X.cell? ⟨w.heap.size, 0, none⟩ = some (.int .u8 (N : Int)) ∧ X.cell? ⟨w.heap.size, 1, none⟩ = some (.int .u8 (L : Int)) ∧ X.cell? ⟨w.heap.size, 2, none⟩ = some (.slice A n c)))
      (first
        | with_reducible exact HS.out _ (Below.refl _ _).drew
        | (refine HS.out _ ?_; go_grown; done)
        | fail)
      (fail)
    all_goals
      go_wp2_with fail
      have kb := ((Below.refl w1.heap.size w1).alloc (Nat.le_refl _) (.cells #[.int .i64 (M : Int), .int .i64 (K : Int), .slice none 0 0] 24)).drew
      have k5 := (Hp.new w1 [.int .i64 (M : Int), .int .i64 (K : Int), .slice none 0 0] 24).later (Below.refl _ _).drew
      go_meet
      exact ⟨_, rfl, ⟨Nat.le_refl _, k5⟩, kb⟩
  case rest =>
    obtain ⟨B5, rfl, HC⟩ := hcut
    obtain ⟨w2, hw2⟩ : ∃ w2, w2 = wc := ⟨_, rfl⟩
    rw [← hw2] at HC ⊢
    clear hw2 HS wN wL mN mN2 mL wM wq hz hz' hzn
    obtain ⟨hB5w, h5⟩ := HC.out.1
    have hB5 : B5 < w2.heap.size := h5.lt
    have hw12 : w1.heap.size ≤ w2.heap.size := HC.out.2.size
    obtain ⟨six, hsix⟩ : ∃ six, min n 6 = six := ⟨_, rfl⟩
    have hs6 : six ≤ 6 ∧ six ≤ n := by omega
    have hml : (madeL M l).length = six := by unfold madeL; rw [List.length_map, List.length_take, hln]; omega
    have HSX := Lib.hid hsix
    clear hsix
    have H5 := Lib.hid h5
    clear h5
    go_wp2_with fail
    go_loopw [6] (fun s6 wr => ∃ (k : Nat) (v : Value), k ≤ six ∧ s6 = .int .i64 k ∧ Aside (k = 0 → v = .slice none 0 0) ∧ Aside (RowA wr B5 w2.heap.size (.int .i64 (M : Int)) (.int .i64 (K : Int)) v k ((madeL M l).take k)) ∧ Aside (Below w1.heap.size w1 wr) ∧ w2.heap.size ≤ wr.heap.size) (fun s6 _ => six - (intOf s6).toNat)
    case atStart => exact ⟨0, _, Nat.zero_le _, rfl, fun _ => rfl, ⟨H5.out, [], World.ownsRow_nil w2 _ 66 2, CellsT.nil _ _ _⟩, HC.out.2, Nat.le_refl _⟩
    case round =>
      obtain ⟨k, v, hk, rfl, HV0, HR, HB, hzr⟩ := hrel
      clear HC H5
      have hw1 : IntKind.i64.wrap ((k : Int) + 1) = (k : Int) + 1 := i64_in (by omega) (by omega)
      by_cases hlt : k < six
      · have g1 : (k : Int) < (n : Int) := by omega
        have g2 : (k : Int) < 6 := by omega
        obtain ⟨bb, off, eA, hc⟩ := (I.at HB.out).1.1.2.2.2.2 (by omega)
        subst eA
        have hc1 := hc k (by omega)
        have hby : l[k]?.getD 0 ≤ 255 := by
          rw [List.getElem?_eq_getElem (by omega)]
          exact (I.at HB.out).1.1.2.2.2.1 _ (List.getElem_mem _)
        have hsn : (madeL M l).take (k + 1) = (madeL M l).take k ++ [madeT M (l[k]?.getD 0)] := by
          rw [List.take_succ_eq_append_getElem (by omega)]
          congr 2
          unfold madeL
          rw [List.getElem_map, List.getElem_take, List.getElem?_eq_getElem (by omega)]
          rfl
        generalize l[k]?.getD 0 = b at hc1 hby hsn
        have q2 := (I.at HB.out).1.2.three
        have wb : IntKind.i64.wrap (b : Int) = (b : Int) := i64_in (by omega) (by omega)
        have h40 : ∀ W, Calls Try.prog 40 #[.int .i64 (M : Int), .int .i64 (b : Int)] W fun e w' => ∃ A m c, e = .returned (.slice A m c) ∧ (Reads w' A m (madeT M b).strip ∧ m ≤ c ∧ ∀ p, A = some p → W.heap.size ≤ p.block) ∧ Below W.heap.size W w' := fun W => set_calls hM20 (by omega) W
        have H40 := Lib.hid h40
        have hbw : bb < w1.heap.size := by
          obtain ⟨b2, o2, e2, hc2⟩ := (I.now.1.1.2.2.2.2 (by omega))
          cases e2
          exact World.block_lt_of_cell? w1 _ (hc2 k (by omega))
        have hcell : ∀ X, Below w1.heap.size w1 X → X.cell? ⟨bb, off + k, none⟩ = some (.int .u8 (b : Int)) ∧ (X.cell? ⟨w.heap.size, 0, none⟩ = some (.int .u8 (N : Int)) ∧ X.cell? ⟨w.heap.size, 1, none⟩ = some (.int .u8 (L : Int)) ∧ X.cell? ⟨w.heap.size, 2, none⟩ = some (.slice (some ⟨bb, off, none⟩) n c)) := fun X hX => by
          refine ⟨?_, (I.at hX).1.2.three⟩
          rw [hX.cell (p := ⟨bb, off + k, none⟩) hbw, ← HB.out.cell (p := ⟨bb, off + k, none⟩) hbw]
          exact hc1
        have HC := Lib.hid (show ∀ X, Below w1.heap.size w1 X → X.cell? ⟨bb, off + k, none⟩ = some (.int .u8 (b : Int)) ∧ X.cell? ⟨w.heap.size, 0, none⟩ = some (.int .u8 (N : Int)) ∧ X.cell? ⟨w.heap.size, 2, none⟩ = some (.slice (some ⟨bb, off, none⟩) n c) from fun X hX => ⟨(hcell X hX).1, (hcell X hX).2.1, (hcell X hX).2.2.2⟩)
        obtain ⟨ab, hab⟩ : ∃ ab, (madeT M b).ans = ab := ⟨_, rfl⟩
        have hab2 : decide ((128 : Int) ≤ (b : Int)) = (madeT M b).ans := by
          show _ = decide (128 ≤ b)
          rw [decide_eq_decide]; omega
        have HW0 := Lib.hid (And.intro HB.out.drew hzr)
        have HR0 := Lib.hid (HR.out.later (Below.refl wr.heap.size wr).drew)
        have HSN := Lib.hid hsn
        have hk6 : k < 6 := by omega
        clear hc hsn hcell h40 hab
        go_upto_region 5 with fail
        clear q2 hc1
        refine region_invP (by kernel_rfl) (InvM w1 B5 w2.heap.size w.heap.size bb off n c M k b (.int .i64 (K : Int)) v ((madeL M l).take k) (madeT M b) (fun t30 t31 t32 t33 t34 t35 t36 t37 t38 t39 t40 t41 t42 t43 t44 t45 t46 t47 t48 t49 t50 => ({ tmps := #[trial N L (some ⟨bb, off, none⟩) n c, .int .i64 q1, .pointer (some ⟨w.heap.size, 0, none⟩), undef, .pointer (some ⟨w.heap.size + 1, 0, none⟩), .pointer (some ⟨B5, 0, none⟩), .int .i64 (k : Int), u7, u8, u9, u10, u11, u12, u13, u14, u15, u16, u17, u18, .int .i64 (k : Int), .pointer (some ⟨w.heap.size, 2, none⟩), .slice (some ⟨bb, off, none⟩) n c, .int .i64 (n : Int), .bool true, .bool true, .int .i64 (k : Int), .bool true, .bool true, u28, u29, t30, t31, t32, t33, t34, t35, t36, t37, t38, t39, t40, t41, t42, t43, t44, t45, t46, t47, t48, t49, t50, u51], defers := [] } : Act))) (ac_of (by kernel_rfl)) ?stepR ?doneR ?h0R
        case h0R =>
          exact ⟨_, _, _, _, _, _, _, _, _, _, _, _, _, _, _, _, _, _, _, _, _, rfl, HW0.out, ⟨fun h => (by cases h), fun h => (by cases h), fun h => (by cases h), fun h => (by cases h)⟩, ⟨fun _ => HR0.out, fun h => (by cases h), fun h => (by cases h)⟩, ⟨fun h => (by cases h), fun h => (by cases h), fun h => (by cases h), fun h => (by cases h), fun h => (by cases h)⟩, ⟨fun h => (by cases h), fun h => (by cases h), fun h => (by cases h), fun h => (by cases h), fun h => (by cases h)⟩, ⟨fun h => (by cases h), fun h => (by cases h), fun h => (by cases h), fun h => (by cases h), fun h => (by cases h)⟩, ⟨fun h => (by cases h), fun h => (by cases h), fun h => (by cases h), fun h => (by cases h), fun h => (by cases h)⟩⟩
        case doneR =>
          rintro Lst a X hL ⟨t30, t31, t32, t33, t34, t35, t36, t37, t38, t39, t40, t41, t42, t43, t44, t45, t46, t47, t48, t49, t50, rfl, HWd, ⟨hA, hB, hC1, hC2⟩, ⟨hr1, hr2, hr3⟩, ⟨h0, h1, h2, h3, h4⟩, ⟨h5, h6, h7, h8, h9⟩, ⟨h10, h11, h12, h13, h14⟩, ⟨h15, h16, h17, h18, h20⟩⟩
          dsimp only
          have HR3 := Lib.hid (hr3 (hL 21 (by show 21 < 22; decide)))
          have HW3 := Lib.hid HWd
          clear hA hB hC1 hC2 hr1 hr2 hr3 HWd hL h0 h1 h2 h3 h4 h5 h6 h7 h8 h9 h10 h11 h12 h13 h14 h15 h16 h17 h18 h20
          go_wp2_with fail
          go_roundw
          case measure => simp [intOf]; omega
          case rel => exact ⟨k + 1, _, by omega, by go_num, fun h => absurd h (by omega), (show Aside _ from by rw [HSN.out]; exact HR3.out), HW3.out.1, HW3.out.2⟩
        case stepR =>
          rintro Lst a X i o ho hdep hLi ⟨t30, t31, t32, t33, t34, t35, t36, t37, t38, t39, t40, t41, t42, t43, t44, t45, t46, t47, t48, t49, t50, rfl, HWs, ⟨hA, hB, hC1, hC2⟩, ⟨hr1, hr2, hr3⟩, ⟨h0, h1, h2, h3, h4⟩, ⟨h5, h6, h7, h8, h9⟩, ⟨h10, h11, h12, h13, h14⟩, ⟨h15, h16, h17, h18, h20⟩⟩ Kc hK
          have hi := (Array.getElem?_eq_some_iff.1 ho).1
          have hiK : i < 22 := hi
          dsimp only at hK ⊢
          have HW := Lib.hid HWs
          clear HWs hi
          have hcase : i = 0 ∨ i = 1 ∨ i = 2 ∨ i = 3 ∨ i = 4 ∨ i = 5 ∨ i = 6 ∨ i = 7 ∨ i = 8 ∨ i = 9 ∨ i = 10 ∨ i = 11 ∨ i = 12 ∨ i = 13 ∨ i = 14 ∨ i = 15 ∨ i = 16 ∨ i = 17 ∨ i = 18 ∨ i = 19 ∨ i = 20 ∨ i = 21 := by omega
          rcases hcase with rfl | rfl | rfl | rfl | rfl | rfl | rfl | rfl | rfl | rfl | rfl | rfl | rfl | rfl | rfl | rfl | rfl | rfl | rfl | rfl | rfl | rfl
          · simp only [List.getElem?_toArray, List.getElem?_cons_zero, Option.some.injEq] at ho
            subst ho
            have L21 := not_yet hA (show 0 < 21 by omega) hLi
            clear hdep
            rw [if_pos (by rfl)]
            go_wp2_with fail
            exact ⟨_, _, _, _, _, _, _, _, _, _, _, _, _, _, _, _, _, _, _, _, _, rfl, HW.out, ⟨fun h => (by have h2 : Lst 21 = true := h; rw [L21] at h2; cases h2), hB, hC1, hC2⟩, ⟨hr1, hr2, hr3⟩, ⟨fun _ => rfl, h1, h2, h3, h4⟩, ⟨h5, h6, h7, h8, h9⟩, ⟨h10, h11, h12, h13, h14⟩, ⟨h15, h16, h17, h18, h20⟩⟩
          · simp only [List.getElem?_toArray, List.getElem?_cons_zero, List.getElem?_cons_succ, Option.some.injEq] at ho
            subst ho
            have L21 := not_yet hA (show 1 < 21 by omega) hLi
            obtain rfl := h0 (hdep ⟨0, Ground.data⟩ (by simp) rfl)
            have hp5 : Hp X B5 [.int .i64 (M : Int), .int .i64 (K : Int), v] 24 := by
              cases hb : Lst 19 with
              | false => exact (hr1 hb).1
              | true => exact (hr2 hb L21).1
            have q5 := hp5.blk.three
            clear hp5
            clear hdep
            rw [if_pos (by rfl)]
            go_wp2_with fail
            exact ⟨_, _, _, _, _, _, _, _, _, _, _, _, _, _, _, _, _, _, _, _, _, rfl, HW.out, ⟨fun h => (by have h2 : Lst 21 = true := h; rw [L21] at h2; cases h2), fun h => ⟨rfl, (hB h).2⟩, hC1, hC2⟩, ⟨hr1, hr2, hr3⟩, ⟨fun _ => rfl, fun _ => rfl, h2, h3, h4⟩, ⟨h5, h6, h7, h8, h9⟩, ⟨h10, h11, h12, h13, h14⟩, ⟨h15, h16, h17, h18, h20⟩⟩
          · simp only [List.getElem?_toArray, List.getElem?_cons_zero, List.getElem?_cons_succ, Option.some.injEq] at ho
            subst ho
            have L21 := not_yet hA (show 2 < 21 by omega) hLi
            clear hdep
            rw [if_pos (by rfl)]
            go_wp2_with fail
            exact ⟨_, _, _, _, _, _, _, _, _, _, _, _, _, _, _, _, _, _, _, _, _, rfl, HW.out, ⟨fun h => (by have h2 : Lst 21 = true := h; rw [L21] at h2; cases h2), hB, hC1, hC2⟩, ⟨hr1, hr2, hr3⟩, ⟨h0, h1, fun _ => rfl, h3, h4⟩, ⟨h5, h6, h7, h8, h9⟩, ⟨h10, h11, h12, h13, h14⟩, ⟨h15, h16, h17, h18, h20⟩⟩
          · simp only [List.getElem?_toArray, List.getElem?_cons_zero, List.getElem?_cons_succ, Option.some.injEq] at ho
            subst ho
            have L21 := not_yet hA (show 3 < 21 by omega) hLi
            obtain rfl := h2 (hdep ⟨2, Ground.data⟩ (by simp) rfl)
            have hp5 : Hp X B5 [.int .i64 (M : Int), .int .i64 (K : Int), v] 24 := by
              cases hb : Lst 19 with
              | false => exact (hr1 hb).1
              | true => exact (hr2 hb L21).1
            have q5 := hp5.blk.three
            clear hp5
            clear hdep
            rw [if_pos (by rfl)]
            go_wp2_with fail
            exact ⟨_, _, _, _, _, _, _, _, _, _, _, _, _, _, _, _, _, _, _, _, _, rfl, HW.out, ⟨fun h => (by have h2 : Lst 21 = true := h; rw [L21] at h2; cases h2), hB, hC1, hC2⟩, ⟨hr1, hr2, hr3⟩, ⟨h0, h1, fun _ => rfl, fun _ => rfl, h4⟩, ⟨h5, h6, h7, h8, h9⟩, ⟨h10, h11, h12, h13, h14⟩, ⟨h15, h16, h17, h18, h20⟩⟩
          · simp only [List.getElem?_toArray, List.getElem?_cons_zero, List.getElem?_cons_succ, Option.some.injEq] at ho
            subst ho
            have L21 := not_yet hA (show 4 < 21 by omega) hLi
            clear hdep
            rw [if_pos (by rfl)]
            go_wp2_with fail
            exact ⟨_, _, _, _, _, _, _, _, _, _, _, _, _, _, _, _, _, _, _, _, _, rfl, HW.out, ⟨fun h => (by have h2 : Lst 21 = true := h; rw [L21] at h2; cases h2), hB, hC1, hC2⟩, ⟨hr1, hr2, hr3⟩, ⟨h0, h1, h2, h3, fun _ => rfl⟩, ⟨h5, h6, h7, h8, h9⟩, ⟨h10, h11, h12, h13, h14⟩, ⟨h15, h16, h17, h18, h20⟩⟩
          · simp only [List.getElem?_toArray, List.getElem?_cons_zero, List.getElem?_cons_succ, Option.some.injEq] at ho
            subst ho
            have L21 := not_yet hA (show 5 < 21 by omega) hLi
            obtain rfl := h4 (hdep ⟨4, Ground.data⟩ (by simp) rfl)
            clear hdep
            rw [if_pos (by rfl)]
            have q2 := (HC.out _ HW.out.1).2.2
            go_wp2_with fail
            exact ⟨_, _, _, _, _, _, _, _, _, _, _, _, _, _, _, _, _, _, _, _, _, rfl, HW.out, ⟨fun h => (by have h2 : Lst 21 = true := h; rw [L21] at h2; cases h2), hB, hC1, hC2⟩, ⟨hr1, hr2, hr3⟩, ⟨h0, h1, h2, h3, fun _ => rfl⟩, ⟨fun _ => rfl, h6, h7, h8, h9⟩, ⟨h10, h11, h12, h13, h14⟩, ⟨h15, h16, h17, h18, h20⟩⟩
          · simp only [List.getElem?_toArray, List.getElem?_cons_zero, List.getElem?_cons_succ, Option.some.injEq] at ho
            subst ho
            have L21 := not_yet hA (show 6 < 21 by omega) hLi
            clear hdep
            rw [if_pos (by rfl)]
            go_wp2_with fail
            exact ⟨_, _, _, _, _, _, _, _, _, _, _, _, _, _, _, _, _, _, _, _, _, rfl, HW.out, ⟨fun h => (by have h2 : Lst 21 = true := h; rw [L21] at h2; cases h2), hB, hC1, hC2⟩, ⟨hr1, hr2, hr3⟩, ⟨h0, h1, h2, h3, h4⟩, ⟨h5, fun _ => rfl, h7, h8, h9⟩, ⟨h10, h11, h12, h13, h14⟩, ⟨h15, h16, h17, h18, h20⟩⟩
          · simp only [List.getElem?_toArray, List.getElem?_cons_zero, List.getElem?_cons_succ, Option.some.injEq] at ho
            subst ho
            have L21 := not_yet hA (show 7 < 21 by omega) hLi
            obtain rfl := h5 (hdep ⟨5, Ground.data⟩ (by simp) rfl)
            obtain rfl := h6 (hdep ⟨6, Ground.data⟩ (by simp) rfl)
            clear hdep
            rw [if_pos (by rfl)]
            go_wp2_with fail
            exact ⟨_, _, _, _, _, _, _, _, _, _, _, _, _, _, _, _, _, _, _, _, _, rfl, HW.out, ⟨fun h => (by have h2 : Lst 21 = true := h; rw [L21] at h2; cases h2), hB, hC1, hC2⟩, ⟨hr1, hr2, hr3⟩, ⟨h0, h1, h2, h3, h4⟩, ⟨fun _ => rfl, fun _ => rfl, fun _ => rfl, h8, h9⟩, ⟨h10, h11, h12, h13, h14⟩, ⟨h15, h16, h17, h18, h20⟩⟩
          · simp only [List.getElem?_toArray, List.getElem?_cons_zero, List.getElem?_cons_succ, Option.some.injEq] at ho
            subst ho
            have L21 := not_yet hA (show 8 < 21 by omega) hLi
            obtain rfl := h7 (hdep ⟨7, Ground.data⟩ (by simp) rfl)
            clear hdep
            rw [if_pos (by rfl)]
            have hc1 := (HC.out _ HW.out.1).1
            go_wp2_with fail
            exact ⟨_, _, _, _, _, _, _, _, _, _, _, _, _, _, _, _, _, _, _, _, _, rfl, HW.out, ⟨fun h => (by have h2 : Lst 21 = true := h; rw [L21] at h2; cases h2), hB, hC1, hC2⟩, ⟨hr1, hr2, hr3⟩, ⟨h0, h1, h2, h3, h4⟩, ⟨h5, h6, fun _ => rfl, fun _ => rfl, h9⟩, ⟨h10, h11, h12, h13, h14⟩, ⟨h15, h16, h17, h18, h20⟩⟩
          · simp only [List.getElem?_toArray, List.getElem?_cons_zero, List.getElem?_cons_succ, Option.some.injEq] at ho
            subst ho
            have L21 := not_yet hA (show 9 < 21 by omega) hLi
            obtain rfl := h8 (hdep ⟨8, Ground.data⟩ (by simp) rfl)
            clear hdep
            rw [if_pos (by rfl)]
            go_wp2_with fail
            exact ⟨_, _, _, _, _, _, _, _, _, _, _, _, _, _, _, _, _, _, _, _, _, rfl, HW.out, ⟨fun h => (by have h2 : Lst 21 = true := h; rw [L21] at h2; cases h2), hB, hC1, hC2⟩, ⟨hr1, hr2, hr3⟩, ⟨h0, h1, h2, h3, h4⟩, ⟨h5, h6, h7, fun _ => rfl, fun _ => rfl⟩, ⟨h10, h11, h12, h13, h14⟩, ⟨h15, h16, h17, h18, h20⟩⟩
          · simp only [List.getElem?_toArray, List.getElem?_cons_zero, List.getElem?_cons_succ, Option.some.injEq] at ho
            subst ho
            have L21 := not_yet hA (show 10 < 21 by omega) hLi
            obtain rfl := h3 (hdep ⟨3, Ground.data⟩ (by simp) rfl)
            obtain rfl := h9 (hdep ⟨9, Ground.data⟩ (by simp) rfl)
            have L19 : Lst 19 = false := by
              cases hb : Lst 19 with
              | false => rfl
              | true =>
                rw [((hB hb).2.1)] at hLi; cases hLi
            have HR := Lib.hid (hr1 L19)
            clear hdep
            rw [if_pos (by rfl)]
            go_wp2_with (go_at_call 40; (with_reducible refine (H40.out _).mono ?_); rintro e' w3 ⟨A3, m3, c3, rfl, ⟨hs1, hs2, hs3⟩, hb⟩; have HB3 := Lib.hid hb; have HST := Lib.hid (StripAt.mk (base := w2.heap.size) (v := v) hs1 hs2 (fun p hp _ => ⟨Nat.le_trans HW.out.2 (hs3 p hp), fun e => (by obtain ⟨_, cs, ho, _⟩ := HR.out; have h1 := own_lt ho _ e; have h2 := hs3 p hp; omega)⟩)); clear hb hs1 hs2 hs3)
            exact ⟨_, _, _, _, _, _, _, _, _, _, _, _, _, _, _, _, _, _, _, _, _, rfl, ⟨HW.out.1.trans (HB3.out.mono HW.out.1.size), Nat.le_trans HW.out.2 HB3.out.size⟩, ⟨fun h => (by have h2 : Lst 21 = true := h; rw [L21] at h2; cases h2), fun h => (by have h2 : Lst 19 = true := h; rw [L19] at h2; cases h2), hC1, fun _ => rfl⟩, ⟨fun _ => HR.out.later HB3.out, fun h => (by have h2 : Lst 19 = true := h; rw [L19] at h2; cases h2), fun h => (by have h2 : Lst 21 = true := h; rw [L21] at h2; cases h2)⟩, ⟨h0, h1, h2, fun _ => rfl, h4⟩, ⟨h5, h6, h7, h8, fun _ => rfl⟩, ⟨fun _ _ => ⟨A3, m3, c3, rfl, HST.out⟩, h11, h12, h13, h14⟩, ⟨h15, h16, fun h _ => absurd (hC2 h) (by rw [hLi]; decide), fun h _ => absurd (hC2 (hC1 h)) (by rw [hLi]; decide), h20⟩⟩
          · simp only [List.getElem?_toArray, List.getElem?_cons_zero, List.getElem?_cons_succ, Option.some.injEq] at ho
            subst ho
            have L21 := not_yet hA (show 11 < 21 by omega) hLi
            clear hdep
            rw [if_pos (by rfl)]
            go_wp2_with fail
            exact ⟨_, _, _, _, _, _, _, _, _, _, _, _, _, _, _, _, _, _, _, _, _, rfl, HW.out, ⟨fun h => (by have h2 : Lst 21 = true := h; rw [L21] at h2; cases h2), hB, hC1, hC2⟩, ⟨hr1, hr2, hr3⟩, ⟨h0, h1, h2, h3, h4⟩, ⟨h5, h6, h7, h8, h9⟩, ⟨h10, fun _ => rfl, h12, h13, h14⟩, ⟨h15, h16, h17, h18, h20⟩⟩
          · simp only [List.getElem?_toArray, List.getElem?_cons_zero, List.getElem?_cons_succ, Option.some.injEq] at ho
            subst ho
            have L21 := not_yet hA (show 12 < 21 by omega) hLi
            obtain rfl := h11 (hdep ⟨11, Ground.data⟩ (by simp) rfl)
            clear hdep
            rw [if_pos (by rfl)]
            have q2 := (HC.out _ HW.out.1).2.2
            go_wp2_with fail
            exact ⟨_, _, _, _, _, _, _, _, _, _, _, _, _, _, _, _, _, _, _, _, _, rfl, HW.out, ⟨fun h => (by have h2 : Lst 21 = true := h; rw [L21] at h2; cases h2), hB, hC1, hC2⟩, ⟨hr1, hr2, hr3⟩, ⟨h0, h1, h2, h3, h4⟩, ⟨h5, h6, h7, h8, h9⟩, ⟨h10, fun _ => rfl, fun _ => rfl, h13, h14⟩, ⟨h15, h16, h17, h18, h20⟩⟩
          · simp only [List.getElem?_toArray, List.getElem?_cons_zero, List.getElem?_cons_succ, Option.some.injEq] at ho
            subst ho
            have L21 := not_yet hA (show 13 < 21 by omega) hLi
            clear hdep
            rw [if_pos (by rfl)]
            go_wp2_with fail
            exact ⟨_, _, _, _, _, _, _, _, _, _, _, _, _, _, _, _, _, _, _, _, _, rfl, HW.out, ⟨fun h => (by have h2 : Lst 21 = true := h; rw [L21] at h2; cases h2), hB, hC1, hC2⟩, ⟨hr1, hr2, hr3⟩, ⟨h0, h1, h2, h3, h4⟩, ⟨h5, h6, h7, h8, h9⟩, ⟨h10, h11, h12, fun _ => rfl, h14⟩, ⟨h15, h16, h17, h18, h20⟩⟩
          · simp only [List.getElem?_toArray, List.getElem?_cons_zero, List.getElem?_cons_succ, Option.some.injEq] at ho
            subst ho
            have L21 := not_yet hA (show 14 < 21 by omega) hLi
            obtain rfl := h12 (hdep ⟨12, Ground.data⟩ (by simp) rfl)
            obtain rfl := h13 (hdep ⟨13, Ground.data⟩ (by simp) rfl)
            clear hdep
            rw [if_pos (by rfl)]
            go_wp2_with fail
            exact ⟨_, _, _, _, _, _, _, _, _, _, _, _, _, _, _, _, _, _, _, _, _, rfl, HW.out, ⟨fun h => (by have h2 : Lst 21 = true := h; rw [L21] at h2; cases h2), hB, hC1, hC2⟩, ⟨hr1, hr2, hr3⟩, ⟨h0, h1, h2, h3, h4⟩, ⟨h5, h6, h7, h8, h9⟩, ⟨h10, h11, fun _ => rfl, fun _ => rfl, fun _ => rfl⟩, ⟨h15, h16, h17, h18, h20⟩⟩
          · simp only [List.getElem?_toArray, List.getElem?_cons_zero, List.getElem?_cons_succ, Option.some.injEq] at ho
            subst ho
            have L21 := not_yet hA (show 15 < 21 by omega) hLi
            obtain rfl := h14 (hdep ⟨14, Ground.data⟩ (by simp) rfl)
            clear hdep
            rw [if_pos (by rfl)]
            have hc1 := (HC.out _ HW.out.1).1
            go_wp2_with fail
            exact ⟨_, _, _, _, _, _, _, _, _, _, _, _, _, _, _, _, _, _, _, _, _, rfl, HW.out, ⟨fun h => (by have h2 : Lst 21 = true := h; rw [L21] at h2; cases h2), hB, hC1, hC2⟩, ⟨hr1, hr2, hr3⟩, ⟨h0, h1, h2, h3, h4⟩, ⟨h5, h6, h7, h8, h9⟩, ⟨h10, h11, h12, h13, fun _ => rfl⟩, ⟨fun _ => rfl, h16, h17, h18, h20⟩⟩
          · simp only [List.getElem?_toArray, List.getElem?_cons_zero, List.getElem?_cons_succ, Option.some.injEq] at ho
            subst ho
            have L21 := not_yet hA (show 16 < 21 by omega) hLi
            obtain rfl := h15 (hdep ⟨15, Ground.data⟩ (by simp) rfl)
            clear hdep
            rw [if_pos (by rfl)]
            go_wp2_with fail
            exact ⟨_, _, _, _, _, _, _, _, _, _, _, _, _, _, _, _, _, _, _, _, _, rfl, HW.out, ⟨fun h => (by have h2 : Lst 21 = true := h; rw [L21] at h2; cases h2), hB, hC1, hC2⟩, ⟨hr1, hr2, hr3⟩, ⟨h0, h1, h2, h3, h4⟩, ⟨h5, h6, h7, h8, h9⟩, ⟨h10, h11, h12, h13, h14⟩, ⟨fun _ => rfl, fun _ => rfl, h17, h18, h20⟩⟩
          · simp only [List.getElem?_toArray, List.getElem?_cons_zero, List.getElem?_cons_succ, Option.some.injEq] at ho
            subst ho
            have L21 := not_yet hA (show 17 < 21 by omega) hLi
            obtain rfl := h16 (hdep ⟨16, Ground.data⟩ (by simp) rfl)
            have L19 : Lst 19 = false := by
              cases hb : Lst 19 with
              | false => rfl
              | true =>
                rw [hC1 (hB hb).2.2] at hLi; cases hLi
            have L10 := hdep ⟨10, Ground.data⟩ (by simp) rfl
            obtain ⟨A3, m3, c3, e3, hs3⟩ := h10 (hdep ⟨10, Ground.data⟩ (by simp) rfl) L19
            subst e3
            have HST := Lib.hid hs3
            clear hdep
            rw [if_pos (by rfl)]
            go_wp2_with fail
            exact ⟨_, _, _, _, _, _, _, _, _, _, _, _, _, _, _, _, _, _, _, _, _, rfl, HW.out, ⟨fun h => (by have h2 : Lst 21 = true := h; rw [L21] at h2; cases h2), hB, fun _ => rfl, fun _ => L10⟩, ⟨hr1, hr2, hr3⟩, ⟨h0, h1, h2, h3, h4⟩, ⟨h5, h6, h7, h8, h9⟩, ⟨fun _ _ => ⟨A3, m3, c3, rfl, HST.out⟩, h11, h12, h13, h14⟩, ⟨h15, fun _ => rfl, fun _ _ => ⟨A3, m3, c3, rfl, HST.out⟩, h18, h20⟩⟩
          · simp only [List.getElem?_toArray, List.getElem?_cons_zero, List.getElem?_cons_succ, Option.some.injEq] at ho
            subst ho
            have L21 := not_yet hA (show 18 < 21 by omega) hLi
            have L19 : Lst 19 = false := by
              cases hb : Lst 19 with
              | false => rfl
              | true =>
                rw [((hB hb).2.2)] at hLi; cases hLi
            have L17 := hdep ⟨17, Ground.data⟩ (by simp) rfl
            obtain ⟨A3, m3, c3, e3, hs3⟩ := h17 (hdep ⟨17, Ground.data⟩ (by simp) rfl) L19
            subst e3
            have HST := Lib.hid hs3
            have HR := Lib.hid (hr1 L19)
            clear hdep
            rw [if_pos (by rfl)]
            have hbl : Below X.heap.size X (X.alloc (.cells #[.slice A3 m3 c3, .bool (madeT M b).ans] 66)) := (Below.refl _ _).alloc (Nat.le_refl _) _
            have HBL := Lib.hid hbl
            have HN := Lib.hid (Blk.new X [.slice A3 m3 c3, .bool (madeT M b).ans] 66)
            clear hbl
            go_wp2_with fail
            exact ⟨_, _, _, _, _, _, _, _, _, _, _, _, _, _, _, _, _, _, _, _, _, rfl, ⟨HW.out.1.trans (HBL.out.mono HW.out.1.size), Nat.le_trans HW.out.2 HBL.out.size⟩, ⟨fun h => (by have h2 : Lst 21 = true := h; rw [L21] at h2; cases h2), fun h => (by have h2 : Lst 19 = true := h; rw [L19] at h2; cases h2), fun _ => L17, hC2⟩, ⟨fun _ => HR.out.later HBL.out, fun h => (by have h2 : Lst 19 = true := h; rw [L19] at h2; cases h2), fun h => (by have h2 : Lst 21 = true := h; rw [L21] at h2; cases h2)⟩, ⟨h0, h1, h2, h3, h4⟩, ⟨h5, h6, h7, h8, h9⟩, ⟨fun a b => (by obtain ⟨A4, m4, c4, e4, hs4⟩ := h10 a b; exact ⟨A4, m4, c4, e4, hs4.later HBL.out⟩), h11, h12, h13, h14⟩, ⟨h15, h16, fun _ _ => ⟨A3, m3, c3, rfl, HST.out.later HBL.out⟩, fun _ _ => ⟨A3, m3, c3, X.heap.size, rfl, HN.out, HST.out.later HBL.out⟩, h20⟩⟩
          · simp only [List.getElem?_toArray, List.getElem?_cons_zero, List.getElem?_cons_succ, Option.some.injEq] at ho
            subst ho
            have L21 := not_yet hA (show 19 < 21 by omega) hLi
            obtain rfl : v = t31 := (h1 (hdep ⟨1, Ground.data⟩ (by simp) rfl)).symm
            have L1 := hdep ⟨1, Ground.data⟩ (by simp) rfl
            have L18 := hdep ⟨18, Ground.data⟩ (by simp) rfl
            have L10 := hdep ⟨10, Ground.chain⟩ (by simp) rfl
            obtain ⟨A3, m3, c3, b8, e3, hb8, hs3⟩ := h18 L18 hLi
            subst e3
            obtain ⟨hp5, cs, ho1, hc1⟩ := hr1 hLi
            clear hdep
            rw [if_pos (by rfl)]
            refine wp_append_at (.tmp 31) (.tmp 48) 22 rfl w2.heap.size 66 i0 (.agg #[.slice none 0 0, .bool false]) 2 32 Try.underlying22 hi0 hz0 hz1 hz2 rfl (by decide) v k cs rfl ho1 ⟨b8, 0, none⟩ 1 1 [.slice A3 m3 c3, .bool (madeT M b).ans] rfl rfl hb8.news (by intro u hu; simp at hu; rcases hu with rfl | rfl <;> rfl) (by unfold maxLen; omega) (by omega) HW.out.2 ?_
            intro v3 w4 hown3 hgrow3 hblk3
            refine hK _ _ ?_
            have hrb := RowA.grow hp5 ho1 hc1 hB5 hs3 hown3 hgrow3 hblk3
            have hbw : Below w1.heap.size w1 w4 := HW.out.1.grown hgrow3 HW.out.1.size (by intro j hj; have := own_base' ho1 j hj; omega)
            have hzz : w2.heap.size ≤ w4.heap.size := Nat.le_trans HW.out.2 hgrow3.size
            exact ⟨_, _, _, _, _, _, _, _, _, _, _, _, _, _, _, _, _, _, _, _, _, rfl, ⟨hbw, hzz⟩, ⟨fun h => (by have h2 : Lst 21 = true := h; rw [L21] at h2; cases h2), fun _ => ⟨L1, L10, L18⟩, hC1, hC2⟩, ⟨fun h => (by cases h), fun _ _ => hrb, fun h => (by have h2 : Lst 21 = true := h; rw [L21] at h2; cases h2)⟩, ⟨h0, fun _ => rfl, h2, h3, h4⟩, ⟨h5, h6, h7, h8, h9⟩, ⟨fun _ h => (by cases h), h11, h12, h13, h14⟩, ⟨h15, h16, fun _ h => (by cases h), fun _ h => (by cases h), h20⟩⟩
          · simp only [List.getElem?_toArray, List.getElem?_cons_zero, List.getElem?_cons_succ, Option.some.injEq] at ho
            subst ho
            have L21 := not_yet hA (show 20 < 21 by omega) hLi
            clear hdep
            rw [if_pos (by rfl)]
            go_wp2_with fail
            exact ⟨_, _, _, _, _, _, _, _, _, _, _, _, _, _, _, _, _, _, _, _, _, rfl, HW.out, ⟨fun h => (by have h2 : Lst 21 = true := h; rw [L21] at h2; cases h2), hB, hC1, hC2⟩, ⟨hr1, hr2, hr3⟩, ⟨h0, h1, h2, h3, h4⟩, ⟨h5, h6, h7, h8, h9⟩, ⟨h10, h11, h12, h13, h14⟩, ⟨h15, h16, h17, h18, fun _ => rfl⟩⟩
          · simp only [List.getElem?_toArray, List.getElem?_cons_zero, List.getElem?_cons_succ, Option.some.injEq] at ho
            subst ho
            have L19 := hdep ⟨19, Ground.data⟩ (by simp) rfl
            have hall : ∀ j, j < 21 → Lst j = true := by
              intro j hj
              have hc : j = 0 ∨ j = 1 ∨ j = 2 ∨ j = 3 ∨ j = 4 ∨ j = 5 ∨ j = 6 ∨ j = 7 ∨ j = 8 ∨ j = 9 ∨ j = 10 ∨ j = 11 ∨ j = 12 ∨ j = 13 ∨ j = 14 ∨ j = 15 ∨ j = 16 ∨ j = 17 ∨ j = 18 ∨ j = 19 ∨ j = 20 := by omega
              rcases hc with rfl | rfl | rfl | rfl | rfl | rfl | rfl | rfl | rfl | rfl | rfl | rfl | rfl | rfl | rfl | rfl | rfl | rfl | rfl | rfl | rfl
              · exact hdep ⟨0, Ground.phase⟩ (by simp) rfl
              · exact hdep ⟨1, Ground.phase⟩ (by simp) rfl
              · exact hdep ⟨2, Ground.phase⟩ (by simp) rfl
              · exact hdep ⟨3, Ground.phase⟩ (by simp) rfl
              · exact hdep ⟨4, Ground.phase⟩ (by simp) rfl
              · exact hdep ⟨5, Ground.phase⟩ (by simp) rfl
              · exact hdep ⟨6, Ground.phase⟩ (by simp) rfl
              · exact hdep ⟨7, Ground.phase⟩ (by simp) rfl
              · exact hdep ⟨8, Ground.phase⟩ (by simp) rfl
              · exact hdep ⟨9, Ground.phase⟩ (by simp) rfl
              · exact hdep ⟨10, Ground.phase⟩ (by simp) rfl
              · exact hdep ⟨11, Ground.phase⟩ (by simp) rfl
              · exact hdep ⟨12, Ground.phase⟩ (by simp) rfl
              · exact hdep ⟨13, Ground.phase⟩ (by simp) rfl
              · exact hdep ⟨14, Ground.phase⟩ (by simp) rfl
              · exact hdep ⟨15, Ground.phase⟩ (by simp) rfl
              · exact hdep ⟨16, Ground.phase⟩ (by simp) rfl
              · exact hdep ⟨17, Ground.phase⟩ (by simp) rfl
              · exact hdep ⟨18, Ground.phase⟩ (by simp) rfl
              · exact hdep ⟨19, Ground.phase⟩ (by simp) rfl
              · exact hdep ⟨20, Ground.data⟩ (by simp) rfl
            obtain rfl := h0 (hall 0 (by omega))
            obtain rfl : v = t31 := (h1 (hall 1 (by omega))).symm
            obtain rfl := h2 (hall 2 (by omega))
            obtain rfl := h3 (hall 3 (by omega))
            obtain rfl := h4 (hall 4 (by omega))
            obtain rfl := h5 (hall 5 (by omega))
            obtain rfl := h6 (hall 6 (by omega))
            obtain rfl := h7 (hall 7 (by omega))
            obtain rfl := h8 (hall 8 (by omega))
            obtain rfl := h9 (hall 9 (by omega))
            obtain rfl := h11 (hall 11 (by omega))
            obtain rfl := h12 (hall 12 (by omega))
            obtain rfl := h13 (hall 13 (by omega))
            obtain rfl := h14 (hall 14 (by omega))
            obtain rfl := h15 (hall 15 (by omega))
            obtain rfl := h16 (hall 16 (by omega))
            obtain rfl := h20 (hall 20 (by omega))
            have hrb := hr2 L19 hLi
            have q5 := hrb.1.blk.three
            have f5 := hrb.1.free 2
            have z5 := hrb.1.lt
            have HS := Lib.hid (hrb.store hB5)
            obtain ⟨g3, cap3, e3⟩ := hrb.2.1
            subst e3
            have HWS := Lib.hid (HW.out.1.setCell (p := ⟨B5, 2, none⟩) hB5w (.slice (some ⟨g3, 0, none⟩) (k + 1) cap3))
            have L19f : ∀ {p : Prop}, Lst 19 = false → p := fun h => by rw [L19] at h; cases h
            have HZ := Lib.hid HW.out.2
            clear hdep hrb
            rw [if_pos (by rfl)]
            go_wp2_with fail
            exact ⟨_, _, _, _, _, _, _, _, _, _, _, _, _, _, _, _, _, _, _, _, _, rfl, ⟨HWS.out, by simpa using HZ.out⟩, ⟨fun _ j hj => (by show (j == 21 || Lst j) = true; rw [hall j hj, Bool.or_true]), fun _ => ⟨hall 1 (by omega), hall 10 (by omega), hall 18 (by omega)⟩, hC1, hC2⟩, ⟨fun h => L19f h, fun _ h => (by cases h), fun _ => HS.out⟩, ⟨fun _ => rfl, fun _ => rfl, fun _ => rfl, fun _ => rfl, fun _ => rfl⟩, ⟨fun _ => rfl, fun _ => rfl, fun _ => rfl, fun _ => rfl, fun _ => rfl⟩, ⟨fun _ h => L19f h, fun _ => rfl, fun _ => rfl, fun _ => rfl, fun _ => rfl⟩, ⟨fun _ => rfl, fun _ => rfl, fun _ h => L19f h, fun _ h => L19f h, fun _ => rfl⟩⟩
      · obtain rfl : six = k := by omega
        have hfin : (madeL M l).take six = madeL M l := by rw [← hml, List.take_length]
        have g1 : ¬ ((six : Int) < (n : Int)) ∨ ((six : Int) < (n : Int) ∧ ¬ (six : Int) < 6) := by have := HSX.out; omega
        have hra := HR.out
        rw [hfin] at hra
        obtain ⟨h5, cs, ho, hct⟩ := hra
        obtain ⟨A', c', e, hrt, hcp⟩ := own_readsT ho hct hml (by omega)
        subst e
        have HNL := Lib.hid (show six = 0 → A' = none ∧ c' = 0 from fun h => by have := HV0.out h; injection this with e1 e2 e3; exact ⟨e1, e3⟩)
        have H5 := Lib.hid h5
        have HRT := Lib.hid hrt
        have q5 := h5.blk.three
        have q2 := (I.at HB.out).1.2.three
        have HB0 := Lib.hid ((I.at HB.out).1.1.1)
        have k4 := (I.at HB.out).2
        have q4 := k4.three
        have f4 := k4.free3
        have z4 := k4.lt
        have HOR := Lib.hid (RowR.mk' ho hct hml)
        have hBx : w.heap.size + 1 < w2.heap.size := by have := I.now.2.lt; omega
        clear ho hct hrt h5
        rcases g1 with g1 | ⟨g1, g2⟩
        all_goals
          go_wp2_with fail
          have k3 := (k4.put3 (.int .i64 (M : Int)) (.int .i64 (K : Int)) (.slice A' six c')).three
          have kb := below3 HB0.out (Nat.le_succ w.heap.size) (.int .i64 (M : Int)) (.int .i64 (K : Int)) (.slice A' six c')
          have kr : RowR (((wr.setCell ⟨w.heap.size + 1, 0, none⟩ (.int .i64 (M : Int))).setCell ⟨w.heap.size + 1, 1, none⟩ (.int .i64 (K : Int))).setCell ⟨w.heap.size + 1, 2, none⟩ (.slice A' six c')) w2.heap.size A' six c' (madeL M l) := ((HOR.out.set hBx 0 _).set hBx 1 _ |>.set hBx 2 _)
          have kz : w2.heap.size ≤ (((wr.setCell ⟨w.heap.size + 1, 0, none⟩ (.int .i64 (M : Int))).setCell ⟨w.heap.size + 1, 1, none⟩ (.int .i64 (K : Int))).setCell ⟨w.heap.size + 1, 2, none⟩ (.slice A' six c')).heap.size := by simpa using hzr
          clear kz
          generalize World.setCell _ _ _ = wf at k3 kb kr ⊢
          refine bodyPost_ret (v := rec (M : Int) (K : Int) A' six c') (by simp [results, Try.results36, go_sem, k3]) rfl ⟨A', six, c', rfl, ⟨kr.reads, hcp, hs6.1, HNL.out⟩, kb⟩
end Go.Proofs.Ytpnkbjdeiedhlaa
