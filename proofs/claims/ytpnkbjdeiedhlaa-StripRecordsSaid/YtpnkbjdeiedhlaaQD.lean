/- What the reference gets; which records are too long. -/
import Derived.Test.YtpnkbjdeiedhlaaQC
namespace Go.Proofs.Ytpnkbjdeiedhlaa
open Go.RowKit Go.Lib Go.Shelf
open St

theorem info77 : (Try.prog.info? 77).map (fun i => (i.zero, i.size, i.bytes)) = some (some (.agg #[.slice none 0 0, .bool false]), 2, 32) := by kernel_rfl
/-- Where the strips lie. -/
abbrev Src := Option Addr × Nat × Nat
def Src.v (s : Src) : Value := .slice s.1 s.2.1 s.2.2
/-- The tests' cells, as they are copied. -/
def cellsG (src : List Src) (l : List Tst) (k : Nat) : List Value := (List.range k).flatMap fun j => [Src.v (src[j]?.getD (none, 0, 0)), .bool (l[j]?.getD ⟨[], false⟩).ans]
theorem cellsG_succ (src : List Src) (l : List Tst) (k : Nat) : cellsG src l (k + 1) = cellsG src l k ++ [Src.v (src[k]?.getD (none, 0, 0)), .bool (l[k]?.getD ⟨[], false⟩).ans] := by
  unfold cellsG
  rw [List.range_succ, List.flatMap_append]
  simp
theorem cellsG_len (src : List Src) (l : List Tst) (k : Nat) : (cellsG src l k).length = k * 2 := by
  induction k with
  | zero => rfl
  | succ k ih => rw [cellsG_succ, List.length_append, ih]; simp; omega
theorem cellsG_at (src : List Src) (l : List Tst) {j k : Nat} (h : j < k) : (cellsG src l k)[j * 2]? = some (Src.v (src[j]?.getD (none, 0, 0))) ∧ (cellsG src l k)[j * 2 + 1]? = some (.bool (l[j]?.getD ⟨[], false⟩).ans) := by
  induction k with
  | zero => omega
  | succ k ih =>
    rw [cellsG_succ]
    have hl := cellsG_len src l k
    by_cases e : j = k
    · subst e
      rw [List.getElem?_append_right (by omega), List.getElem?_append_right (by omega), hl, Nat.sub_self, show j * 2 + 1 - j * 2 = 1 by omega]
      exact ⟨rfl, rfl⟩
    · rw [List.getElem?_append_left (by omega), List.getElem?_append_left (by omega)]
      exact ih (by omega)
/-- The sources of a slice of tests. -/
theorem sources {w : World} {A : Option Addr} {n : Nat} {l : List Tst} (h : ReadsT w A n l) : ∃ src : List Src, src.length = n ∧ ∀ j, j < n → (∃ b off, A = some ⟨b, off, none⟩ ∧ w.cell? ⟨b, off + j * 2, none⟩ = some (Src.v (src[j]?.getD (none, 0, 0))) ∧ w.cell? ⟨b, off + j * 2 + 1, none⟩ = some (.bool (l[j]?.getD ⟨[], false⟩).ans)) ∧ Reads w (src[j]?.getD (none, 0, 0)).1 (src[j]?.getD (none, 0, 0)).2.1 (l[j]?.getD ⟨[], false⟩).strip ∧ (src[j]?.getD (none, 0, 0)).2.1 ≤ (src[j]?.getD (none, 0, 0)).2.2 := by
  obtain ⟨src, h1, h2⟩ := choose_upto (n := n) (p := fun j (s : Src) => (∃ b off, A = some ⟨b, off, none⟩ ∧ w.cell? ⟨b, off + j * 2, none⟩ = some (Src.v s) ∧ w.cell? ⟨b, off + j * 2 + 1, none⟩ = some (.bool (l[j]?.getD ⟨[], false⟩).ans)) ∧ Reads w s.1 s.2.1 (l[j]?.getD ⟨[], false⟩).strip ∧ s.2.1 ≤ s.2.2) (fun j hj => by
    obtain ⟨b, off, e, hc⟩ := h.2.2 (by omega)
    obtain ⟨⟨B, m, c, g1, g2, g3⟩, g4⟩ := hc j hj
    exact ⟨(B, m, c), ⟨b, off, e, g1, g4⟩, g2, g3⟩)
  exact ⟨src, h1, fun j hj => h2 j hj _⟩
/-- The reference's record, and the row of its tests. -/
def RowG (X : World) (B5 base : Nat) (M K v : Value) (k : Nat) (cs : List Value) : Prop := Hp X B5 [M, K, v] 29 ∧ X.ownsRow base 77 2 v k cs
def RowH (X : World) (B5 base : Nat) (M K v v' : Value) (k : Nat) (cs : List Value) : Prop := Hp X B5 [M, K, v] 29 ∧ (∃ g cap, v' = .slice (some ⟨g, 0, none⟩) k cap) ∧ X.ownsRow base 77 2 v' k cs
section
variable {X Y : World} {B5 base : Nat} {M K v v' : Value} {k : Nat} {cs : List Value}
theorem RowG.later (h : RowG X B5 base M K v k cs) (hb : Below X.heap.size X Y) : RowG Y B5 base M K v k cs := ⟨h.1.later hb, own_later h.2 hb⟩
theorem RowH.store (h : RowH X B5 base M K v v' k cs) (hB : B5 < base) : RowG (X.setCell ⟨B5, 2, none⟩ v') B5 base M K v' k cs := ⟨h.1.set 2 v', own_set h.2.2 hB 2 v'⟩
theorem RowG.grow {news : List Value} (h : RowG X B5 base M K v k cs) (hB : B5 < base) (hown : Y.ownsRow base 77 2 v' (k + 1) (cs ++ news)) (hg : X.grownBy Y v.ownBlock) : RowH Y B5 base M K v v' (k + 1) (cs ++ news) := by
  refine ⟨h.1.kept hg (fun e => ?_), ?_, hown⟩
  · have := own_base' h.2 B5 e.symm
    omega
  · obtain ⟨g, cap, e, _, _⟩ := hown.form (by omega)
    exact ⟨g, cap, e⟩
end

/-- Between two operations of the region. -/
def InvG (w1 : World) (B5 base Bw bb off n c k : Nat) (s0 : Option Addr) (s1 s2 : Nat) (ab : Bool) (Mv Kv v : Value) (cs : List Value) (Fr : Value → Value → Value → Value → Value → Value → Value → Value → Value → Value → Act) (Lst : Nat → Bool) (a : Act) (X : World) : Prop := ∃ t17 t18 t19 t20 t21 t22 t23 t24 t25 t26 : Value, a = Fr t17 t18 t19 t20 t21 t22 t23 t24 t25 t26 ∧ (Below w1.heap.size w1 X ∧ base ≤ X.heap.size) ∧ ((Lst 10 = true → ∀ j, j < 10 → Lst j = true) ∧ (Lst 8 = true → Lst 1 = true ∧ Lst 7 = true)) ∧ ((Lst 8 = false → RowG X B5 base Mv Kv v k cs) ∧ (Lst 8 = true → Lst 10 = false → RowH X B5 base Mv Kv v t25 (k + 1) (cs ++ [.slice s0 s1 s2, .bool ab])) ∧ (Lst 10 = true → RowG X B5 base Mv Kv t25 (k + 1) (cs ++ [.slice s0 s1 s2, .bool ab]))) ∧ ((Lst 0 = true → t17 = .pointer (some ⟨B5, 2, none⟩)) ∧ (Lst 1 = true → t18 = v) ∧ (Lst 2 = true → t19 = .pointer (some ⟨Bw, 2, none⟩)) ∧ (Lst 3 = true → t20 = .slice (some ⟨bb, off, none⟩) n c) ∧ (Lst 4 = true → t21 = .int .i64 (k : Int))) ∧ ((Lst 5 = true → t22 = .pointer (some ⟨bb, off + k * 2, none⟩)) ∧ (Lst 6 = true → t23 = .agg #[.slice s0 s1 s2, .bool ab]) ∧ (Lst 7 = true → Lst 8 = false → ∃ b8, t24 = .slice (some ⟨b8, 0, none⟩) 1 1 ∧ Blk X b8 [.slice s0 s1 s2, .bool ab]) ∧ (Lst 9 = true → t26 = .pointer (some ⟨B5, 2, none⟩)))

set_option maxRecDepth 100000 in
set_option maxHeartbeats 4000000 in
theorem given_calls (N L : Int) {A : Option Addr} {n c : Nat} {l : List Tst} (w : World) (hl : ReadsT w A n l) (hn : n ≤ 1000) :
    Calls Try.prog 16 #[rec N L A n c] w fun e w' => ∃ A' c', e = .returned (rec N L A' n c') ∧ (ReadsT w' A' n l ∧ n ≤ c') ∧ Below w.heap.size w w' := by
  obtain ⟨i0, hi0, hz0, hz1, hz2⟩ := info_parts info77
  obtain ⟨src, hsl, hsrc⟩ := sources hl
  have hln := hl.1
  have I : Held ((w.alloc (.cells #[.int .i64 N, .int .i64 L, .slice A n c] 24)).alloc (.cells #[.int .i64 0, .int .i64 0, .slice none 0 0] 29)) (fun W => (((Below w.heap.size w W ∧ ReadsT W A n l) ∧ Blk W w.heap.size [.int .i64 N, .int .i64 L, .slice A n c]) ∧ Blk W (w.heap.size + 1) [.int .i64 0, .int .i64 0, .slice none 0 0])) := by
    have I1 := ((Held.from (w0 := w) (Below.refl w.heap.size w) (Nat.le_refl _)).with (.readsT hl)).allocB [Value.int .i64 N, .int .i64 L, .slice A n c] 24
    have I2 := I1.allocB [Value.int .i64 0, .int .i64 0, .slice none 0 0] 29
    simpa using I2
  have HSRC := Lib.hid hsrc
  clear hl hsrc
  go_enter Try.func16, Try.ntmps16
  go_upto_region 1 with fail
  generalize World.alloc _ _ = w1 at I ⊢
  have q1 := I.now.1.2.three
  have z1 := I.now.1.2.lt
  have k5 := Hp.new w1 [.int .i64 N, .int .i64 L, .slice none 0 0] 29
  have kb : Below w1.heap.size w1 (w1.alloc (.cells #[.int .i64 N, .int .i64 L, .slice none 0 0] 29)) := (Below.refl _ _).alloc (Nat.le_refl _) _
  go_upto_region 2 with fail
  change Hp (w1.alloc (.cells #[.int .i64 N, .int .i64 L, .slice none 0 0] 29)) _ _ _ at k5
  generalize World.alloc _ _ = w2 at k5 kb ⊢
  obtain ⟨B5, hB5e⟩ : ∃ B5, B5 = w1.heap.size := ⟨_, rfl⟩
  rw [← hB5e] at k5 ⊢
  have hB5w : w1.heap.size ≤ B5 := by omega
  clear hB5e q1
  have hB5 : B5 < w2.heap.size := k5.lt
  have hw12 : w1.heap.size ≤ w2.heap.size := kb.size
  have H5 := Lib.hid k5
  have HKB := Lib.hid kb
  clear k5 kb
  go_wp2_with fail
  go_loopw [4] (fun s4 wr => ∃ (k : Nat) (v : Value), k ≤ n ∧ s4 = .int .i64 k ∧ Aside (RowG wr B5 w2.heap.size (.int .i64 N) (.int .i64 L) v k (cellsG src l k)) ∧ Aside (Below w1.heap.size w1 wr) ∧ w2.heap.size ≤ wr.heap.size) (fun s4 _ => n - (intOf s4).toNat)
  case atStart => exact ⟨0, _, Nat.zero_le _, rfl, ⟨H5.out, World.ownsRow_nil w2 _ 77 2⟩, HKB.out, Nat.le_refl _⟩
  case round =>
    obtain ⟨k, v, hk, rfl, HR, HB, hzr⟩ := hrel
    clear H5 HKB
    have hw1 : IntKind.i64.wrap ((k : Int) + 1) = (k : Int) + 1 := i64_in (by omega) (by omega)
    have q2 := (I.at HB.out).1.2.three
    by_cases hlt : k < n
    · have g1 : (k : Int) < (n : Int) := by omega
      obtain ⟨⟨bb, off, eA, hc1, hc2⟩, _, _⟩ := HSRC.out k hlt
      subst eA
      have hsn := cellsG_succ src l k
      generalize hsk : src[k]?.getD (none, 0, 0) = sk at hc1 hsn
      obtain ⟨s0, s1, s2⟩ := sk
      generalize (l[k]?.getD ⟨[], false⟩).ans = ab at hc2 hsn
      change w.cell? _ = some (.slice s0 s1 s2) at hc1
      change _ = _ ++ [Value.slice s0 s1 s2, _] at hsn
      have hbw : bb < w.heap.size := World.block_lt_of_cell? w _ hc1
      have HC := Lib.hid (show ∀ X, Below w1.heap.size w1 X → X.cell? ⟨w.heap.size, 2, none⟩ = some (.slice (some ⟨bb, off, none⟩) n c) ∧ X.cell? ⟨bb, off + k * 2, none⟩ = some (.slice s0 s1 s2) ∧ X.cell? ⟨bb, off + k * 2 + 1, none⟩ = some (.bool ab) from fun X hX =>
        ⟨(I.at hX).1.2.three.2.2, ((I.at hX).1.1.1.cell (p := ⟨bb, off + k * 2, none⟩) hbw).trans hc1, ((I.at hX).1.1.1.cell (p := ⟨bb, off + k * 2 + 1, none⟩) hbw).trans hc2⟩)
      have HW0 := Lib.hid (And.intro HB.out.drew hzr)
      have HR0 := Lib.hid (HR.out.later (Below.refl wr.heap.size wr).drew)
      have HSN := Lib.hid hsn
      clear hsn hc1 hc2 hsk
      go_upto_region 5 with fail
      clear q2
      refine region_invP (by kernel_rfl) (InvG w1 B5 w2.heap.size w.heap.size bb off n c k s0 s1 s2 ab (.int .i64 N) (.int .i64 L) v (cellsG src l k) (fun t17 t18 t19 t20 t21 t22 t23 t24 t25 t26 => ({ tmps := #[rec N L (some ⟨bb, off, none⟩) n c, .pointer (some ⟨w.heap.size, 0, none⟩), .pointer (some ⟨w.heap.size + 1, 0, none⟩), .pointer (some ⟨B5, 0, none⟩), .int .i64 (k : Int), .pointer (some ⟨w.heap.size, 0, none⟩), .int .i64 N, .pointer (some ⟨w.heap.size, 1, none⟩), .int .i64 L, .agg #[.int .i64 N, .int .i64 L, .slice none 0 0], .int .i64 (k : Int), .pointer (some ⟨w.heap.size, 2, none⟩), .slice (some ⟨bb, off, none⟩) n c, .int .i64 (n : Int), .bool true, u15, u16, t17, t18, t19, t20, t21, t22, t23, t24, t25, t26, undef], defers := [] } : Act))) (ac_of (by kernel_rfl)) ?stepR ?doneR ?h0R
      case h0R =>
        exact ⟨_, _, _, _, _, _, _, _, _, _, rfl, HW0.out, ⟨fun h => (by cases h), fun h => (by cases h)⟩, ⟨fun _ => HR0.out, fun h => (by cases h), fun h => (by cases h)⟩, ⟨fun h => (by cases h), fun h => (by cases h), fun h => (by cases h), fun h => (by cases h), fun h => (by cases h)⟩, ⟨fun h => (by cases h), fun h => (by cases h), fun h => (by cases h), fun h => (by cases h)⟩⟩
      case doneR =>
        rintro Lst a X hL ⟨t17, t18, t19, t20, t21, t22, t23, t24, t25, t26, rfl, HWd, ⟨hA, hB⟩, ⟨hr1, hr2, hr3⟩, ⟨h0, h1, h2, h3, h4⟩, ⟨h5, h6, h7, h9⟩⟩
        dsimp only
        have HR3 := Lib.hid (hr3 (hL 10 (by show 10 < 11; decide)))
        have HW3 := Lib.hid HWd
        clear hA hB hr1 hr2 hr3 HWd hL h0 h1 h2 h3 h4 h5 h6 h7 h9
        go_wp2_with fail
        go_roundw
        case measure => simp [intOf]; omega
        case rel => exact ⟨k + 1, _, by omega, by go_num, (show Aside _ from by rw [HSN.out]; exact HR3.out), HW3.out.1, HW3.out.2⟩
      case stepR =>
        rintro Lst a X i o ho hdep hLi ⟨t17, t18, t19, t20, t21, t22, t23, t24, t25, t26, rfl, HWs, ⟨hA, hB⟩, ⟨hr1, hr2, hr3⟩, ⟨h0, h1, h2, h3, h4⟩, ⟨h5, h6, h7, h9⟩⟩ Kc hK
        have hi := (Array.getElem?_eq_some_iff.1 ho).1
        have hiK : i < 11 := hi
        dsimp only at hK ⊢
        have HW := Lib.hid HWs
        clear HWs hi
        have hcase : i = 0 ∨ i = 1 ∨ i = 2 ∨ i = 3 ∨ i = 4 ∨ i = 5 ∨ i = 6 ∨ i = 7 ∨ i = 8 ∨ i = 9 ∨ i = 10 := by omega
        rcases hcase with rfl | rfl | rfl | rfl | rfl | rfl | rfl | rfl | rfl | rfl | rfl
        · simp only [List.getElem?_toArray, List.getElem?_cons_zero, Option.some.injEq] at ho
          subst ho
          have L10 := not_yet hA (show 0 < 10 by omega) hLi
          clear hdep
          rw [if_pos (by rfl)]
          go_wp2_with fail
          exact ⟨_, _, _, _, _, _, _, _, _, _, rfl, HW.out, ⟨fun h => (by have h2 : Lst 10 = true := h; rw [L10] at h2; cases h2), hB⟩, ⟨hr1, hr2, hr3⟩, ⟨fun _ => rfl, h1, h2, h3, h4⟩, ⟨h5, h6, h7, h9⟩⟩
        · simp only [List.getElem?_toArray, List.getElem?_cons_zero, List.getElem?_cons_succ, Option.some.injEq] at ho
          subst ho
          have L10 := not_yet hA (show 1 < 10 by omega) hLi
          obtain rfl := h0 (hdep ⟨0, Ground.data⟩ (by simp) rfl)
          have hp5 : Hp X B5 [.int .i64 N, .int .i64 L, v] 29 := by
            cases hb : Lst 8 with
            | false => exact (hr1 hb).1
            | true => exact (hr2 hb L10).1
          have q5 := hp5.blk.three
          clear hp5
          clear hdep
          rw [if_pos (by rfl)]
          go_wp2_with fail
          exact ⟨_, _, _, _, _, _, _, _, _, _, rfl, HW.out, ⟨fun h => (by have h2 : Lst 10 = true := h; rw [L10] at h2; cases h2), fun h => ⟨rfl, (hB h).2⟩⟩, ⟨hr1, hr2, hr3⟩, ⟨fun _ => rfl, fun _ => rfl, h2, h3, h4⟩, ⟨h5, h6, h7, h9⟩⟩
        · simp only [List.getElem?_toArray, List.getElem?_cons_zero, List.getElem?_cons_succ, Option.some.injEq] at ho
          subst ho
          have L10 := not_yet hA (show 2 < 10 by omega) hLi
          clear hdep
          rw [if_pos (by rfl)]
          go_wp2_with fail
          exact ⟨_, _, _, _, _, _, _, _, _, _, rfl, HW.out, ⟨fun h => (by have h2 : Lst 10 = true := h; rw [L10] at h2; cases h2), hB⟩, ⟨hr1, hr2, hr3⟩, ⟨h0, h1, fun _ => rfl, h3, h4⟩, ⟨h5, h6, h7, h9⟩⟩
        · simp only [List.getElem?_toArray, List.getElem?_cons_zero, List.getElem?_cons_succ, Option.some.injEq] at ho
          subst ho
          have L10 := not_yet hA (show 3 < 10 by omega) hLi
          obtain rfl := h2 (hdep ⟨2, Ground.data⟩ (by simp) rfl)
          clear hdep
          rw [if_pos (by rfl)]
          have q2 := (HC.out _ HW.out.1).1
          go_wp2_with fail
          exact ⟨_, _, _, _, _, _, _, _, _, _, rfl, HW.out, ⟨fun h => (by have h2 : Lst 10 = true := h; rw [L10] at h2; cases h2), hB⟩, ⟨hr1, hr2, hr3⟩, ⟨h0, h1, fun _ => rfl, fun _ => rfl, h4⟩, ⟨h5, h6, h7, h9⟩⟩
        · simp only [List.getElem?_toArray, List.getElem?_cons_zero, List.getElem?_cons_succ, Option.some.injEq] at ho
          subst ho
          have L10 := not_yet hA (show 4 < 10 by omega) hLi
          clear hdep
          rw [if_pos (by rfl)]
          go_wp2_with fail
          exact ⟨_, _, _, _, _, _, _, _, _, _, rfl, HW.out, ⟨fun h => (by have h2 : Lst 10 = true := h; rw [L10] at h2; cases h2), hB⟩, ⟨hr1, hr2, hr3⟩, ⟨h0, h1, h2, h3, fun _ => rfl⟩, ⟨h5, h6, h7, h9⟩⟩
        · simp only [List.getElem?_toArray, List.getElem?_cons_zero, List.getElem?_cons_succ, Option.some.injEq] at ho
          subst ho
          have L10 := not_yet hA (show 5 < 10 by omega) hLi
          obtain rfl := h3 (hdep ⟨3, Ground.data⟩ (by simp) rfl)
          obtain rfl := h4 (hdep ⟨4, Ground.data⟩ (by simp) rfl)
          clear hdep
          rw [if_pos (by rfl)]
          go_wp2_with fail
          exact ⟨_, _, _, _, _, _, _, _, _, _, rfl, HW.out, ⟨fun h => (by have h2 : Lst 10 = true := h; rw [L10] at h2; cases h2), hB⟩, ⟨hr1, hr2, hr3⟩, ⟨h0, h1, h2, fun _ => rfl, fun _ => rfl⟩, ⟨fun _ => rfl, h6, h7, h9⟩⟩
        · simp only [List.getElem?_toArray, List.getElem?_cons_zero, List.getElem?_cons_succ, Option.some.injEq] at ho
          subst ho
          have L10 := not_yet hA (show 6 < 10 by omega) hLi
          obtain rfl := h5 (hdep ⟨5, Ground.data⟩ (by simp) rfl)
          clear hdep
          rw [if_pos (by rfl)]
          have hc1 := (HC.out _ HW.out.1).2
          go_wp2_with fail
          exact ⟨_, _, _, _, _, _, _, _, _, _, rfl, HW.out, ⟨fun h => (by have h2 : Lst 10 = true := h; rw [L10] at h2; cases h2), hB⟩, ⟨hr1, hr2, hr3⟩, ⟨h0, h1, h2, h3, h4⟩, ⟨fun _ => rfl, fun _ => rfl, h7, h9⟩⟩
        · simp only [List.getElem?_toArray, List.getElem?_cons_zero, List.getElem?_cons_succ, Option.some.injEq] at ho
          subst ho
          have L10 := not_yet hA (show 7 < 10 by omega) hLi
          obtain rfl := h6 (hdep ⟨6, Ground.data⟩ (by simp) rfl)
          have L8 : Lst 8 = false := by
            cases hb : Lst 8 with
            | false => rfl
            | true =>
              rw [(hB hb).2] at hLi; cases hLi
          have HR := Lib.hid (hr1 L8)
          clear hdep
          rw [if_pos (by rfl)]
          have hbl : Below X.heap.size X (X.alloc (.cells #[.slice s0 s1 s2, .bool ab] 77)) := (Below.refl _ _).alloc (Nat.le_refl _) _
          have HBL := Lib.hid hbl
          have HN := Lib.hid (Blk.new X [.slice s0 s1 s2, .bool ab] 77)
          clear hbl
          go_wp2_with fail
          exact ⟨_, _, _, _, _, _, _, _, _, _, rfl, ⟨HW.out.1.trans (HBL.out.mono HW.out.1.size), Nat.le_trans HW.out.2 HBL.out.size⟩, ⟨fun h => (by have h2 : Lst 10 = true := h; rw [L10] at h2; cases h2), fun h => (by have h2 : Lst 8 = true := h; rw [L8] at h2; cases h2)⟩, ⟨fun _ => HR.out.later HBL.out, fun h => (by have h2 : Lst 8 = true := h; rw [L8] at h2; cases h2), fun h => (by have h2 : Lst 10 = true := h; rw [L10] at h2; cases h2)⟩, ⟨h0, h1, h2, h3, h4⟩, ⟨h5, fun _ => rfl, fun _ _ => ⟨X.heap.size, rfl, HN.out⟩, h9⟩⟩
        · simp only [List.getElem?_toArray, List.getElem?_cons_zero, List.getElem?_cons_succ, Option.some.injEq] at ho
          subst ho
          have L10 := not_yet hA (show 8 < 10 by omega) hLi
          obtain rfl : v = t18 := (h1 (hdep ⟨1, Ground.data⟩ (by simp) rfl)).symm
          have L1 := hdep ⟨1, Ground.data⟩ (by simp) rfl
          have L7 := hdep ⟨7, Ground.data⟩ (by simp) rfl
          obtain ⟨b8, e3, hb8⟩ := h7 L7 hLi
          subst e3
          have hrg := hr1 hLi
          clear hdep
          rw [if_pos (by rfl)]
          refine wp_append_at (.tmp 18) (.tmp 24) 27 rfl w2.heap.size 77 i0 (.agg #[.slice none 0 0, .bool false]) 2 32 Try.underlying27 hi0 hz0 hz1 hz2 rfl (by decide) v k _ rfl hrg.2 ⟨b8, 0, none⟩ 1 1 [.slice s0 s1 s2, .bool ab] rfl rfl hb8.news (by intro u hu; simp at hu; rcases hu with rfl | rfl <;> rfl) (by unfold maxLen; omega) (by omega) HW.out.2 ?_
          intro v3 w4 hown3 hgrow3 _
          refine hK _ _ ?_
          have hrb := hrg.grow hB5 hown3 hgrow3
          have hbw : Below w1.heap.size w1 w4 := HW.out.1.grown hgrow3 HW.out.1.size (by intro j hj; have := own_base' hrg.2 j hj; omega)
          have hzz : w2.heap.size ≤ w4.heap.size := Nat.le_trans HW.out.2 hgrow3.size
          exact ⟨_, _, _, _, _, _, _, _, _, _, rfl, ⟨hbw, hzz⟩, ⟨fun h => (by have h2 : Lst 10 = true := h; rw [L10] at h2; cases h2), fun _ => ⟨L1, L7⟩⟩, ⟨fun h => (by cases h), fun _ _ => hrb, fun h => (by have h2 : Lst 10 = true := h; rw [L10] at h2; cases h2)⟩, ⟨h0, fun _ => rfl, h2, h3, h4⟩, ⟨h5, h6, fun _ h => (by cases h), h9⟩⟩
        · simp only [List.getElem?_toArray, List.getElem?_cons_zero, List.getElem?_cons_succ, Option.some.injEq] at ho
          subst ho
          have L10 := not_yet hA (show 9 < 10 by omega) hLi
          clear hdep
          rw [if_pos (by rfl)]
          go_wp2_with fail
          exact ⟨_, _, _, _, _, _, _, _, _, _, rfl, HW.out, ⟨fun h => (by have h2 : Lst 10 = true := h; rw [L10] at h2; cases h2), hB⟩, ⟨hr1, hr2, hr3⟩, ⟨h0, h1, h2, h3, h4⟩, ⟨h5, h6, h7, fun _ => rfl⟩⟩
        · simp only [List.getElem?_toArray, List.getElem?_cons_zero, List.getElem?_cons_succ, Option.some.injEq] at ho
          subst ho
          have L8 := hdep ⟨8, Ground.data⟩ (by simp) rfl
          have hall : ∀ j, j < 10 → Lst j = true := by
            intro j hj
            have hc : j = 0 ∨ j = 1 ∨ j = 2 ∨ j = 3 ∨ j = 4 ∨ j = 5 ∨ j = 6 ∨ j = 7 ∨ j = 8 ∨ j = 9 := by omega
            rcases hc with rfl | rfl | rfl | rfl | rfl | rfl | rfl | rfl | rfl | rfl
            · exact hdep ⟨0, Ground.phase⟩ (by simp) rfl
            · exact hdep ⟨1, Ground.phase⟩ (by simp) rfl
            · exact hdep ⟨2, Ground.phase⟩ (by simp) rfl
            · exact hdep ⟨3, Ground.phase⟩ (by simp) rfl
            · exact hdep ⟨4, Ground.phase⟩ (by simp) rfl
            · exact hdep ⟨5, Ground.phase⟩ (by simp) rfl
            · exact hdep ⟨6, Ground.phase⟩ (by simp) rfl
            · exact hdep ⟨7, Ground.phase⟩ (by simp) rfl
            · exact hdep ⟨8, Ground.phase⟩ (by simp) rfl
            · exact hdep ⟨9, Ground.data⟩ (by simp) rfl
          obtain rfl := h0 (hall 0 (by omega))
          obtain rfl : v = t18 := (h1 (hall 1 (by omega))).symm
          obtain rfl := h2 (hall 2 (by omega))
          obtain rfl := h3 (hall 3 (by omega))
          obtain rfl := h4 (hall 4 (by omega))
          obtain rfl := h5 (hall 5 (by omega))
          obtain rfl := h6 (hall 6 (by omega))
          obtain rfl := h9 (hall 9 (by omega))
          have hrb := hr2 L8 hLi
          have q5 := hrb.1.blk.three
          have f5 := hrb.1.free 2
          have z5 := hrb.1.lt
          have HS := Lib.hid (hrb.store hB5)
          obtain ⟨g3, cap3, e3⟩ := hrb.2.1
          subst e3
          have HWS := Lib.hid (HW.out.1.setCell (p := ⟨B5, 2, none⟩) hB5w (.slice (some ⟨g3, 0, none⟩) (k + 1) cap3))
          have L8f : ∀ {p : Prop}, Lst 8 = false → p := fun h => by rw [L8] at h; cases h
          have HZ := Lib.hid HW.out.2
          clear hdep hrb
          rw [if_pos (by rfl)]
          go_wp2_with fail
          exact ⟨_, _, _, _, _, _, _, _, _, _, rfl, ⟨HWS.out, by simpa using HZ.out⟩, ⟨fun _ j hj => (by show (j == 10 || Lst j) = true; rw [hall j hj, Bool.or_true]), fun _ => ⟨hall 1 (by omega), hall 7 (by omega)⟩⟩, ⟨fun h => L8f h, fun _ h => (by cases h), fun _ => HS.out⟩, ⟨fun _ => rfl, fun _ => rfl, fun _ => rfl, fun _ => rfl, fun _ => rfl⟩, ⟨fun _ => rfl, fun _ => rfl, fun _ h => L8f h, fun _ => rfl⟩⟩
    · obtain rfl : n = k := by omega
      have g1 : ¬ (n : Int) < (n : Int) := by omega
      obtain ⟨h5, ho⟩ := HR.out
      have hfin : ∃ A' c', v = .slice A' n c' ∧ ReadsT wr A' n l ∧ n ≤ c' ∧ ∀ B x y z, B < w2.heap.size → w.heap.size ≤ B → ReadsT (((wr.setCell ⟨B, 0, none⟩ x).setCell ⟨B, 1, none⟩ y).setCell ⟨B, 2, none⟩ z) A' n l := by
        have hcap := own_cap ho
        have hbase := own_base' ho
        have hrd : ∀ j, j < n → _ := fun j hj => (HSRC.out j hj).2
        have key : ∀ (X : World) (v : Value), X.ownsRow w2.heap.size 77 2 v n (cellsG src l n) → Below w.heap.size w X → ∀ A' c', v = .slice A' n c' → ReadsT X A' n l := by
          intro X v ho hX A' c' hv
          refine ⟨hln, by omega, fun h0 => ?_⟩
          obtain ⟨g, cap, e, _, _⟩ := ho.form h0
          rw [e] at hv
          injection hv with e1
          refine ⟨g, 0, e1.symm, fun j hj => ?_⟩
          obtain ⟨a1, a2⟩ := cellsG_at src l hj
          subst e
          have k1 := ho.cells (g := g) rfl _ _ a1
          have k2 := ho.cells (g := g) rfl _ _ a2
          rw [WideShapes.add_plain] at k1 k2
          obtain ⟨r1, r2⟩ := hrd j hj
          exact ⟨⟨_, _, _, k1, r1.later hX, r2⟩, by rw [← Nat.add_assoc] at k2; exact k2⟩
        have hsl : ∃ A' c', v = .slice A' n c' := by
          rcases ho.2 with ⟨rfl, h0⟩ | ⟨g, cap, cur, rfl, _⟩
          · exact ⟨none, 0, by rw [h0]⟩
          · exact ⟨_, _, rfl⟩
        obtain ⟨A', c', hv⟩ := hsl
        have hbw := (I.at HB.out).1.1.1
        exact ⟨A', c', hv, key wr v ho hbw A' c' hv, hcap _ _ hv, fun B x y z hB hB2 => key _ v (own_set (own_set (own_set ho hB 0 x) hB 1 y) hB 2 z) (below3 hbw hB2 x y z) A' c' hv⟩
      obtain ⟨A', c', e, hrt, hcp, hset⟩ := hfin
      subst e
      have HSET := Lib.hid hset
      have q5 := h5.blk.three
      have HB0 := Lib.hid ((I.at HB.out).1.1.1)
      have k4 := (I.at HB.out).2
      have q4 := k4.three
      have f4 := k4.free3
      have z4 := k4.lt
      have hBx : w.heap.size + 1 < w2.heap.size := by have := I.now.2.lt; omega
      clear hrt h5 ho hset
      go_wp2_with fail
      have k3 := (k4.put3 (.int .i64 N) (.int .i64 L) (.slice A' n c')).three
      have kb := below3 HB0.out (Nat.le_succ w.heap.size) (.int .i64 N) (.int .i64 L) (.slice A' n c')
      have kr := HSET.out (w.heap.size + 1) (.int .i64 N) (.int .i64 L) (.slice A' n c') hBx (Nat.le_succ _)
      generalize World.setCell _ _ _ = wf at k3 kb kr ⊢
      refine bodyPost_ret (v := rec N L A' n c') (by simp [results, Try.results16, go_sem, k3]) rfl ⟨A', c', rfl, ⟨kr, hcp⟩, kb⟩
end Go.Proofs.Ytpnkbjdeiedhlaa
