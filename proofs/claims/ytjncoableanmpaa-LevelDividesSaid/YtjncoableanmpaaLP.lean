/- The contract of Proof. -/
import Derived.Test.YtjncoableanmpaaLO
import Derived.Shelf.Slices.CompactI
import Derived.Lib.OwnBridge
namespace Go.Proofs.Ytjncoableanmpaa
open Go.RowKit Go.Lib Go.Shelf

def Try.laysCompact_ren : Shelf.Ren where
  f := fun | 20 => 61 | n => n
  t := fun | 22 => 38 | 3 => 3 | 4 => 4 | 0 => 0 | n => n
  g := fun n => n

theorem Try.laysCompact : Lays2.n20 Try.prog Try.laysCompact_ren where
  mixed := by kernel_rfl
  f20 := Try.func61.trans (congrArg some (by kernel_rfl))
  t0 := Try.underlying0
  a0 := Try.isAgg0
  z0 := Try.sizeOf0
  v0 := Try.zeroValue0
  t3 := Try.underlying3
  a3 := Try.isAgg3
  z3 := Try.sizeOf3
  v3 := Try.zeroValue3
  t4 := Try.underlying4
  a4 := Try.isAgg4
  z4 := Try.sizeOf4
  v4 := Try.zeroValue4
  t22 := Try.underlying38
  a22 := Try.isAgg38
  z22 := Try.sizeOf38
  v22 := Try.zeroValue38
  i3 := by kernel_rfl

/-- The codes that prove: one or three. -/
def trl (t : Trio) : List Int := if t.1 = t.2.2 then [(t.1 : Int)] else [(t.1 : Int), (t.2.1 : Int), (t.2.2 : Int)]
theorem compact_trio {n : Nat} {t : Trio} (h : TrioOk n t) : Lib.compact [(t.1 : Int), (t.2.1 : Int), (t.2.2 : Int)] = trl t := by
  obtain ⟨i, j, k⟩ := t
  obtain ⟨_, ⟨h1, h2⟩ | ⟨h1, h2⟩⟩ := h
  · dsimp only at h1 h2
    subst h1; subst h2
    unfold trl Lib.compact Lib.compactUpTo
    simp [List.range_succ, Lib.keeps]
  · dsimp only at h1 h2
    have e1 : ¬ ((j : Int) = (i : Int)) := by omega
    have e2 : ¬ ((k : Int) = (j : Int)) := by omega
    have e3 : ¬ i = k := by omega
    unfold trl Lib.compact Lib.compactUpTo
    simp [List.range_succ, Lib.keeps, e1, e2, e3]
theorem trl_len (t : Trio) : (trl t).length ≤ 3 := by
  unfold trl; split <;> simp

theorem compact3_calls {m : Nat} {t : Trio} (ht : TrioOk m t) (B cap : Nat) (w : World) (hc : 3 ≤ cap) (hH : Sort.Holds (Value.int .i64) w B 0 #[(t.1 : Int), (t.2.1 : Int), (t.2.2 : Int)]) :
    Calls Try.prog 61 #[.slice (some ⟨B, 0, none⟩) 3 cap] w fun e w' => (∃ A n c, e = .returned (.slice A n c) ∧ Reads w' A n (trl t) ∧ n ≤ c) ∧ Below B w w' := by
  refine (Any.slices_Compact_int Try.laysCompact B 0 cap [(t.1 : Int), (t.2.1 : Int), (t.2.2 : Int)] w hH (by simp) hc).mono ?_
  rintro e w' ⟨rfl, q, rfl⟩
  rw [compact_trio ht]
  have hl := trl_len t
  refine ⟨⟨_, _, _, rfl, ⟨rfl, by omega, fun _ => ⟨B, 0, rfl, fun j hj => ?_⟩⟩, by omega⟩, Lib.below_putRow (Below.refl _ _) (Nat.le_refl _)⟩
  have h0 : Sort.Holds (Value.int .i64) (Sort.ahead w q) B 0 #[(t.1 : Int), (t.2.1 : Int), (t.2.2 : Int)] := Sort.holds_ahead _ _ _ _ _ _ hH
  have := (Sort.holds_putRow (Value.int .i64) (Sort.ahead w q) B 0 #[(t.1 : Int), (t.2.1 : Int), (t.2.2 : Int)] (trl t ++ List.replicate ([(t.1 : Int), (t.2.1 : Int), (t.2.2 : Int)].length - (trl t).length) 0).toArray h0 (by simp; omega)) j (by simp; omega)
  rw [this.1]
  congr 1
  simp only [List.getElem!_toArray]
  rw [List.getElem!_eq_getElem?_getD, List.getElem?_append_left hj]
  simp

theorem holds3 (a b c : Int) (w : World) (B : Nat) (hB : Blk w B [.int .i64 a, .int .i64 b, .int .i64 c]) : Sort.Holds (Value.int .i64) w B 0 #[a, b, c] := by
  intro j hj
  have : j = 0 ∨ j = 1 ∨ j = 2 := by simp at hj; omega
  rcases this with rfl | rfl | rfl
  · exact ⟨by simpa using hB.cell 0 _ rfl, by simpa using hB.free 0⟩
  · exact ⟨by simpa using hB.cell 1 _ rfl, by simpa using hB.free 1⟩
  · exact ⟨by simpa using hB.cell 2 _ rfl, by simpa using hB.free 2⟩

attribute [local go_sem] field89_0 field89_2
set_option maxRecDepth 100000 in
set_option maxHeartbeats 4000000 in
theorem proof_calls {b off n c : Nat} {l : List Cd} (w : World) (hl : ReadsC w (some ⟨b, off, none⟩) n l) (hk : chk l = 0) :
    Calls Try.prog 36 #[.slice (some ⟨b, off, none⟩) n c] w fun e w' => (∃ A m c', e = .returned (.tuple #[.slice A m c', .int .i64 0]) ∧ Reads w' A m (trl (bestC l).who) ∧ m ≤ c') ∧ Below w.heap.size w w' := by
  have hg := chk_good hk
  have C1 : ∀ W, Below w.heap.size w W → Gives 15 #[.slice (some ⟨b, off, none⟩) n c] (.int .i64 0) W := fun W h => by have := check_calls (some ⟨b, off, none⟩) n c l W (hl.later h); rwa [hk] at this
  have C2 : ∀ W, Below w.heap.size w W → Gives 45 #[.slice (some ⟨b, off, none⟩) n c] (clv (bestC l)) W := fun W h => best_calls W (hl.later h) hg
  have ht : TrioOk l.length (bestC l).who := by
    obtain ⟨t, ht, e, _⟩ := bestC_spec hg.pos
    have hw : (bestC l).who = t := by rw [e]; unfold clm; split <;> rfl
    rw [hw]; exact ht
  generalize bestC l = x at C2 ht ⊢
  unfold clv at C2
  have HC1 := Lib.hid C1
  have HC2 := Lib.hid C2
  have HT := Lib.hid ht
  clear hl hk hg C1 C2 ht
  go_enter Try.func36, Try.ntmps36
  go_upto_region 5 with (first
    | (go_at_call 15; (with_reducible refine (Gives.c (HC1.out _ (Below.refl _ _))).mono ?_); rintro e w2 ⟨rfl, hb⟩; have B1 := Lib.hid hb; clear hb)
    | (go_at_call 45; (with_reducible refine (Gives.c (HC2.out _ B1.out)).mono ?_); rintro e w3 ⟨rfl, hb⟩; have B2 := Lib.hid (B1.out.trans (hb.mono B1.out.size)); clear hb))
  have hB := Blk.new w3 [.int .i64 (x.who.1 : Int), .int .i64 (x.who.2.1 : Int), .int .i64 (x.who.2.2 : Int)] 87
  have hH := Lib.hid (holds3 _ _ _ _ _ hB)
  have hz := B2.out.size
  have B3 : Below w.heap.size w (w3.alloc (.cells #[.int .i64 (x.who.1 : Int), .int .i64 (x.who.2.1 : Int), .int .i64 (x.who.2.2 : Int)] 87)) := B2.out.alloc hz _
  clear hB
  generalize hBB : w3.heap.size = B at hH hz ⊢
  generalize World.alloc _ _ = w4 at hH B3 ⊢
  have HB3 := Lib.hid B3
  clear B3
  go_wp2_with (go_at_call 61; (with_reducible refine (compact3_calls HT.out B 3 _ (by decide) hH.out).mono ?_); rintro e w5 ⟨⟨A, m, c', rfl, hr, hmc⟩, hb⟩; have HR := Lib.hid hr; have HB5 := Lib.hid (HB3.out.trans (hb.mono hz)); clear hr hb)
  refine bodyPost_ret (v := .tuple #[.slice A m c', .int .i64 0]) (by simp [results, Try.results36, go_sem]) rfl ⟨⟨A, m, c', rfl, HR.out, hmc⟩, HB5.out⟩
end Go.Proofs.Ytjncoableanmpaa
