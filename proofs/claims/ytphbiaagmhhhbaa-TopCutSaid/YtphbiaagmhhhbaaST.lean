/- slices.Compact of two numbers. -/
import Derived.Test.YtphbiaagmhhhbaaSR
import Derived.Shelf.Slices.CompactI
import Derived.Lib.OwnBridge
namespace Go.Proofs.Ytphbiaagmhhhbaa
open Go.RowKit Go.Lib Go.Shelf

def Try.laysCompact_ren : Shelf.Ren where
  f := fun | 20 => 74 | n => n
  t := fun | 22 => 32 | 3 => 3 | 4 => 4 | 0 => 0 | n => n
  g := fun n => n

theorem Try.laysCompact : Lays2.n20 Try.prog Try.laysCompact_ren where
  mixed := by kernel_rfl
  f20 := Try.func74.trans (congrArg some (by kernel_rfl))
  t0 := Try.underlying0
  a0 := Try.isAgg0
  z0 := Try.sizeOf0
  v0 := Try.zeroValue0
  t3 := Try.underlying3
  a3 := Try.isAgg3
  z3 := Try.sizeOf3
  v3 := Try.zeroValue3
  t4 := Try.underlying4
  a4 := Try.isAgg4
  z4 := Try.sizeOf4
  v4 := Try.zeroValue4
  t22 := Try.underlying32
  a22 := Try.isAgg32
  z22 := Try.sizeOf32
  v22 := Try.zeroValue32
  i3 := by kernel_rfl

def pair (a b : Int) : List Int := if a = b then [a] else [a, b]

theorem compact_pair (a b : Int) : Lib.compact [a, b] = pair a b := by
  unfold pair Lib.compact Lib.compactUpTo
  by_cases h : a = b
  · simp [h, List.range_succ, Lib.keeps]
  · simp [h, List.range_succ, Lib.keeps, Ne.symm h]

theorem pair_len (a b : Int) : (pair a b).length ≤ 2 := by
  unfold pair; split <;> simp

theorem compact_calls (a b : Int) (B cap : Nat) (w : World) (hc : 2 ≤ cap) (hH : Sort.Holds (Value.int .i64) w B 0 #[a, b]) :
    Calls Try.prog 74 #[.slice (some ⟨B, 0, none⟩) 2 cap] w fun e w' => (∃ A n c, e = .returned (.slice A n c) ∧ Reads w' A n (pair a b)) ∧ Below B w w' := by
  refine (Any.slices_Compact_int Try.laysCompact B 0 cap [a, b] w hH (by simp) hc).mono ?_
  rintro e w' ⟨rfl, q, rfl⟩
  rw [compact_pair]
  refine ⟨⟨_, _, _, rfl, rfl, by have := pair_len a b; omega, fun _ => ⟨B, 0, rfl, fun j hj => ?_⟩⟩, Lib.below_putRow (Below.refl _ _) (Nat.le_refl _)⟩
  have hl := pair_len a b
  have h0 : Sort.Holds (Value.int .i64) (Sort.ahead w q) B 0 #[a, b] := Sort.holds_ahead _ _ _ _ _ _ hH
  have := (Sort.holds_putRow (Value.int .i64) (Sort.ahead w q) B 0 #[a, b] (pair a b ++ List.replicate ([a, b].length - (pair a b).length) 0).toArray h0 (by simp; omega)) j (by simp; omega)
  rw [this.1]
  congr 1
  simp only [List.getElem!_toArray]
  rw [List.getElem!_eq_getElem?_getD, List.getElem?_append_left hj]
  simp

theorem holds_pair (a b : Int) (w : World) (B : Nat) (hB : B = w.heap.size) : Sort.Holds (Value.int .i64) (w.alloc (.cells #[.int .i64 a, .int .i64 b] 3)) B 0 #[a, b] := by
  subst hB
  have k := Blk.new w [.int .i64 a, .int .i64 b] 3
  intro j hj
  have h2 : j < 2 := hj
  have : j = 0 ∨ j = 1 := by omega
  rcases this with rfl | rfl
  · exact ⟨k.two.1, k.free2.1⟩
  · exact ⟨k.two.2, k.free2.2⟩

def clashF (c t lo hi off : Int) (l : List (Int × Int)) : List Int × Int :=
  if measF c t lo hi off l = 0 then (if (knownF c lo hi off l).lo ≤ (knownF c lo hi off l).hi then ([], 8) else (pair (min (knownF c lo hi off l).b0 (knownF c lo hi off l).b1) (max (knownF c lo hi off l).b0 (knownF c lo hi off l).b1), 0)) else ([], measF c t lo hi off l)

theorem clash_err (c t lo hi off x : Int) (A : Option Addr) (n cap : Nat) (l : List (Int × Int)) (w : World) (hl : ReadsM w A n l) (hx : measF c t lo hi off l = x) (h0 : x ≠ 0) :
    Calls Try.prog 41 #[.agg #[.int .i64 c, .int .i64 t, .int .i64 lo, .int .i64 hi], .int .i64 off, .slice A n cap] w (ListOut ([], x) w) := by
  have HL := Lib.hid hl
  have HX := Lib.hid hx
  have z0 : (x == 0) = false := beq_eq_false_iff_ne.2 h0
  have z1 : (x != 0) = true := bne_iff_ne.2 h0
  clear hl hx h0
  go_enter Try.func41, Try.ntmps41
  go_wp2_with (go_at_call 70; refine (measured_calls c t lo hi off A n cap l _ (HL.out.later (by go_grown))).mono ?_; rintro e w1 ⟨rfl, hb⟩; rw [HX.out]; have Hb := Lib.hid hb; clear hb)
  go_ret2
  exact nilOut rfl (((Below.refl _ _).alloc (Nat.le_refl _) _).trans (Hb.out.mono (by simp)))

theorem clash_none (c t lo hi off : Int) (s : KS) (A : Option Addr) (n cap : Nat) (l : List (Int × Int)) (w : World) (hl : ReadsM w A n l) (hx : measF c t lo hi off l = 0) (hs : knownF c lo hi off l = s) (hq : s.lo ≤ s.hi) :
    Calls Try.prog 41 #[.agg #[.int .i64 c, .int .i64 t, .int .i64 lo, .int .i64 hi], .int .i64 off, .slice A n cap] w (ListOut ([], 8) w) := by
  have hm := meas_ok hx
  have hn : n ≤ 1000 := by have := hl.1; omega
  obtain ⟨s0, s1, s2, s3⟩ := s
  dsimp only at hq
  have HM := Lib.hid hm
  have HL := Lib.hid hl
  have HX := Lib.hid hx
  have HS := Lib.hid hs
  clear hl hx hs hm
  go_enter Try.func41, Try.ntmps41
  go_wp2_with (first
      | (go_at_call 70; refine (measured_calls c t lo hi off A n cap l _ (HL.out.later (by go_grown))).mono ?_; rintro e w1 ⟨rfl, hb⟩; rw [HX.out]; have k0 : Blk w1 w.heap.size _ := (Blk.new w _ 28).later hb; have q0 := k0.four; have b1 : Below w.heap.size w w1 := ((Below.refl _ _).alloc (Nat.le_refl _) _).trans (hb.mono (by simp)); have B1 := Lib.hid b1; clear hb b1)
      | (go_at_call 71; refine (known_calls HM.out.1 A n cap l _ (HL.out.later B1.out) hn HM.out.2.2).mono ?_; rintro e w2 ⟨rfl, hb2⟩; rw [HS.out]; have b2 := B1.out.trans (hb2.mono B1.out.size); have B2 := Lib.hid b2; clear hb2 b2))
  go_ret2
  have hz := B2.out.size
  exact nilOut rfl ((B2.out.alloc (by omega) _).alloc (by simp; omega) _)

theorem clash_some (c t lo hi off : Int) (s : KS) (A : Option Addr) (n cap : Nat) (l : List (Int × Int)) (w : World) (hl : ReadsM w A n l) (hx : measF c t lo hi off l = 0) (hs : knownF c lo hi off l = s) (hq : s.hi < s.lo) :
    Calls Try.prog 41 #[.agg #[.int .i64 c, .int .i64 t, .int .i64 lo, .int .i64 hi], .int .i64 off, .slice A n cap] w (ListOut (pair (min s.b0 s.b1) (max s.b0 s.b1), 0) w) := by
  have hm := meas_ok hx
  have hn : n ≤ 1000 := by have := hl.1; omega
  obtain ⟨s0, s1, s2, s3⟩ := s
  dsimp only at hq ⊢
  have HM := Lib.hid hm
  have HL := Lib.hid hl
  have HX := Lib.hid hx
  have HS := Lib.hid hs
  clear hl hx hs hm
  go_enter Try.func41, Try.ntmps41
  go_wp2_with (first
      | (go_at_call 70; refine (measured_calls c t lo hi off A n cap l _ (HL.out.later (by go_grown))).mono ?_; rintro e w1 ⟨rfl, hb⟩; rw [HX.out]; have k0 : Blk w1 w.heap.size _ := (Blk.new w _ 28).later hb; have q0 := k0.four; have b1 : Below w.heap.size w w1 := ((Below.refl _ _).alloc (Nat.le_refl _) _).trans (hb.mono (by simp)); have B1 := Lib.hid b1; clear hb b1)
      | (go_at_call 71; refine (known_calls HM.out.1 A n cap l _ (HL.out.later B1.out) hn HM.out.2.2).mono ?_; rintro e w2 ⟨rfl, hb2⟩; rw [HS.out]; have b2 := B1.out.trans (hb2.mono B1.out.size); have B2 := Lib.hid b2; clear hb2 b2)
      | (go_at_call 74; have hHH := holds_pair (min s2 s3) (max s2 s3) ((w2.alloc (.cells #[.int .i64 s0, .int .i64 s1] 26)).alloc (.cells #[.int .i64 s2, .int .i64 s3] 102)) (w2.heap.size + 1 + 1) (by simp); refine (compact_calls (min s2 s3) (max s2 s3) (w2.heap.size + 1 + 1) 2 _ (Nat.le_refl _) hHH).mono ?_; clear hHH; rintro e w3 ⟨⟨A', n', c', rfl, hr⟩, hb3⟩; have hz := B2.out.size; have b3 : Below w.heap.size w w3 := (((B2.out.alloc (by omega) _).alloc (by simp; omega) _).alloc (by simp; omega) _).trans (hb3.mono (by omega)); have B3 := Lib.hid b3; have HR := Lib.hid hr; clear hb3 b3 hr hz))
  go_ret2
  exact ⟨⟨A', n', c', rfl, HR.out⟩, B3.out⟩

theorem Clash_calls (c t lo hi off : Int) (A : Option Addr) (n cap : Nat) (l : List (Int × Int)) (w : World) (hl : ReadsM w A n l) :
    Calls Try.prog 41 #[.agg #[.int .i64 c, .int .i64 t, .int .i64 lo, .int .i64 hi], .int .i64 off, .slice A n cap] w (ListOut (clashF c t lo hi off l) w) := by
  unfold clashF
  by_cases h : measF c t lo hi off l = 0
  · rw [if_pos h]
    by_cases h2 : (knownF c lo hi off l).lo ≤ (knownF c lo hi off l).hi
    · rw [if_pos h2]
      exact clash_none c t lo hi off _ A n cap l w hl h rfl h2
    · rw [if_neg h2]
      exact clash_some c t lo hi off _ A n cap l w hl h rfl (by omega)
  · rw [if_neg h]
    exact clash_err c t lo hi off _ A n cap l w hl rfl h

end Go.Proofs.Ytphbiaagmhhhbaa
