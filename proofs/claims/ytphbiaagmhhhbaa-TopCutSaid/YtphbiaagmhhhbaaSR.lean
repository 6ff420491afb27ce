/- The contracts of Growths and Clash. -/
import Derived.Test.YtphbiaagmhhhbaaSQ
namespace Go.Proofs.Ytphbiaagmhhhbaa
open Go.RowKit Go.Lib Go.Shelf

theorem meas_ok {c t lo hi off : Int} {l : List (Int × Int)} (h : measF c t lo hi off l = 0) : Sound c t lo hi ∧ l.length ≤ 50 ∧ ∀ j, j < l.length → FineM off (mAt l j).1 (mAt l j).2 := by
  unfold measF at h
  by_cases hs : Sound c t lo hi
  · rw [if_pos hs] at h
    by_cases ho : 0 ≤ off ∧ off ≤ 1000000
    · rw [if_pos ho] at h
      by_cases hn : 50 < l.length
      · rw [if_pos hn] at h; omega
      · rw [if_neg hn] at h
        by_cases hb : l.any badM = true
        · rw [if_pos hb] at h; omega
        · refine ⟨hs, by omega, fun j hj => ?_⟩
          have hb' : badM (mAt l j) = false := by
            rw [Bool.not_eq_true] at hb
            rw [List.any_eq_false] at hb
            have := hb (l[j]'hj) (List.getElem_mem hj)
            unfold mAt
            rw [List.getElem?_eq_getElem hj]
            simpa using this
          unfold badM btw at hb'
          simp only [Bool.or_eq_false_iff, Bool.not_eq_false', Bool.and_eq_true, decide_eq_true_eq] at hb'
          exact ⟨hb'.1, hb'.2, ho⟩
    · rw [if_neg ho] at h; omega
  · rw [if_neg hs] at h; omega

def growthsF (c t lo hi off : Int) (l : List (Int × Int)) : Int × Int × Int :=
  if measF c t lo hi off l = 0 then (if (knownF c lo hi off l).hi < (knownF c lo hi off l).lo then (0, 0, 15) else ((knownF c lo hi off l).lo, (knownF c lo hi off l).hi, 0)) else (0, 0, measF c t lo hi off l)

theorem growths_err (c t lo hi off x : Int) (A : Option Addr) (n cap : Nat) (l : List (Int × Int)) (w : World) (hl : ReadsM w A n l) (hx : measF c t lo hi off l = x) (h0 : x ≠ 0) :
    Gives 39 #[.agg #[.int .i64 c, .int .i64 t, .int .i64 lo, .int .i64 hi], .int .i64 off, .slice A n cap] (.tuple #[.agg #[.int .i64 0, .int .i64 0], .int .i64 x]) w := by
  unfold Gives
  have HL := Lib.hid hl
  have HX := Lib.hid hx
  have z0 : (x == 0) = false := beq_eq_false_iff_ne.2 h0
  have z1 : (x != 0) = true := bne_iff_ne.2 h0
  clear hl hx h0
  go_enter Try.func39, Try.ntmps39
  go_wp2_with (go_at_call 70; refine (measured_calls c t lo hi off A n cap l _ (HL.out.later (by go_grown))).mono ?_; rintro e w1 ⟨rfl, hb⟩; rw [HX.out]; have k1 : Blk w1 (w.heap.size + 1) _ := Blk.later (by simpa using Blk.new (w.alloc _) _ 26) hb; have q1 := k1.two; have f1 := k1.free2; have z1 := k1.lt; have Hb := Lib.hid hb; clear hb)
  have b1 : Below w.heap.size w w1 := (((Below.refl _ _).alloc (Nat.le_refl _) _).alloc (by simp) _).trans (Hb.out.mono (by simp; omega))
  have r := put2 (a := .int .i64 0) (b := .int .i64 0) q1.1 q1.2
  refine bodyPost_ret (v := .tuple #[.agg #[.int .i64 0, .int .i64 0], .int .i64 x]) (by simp [results, Try.results39, go_sem, r.1, r.2]) rfl ⟨rfl, ?_⟩
  exact below2 b1 (by omega) _ _

theorem growths_ok (c t lo hi off : Int) (s : KS) (A : Option Addr) (n cap : Nat) (l : List (Int × Int)) (w : World) (hl : ReadsM w A n l) (hx : measF c t lo hi off l = 0) (hs : knownF c lo hi off l = s) (a b e : Int)
    (hr : (if s.hi < s.lo then ((0 : Int), (0 : Int), (15 : Int)) else (s.lo, s.hi, 0)) = (a, b, e)) :
    Gives 39 #[.agg #[.int .i64 c, .int .i64 t, .int .i64 lo, .int .i64 hi], .int .i64 off, .slice A n cap] (.tuple #[.agg #[.int .i64 a, .int .i64 b], .int .i64 e]) w := by
  unfold Gives
  have hm := meas_ok hx
  have hn : n ≤ 1000 := by have := hl.1; omega
  obtain ⟨s0, s1, s2, s3⟩ := s
  dsimp only at hr
  have HM := Lib.hid hm
  have HL := Lib.hid hl
  have HX := Lib.hid hx
  have HS := Lib.hid hs
  clear hl hx hs hm
  by_cases hq : s1 < s0
  · rw [if_pos hq] at hr
    cases hr
    go_enter Try.func39, Try.ntmps39
    go_wp2_with (first
      | (go_at_call 70; refine (measured_calls c t lo hi off A n cap l _ (HL.out.later (by go_grown))).mono ?_; rintro e w1 ⟨rfl, hb⟩; rw [HX.out]; have k0 : Blk w1 w.heap.size _ := ((Blk.new w _ 28).alloc _).later hb; have k1 : Blk w1 (w.heap.size + 1) _ := Blk.later (by simpa using Blk.new (w.alloc _) _ 26) hb; have q0 := k0.four; have b1 : Below w.heap.size w w1 := (((Below.refl _ _).alloc (Nat.le_refl _) _).alloc (by simp) _).trans (hb.mono (by simp; omega)); have B1 := Lib.hid b1; clear hb b1)
      | (go_at_call 71; refine (known_calls HM.out.1 A n cap l _ (HL.out.later B1.out) hn HM.out.2.2).mono ?_; rintro e w2 ⟨rfl, hb2⟩; rw [HS.out]; have k2 := k1.later hb2; have q2 := k2.two; have f2 := k2.free2; have z2 := k2.lt; have z3 : w.heap.size < w2.heap.size := Nat.lt_of_succ_lt z2; have b2 := B1.out.trans (hb2.mono B1.out.size); have B2 := Lib.hid b2; clear hb2 b2))
    have K := (((k2.put2 (.int .i64 0) (.int .i64 0)).alloc (.cells #[.int .i64 s0, .int .i64 s1] 26)).alloc (.cells #[.int .i64 s2, .int .i64 s3] 102)).two
    refine bodyPost_ret (v := .tuple #[.agg #[.int .i64 0, .int .i64 0], .int .i64 15]) (by simp [results, Try.results39, go_sem, K.1, K.2]) rfl ⟨rfl, ?_⟩
    have hz := B2.out.size
    exact ((below2 B2.out (by omega) _ _).alloc (by simp; omega) _).alloc (by simp; omega) _
  · rw [if_neg hq] at hr
    cases hr
    go_enter Try.func39, Try.ntmps39
    go_wp2_with (first
      | (go_at_call 70; refine (measured_calls c t lo hi off A n cap l _ (HL.out.later (by go_grown))).mono ?_; rintro e w1 ⟨rfl, hb⟩; rw [HX.out]; have k0 : Blk w1 w.heap.size _ := ((Blk.new w _ 28).alloc _).later hb; have k1 : Blk w1 (w.heap.size + 1) _ := Blk.later (by simpa using Blk.new (w.alloc _) _ 26) hb; have q0 := k0.four; have b1 : Below w.heap.size w w1 := (((Below.refl _ _).alloc (Nat.le_refl _) _).alloc (by simp) _).trans (hb.mono (by simp; omega)); have B1 := Lib.hid b1; clear hb b1)
      | (go_at_call 71; refine (known_calls HM.out.1 A n cap l _ (HL.out.later B1.out) hn HM.out.2.2).mono ?_; rintro e w2 ⟨rfl, hb2⟩; rw [HS.out]; have k2 := k1.later hb2; have q2 := k2.two; have f2 := k2.free2; have z2 := k2.lt; have z3 : w.heap.size < w2.heap.size := Nat.lt_of_succ_lt z2; have b2 := B1.out.trans (hb2.mono B1.out.size); have B2 := Lib.hid b2; clear hb2 b2))
    have K := (((k2.put2 (.int .i64 a) (.int .i64 b)).alloc (.cells #[.int .i64 a, .int .i64 b] 26)).alloc (.cells #[.int .i64 s2, .int .i64 s3] 102)).two
    refine bodyPost_ret (v := .tuple #[.agg #[.int .i64 a, .int .i64 b], .int .i64 0]) (by simp [results, Try.results39, go_sem, K.1, K.2]) rfl ⟨rfl, ?_⟩
    have hz := B2.out.size
    exact ((below2 B2.out (by omega) _ _).alloc (by simp; omega) _).alloc (by simp; omega) _
theorem Growths_calls (c t lo hi off : Int) (A : Option Addr) (n cap : Nat) (l : List (Int × Int)) (w : World) (hl : ReadsM w A n l) :
    Gives 39 #[.agg #[.int .i64 c, .int .i64 t, .int .i64 lo, .int .i64 hi], .int .i64 off, .slice A n cap] (.tuple #[.agg #[.int .i64 (growthsF c t lo hi off l).1, .int .i64 (growthsF c t lo hi off l).2.1], .int .i64 (growthsF c t lo hi off l).2.2]) w := by
  unfold growthsF
  by_cases h : measF c t lo hi off l = 0
  · rw [if_pos h]
    exact growths_ok c t lo hi off _ A n cap l w hl h rfl _ _ _ rfl
  · rw [if_neg h]
    exact growths_err c t lo hi off _ A n cap l w hl rfl h

end Go.Proofs.Ytphbiaagmhhhbaa
