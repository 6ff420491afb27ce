/- The reference: Gains. -/
import Derived.Test.YtjncoableanmpaaQF
import Derived.Test.YtjncoableanmpaaLO
namespace Go.Proofs.Ytjncoableanmpaa
open Go.RowKit Go.Lib Go.Shelf

theorem rless_calls2 {p q : Rat} (h1 : p.num.natAbs ≤ 2000000000) (h2 : (p.den : Int) ≤ 2000000000) (h3 : q.num.natAbs ≤ 2000000000) (h4 : (q.den : Int) ≤ 2000000000) (w : World) : Gives 51 #[rv p, rv q] (.bool (decide (p < q))) w := by
  have hp := p.den_pos
  have hq := q.den_pos
  have m1 := mul_ab (a := p.num) (b := (q.den : Int)) h1 (B := 2000000000) (by omega)
  have m2 := mul_ab (a := q.num) (b := (p.den : Int)) h3 (B := 2000000000) (by omega)
  have := rless_raw (a := p.num) (b := (p.den : Int)) (c := q.num) (d := (q.den : Int)) (by rw [i64_w]; exact w64_in (by omega) (by omega)) (by rw [i64_w]; exact w64_in (by omega) (by omega)) w
  rwa [rat_lt] at this

/-- What lies there. -/
structure RG (w : World) (b off n : Nat) (l : List Cd) (bn bd : Int) (B10 B11 : Nat) (P Q : Rat) (W : World) : Prop where
  low : Below w.heap.size w W
  rd : ReadsC W (some ⟨b, off, none⟩) n l
  bnd : Blk W w.heap.size [.int .i64 bn, .int .i64 bd]
  t4 : Blk W (w.heap.size + 1) [.int .i64 0, .int .i64 0]
  t5 : Blk W (w.heap.size + 1 + 1) [.int .i64 0, .int .i64 0]
  p : Blk W B10 [.int .i64 P.num, .int .i64 (P.den : Int)]
  q : Blk W B11 [.int .i64 Q.num, .int .i64 (Q.den : Int)]
  n : b < w.heap.size ∧ w.heap.size + 1 + 1 < B10 ∧ B10 < B11
section
variable {w : World} {b off n : Nat} {l : List Cd} {bn bd : Int} {B10 B11 : Nat} {P Q : Rat} {W W' : World}
theorem RG.later (h : RG w b off n l bn bd B10 B11 P Q W) (hb : Below W.heap.size W W') : RG w b off n l bn bd B10 B11 P Q W' :=
  ⟨h.low.trans (hb.mono h.low.size), h.rd.later hb, h.bnd.later hb, h.t4.later hb, h.t5.later hb, h.p.later hb, h.q.later hb, h.n⟩
theorem RG.putP (h : RG w b off n l bn bd B10 B11 P Q W) (P' : Rat) : RG w b off n l bn bd B10 B11 P' Q ((W.setCell ⟨B10, 0, none⟩ (.int .i64 P'.num)).setCell ⟨B10, 1, none⟩ (.int .i64 (P'.den : Int))) := by
  have hn := h.n
  exact ⟨below2 h.low (by omega) _ _, h.rd.below (below2 (Below.refl w.heap.size W) (by omega) _ _) hn.1, h.bnd.other2 (by omega) _ _, h.t4.other2 (by omega) _ _, h.t5.other2 (by omega) _ _, h.p.put2 _ _, h.q.other2 (by omega) _ _, hn⟩
theorem RG.putQ (h : RG w b off n l bn bd B10 B11 P Q W) (Q' : Rat) : RG w b off n l bn bd B10 B11 P Q' ((W.setCell ⟨B11, 0, none⟩ (.int .i64 Q'.num)).setCell ⟨B11, 1, none⟩ (.int .i64 (Q'.den : Int))) := by
  have hn := h.n
  exact ⟨below2 h.low (by omega) _ _, h.rd.below (below2 (Below.refl w.heap.size W) (by omega) _ _) hn.1, h.bnd.other2 (by omega) _ _, h.t4.other2 (by omega) _ _, h.t5.other2 (by omega) _ _, h.p.other2 (by omega) _ _, h.q.put2 _ _, hn⟩
theorem RG.l2 (h : RG w b off n l bn bd B10 B11 P Q W) : L2 w (w.heap.size + 1) (w.heap.size + 1 + 1) B10 B11 P Q W := by
  have hn := h.n
  exact ⟨h.low, h.p, h.q, ⟨_, _, h.t4⟩, ⟨_, _, h.t5⟩, by omega⟩
end
/-- What is kept of the pairs so far: f is true while there are none. -/
def KG (s : Option (Rat × Rat)) (f : Bool) (P Q : Rat) : Prop :=
  s = (if f = true then none else some (P, Q)) ∧ (f = false → (P.num.natAbs ≤ 2000000000 ∧ (P.den : Int) ≤ 2000000000) ∧ (Q.num.natAbs ≤ 2000000000 ∧ (Q.den : Int) ≤ 2000000000))
theorem KG.step {s : Option (Rat × Rat)} {f : Bool} {P Q lo hi : Rat} (h : KG s f P Q)
    (hb : (lo.num.natAbs ≤ 2000000000 ∧ (lo.den : Int) ≤ 2000000000) ∧ (hi.num.natAbs ≤ 2000000000 ∧ (hi.den : Int) ≤ 2000000000)) :
    KG (gstp lo hi s) false (if (f || decide (P < lo)) = true then lo else P) (if (f || decide (hi < Q)) = true then hi else Q) := by
  obtain ⟨rfl, h2⟩ := h
  cases f with
  | true =>
    simp only [Bool.true_or, if_true]
    exact ⟨rfl, fun _ => hb⟩
  | false =>
    simp only [Bool.false_or, decide_eq_true_eq]
    refine ⟨rfl, fun _ => ⟨?_, ?_⟩⟩
    · split
      · exact hb.1
      · exact (h2 rfl).1
    · split
      · exact hb.2
      · exact (h2 rfl).2
theorem KG.done {bn bd : Int} {l : List Cd} {n : Nat} {f : Bool} {P Q : Rat} (h : KG (gFold bn bd l (prs n)) f P Q) (hn : 2 ≤ n) (hl : l.length = n) : gF bn bd l = (P, Q) := by
  subst hl
  have hm : ((0, 1) : Pair) ∈ prs l.length := prs_mem.2 ⟨by decide, by dsimp only; omega⟩
  unfold gF
  cases f with
  | true =>
    have h1 := h.1
    rw [if_pos rfl] at h1
    rcases gFold_spec bn bd l (prs l.length) with ⟨h2, _⟩ | ⟨p, q, h2, _⟩
    · rw [h2] at hm
      cases hm
    · rw [h2] at h1
      cases h1
  | false =>
    rw [h.1, if_neg (by decide)]
    rfl

set_option maxRecDepth 100000 in
set_option maxHeartbeats 8000000 in
theorem rGains_calls (A : Option Addr) (n c : Nat) (l : List Cd) (bn bd : Int) (w : World) (hl : ReadsC w A n l) (hcap : n ≤ c) :
    Gives 18 #[.slice A n c, .agg #[.int .i64 bn, .int .i64 bd]] (gainsV l bn bd) w := by
  unfold Gives gainsV
  dsimp only
  rw [hl.1]
  have I : Held (((w.alloc (.cells [Value.int .i64 bn, .int .i64 bd].toArray 24)).alloc (.cells [Value.int .i64 0, .int .i64 0].toArray 24)).alloc (.cells [Value.int .i64 0, .int .i64 0].toArray 24)) (fun W => (((Below w.heap.size w W ∧ ReadsC W A n l) ∧ Blk W w.heap.size [Value.int .i64 bn, .int .i64 bd]) ∧ Blk W (w.heap.size + 1) [Value.int .i64 0, .int .i64 0]) ∧ Blk W (w.heap.size + 1 + 1) [Value.int .i64 0, .int .i64 0]) := fun W hW => by
    have h1 : Below w.heap.size w W := ((((Below.refl _ _).alloc (Nat.le_refl _) _).alloc (by simp) _).alloc (by simp; omega) _).trans (hW.mono (by simp; omega))
    exact ⟨⟨⟨⟨h1, hl.later h1⟩, (((Blk.new w _ 24).alloc _).alloc _).later hW⟩, Blk.later (Blk.alloc (by simpa using Blk.new (w.alloc _) [Value.int .i64 0, .int .i64 0] 24) _) hW⟩, Blk.later (by simpa using Blk.new ((w.alloc _).alloc _) [Value.int .i64 0, .int .i64 0] 24) hW⟩
  have C1 : ∀ W, ReadsC W A n l → Gives 16 #[.slice A n c] (.int .i64 (chk l)) W := fun W h => rcheck_calls A n c l W h hcap
  by_cases hk : chk l = 0
  · rw [if_neg (fun h => h hk)]
    rw [hk] at C1
    have HC1 := Lib.hid C1
    have hg := chk_good hk
    have hlen := hl.1
    obtain ⟨b, off, rfl, _⟩ := hl.2.2 (by have := hg.pos; omega)
    have C49 : ∀ W, Gives 49 #[.agg #[.int .i64 bn, .int .i64 bd]] (.bool (bndB bn bd)) W := rbounded_calls bn bd
    cases hbb : bndB bn bd with
    | false =>
      rw [if_pos rfl]
      rw [hbb] at C49
      have HC49 := Lib.hid C49
      clear hl hk hg C1 C49 hbb hcap
      go_enter Try.func18, Try.ntmps18
      go_wp2_with fail
      generalize World.alloc _ _ = w1 at I ⊢
      go_wp2_with (first
        | (go_at_call 16; (with_reducible refine (Gives.c (HC1.out _ I.now.1.1.1.2)).mono ?_); rintro e w2 ⟨rfl, hb⟩; replace I := I.next hb; clear hb; have q3 := I.now.1.1.2.two)
        | (go_at_call 49; (with_reducible refine (Gives.c (HC49.out _)).mono ?_); rintro e w3 ⟨rfl, hb⟩; replace I := I.next hb; clear hb q3; have q4 := I.now.1.2.two; have f4 := I.now.1.2.free2; have q5 := I.now.2.two; have f5 := I.now.2.free2; have z4 := I.now.1.2.lt; have z5 := I.now.2.lt))
      have k4 := ((I.now.1.2.put2 (.int .i64 0) (.int .i64 0)).other2 (B' := w.heap.size + 1 + 1) (by omega) (.int .i64 0) (.int .i64 0)).two
      have k5 := ((I.now.2.other2 (B' := w.heap.size + 1) (by omega) (.int .i64 0) (.int .i64 0)).put2 (.int .i64 0) (.int .i64 0)).two
      have kb := below2 (below2 I.now.1.1.1.1 (show w.heap.size ≤ w.heap.size + 1 by omega) (.int .i64 0) (.int .i64 0)) (show w.heap.size ≤ w.heap.size + 1 + 1 by omega) (.int .i64 0) (.int .i64 0)
      generalize World.setCell _ _ _ = wf at k4 k5 kb ⊢
      refine bodyPost_ret (v := .tuple #[.agg #[.int .i64 0, .int .i64 0], .agg #[.int .i64 0, .int .i64 0], .int .i64 3]) (by simp [results, Try.results18, go_sem, k4, k5]) rfl ⟨rfl, kb⟩
    | true =>
      rw [if_neg (by decide)]
      rw [hbb] at C49
      have HC49 := Lib.hid C49
      by_cases hn1 : n = 1
      · rw [if_pos hn1]
        have en : ((n : Int) == 1) = true := beq_iff_eq.2 (by omega)
        clear hl hk hg C1 C49 hbb hn1 hcap
        go_enter Try.func18, Try.ntmps18
        go_wp2_with fail
        generalize World.alloc _ _ = w1 at I ⊢
        go_wp2_with (first
          | (go_at_call 16; (with_reducible refine (Gives.c (HC1.out _ I.now.1.1.1.2)).mono ?_); rintro e w2 ⟨rfl, hb⟩; replace I := I.next hb; clear hb; have q3 := I.now.1.1.2.two)
          | (go_at_call 49; (with_reducible refine (Gives.c (HC49.out _)).mono ?_); rintro e w3 ⟨rfl, hb⟩; replace I := I.next hb; clear hb q3; have q4 := I.now.1.2.two; have f4 := I.now.1.2.free2; have q5 := I.now.2.two; have f5 := I.now.2.free2; have z4 := I.now.1.2.lt; have z5 := I.now.2.lt))
        have k4 := ((I.now.1.2.put2 (.int .i64 0) (.int .i64 0)).other2 (B' := w.heap.size + 1 + 1) (by omega) (.int .i64 0) (.int .i64 0)).two
        have k5 := ((I.now.2.other2 (B' := w.heap.size + 1) (by omega) (.int .i64 0) (.int .i64 0)).put2 (.int .i64 0) (.int .i64 0)).two
        have kb := below2 (below2 I.now.1.1.1.1 (show w.heap.size ≤ w.heap.size + 1 by omega) (.int .i64 0) (.int .i64 0)) (show w.heap.size ≤ w.heap.size + 1 + 1 by omega) (.int .i64 0) (.int .i64 0)
        generalize World.setCell _ _ _ = wf at k4 k5 kb ⊢
        refine bodyPost_ret (v := .tuple #[.agg #[.int .i64 0, .int .i64 0], .agg #[.int .i64 0, .int .i64 0], .int .i64 13]) (by simp [results, Try.results18, go_sem, k4, k5]) rfl ⟨rfl, kb⟩
      · rw [if_neg hn1]
        have en : ((n : Int) == 1) = false := beq_eq_false_iff_ne.2 (by omega)
        have en' : ¬ (n : Int) = 1 := by omega
        have hbd : (0 ≤ bn ∧ bn ≤ 1000000) ∧ 1 ≤ bd ∧ bd ≤ 100000 := by
          unfold bndB btw at hbb
          simpa using hbb
        have h2n : 2 ≤ n := by have := hg.pos; omega
        have hn24 : n ≤ 24 := by have := hg.few; omega
        have hbk : BndOk bn bd := ⟨by omega, by omega, by omega, by omega⟩
        have hlo := lineOk_best hg
        have hbw : b < w.heap.size := World.block_lt_of_cell? w _ (hl.at (show 0 < n by omega)).1
        have C50 : ∀ W, ReadsC W (some ⟨b, off, none⟩) n l → Calls Try.prog 50 #[.slice (some ⟨b, off, none⟩) n c] W fun e w' => ∃ v, e = .returned (.tuple #[rv (bestC l).off, v]) ∧ Below W.heap.size W w' := fun W h => rbest_calls W h hg
        have m1 := mul_ab (a := bn) (b := ((bestC l).off.den : Int)) (A := 1000000) (B := 40000) (by omega) (by have := hlo.ib; omega)
        have m2 := mul_ab (a := (bestC l).off.num) (b := bd) (A := 400000000) (B := 100000) hlo.ib.1 (by omega)
        have C51 : ∀ W, Gives 51 #[.agg #[.int .i64 bn, .int .i64 bd], .agg #[.int .i64 (bestC l).off.num, .int .i64 ((bestC l).off.den : Int)]] (.bool (decide (fr bn bd < (bestC l).off))) W := fun W => by
          have h := rless_raw (a := bn) (b := bd) (c := (bestC l).off.num) (d := ((bestC l).off.den : Int)) (i64_in (by omega) (by omega)) (i64_in (by omega) (by omega)) W
          rwa [decide_eq_decide.2 (fr_lt (n := bn) (d := bd) (by omega) (bestC l).off).symm] at h
        generalize (bestC l).off = x at C50 C51 m1 m2 ⊢
        obtain ⟨V, hVV⟩ : ∃ V : Value, (if fr bn bd < x then (.tuple #[.agg #[.int .i64 0, .int .i64 0], .agg #[.int .i64 0, .int .i64 0], .int .i64 11] : Value) else .tuple #[rv (gF bn bd l).1, rv (gF bn bd l).2, .int .i64 0]) = V := ⟨_, rfl⟩
        rw [hVV]
        have HVV := Lib.hid hVV
        obtain ⟨dd, hdd⟩ : ∃ dd, decide (fr bn bd < x) = dd := ⟨_, rfl⟩
        rw [hdd] at C51
        unfold rv at C50
        have HC50 := Lib.hid C50
        have HC51 := Lib.hid C51
        have HG := Lib.hid hg
        have HBK := Lib.hid hbk
        have HLEN := Lib.hid hlen
        have HDD := Lib.hid hdd
        have hbd0 : 0 ≤ bn := hbd.1.1
        have hbd1 : bn ≤ 1000000 := hbd.1.2
        have hbd2 : 1 ≤ bd := hbd.2.1
        have hbd3 : bd ≤ 100000 := hbd.2.2
        have wb2 : IntKind.i64.wrap (2 * bn) = 2 * bn := i64_in (by omega) (by omega)
        clear hl hk hg C1 C49 hbb hlo C50 m1 m2 C51 hbd hVV hcap hbk hlen hdd
        go_enter Try.func18, Try.ntmps18
        go_wp2_with fail
        generalize World.alloc _ _ = w1 at I ⊢
        go_upto_region 9 with (first
          | (go_at_call 16; (with_reducible refine (Gives.c (HC1.out _ I.now.1.1.1.2)).mono ?_); rintro e w2 ⟨rfl, hb⟩; replace I := I.next hb; clear hb; have q3 := I.now.1.1.2.two)
          | (go_at_call 49; (with_reducible refine (Gives.c (HC49.out _)).mono ?_); rintro e w3 ⟨rfl, hb⟩; replace I := I.next hb; clear hb q3)
          | (go_at_call 50; (with_reducible refine (HC50.out _ I.now.1.1.1.2).mono ?_); rintro e w4 ⟨v, rfl, hb⟩; replace I := I.next hb; clear hb))
        have J := I.allocB [.int .i64 x.num, .int .i64 (x.den : Int)] 24
        change Held (w4.alloc (.cells #[.int .i64 x.num, .int .i64 (x.den : Int)] 24)) _ at J
        have zB8 := I.now.2.lt
        clear I
        generalize hB8 : w4.heap.size = B8 at J zB8 ⊢
        generalize World.alloc _ _ = w5 at J ⊢
        clear hB8
        have q3 := J.now.1.1.1.2.two
        have q8 := J.now.2.two
        cases dd with
        | true =>
          have hV1 := (HVV.out).symm.trans (if_pos (of_decide_eq_true HDD.out))
          have HV1 := Lib.hid hV1
          clear hV1 HVV
          go_wp2_with (go_at_call 51; (with_reducible refine (Gives.c (HC51.out _)).mono ?_); rintro e w6 ⟨rfl, hb⟩; replace J := J.next hb; clear hb q3 q8; have q4 := J.now.1.1.2.two; have f4 := J.now.1.1.2.free2; have q5 := J.now.1.2.two; have f5 := J.now.1.2.free2; have z4 := J.now.1.1.2.lt; have z5 := J.now.1.2.lt)
          have I : Held w6 _ := fun W hW => (J W hW).1
          have k4 := ((I.now.1.2.put2 (.int .i64 0) (.int .i64 0)).other2 (B' := w.heap.size + 1 + 1) (by omega) (.int .i64 0) (.int .i64 0)).two
          have k5 := ((I.now.2.other2 (B' := w.heap.size + 1) (by omega) (.int .i64 0) (.int .i64 0)).put2 (.int .i64 0) (.int .i64 0)).two
          have kb := below2 (below2 I.now.1.1.1.1 (show w.heap.size ≤ w.heap.size + 1 by omega) (.int .i64 0) (.int .i64 0)) (show w.heap.size ≤ w.heap.size + 1 + 1 by omega) (.int .i64 0) (.int .i64 0)
          generalize World.setCell _ _ _ = wf at k4 k5 kb ⊢
          refine bodyPost_ret (v := .tuple #[.agg #[.int .i64 0, .int .i64 0], .agg #[.int .i64 0, .int .i64 0], .int .i64 11]) (by simp [results, Try.results18, go_sem, k4, k5]) rfl ⟨by rw [HV1.out], kb⟩
        | false =>
          have hV1 := (HVV.out).symm.trans (if_neg (of_decide_eq_false HDD.out))
          have HV1 := Lib.hid hV1
          clear hV1 HVV
          go_upto_region 11 with (go_at_call 51; (with_reducible refine (Gives.c (HC51.out _)).mono ?_); rintro e w6 ⟨rfl, hb⟩; replace J := J.next hb; clear hb q3 q8)
          go_upto_region 12 with fail
          have R0 : RG w b off n l bn bd w6.heap.size (w6.heap.size + 1) (-4503599627370496 : Int) (4503599627370496 : Int) ((w6.alloc (.cells #[.int .i64 (-4503599627370496), .int .i64 1] 24)).alloc (.cells #[.int .i64 4503599627370496, .int .i64 1] 24)) := by
            have hz := J.now.1.2.lt
            have hb : Below w6.heap.size w6 ((w6.alloc (.cells #[.int .i64 (-4503599627370496), .int .i64 1] 24)).alloc (.cells #[.int .i64 4503599627370496, .int .i64 1] 24)) := ((Below.refl _ _).alloc (Nat.le_refl _) _).alloc (by simp) _
            have K := (J.next hb).now
            refine ⟨K.1.1.1.1.1, K.1.1.1.1.2, K.1.1.1.2, K.1.1.2, K.1.2, ?_, ?_, by omega⟩
            · exact (Blk.new w6 [.int .i64 (-4503599627370496), .int .i64 1] 24).alloc _
            · simpa using Blk.new (w6.alloc _) [.int .i64 4503599627370496, .int .i64 1] 24
          clear J
          generalize hB10 : w6.heap.size = B10 at R0 ⊢
          generalize World.alloc _ _ = w7 at R0 ⊢
          clear hB10
          have HR0 := Lib.hid R0
          clear R0
          go_wp2_with fail
          go_loopw [12, 13] (fun s12 s13 wr => ∃ (i : Nat) (f : Bool) (P Q : Rat), i ≤ n ∧ s12 = .bool f ∧ s13 = .int .i64 i ∧ Aside (KG (gFold bn bd l (prP n i)) f P Q) ∧ Aside (RG w b off n l bn bd B10 (B10 + 1) P Q wr)) (fun _ s13 _ => n - (intOf s13).toNat)
          case atStart => exact ⟨0, true, _, _, Nat.zero_le _, rfl, rfl, ⟨rfl, fun h => by cases h⟩, HR0.out⟩
          case round =>
            obtain ⟨i, f, P, Q, hi, rfl, rfl, HK, HR⟩ := hrel
            clear HR0
            by_cases hlt : n ≤ i
            · obtain rfl : i = n := by omega
              have hgf := HK.out.done h2n HLEN.out
              have hv2 := HV1.out
              rw [hgf] at hv2
              have HV2 := Lib.hid hv2
              have HL0 := Lib.hid HR.out.l2
              have q4 := HR.out.t4.two
              have f4 := HR.out.t4.free2
              have z4 := HR.out.t4.lt
              have q5 := HR.out.t5.two
              have f5 := HR.out.t5.free2
              have z5 := HR.out.t5.lt
              clear HK HR hgf hv2 HV1
              go_upto_region 27 with fail
              go_region_held3 (fun W => Below w.heap.size w W ∧ (W.cell? ⟨B10, 0, none⟩ = some (.int .i64 P.num) ∧ W.cell? ⟨B10, 1, none⟩ = some (.int .i64 (P.den : Int))) ∧ (W.cell? ⟨B10 + 1, 0, none⟩ = some (.int .i64 Q.num) ∧ W.cell? ⟨B10 + 1, 1, none⟩ = some (.int .i64 (Q.den : Int))) ∧
            (W.cell? ⟨w.heap.size + 1, 0, none⟩ = some (valAt W ⟨w.heap.size + 1, 0, none⟩) ∧ W.cell? ⟨w.heap.size + 1, 1, none⟩ = some (valAt W ⟨w.heap.size + 1, 1, none⟩) ∧ W.frozen? ⟨w.heap.size + 1, 0, none⟩ = false ∧ W.frozen? ⟨w.heap.size + 1, 1, none⟩ = false) ∧
            (W.cell? ⟨w.heap.size + 1 + 1, 0, none⟩ = some (valAt W ⟨w.heap.size + 1 + 1, 0, none⟩) ∧ W.cell? ⟨w.heap.size + 1 + 1, 1, none⟩ = some (valAt W ⟨w.heap.size + 1 + 1, 1, none⟩) ∧ W.frozen? ⟨w.heap.size + 1 + 1, 0, none⟩ = false ∧ W.frozen? ⟨w.heap.size + 1 + 1, 1, none⟩ = false))
                (first
                  | with_reducible exact (HL0.out.later (Below.refl _ _).drew).cells
                  | with_reducible exact ((HL0.out.put1 _ _).later (Below.refl _ _).drew).cells
                  | with_reducible exact (((HL0.out.put1 _ _).put2 _ _).later (Below.refl _ _).drew).cells
                  | fail)
                (fail)
              all_goals
                have k := HL0.out.done (.int .i64 P.num) (.int .i64 (P.den : Int)) (.int .i64 Q.num) (.int .i64 (Q.den : Int))
                dsimp only at k
                generalize World.setCell _ _ _ = wz at k ⊢
                obtain ⟨k4, k5, kb⟩ := k
                go_wp2
                refine bodyPost_ret (v := .tuple #[rv P, rv Q, .int .i64 0]) (by simp [results, Try.results18, go_sem, k4, k5, rv]) rfl ⟨by rw [HV2.out], kb.drew⟩
            · replace hlt : i < n := by omega
              have hlt' : (i : Int) < (n : Int) := by omega
              have hw1 : IntKind.i64.wrap ((i : Int) + 1) = (i : Int) + 1 := i64_in (by omega) (by omega)
              have HK1 := Lib.hid (show KG (gFold bn bd l (prP n i ++ prR i (i + 1))) f P Q by
                have h := HK.out
                unfold prR
                rw [if_neg (by omega), List.append_nil]
                exact h)
              have HR1 := Lib.hid HR.out
              clear HK HR
              obtain ⟨w9, hw9⟩ : ∃ x, x = wr := ⟨_, rfl⟩
              subst hw9
              go_wp2_with fail
              go_loopw [12, 14] (fun s12 s14 wr => ∃ (j : Nat) (f : Bool) (P Q : Rat), (i < j ∧ j ≤ n) ∧ s12 = .bool f ∧ s14 = .int .i64 j ∧ Aside (KG (gFold bn bd l (prP n i ++ prR i j)) f P Q) ∧ Aside (RG w b off n l bn bd B10 (B10 + 1) P Q wr)) (fun _ s14 _ => n - (intOf s14).toNat)
              case atStart => exact ⟨i + 1, f, P, Q, ⟨by omega, by omega⟩, rfl, by go_num, HK1.out, HR1.out⟩
              case round =>
                obtain ⟨j, f, P, Q, hj, rfl, rfl, HK, HR⟩ := hrel
                clear HK1 HR1
                by_cases hjn : n ≤ j
                · obtain rfl : j = n := by omega
                  have HKX := Lib.hid (show KG (gFold bn bd l (prP j (i + 1))) f P Q from HK.out)
                  have HRX := Lib.hid HR.out
                  clear HK HR
                  go_wp2_with fail
                  go_roundw
                  case rel => exact ⟨i + 1, f, P, Q, by omega, rfl, by go_num, HKX.out, HRX.out⟩
                  case measure => simp [intOf]; omega
                · replace hjn : j < n := by omega
                  have hjn' : (j : Int) < (n : Int) := by omega
                  have hw2 : IntKind.i64.wrap ((j : Int) + 1) = (j : Int) + 1 := i64_in (by omega) (by omega)
                  have hij := hj.1
                  have HIJ := Lib.hid hij
                  have htI := HG.out.tame i (by have := HLEN.out; omega)
                  have htJ := HG.out.tame j (by have := HLEN.out; omega)
                  have hinc := HG.out.inc i j hij (by have := HLEN.out; omega)
                  have hbdd := gain_bd HBK.out htI htJ hinc
                  have hkg := HK.out.step hbdd
                  have hpr : gFold bn bd l (prP n i ++ prR i (j + 1)) = gstp (loG bn bd (cAt l i) (cAt l j)) (hiG bn bd (cAt l i) (cAt l j)) (gFold bn bd l (prP n i ++ prR i j)) := by
                    conv => lhs; unfold prR
                    rw [if_pos hij, ← List.append_assoc, gFold_snoc]
                    rfl
                  rw [← hpr] at hkg
                  have hfb := HK.out.2
                  have HFB := Lib.hid hfb
                  have e16 : loG bn bd (cAt l i) (cAt l j) = fr (((cAt l j).2.2 - (cAt l i).2.1) * bd - 2 * bn) (((cAt l j).1 - (cAt l i).1) * bd) := rfl
                  have e17 : hiG bn bd (cAt l i) (cAt l j) = fr (((cAt l j).2.1 - (cAt l i).2.2) * bd + 2 * bn) (((cAt l j).1 - (cAt l i).1) * bd) := rfl
                  generalize loG bn bd (cAt l i) (cAt l j) = x16 at e16 hkg hbdd
                  generalize hiG bn bd (cAt l i) (cAt l j) = x17 at e17 hkg hbdd
                  have HKG := Lib.hid hkg
                  have HBDD := Lib.hid hbdd
                  have hS : ∀ P Q W, RG w b off n l bn bd B10 (B10 + 1) P Q W → (W.cell? ⟨w.heap.size, 0, none⟩ = some (.int .i64 bn) ∧ W.cell? ⟨w.heap.size, 1, none⟩ = some (.int .i64 bd)) ∧ (W.cell? ⟨b, off + i * 3, none⟩ = some (.int .i64 (cAt l i).1) ∧ W.cell? ⟨b, off + i * 3 + 1, none⟩ = some (.int .i64 (cAt l i).2.1) ∧ W.cell? ⟨b, off + i * 3 + 2, none⟩ = some (.int .i64 (cAt l i).2.2)) ∧ (W.cell? ⟨b, off + j * 3, none⟩ = some (.int .i64 (cAt l j).1) ∧ W.cell? ⟨b, off + j * 3 + 1, none⟩ = some (.int .i64 (cAt l j).2.1) ∧ W.cell? ⟨b, off + j * 3 + 2, none⟩ = some (.int .i64 (cAt l j).2.2)) := fun P Q W h => ⟨h.bnd.two, h.rd.at hlt, h.rd.at hjn⟩
                  generalize cAt l i = a at e16 e17 hS htI hinc
                  generalize cAt l j = d at e16 e17 hS htJ hinc
                  obtain ⟨s1, l1, h1⟩ := a
                  obtain ⟨s2, l2, h2⟩ := d
                  have a1 := htI.l0
                  have a2 := htI.l1
                  have a3 := htI.h1
                  have a4 := htI.s0
                  have b1 := htJ.l0
                  have b2 := htJ.l1
                  have b3 := htJ.h1
                  have b4 := htJ.s1
                  dsimp only at e16 e17 hS a1 a2 a3 a4 b1 b2 b3 b4 hinc
                  have m3 := mul_in (a := s2 - s1) (A := 20000) (b := bd) (B := 100000) (by omega) (by omega) (by omega) (by omega)
                  have m4 := Int.mul_pos (show 0 < s2 - s1 by omega) (show 0 < bd by omega)
                  have m5 := mul_in (a := h2 - l1) (A := 10000) (b := bd) (B := 100000) (by omega) (by omega) (by omega) (by omega)
                  have m6 := mul_in (a := l2 - h1) (A := 10000) (b := bd) (B := 100000) (by omega) (by omega) (by omega) (by omega)
                  have v1 : IntKind.i64.wrap (s2 - s1) = s2 - s1 := i64_in (by omega) (by omega)
                  have v2 : ∃ r, IntKind.i64.wrap ((s2 - s1) * bd) = r ∧ (s2 - s1) * bd = r := ⟨_, i64_in (by omega) (by omega), rfl⟩
                  obtain ⟨r, v2, hr⟩ := v2
                  have v3 : IntKind.i64.wrap (h2 - l1) = h2 - l1 := i64_in (by omega) (by omega)
                  have v4 : IntKind.i64.wrap ((h2 - l1) * bd) = (h2 - l1) * bd := i64_in (by omega) (by omega)
                  have v5 : IntKind.i64.wrap ((h2 - l1) * bd - 2 * bn) = (h2 - l1) * bd - 2 * bn := i64_in (by omega) (by omega)
                  have v6 : IntKind.i64.wrap (l2 - h1) = l2 - h1 := i64_in (by omega) (by omega)
                  have v7 : IntKind.i64.wrap ((l2 - h1) * bd) = (l2 - h1) * bd := i64_in (by omega) (by omega)
                  have v8 : IntKind.i64.wrap ((l2 - h1) * bd + 2 * bn) = (l2 - h1) * bd + 2 * bn := i64_in (by omega) (by omega)
                  rw [hr] at e16 e17 m3 m4
                  have h16 : ∀ W, Gives 41 #[.int .i64 ((h2 - l1) * bd - 2 * bn), .int .i64 r] (rv x16) W := fun W => by rw [e16]; exact rleast_calls (by omega) (by omega) (by omega) W
                  have h17 : ∀ W, Gives 41 #[.int .i64 ((l2 - h1) * bd + 2 * bn), .int .i64 r] (rv x17) W := fun W => by rw [e17]; exact rleast_calls (by omega) (by omega) (by omega) W
                  unfold rv at h16 h17
                  have H16 := Lib.hid h16
                  have H17 := Lib.hid h17
                  have HS := Lib.hid hS
                  have q3 := HR.out.bnd.two
                  have qi := (hS _ _ wr HR.out).2.1
                  have qj := (hS _ _ wr HR.out).2.2
                  clear e16 e17 h16 h17 hpr hkg hbdd hS m3 m4 m5 m6 hr htI htJ hinc a1 a2 a3 a4 b1 b2 b3 b4 hij hfb HK
                  go_upto_region 19 with fail
                  go_quiet (fail)
                  have HRq := Lib.hid (HR.out.later (below_drewN' (Below.refl wr.heap.size wr) nq))
                  generalize World.drewN _ _ = wo at HRq ⊢
                  clear q3 qi qj HR
                  have hS2 : ∀ W, Below wo.heap.size wo W → Below wo.heap.size wo W ∧ (W.cell? ⟨w.heap.size, 0, none⟩ = some (.int .i64 bn) ∧ W.cell? ⟨w.heap.size, 1, none⟩ = some (.int .i64 bd)) ∧ (W.cell? ⟨b, off + i * 3 + 1, none⟩ = some (.int .i64 l1) ∧ W.cell? ⟨b, off + i * 3 + 2, none⟩ = some (.int .i64 h1)) ∧ (W.cell? ⟨b, off + j * 3 + 1, none⟩ = some (.int .i64 l2) ∧ W.cell? ⟨b, off + j * 3 + 2, none⟩ = some (.int .i64 h2)) := fun W hW => by
                    have h := HS.out _ _ W (HRq.out.later hW)
                    exact ⟨hW, h.1, h.2.1.2, h.2.2.2⟩
                  have HS2 := Lib.hid hS2
                  clear hS2
                  go_upto_region 20 with fail
                  go_cut [16] (fun s16 wx => ∃ B16, s16 = .pointer (some ⟨B16, 0, none⟩) ∧ B10 + 1 < B16 ∧ Aside (Blk wx B16 [.int .i64 x16.num, .int .i64 (x16.den : Int)]) ∧ Aside (RG w b off n l bn bd B10 (B10 + 1) P Q wx))
                  case first =>
                    go_region_held3 (fun W => Below wo.heap.size wo W ∧ (W.cell? ⟨w.heap.size, 0, none⟩ = some (.int .i64 bn) ∧ W.cell? ⟨w.heap.size, 1, none⟩ = some (.int .i64 bd)) ∧ (W.cell? ⟨b, off + i * 3 + 1, none⟩ = some (.int .i64 l1) ∧ W.cell? ⟨b, off + i * 3 + 2, none⟩ = some (.int .i64 h1)) ∧ (W.cell? ⟨b, off + j * 3 + 1, none⟩ = some (.int .i64 l2) ∧ W.cell? ⟨b, off + j * 3 + 2, none⟩ = some (.int .i64 h2)))
                      (first
                        | with_reducible exact HS2.out _ (Below.refl _ _).drew
                        | with_reducible exact HS2.out _ (afterA _ _)
                        | with_reducible exact HS2.out _ HBA.out
                        | with_reducible exact HS2.out _ (below2 HBA.out (Nat.le_refl _) _ _)
                        | with_reducible exact HS2.out _ (HBA.out.alloc HBA.out.size _)
                        | fail)
                      (first
                        | (go_at_call 41; (with_reducible refine (Gives.c (H16.out (World.drew (World.alloc wo _)))).mono ?_); rintro e wa ⟨rfl, hb⟩; have kx := Blk.later (Blk.drew (Blk.new wo [.int .i64 0, .int .i64 0] 24)) hb; have q9 := kx.two; have f9 := kx.free2; have HKX := Lib.hid kx; have HBA := Lib.hid ((afterA wo _).trans (hb.mono (afterA wo _).size)); clear kx)
                        | (go_at_call 41; (with_reducible refine (Gives.c (H16.out _)).mono ?_); rintro e wa ⟨rfl, hb⟩; have HBA := Lib.hid ((Below.refl wo.heap.size wo).drew.trans hb))
                        | fail)
                    all_goals (first
                      | (have h1 := HKX.out.put2 (.int .i64 x16.num) (.int .i64 (x16.den : Int))
                         have hbx := (below2 HBA.out (Nat.le_refl _) (.int .i64 x16.num) (.int .i64 (x16.den : Int)))
                         have R2 := HRq.out.later hbx
                         go_wp2_with fail
                         go_meet
                         exact ⟨_, rfl, (by have := HRq.out.q.lt; omega), h1, R2⟩)
                      | (have h1 := Blk.new wa [.int .i64 x16.num, .int .i64 (x16.den : Int)] 24
                         have hbx := (HBA.out.alloc HBA.out.size (.cells [.int .i64 x16.num, .int .i64 (x16.den : Int)].toArray 24))
                         have R2 := HRq.out.later hbx
                         go_wp2_with fail
                         go_meet
                         exact ⟨_, rfl, (by have := HRq.out.q.lt; have := HBA.out.size; omega), h1, R2⟩))
                  case rest =>
                    obtain ⟨B16, rfl, hl16, HB16, HRn⟩ := hcut
                    clear HS2 HRq
                    obtain ⟨wo, hwo⟩ : ∃ x, x = wc := ⟨_, rfl⟩
                    subst hwo
                    have HRq := Lib.hid HRn.out
                    clear HRn
                    have hS2 : ∀ W, Below wo.heap.size wo W → Below wo.heap.size wo W ∧ (W.cell? ⟨w.heap.size, 0, none⟩ = some (.int .i64 bn) ∧ W.cell? ⟨w.heap.size, 1, none⟩ = some (.int .i64 bd)) ∧ (W.cell? ⟨b, off + i * 3 + 1, none⟩ = some (.int .i64 l1) ∧ W.cell? ⟨b, off + i * 3 + 2, none⟩ = some (.int .i64 h1)) ∧ (W.cell? ⟨b, off + j * 3 + 1, none⟩ = some (.int .i64 l2) ∧ W.cell? ⟨b, off + j * 3 + 2, none⟩ = some (.int .i64 h2)) := fun W hW => by
                      have h := HS.out _ _ W (HRq.out.later hW)
                      exact ⟨hW, h.1, h.2.1.2, h.2.2.2⟩
                    have HS2 := Lib.hid hS2
                    clear hS2
                    go_upto_region 21 with fail
                    go_cut [17] (fun s17 wx => ∃ B17, s17 = .pointer (some ⟨B17, 0, none⟩) ∧ B10 + 1 < B17 ∧ Aside (Blk wx B17 [.int .i64 x17.num, .int .i64 (x17.den : Int)]) ∧ Aside (Blk wx B16 [.int .i64 x16.num, .int .i64 (x16.den : Int)]) ∧ Aside (RG w b off n l bn bd B10 (B10 + 1) P Q wx))
                    case first =>
                      go_region_held3 (fun W => Below wo.heap.size wo W ∧ (W.cell? ⟨w.heap.size, 0, none⟩ = some (.int .i64 bn) ∧ W.cell? ⟨w.heap.size, 1, none⟩ = some (.int .i64 bd)) ∧ (W.cell? ⟨b, off + i * 3 + 1, none⟩ = some (.int .i64 l1) ∧ W.cell? ⟨b, off + i * 3 + 2, none⟩ = some (.int .i64 h1)) ∧ (W.cell? ⟨b, off + j * 3 + 1, none⟩ = some (.int .i64 l2) ∧ W.cell? ⟨b, off + j * 3 + 2, none⟩ = some (.int .i64 h2)))
                        (first
                          | with_reducible exact HS2.out _ (Below.refl _ _).drew
                          | with_reducible exact HS2.out _ (afterA _ _)
                          | with_reducible exact HS2.out _ HBA.out
                          | with_reducible exact HS2.out _ (below2 HBA.out (Nat.le_refl _) _ _)
                          | with_reducible exact HS2.out _ (HBA.out.alloc HBA.out.size _)
                          | fail)
                        (first
                          | (go_at_call 41; (with_reducible refine (Gives.c (H17.out (World.drew (World.alloc wo _)))).mono ?_); rintro e wa ⟨rfl, hb⟩; have kx := Blk.later (Blk.drew (Blk.new wo [.int .i64 0, .int .i64 0] 24)) hb; have q9 := kx.two; have f9 := kx.free2; have HKX := Lib.hid kx; have HBA := Lib.hid ((afterA wo _).trans (hb.mono (afterA wo _).size)); clear kx)
                          | (go_at_call 41; (with_reducible refine (Gives.c (H17.out _)).mono ?_); rintro e wa ⟨rfl, hb⟩; have HBA := Lib.hid ((Below.refl wo.heap.size wo).drew.trans hb))
                          | fail)
                      all_goals (first
                        | (have h1 := HKX.out.put2 (.int .i64 x17.num) (.int .i64 (x17.den : Int))
                           have hbx := (below2 HBA.out (Nat.le_refl _) (.int .i64 x17.num) (.int .i64 (x17.den : Int)))
                           have R2 := HRq.out.later hbx
                           go_wp2_with fail
                           go_meet
                           exact ⟨_, rfl, (by have := HRq.out.q.lt; omega), h1, HB16.out.later hbx, R2⟩)
                        | (have h1 := Blk.new wa [.int .i64 x17.num, .int .i64 (x17.den : Int)] 24
                           have hbx := (HBA.out.alloc HBA.out.size (.cells [.int .i64 x17.num, .int .i64 (x17.den : Int)].toArray 24))
                           have R2 := HRq.out.later hbx
                           go_wp2_with fail
                           go_meet
                           exact ⟨_, rfl, (by have := HRq.out.q.lt; have := HBA.out.size; omega), h1, HB16.out.later hbx, R2⟩))
                    case rest =>
                      obtain ⟨B17, rfl, hl17, HB17, HB16, HRn⟩ := hcut
                      clear HS HS2 HRq H16 H17
                      obtain ⟨d1, hd1⟩ : ∃ d, (f || decide (P < x16)) = d := ⟨_, rfl⟩
                      obtain ⟨d2, hd2⟩ : ∃ d, (f || decide (x17 < Q)) = d := ⟨_, rfl⟩
                      have hkg := HKG.out
                      rw [hd1, hd2] at hkg
                      have HD1 := Lib.hid hd1
                      have HD2 := Lib.hid hd2
                      have HKN := Lib.hid hkg
                      have HL17 := Lib.hid hl17
                      clear hd1 hd2 hkg HKG hl17
                      have q16 := HB16.out.two
                      have q17 := HB17.out.two
                      have q10 := HRn.out.p.two
                      have f10 := HRn.out.p.free2
                      have z10 := HRn.out.p.lt
                      have q11 := HRn.out.q.two
                      have f11 := HRn.out.q.free2
                      have z11 := HRn.out.q.lt
                      have n11 : ¬ B10 + 1 = B10 := by omega
                      have n12 : ¬ B10 = B10 + 1 := by omega
                      have n13 : ¬ B17 = B10 := by have := HL17.out; omega
                      have n14 : ¬ B10 = B17 := by have := HL17.out; omega
                      cases f with
                      | true =>
                        have hd := HD1.out
                        rw [Bool.true_or] at hd
                        subst hd
                        have hd := HD2.out
                        rw [Bool.true_or] at hd
                        subst hd
                        clear HD1 HD2
                        go_wp2_with fail
                        go_roundw
                        case rel => exact ⟨j + 1, false, _, _, by omega, rfl, by go_num, HKN.out, (HRn.out.putP x16).putQ x17⟩
                        case measure => simp [intOf]; omega
                      | false =>
                        have hb := HFB.out rfl
                        have hx := HBDD.out
                        have h51 : ∀ W, Gives 51 #[rv P, rv x16] (.bool d1) W := fun W => by
                          have h := rless_calls2 hb.1.1 hb.1.2 hx.1.1 hx.1.2 W
                          rw [← HD1.out, Bool.false_or]
                          exact h
                        have h52 : ∀ W, Gives 51 #[rv x17, rv Q] (.bool d2) W := fun W => by
                          have h := rless_calls2 hx.2.1 hx.2.2 hb.2.1 hb.2.2 W
                          rw [← HD2.out, Bool.false_or]
                          exact h
                        unfold rv at h51 h52
                        have H51 := Lib.hid h51
                        have H52 := Lib.hid h52
                        clear h51 h52 hb hx HD1 HD2
                        go_upto_if 128 with (go_at_call 51; (with_reducible refine (Gives.c (H51.out _)).mono ?_); rintro e wd ⟨rfl, hb⟩; have R3 := HRn.out.later hb; have K16 := HB16.out.later hb; have K17 := HB17.out.later hb; clear hb q16 q17 q10 f10 z10 q11 f11 z11; have q16 := K16.two; have q10 := R3.p.two; have f10 := R3.p.free2; have z10 := R3.p.lt; have HK17 := Lib.hid K17; have HR3 := Lib.hid R3; clear K16 K17 R3)
                        cases d1 with
                        | true =>
                          go_upto_region 24 with fail
                          have R4 := HR3.out.putP x16
                          have K17 := HK17.out.other2 (B' := B10) (by have := HL17.out; omega) (.int .i64 x16.num) (.int .i64 (x16.den : Int))
                          clear q16 q10 f10 z10
                          generalize World.setCell _ _ _ = w4 at R4 K17 ⊢
                          have q17 := K17.two
                          have q11 := R4.q.two
                          have HR4 := Lib.hid R4
                          have HK4 := Lib.hid K17
                          clear R4 K17 HR3 HK17
                          go_upto_if 135 with (go_at_call 51; (with_reducible refine (Gives.c (H52.out _)).mono ?_); rintro e we ⟨rfl, hb⟩; have R5 := HR4.out.later hb; have K5 := HK4.out.later hb; clear hb q17 q11; have q17 := K5.two; have q11 := R5.q.two; have f11 := R5.q.free2; have z11 := R5.q.lt; have HR5 := Lib.hid R5; clear R5 K5)
                          cases d2 with
                          | true =>
                            go_wp2_with fail
                            go_roundw
                            case rel => exact ⟨j + 1, false, _, _, by omega, rfl, by go_num, HKN.out, HR5.out.putQ x17⟩
                            case measure => simp [intOf]; omega
                          | false =>
                            go_wp2_with fail
                            go_roundw
                            case rel => exact ⟨j + 1, false, _, _, by omega, rfl, by go_num, HKN.out, HR5.out⟩
                            case measure => simp [intOf]; omega
                        | false =>
                          go_upto_region 24 with fail
                          have q17 := HK17.out.two
                          have q11 := HR3.out.q.two
                          clear q16 q10 f10 z10
                          go_upto_if 135 with (go_at_call 51; (with_reducible refine (Gives.c (H52.out _)).mono ?_); rintro e we ⟨rfl, hb⟩; have R5 := HR3.out.later hb; have K5 := HK17.out.later hb; clear hb q17 q11; have q17 := K5.two; have q11 := R5.q.two; have f11 := R5.q.free2; have z11 := R5.q.lt; have HR5 := Lib.hid R5; clear R5 K5)
                          cases d2 with
                          | true =>
                            go_wp2_with fail
                            go_roundw
                            case rel => exact ⟨j + 1, false, _, _, by omega, rfl, by go_num, HKN.out, HR5.out.putQ x17⟩
                            case measure => simp [intOf]; omega
                          | false =>
                            go_wp2_with fail
                            go_roundw
                            case rel => exact ⟨j + 1, false, _, _, by omega, rfl, by go_num, HKN.out, HR5.out⟩
                            case measure => simp [intOf]; omega
        
  · rw [if_pos hk]
    have hne : (chk l == 0) = false := beq_eq_false_iff_ne.2 hk
    have HC1 := Lib.hid C1
    generalize chk l = e at hne HC1 hk
    clear hl C1 hcap
    go_enter Try.func18, Try.ntmps18
    go_wp2_with fail
    generalize World.alloc _ _ = w1 at I ⊢
    go_wp2_with (go_at_call 16; (with_reducible refine (Gives.c (HC1.out _ I.now.1.1.1.2)).mono ?_); rintro e' w2 ⟨rfl, hb⟩; replace I := I.next hb; clear hb; have q4 := I.now.1.2.two; have f4 := I.now.1.2.free2; have q5 := I.now.2.two; have f5 := I.now.2.free2; have z4 := I.now.1.2.lt; have z5 := I.now.2.lt)
    have k4 := ((I.now.1.2.put2 (.int .i64 0) (.int .i64 0)).other2 (B' := w.heap.size + 1 + 1) (by omega) (.int .i64 0) (.int .i64 0)).two
    have k5 := ((I.now.2.other2 (B' := w.heap.size + 1) (by omega) (.int .i64 0) (.int .i64 0)).put2 (.int .i64 0) (.int .i64 0)).two
    have kb := below2 (below2 I.now.1.1.1.1 (show w.heap.size ≤ w.heap.size + 1 by omega) (.int .i64 0) (.int .i64 0)) (show w.heap.size ≤ w.heap.size + 1 + 1 by omega) (.int .i64 0) (.int .i64 0)
    generalize World.setCell _ _ _ = wf at k4 k5 kb ⊢
    refine bodyPost_ret (v := .tuple #[.agg #[.int .i64 0, .int .i64 0], .agg #[.int .i64 0, .int .i64 0], .int .i64 e]) (by simp [results, Try.results18, go_sem, k4, k5]) rfl ⟨rfl, kb⟩
end Go.Proofs.Ytjncoableanmpaa
