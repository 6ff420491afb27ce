/- The contract of Gains. -/
import Derived.Test.YtjncoableanmpaaLN
namespace Go.Proofs.Ytjncoableanmpaa
open Go.RowKit Go.Lib Go.Shelf

theorem field89_0 (a b c d e f : Value) (w : World) : (Instr.field 89 (.agg #[a, b, c, d, e, f]) 0).run Try.prog w = .ok (.agg #[a, b]) w := by
  unfold Instr.field
  simp [go_sem, asAgg]
theorem field89_2 (a b c d e f : Value) (w : World) : (Instr.field 89 (.agg #[a, b, c, d, e, f]) 2).run Try.prog w = .ok (.agg #[d, e, f]) w := by
  unfold Instr.field
  simp [go_sem, asAgg]
attribute [local go_sem] field89_0 field89_2

theorem fr_lt {n d : Int} (hd : 0 < d) (q : Rat) : fr n d < q ↔ n * (q.den : Int) < q.num * d := by
  have e := fr_mul (n := n) hd
  have f := fr_mul (n := q.num) (d := (q.den : Int)) (by have := q.den_pos; omega)
  rw [num_den] at f
  have hd1 := cast_lt hd
  have hd2 := cast_lt (show (0 : Int) < (q.den : Int) by have := q.den_pos; omega)
  have z : ((0 : Int) : Rat) = 0 := by simp
  rw [z] at hd1 hd2
  have c1 : ((n * (q.den : Int) : Int) : Rat) = fr n d * ((d : Rat) * ((q.den : Int) : Rat)) := by
    rw [Rat.intCast_mul, ← e]; grind
  have c2 : ((q.num * d : Int) : Rat) = q * ((d : Rat) * ((q.den : Int) : Rat)) := by
    rw [Rat.intCast_mul, ← f]; grind
  have hp : 0 < (d : Rat) * ((q.den : Int) : Rat) := Rat.mul_pos hd1 hd2
  constructor
  · intro h
    have h2 := mul_pos_lt h hp
    rw [← c1, ← c2] at h2
    exact_mod_cast h2
  · intro h
    rcases rat_cases (fr n d) q with h1 | h1
    · exact h1
    · have h2 := mul_pos_le h1 hp
      rw [← c1, ← c2] at h2
      have h3 : q.num * d ≤ n * (q.den : Int) := by exact_mod_cast h2
      omega

/-- Two fractions on the way out. -/
structure L2 (w : World) (T1 T2 B7 B8 : Nat) (g o : Rat) (W : World) : Prop where
  low : Below w.heap.size w W
  h7 : Blk W B7 [.int .i64 g.num, .int .i64 (g.den : Int)]
  h8 : Blk W B8 [.int .i64 o.num, .int .i64 (o.den : Int)]
  h1 : ∃ p q, Blk W T1 [p, q]
  h2 : ∃ p q, Blk W T2 [p, q]
  n : (w.heap.size ≤ T1 ∧ w.heap.size ≤ T2 ∧ T1 ≠ T2) ∧ T1 ≠ B7 ∧ T1 ≠ B8 ∧ T2 ≠ B7 ∧ T2 ≠ B8
section
variable {w : World} {T1 T2 B7 B8 : Nat} {g o : Rat} {W W' : World}
theorem L2.later (h : L2 w T1 T2 B7 B8 g o W) (hb : Below W.heap.size W W') : L2 w T1 T2 B7 B8 g o W' :=
  ⟨h.low.trans (hb.mono h.low.size), h.h7.later hb, h.h8.later hb, by obtain ⟨p, q, h2⟩ := h.h1; exact ⟨p, q, h2.later hb⟩, by obtain ⟨p, q, h3⟩ := h.h2; exact ⟨p, q, h3.later hb⟩, h.n⟩
theorem L2.put1 (h : L2 w T1 T2 B7 B8 g o W) (p q : Value) : L2 w T1 T2 B7 B8 g o ((W.setCell ⟨T1, 0, none⟩ p).setCell ⟨T1, 1, none⟩ q) :=
  ⟨below2 h.low h.n.1.1 _ _, h.h7.other2 h.n.2.1 _ _, h.h8.other2 h.n.2.2.1 _ _, by obtain ⟨a, b, h2⟩ := h.h1; exact ⟨_, _, h2.put2 p q⟩, by obtain ⟨a, b, h3⟩ := h.h2; exact ⟨_, _, h3.other2 h.n.1.2.2 _ _⟩, h.n⟩
theorem L2.put2 (h : L2 w T1 T2 B7 B8 g o W) (p q : Value) : L2 w T1 T2 B7 B8 g o ((W.setCell ⟨T2, 0, none⟩ p).setCell ⟨T2, 1, none⟩ q) :=
  ⟨below2 h.low h.n.1.2.1 _ _, h.h7.other2 h.n.2.2.2.1 _ _, h.h8.other2 h.n.2.2.2.2 _ _, by obtain ⟨a, b, h2⟩ := h.h1; exact ⟨_, _, h2.other2 (Ne.symm h.n.1.2.2) _ _⟩, by obtain ⟨a, b, h3⟩ := h.h2; exact ⟨_, _, h3.put2 p q⟩, h.n⟩
theorem L2.cells (h : L2 w T1 T2 B7 B8 g o W) : Below w.heap.size w W ∧ (W.cell? ⟨B7, 0, none⟩ = some (.int .i64 g.num) ∧ W.cell? ⟨B7, 1, none⟩ = some (.int .i64 (g.den : Int))) ∧ (W.cell? ⟨B8, 0, none⟩ = some (.int .i64 o.num) ∧ W.cell? ⟨B8, 1, none⟩ = some (.int .i64 (o.den : Int))) ∧
    (W.cell? ⟨T1, 0, none⟩ = some (valAt W ⟨T1, 0, none⟩) ∧ W.cell? ⟨T1, 1, none⟩ = some (valAt W ⟨T1, 1, none⟩) ∧ W.frozen? ⟨T1, 0, none⟩ = false ∧ W.frozen? ⟨T1, 1, none⟩ = false) ∧
    (W.cell? ⟨T2, 0, none⟩ = some (valAt W ⟨T2, 0, none⟩) ∧ W.cell? ⟨T2, 1, none⟩ = some (valAt W ⟨T2, 1, none⟩) ∧ W.frozen? ⟨T2, 0, none⟩ = false ∧ W.frozen? ⟨T2, 1, none⟩ = false) := by
  obtain ⟨p, q, h2⟩ := h.h1
  obtain ⟨p', q', h3⟩ := h.h2
  exact ⟨h.low, h.h7.two, h.h8.two, h2.vals, h3.vals⟩
theorem L2.done (h : L2 w T1 T2 B7 B8 g o W) (p q r s : Value) : let wf := ((((W.setCell ⟨T1, 0, none⟩ p).setCell ⟨T1, 1, none⟩ q).setCell ⟨T2, 0, none⟩ r).setCell ⟨T2, 1, none⟩ s)
    (wf.cell? ⟨T1, 0, none⟩ = some p ∧ wf.cell? ⟨T1, 1, none⟩ = some q) ∧ (wf.cell? ⟨T2, 0, none⟩ = some r ∧ wf.cell? ⟨T2, 1, none⟩ = some s) ∧ Below w.heap.size w wf := by
  obtain ⟨a, b, h1⟩ := h.h1
  obtain ⟨c, d, h2⟩ := (h.put1 p q).h2
  exact ⟨((h1.put2 p q).other2 (Ne.symm h.n.1.2.2) r s).two, (h2.put2 r s).two, ((h.put1 p q).put2 r s).low⟩
end

/-- What Gains comes to. -/
def gainsV (l : List Cd) (bn bd : Int) : Value :=
  let z : Value := .agg #[.int .i64 0, .int .i64 0]
  if ¬ chk l = 0 then .tuple #[z, z, .int .i64 (chk l)]
  else if bndB bn bd = false then .tuple #[z, z, .int .i64 3]
  else if l.length = 1 then .tuple #[z, z, .int .i64 13]
  else if fr bn bd < (bestC l).off then .tuple #[z, z, .int .i64 11]
  else .tuple #[rv (gF bn bd l).1, rv (gF bn bd l).2, .int .i64 0]

set_option maxRecDepth 100000 in
set_option maxHeartbeats 8000000 in
theorem Gains_calls (A : Option Addr) (n c : Nat) (l : List Cd) (bn bd : Int) (w : World) (hl : ReadsC w A n l) (hcap : n ≤ c) :
    Gives 17 #[.slice A n c, .agg #[.int .i64 bn, .int .i64 bd]] (gainsV l bn bd) w := by
  unfold Gives gainsV
  dsimp only
  rw [hl.1]
  have I : Held (((w.alloc (.cells [Value.int .i64 bn, .int .i64 bd].toArray 24)).alloc (.cells [Value.int .i64 0, .int .i64 0].toArray 24)).alloc (.cells [Value.int .i64 0, .int .i64 0].toArray 24)) (fun W => (((Below w.heap.size w W ∧ ReadsC W A n l) ∧ Blk W w.heap.size [Value.int .i64 bn, .int .i64 bd]) ∧ Blk W (w.heap.size + 1) [Value.int .i64 0, .int .i64 0]) ∧ Blk W (w.heap.size + 1 + 1) [Value.int .i64 0, .int .i64 0]) := fun W hW => by
    have h1 : Below w.heap.size w W := ((((Below.refl _ _).alloc (Nat.le_refl _) _).alloc (by simp) _).alloc (by simp; omega) _).trans (hW.mono (by simp; omega))
    exact ⟨⟨⟨⟨h1, hl.later h1⟩, (((Blk.new w _ 24).alloc _).alloc _).later hW⟩, Blk.later (Blk.alloc (by simpa using Blk.new (w.alloc _) [Value.int .i64 0, .int .i64 0] 24) _) hW⟩, Blk.later (by simpa using Blk.new ((w.alloc _).alloc _) [Value.int .i64 0, .int .i64 0] 24) hW⟩
  have C1 : ∀ W, ReadsC W A n l → Gives 15 #[.slice A n c] (.int .i64 (chk l)) W := fun W h => check_calls A n c l W h
  have hO : ∀ a b W, Gives 39 #[.agg #[.int .i64 a, .int .i64 b]] (.agg #[.int .i64 a, .int .i64 b]) W := out_calls
  have hV : ∀ a b W, Gives 47 #[.agg #[.int .i64 a, .int .i64 b]] (.agg #[.int .i64 a, .int .i64 b]) W := given_calls
  have HO := Lib.hid hO
  have HV := Lib.hid hV
  clear hO hV
  by_cases hk : chk l = 0
  · rw [if_neg (fun h => h hk)]
    rw [hk] at C1
    have HC1 := Lib.hid C1
    have hg := chk_good hk
    have hlen := hl.1
    obtain ⟨b, off, rfl, _⟩ := hl.2.2 (by have := hg.pos; omega)
    have C44 : ∀ W, Gives 44 #[.agg #[.int .i64 bn, .int .i64 bd]] (.bool (bndB bn bd)) W := bounded_calls bn bd
    cases hbb : bndB bn bd with
    | false =>
      rw [if_pos rfl]
      rw [hbb] at C44
      have HC44 := Lib.hid C44
      clear hl hk hg C1 C44 hbb HO HV hcap
      go_enter Try.func17, Try.ntmps17
      go_wp2_with fail
      generalize World.alloc _ _ = w1 at I ⊢
      go_wp2_with (first
        | (go_at_call 15; (with_reducible refine (Gives.c (HC1.out _ I.now.1.1.1.2)).mono ?_); rintro e w2 ⟨rfl, hb⟩; replace I := I.next hb; clear hb; have q3 := I.now.1.1.2.two)
        | (go_at_call 44; (with_reducible refine (Gives.c (HC44.out _)).mono ?_); rintro e w3 ⟨rfl, hb⟩; replace I := I.next hb; clear hb q3; have q4 := I.now.1.2.two; have f4 := I.now.1.2.free2; have q5 := I.now.2.two; have f5 := I.now.2.free2; have z4 := I.now.1.2.lt; have z5 := I.now.2.lt))
      have k4 := ((I.now.1.2.put2 (.int .i64 0) (.int .i64 0)).other2 (B' := w.heap.size + 1 + 1) (by omega) (.int .i64 0) (.int .i64 0)).two
      have k5 := ((I.now.2.other2 (B' := w.heap.size + 1) (by omega) (.int .i64 0) (.int .i64 0)).put2 (.int .i64 0) (.int .i64 0)).two
      have kb := below2 (below2 I.now.1.1.1.1 (show w.heap.size ≤ w.heap.size + 1 by omega) (.int .i64 0) (.int .i64 0)) (show w.heap.size ≤ w.heap.size + 1 + 1 by omega) (.int .i64 0) (.int .i64 0)
      generalize World.setCell _ _ _ = wf at k4 k5 kb ⊢
      refine bodyPost_ret (v := .tuple #[.agg #[.int .i64 0, .int .i64 0], .agg #[.int .i64 0, .int .i64 0], .int .i64 3]) (by simp [results, Try.results17, go_sem, k4, k5]) rfl ⟨rfl, kb⟩
    | true =>
      rw [if_neg (by decide)]
      rw [hbb] at C44
      have HC44 := Lib.hid C44
      by_cases hn1 : n = 1
      · rw [if_pos hn1]
        have en : ((n : Int) == 1) = true := beq_iff_eq.2 (by omega)
        clear hl hk hg C1 C44 hbb HO HV hn1 hcap
        go_enter Try.func17, Try.ntmps17
        go_wp2_with fail
        generalize World.alloc _ _ = w1 at I ⊢
        go_wp2_with (first
          | (go_at_call 15; (with_reducible refine (Gives.c (HC1.out _ I.now.1.1.1.2)).mono ?_); rintro e w2 ⟨rfl, hb⟩; replace I := I.next hb; clear hb; have q3 := I.now.1.1.2.two)
          | (go_at_call 44; (with_reducible refine (Gives.c (HC44.out _)).mono ?_); rintro e w3 ⟨rfl, hb⟩; replace I := I.next hb; clear hb q3; have q4 := I.now.1.2.two; have f4 := I.now.1.2.free2; have q5 := I.now.2.two; have f5 := I.now.2.free2; have z4 := I.now.1.2.lt; have z5 := I.now.2.lt))
        have k4 := ((I.now.1.2.put2 (.int .i64 0) (.int .i64 0)).other2 (B' := w.heap.size + 1 + 1) (by omega) (.int .i64 0) (.int .i64 0)).two
        have k5 := ((I.now.2.other2 (B' := w.heap.size + 1) (by omega) (.int .i64 0) (.int .i64 0)).put2 (.int .i64 0) (.int .i64 0)).two
        have kb := below2 (below2 I.now.1.1.1.1 (show w.heap.size ≤ w.heap.size + 1 by omega) (.int .i64 0) (.int .i64 0)) (show w.heap.size ≤ w.heap.size + 1 + 1 by omega) (.int .i64 0) (.int .i64 0)
        generalize World.setCell _ _ _ = wf at k4 k5 kb ⊢
        refine bodyPost_ret (v := .tuple #[.agg #[.int .i64 0, .int .i64 0], .agg #[.int .i64 0, .int .i64 0], .int .i64 13]) (by simp [results, Try.results17, go_sem, k4, k5]) rfl ⟨rfl, kb⟩
      · rw [if_neg hn1]
        have en : ((n : Int) == 1) = false := beq_eq_false_iff_ne.2 (by omega)
        have en' : ¬ (n : Int) = 1 := by omega
        have hbd : (0 ≤ bn ∧ bn ≤ 1000000) ∧ 1 ≤ bd ∧ bd ≤ 100000 := by
          unfold bndB btw at hbb
          simpa using hbb
        have h2n : 2 ≤ n := by have := hg.pos; omega
        have hlo := lineOk_best hg
        have hq := (bestC l).off.den_pos
        have C45 : ∀ W, ReadsC W (some ⟨b, off, none⟩) n l → Gives 45 #[.slice (some ⟨b, off, none⟩) n c] (clv (bestC l)) W := fun W h => best_calls W h hg
        have m1 := mul_ab (a := bn) (b := ((bestC l).off.den : Int)) (A := 1000000) (B := 40000) (by omega) (by have := hlo.ib; omega)
        have m2 := mul_ab (a := (bestC l).off.num) (b := bd) (A := 400000000) (B := 100000) hlo.ib.1 (by omega)
        have C46 : ∀ W, Gives 46 #[.agg #[.int .i64 (bestC l).off.num, .int .i64 ((bestC l).off.den : Int)], .agg #[.int .i64 bn, .int .i64 bd]] (.bool (decide (fr bn bd < (bestC l).off))) W := fun W => by
          have h := more_raw (a := bn) (b := bd) (c := (bestC l).off.num) (d := ((bestC l).off.den : Int)) (i64_in (by omega) (by omega)) (i64_in (by omega) (by omega)) W
          rwa [decide_eq_decide.2 (fr_lt (n := bn) (d := bd) (by omega) (bestC l).off).symm] at h
        have hfit : ¬ fr bn bd < (bestC l).off → Fits bn bd l := fun h => fits_best hg hbd.1.1 (by omega) (Rat.not_lt.1 h)
        have C48 : Fits bn bd l → ∀ W, ReadsC W (some ⟨b, off, none⟩) n l → Gives 48 #[.slice (some ⟨b, off, none⟩) n c, .agg #[.int .i64 bn, .int .i64 bd]] (.tuple #[rv (gF bn bd l).1, rv (gF bn bd l).2]) W := fun hf W h =>
          gains_calls W h hg ⟨hbd.1.1, by omega, hbd.2.1, hbd.2.2⟩ hf h2n hcap
        have C48' := fun h => C48 (hfit h)
        generalize gF bn bd l = R at C48'
        obtain ⟨g, o⟩ := R
        obtain ⟨dd, hdd⟩ : ∃ dd, decide (fr bn bd < (bestC l).off) = dd := ⟨_, rfl⟩
        rw [hdd] at C46
        generalize hx : bestC l = x at *
        obtain ⟨V, hVV⟩ : ∃ V : Value, (if fr bn bd < x.off then (.tuple #[.agg #[.int .i64 0, .int .i64 0], .agg #[.int .i64 0, .int .i64 0], .int .i64 11] : Value) else .tuple #[rv (g, o).1, rv (g, o).2, .int .i64 0]) = V := ⟨_, rfl⟩
        rw [hVV]
        have HVV := Lib.hid hVV
        clear hVV
        unfold clv at C45
        dsimp only at C48'
        unfold rv at C48'
        have HC45 := Lib.hid C45
        have HC46 := Lib.hid C46
        have HC48 := Lib.hid C48'
        clear hl hk hg C1 C44 hbb hlo hq C45 m1 m2 C46 hfit C48 C48' hbd hx hcap
        go_enter Try.func17, Try.ntmps17
        go_wp2_with fail
        generalize World.alloc _ _ = w1 at I ⊢
        go_upto_region 8 with (first
          | (go_at_call 15; (with_reducible refine (Gives.c (HC1.out _ I.now.1.1.1.2)).mono ?_); rintro e w2 ⟨rfl, hb⟩; replace I := I.next hb; clear hb; have q3 := I.now.1.1.2.two)
          | (go_at_call 44; (with_reducible refine (Gives.c (HC44.out _)).mono ?_); rintro e w3 ⟨rfl, hb⟩; replace I := I.next hb; clear hb q3; have q4 := I.now.1.2.two; have f4 := I.now.1.2.free2; have q5 := I.now.2.two; have f5 := I.now.2.free2; have z4 := I.now.1.2.lt; have z5 := I.now.2.lt))
        clear q4 f4 q5 f5 z4 z5
        have hS : ∀ W, Below w3.heap.size w3 W → Below w.heap.size w W ∧ (W.cell? ⟨w.heap.size, 0, none⟩ = some (.int .i64 bn) ∧ W.cell? ⟨w.heap.size, 1, none⟩ = some (.int .i64 bd)) := fun W hW => ⟨(I W hW).1.1.1.1, (I W hW).1.1.2.two⟩
        have HS := Lib.hid hS
        have h45 : ∀ W, Below w3.heap.size w3 W → Gives 45 #[.slice (some ⟨b, off, none⟩) n c] (.agg #[.int .i64 x.off.num, .int .i64 (x.off.den : Int), .bool x.up, .int .i64 (x.who.1 : Int), .int .i64 (x.who.2.1 : Int), .int .i64 (x.who.2.2 : Int)]) W := fun W hW => HC45.out W (I W hW).1.1.1.2
        have H45 := Lib.hid h45
        clear h45
        have HI := Lib.hid I
        clear hS I
        go_region_held3 (fun W => Below w.heap.size w W ∧ (W.cell? ⟨w.heap.size, 0, none⟩ = some (.int .i64 bn) ∧ W.cell? ⟨w.heap.size, 1, none⟩ = some (.int .i64 bd)))
          (first
            | with_reducible exact HS.out _ (Below.refl _ _).drew
            | with_reducible exact HS.out _ HB1.out
            | with_reducible exact HS.out _ HB2.out
            | with_reducible exact HS.out _ HB3.out
            | fail)
          (first
            | (go_at_call 45; (first | (with_reducible refine (Gives.c (H45.out _ HB1.out)).mono ?_) | (with_reducible refine (Gives.c (H45.out _ (Below.refl _ _).drew)).mono ?_)); rintro e wa ⟨rfl, hb⟩; first | have HB2 := Lib.hid (HB1.out.trans (hb.mono HB1.out.size)) | have HB1 := Lib.hid ((Below.refl w3.heap.size w3).drew.trans hb))
            | (go_at_call 47; (with_reducible refine (Gives.c (HV.out _ _ _)).mono ?_); rintro e wb ⟨rfl, hb⟩; first | have HB2 := Lib.hid (HB1.out.trans (hb.mono HB1.out.size)) | have HB1 := Lib.hid ((Below.refl w3.heap.size w3).drew.trans hb))
            | (go_at_call 46; (with_reducible refine (Gives.c (HC46.out _)).mono ?_); rintro e wc ⟨rfl, hb⟩; have HB3 := Lib.hid (HB2.out.trans (hb.mono HB2.out.size)))
            | fail)
        all_goals
          have I := HI.out.next HB3.out
          clear HS HI HB1 HB2 HB3
          cases dd with
          | true =>
            have hV1 := (HVV.out).symm.trans (if_pos (of_decide_eq_true hdd))
            have HV1 := Lib.hid hV1
            clear hV1
            have q4 := I.now.1.2.two
            have f4 := I.now.1.2.free2
            have q5 := I.now.2.two
            have f5 := I.now.2.free2
            have z4 := I.now.1.2.lt
            have z5 := I.now.2.lt
            go_wp2_with fail
            have k4 := ((I.now.1.2.put2 (.int .i64 0) (.int .i64 0)).other2 (B' := w.heap.size + 1 + 1) (by omega) (.int .i64 0) (.int .i64 0)).two
            have k5 := ((I.now.2.other2 (B' := w.heap.size + 1) (by omega) (.int .i64 0) (.int .i64 0)).put2 (.int .i64 0) (.int .i64 0)).two
            have kb := below2 (below2 I.now.1.1.1.1 (show w.heap.size ≤ w.heap.size + 1 by omega) (.int .i64 0) (.int .i64 0)) (show w.heap.size ≤ w.heap.size + 1 + 1 by omega) (.int .i64 0) (.int .i64 0)
            generalize World.setCell _ _ _ = wf at k4 k5 kb ⊢
            refine bodyPost_ret (v := .tuple #[.agg #[.int .i64 0, .int .i64 0], .agg #[.int .i64 0, .int .i64 0], .int .i64 11]) (by simp [results, Try.results17, go_sem, k4, k5]) rfl ⟨by rw [HV1.out], kb⟩
          | false =>
            have hdf := of_decide_eq_false hdd
            have q3 := I.now.1.1.2.two
            have hV1 := (HVV.out).symm.trans (if_neg hdf)
            have HV1 := Lib.hid hV1
            clear hV1
            have h48 := HC48.out hdf
            have H48 := Lib.hid h48
            clear h48
            go_upto_region 11 with (first
              | (go_at_call 47; (with_reducible refine (Gives.c (HV.out _ _ _)).mono ?_); rintro e wd ⟨rfl, hb⟩; replace I := I.next hb; clear hb q3)
              | (go_at_call 48; (with_reducible refine (Gives.c (H48.out _ I.now.1.1.1.2)).mono ?_); rintro e we ⟨rfl, hb⟩; replace I := I.next hb; clear hb))
            have L0 : L2 w (w.heap.size + 1) (w.heap.size + 1 + 1) we.heap.size (we.heap.size + 1) g o ((we.alloc (.cells #[Value.int .i64 g.num, .int .i64 (g.den : Int)] 82)).alloc (.cells #[Value.int .i64 o.num, .int .i64 (o.den : Int)] 82)) :=
              ⟨(I.now.1.1.1.1.alloc I.now.1.1.1.1.size _).alloc (by have := I.now.1.1.1.1.size; simp; omega) _, (Blk.new we [Value.int .i64 g.num, .int .i64 (g.den : Int)] 82).alloc _, by simpa using Blk.new (we.alloc _) [Value.int .i64 o.num, .int .i64 (o.den : Int)] 82, ⟨_, _, (I.now.1.2.alloc _).alloc _⟩, ⟨_, _, (I.now.2.alloc _).alloc _⟩, by have := I.now.2.lt; omega⟩
            have HL0 := Lib.hid L0
            clear L0 I H48 HC48 HC46 HC45 HC44 HC1 H45
            generalize hB7 : we.heap.size = B7 at HL0 ⊢
            generalize World.alloc _ _ = w6 at HL0 ⊢
            go_region_held3 (fun W => Below w.heap.size w W ∧ (W.cell? ⟨B7, 0, none⟩ = some (.int .i64 g.num) ∧ W.cell? ⟨B7, 1, none⟩ = some (.int .i64 (g.den : Int))) ∧ (W.cell? ⟨B7 + 1, 0, none⟩ = some (.int .i64 o.num) ∧ W.cell? ⟨B7 + 1, 1, none⟩ = some (.int .i64 (o.den : Int))) ∧
    (W.cell? ⟨w.heap.size + 1, 0, none⟩ = some (valAt W ⟨w.heap.size + 1, 0, none⟩) ∧ W.cell? ⟨w.heap.size + 1, 1, none⟩ = some (valAt W ⟨w.heap.size + 1, 1, none⟩) ∧ W.frozen? ⟨w.heap.size + 1, 0, none⟩ = false ∧ W.frozen? ⟨w.heap.size + 1, 1, none⟩ = false) ∧
    (W.cell? ⟨w.heap.size + 1 + 1, 0, none⟩ = some (valAt W ⟨w.heap.size + 1 + 1, 0, none⟩) ∧ W.cell? ⟨w.heap.size + 1 + 1, 1, none⟩ = some (valAt W ⟨w.heap.size + 1 + 1, 1, none⟩) ∧ W.frozen? ⟨w.heap.size + 1 + 1, 0, none⟩ = false ∧ W.frozen? ⟨w.heap.size + 1 + 1, 1, none⟩ = false))
              (first
                | with_reducible exact (HL0.out.later (Below.refl _ _).drew).cells
                | with_reducible exact HL1.out.cells
                | with_reducible exact HL2.out.cells
                | with_reducible exact (HL2.out.put1 _ _).cells
                | with_reducible exact ((HL2.out.put1 _ _).put2 _ _).cells
                | fail)
              (first
                | (go_at_call 39; (with_reducible refine (Gives.c (HO.out _ _ _)).mono ?_); rintro e wf ⟨rfl, hb⟩; first | have HL2 := Lib.hid (HL1.out.later hb) | have HL1 := Lib.hid ((HL0.out.later (Below.refl _ _).drew).later hb))
                | fail)
            all_goals
              have k := HL2.out.done (.int .i64 g.num) (.int .i64 (g.den : Int)) (.int .i64 o.num) (.int .i64 (o.den : Int))
              dsimp only at k
              generalize World.setCell _ _ _ = wz at k ⊢
              obtain ⟨k4, k5, kb⟩ := k
              go_wp2
              refine bodyPost_ret (v := .tuple #[rv g, rv o, .int .i64 0]) (by simp [results, Try.results17, go_sem, k4, k5]) rfl ⟨by rw [HV1.out], kb⟩
  · rw [if_pos hk]
    have hne : (chk l == 0) = false := beq_eq_false_iff_ne.2 hk
    have HC1 := Lib.hid C1
    generalize chk l = e at hne HC1 hk
    clear hl C1 HO HV hcap
    go_enter Try.func17, Try.ntmps17
    go_wp2_with fail
    generalize World.alloc _ _ = w1 at I ⊢
    go_wp2_with (go_at_call 15; (with_reducible refine (Gives.c (HC1.out _ I.now.1.1.1.2)).mono ?_); rintro e' w2 ⟨rfl, hb⟩; replace I := I.next hb; clear hb; have q4 := I.now.1.2.two; have f4 := I.now.1.2.free2; have q5 := I.now.2.two; have f5 := I.now.2.free2; have z4 := I.now.1.2.lt; have z5 := I.now.2.lt)
    have k4 := ((I.now.1.2.put2 (.int .i64 0) (.int .i64 0)).other2 (B' := w.heap.size + 1 + 1) (by omega) (.int .i64 0) (.int .i64 0)).two
    have k5 := ((I.now.2.other2 (B' := w.heap.size + 1) (by omega) (.int .i64 0) (.int .i64 0)).put2 (.int .i64 0) (.int .i64 0)).two
    have kb := below2 (below2 I.now.1.1.1.1 (show w.heap.size ≤ w.heap.size + 1 by omega) (.int .i64 0) (.int .i64 0)) (show w.heap.size ≤ w.heap.size + 1 + 1 by omega) (.int .i64 0) (.int .i64 0)
    generalize World.setCell _ _ _ = wf at k4 k5 kb ⊢
    refine bodyPost_ret (v := .tuple #[.agg #[.int .i64 0, .int .i64 0], .agg #[.int .i64 0, .int .i64 0], .int .i64 e]) (by simp [results, Try.results17, go_sem, k4, k5]) rfl ⟨rfl, kb⟩
end Go.Proofs.Ytjncoableanmpaa
