/- The laws' helper off: the error of a line; no line is better than the best. -/
import Derived.Test.YtjncoableanmpaaQM
namespace Go.Proofs.Ytjncoableanmpaa
open Go.RowKit Go.Lib Go.Shelf
attribute [local go_sem] run_max3

theorem errN_le (gn gd on od : Int) (l : List Cd) (m X : Int) : l.foldl (errStep gn gd on od) m ≤ X ↔ m ≤ X ∧ ∀ i, i < l.length → loudF gn gd on od (cAt l i).1 - (cAt l i).2.1 * (gd * od) ≤ X ∧ (cAt l i).2.2 * (gd * od) - loudF gn gd on od (cAt l i).1 ≤ X := by
  induction l generalizing m with
  | nil => exact ⟨fun h => ⟨h, fun i hi => absurd hi (by simp)⟩, fun h => h.1⟩
  | cons c r ih =>
    rw [List.foldl_cons, ih]
    unfold errStep
    constructor
    · rintro ⟨h1, h2⟩
      refine ⟨by omega, fun i hi => ?_⟩
      cases i with
      | zero =>
        show loudF gn gd on od c.1 - c.2.1 * (gd * od) ≤ X ∧ c.2.2 * (gd * od) - loudF gn gd on od c.1 ≤ X
        omega
      | succ i => exact h2 i (by simpa using hi)
    · rintro ⟨h1, h2⟩
      have h0 : loudF gn gd on od c.1 - c.2.1 * (gd * od) ≤ X ∧ c.2.2 * (gd * od) - loudF gn gd on od c.1 ≤ X := h2 0 (by simp)
      exact ⟨by omega, fun i hi => h2 (i + 1) (by simpa using hi)⟩
/-- No line has an error below the best one. -/
theorem err_best {l : List Cd} (hg : Good l) {gn gd on od : Int} (h1 : 1 ≤ gd) (h2 : 1 ≤ od) : (bestC l).off ≤ fr (errN gn gd on od l) (gd * od) := by
  have hd := Int.mul_pos (show 0 < gd by omega) (show 0 < od by omega)
  have hE := (errN_le gn gd on od l 0 (errN gn gd on od l)).1 (Int.le_refl _)
  obtain ⟨h0, hall⟩ := hE
  generalize errN gn gd on od l = E at *
  generalize hD : gd * od = D at *
  have e := fr_mul (n := E) hd
  have hB : 0 ≤ fr E D := by
    have := (fr_le (a := 0) (d := 1) (x := E) (y := D) (by omega) hd).2 (by omega)
    have z : fr 0 1 = 0 := by simp [fr]
    rwa [z] at this
  have hdr := cast_lt hd
  have z : ((0 : Int) : Rat) = 0 := by simp
  rw [z] at hdr
  -- how loud, as a fraction
  have hl : ∀ s : Int, ((loudF gn gd on od s : Int) : Rat) = (gn : Rat) * (s : Rat) * (od : Rat) + (on : Rat) * (gd : Rat) := fun s => by
    unfold loudF
    simp
  have key : ∀ i, i < l.length → ((cAt l i).2.2 : Rat) * (D : Rat) - ((gn : Rat) * ((cAt l i).1 : Rat) * (od : Rat) + (on : Rat) * (gd : Rat)) ≤ (E : Rat) ∧ ((gn : Rat) * ((cAt l i).1 : Rat) * (od : Rat) + (on : Rat) * (gd : Rat)) - ((cAt l i).2.1 : Rat) * (D : Rat) ≤ (E : Rat) := fun i hi => by
    have h := hall i hi
    have a1 := cast_le h.1
    have a2 := cast_le h.2
    rw [Rat.intCast_sub, Rat.intCast_mul, hl] at a1 a2
    exact ⟨a2, a1⟩
  generalize fr E D = B at *
  rw [← e] at key
  refine (off_le hg).2 ⟨fun i hi => ?_, fun i j k hij hjk hk => ?_⟩
  · rw [one_le]
    obtain ⟨k1, k2⟩ := key i hi
    refine le_of_mul (c := (D : Rat)) ?_ hdr
    generalize (gn : Rat) * ((cAt l i).1 : Rat) * (od : Rat) + (on : Rat) * (gd : Rat) = L at *
    grind
  · have i1 := hg.inc i j hij (by omega)
    have i2 := hg.inc j k hjk hk
    rw [three_le i1 i2 hB]
    obtain ⟨a1, a2⟩ := key i (by omega)
    obtain ⟨b1, b2⟩ := key j (by omega)
    obtain ⟨c1, c2⟩ := key k hk
    have r1 := cast_lt i1
    have r2 := cast_lt i2
    generalize cAt l i = a at *
    generalize cAt l j = b at *
    generalize cAt l k = c at *
    have p1 : 0 < (b.1 : Rat) - (a.1 : Rat) := by grind
    have p2 : 0 < (c.1 : Rat) - (b.1 : Rat) := by grind
    have p3 : 0 < (c.1 : Rat) - (a.1 : Rat) := by grind
    have m1 := mul_pos_le b1 p3
    have m2 := mul_pos_le a2 p2
    have m3 := mul_pos_le c2 p1
    have m4 := mul_pos_le a1 p2
    have m5 := mul_pos_le c1 p1
    have m6 := mul_pos_le b2 p3
    generalize (a.1 : Rat) = sa at *
    generalize (b.1 : Rat) = sb at *
    generalize (c.1 : Rat) = sc at *
    generalize (gn : Rat) = G at *
    generalize (on : Rat) = O at *
    generalize (od : Rat) = od' at *
    generalize (gd : Rat) = gd' at *
    generalize (D : Rat) = D' at *
    constructor
    · refine le_of_mul (c := D') ?_ hdr
      grind
    · refine le_of_mul (c := D') ?_ hdr
      grind

set_option maxRecDepth 100000 in
set_option maxHeartbeats 4000000 in
theorem off_calls {b off n c : Nat} {l : List Cd} {gn gd on od : Int} (w : World) (hl : ReadsC w (some ⟨b, off, none⟩) n l) (hN : Nice l) (h1 : -128 ≤ gn ∧ gn ≤ 127) (h2 : 1 ≤ gd ∧ gd ≤ 8) (h3 : -128 ≤ on ∧ on ≤ 127) (h4 : 1 ≤ od ∧ od ≤ 8) :
    Gives 30 #[.slice (some ⟨b, off, none⟩) n c, .agg #[.int .i64 gn, .int .i64 gd], .agg #[.int .i64 on, .int .i64 od]] (.agg #[.int .i64 (errN gn gd on od l), .int .i64 (gd * od)]) w := by
  unfold Gives
  have hlen := hl.1
  have hn5 : n ≤ 5 := by have := hN.few; omega
  have hld := fun j (hj : j < n) => loud_bd (gn := gn) (gd := gd) (on := on) (od := od) (s := (cAt l j).1) (by omega) (by omega) (by omega) (by omega) (by have := hN.set j (by omega); omega)
  have hdd : 1 ≤ gd * od ∧ gd * od ≤ 64 := by
    have a := Int.mul_pos (show 0 < gd by omega) (show 0 < od by omega)
    have b := mul_bd (a := gd) (b := od) (A := 8) (B := 8) (by omega) (by omega) (by omega) (by omega)
    omega
  have I0 := ((Held.from (w0 := w) (Below.refl w.heap.size w) (Nat.le_refl _)).with (.readsC hl)).allocB2 [Value.int .i64 gn, .int .i64 gd] 24 [Value.int .i64 on, .int .i64 od] 24
  have I := I0.allocB [Value.int .i64 0, .int .i64 0] 24
  have ud : IntKind.i64.wrap (gd * od) = gd * od := i64_in (by omega) (by omega)
  obtain ⟨T, hT0⟩ : ∃ T, errN gn gd on od l = T := ⟨_, rfl⟩
  rw [hT0]
  unfold errN at hT0
  have HT := Lib.hid hT0
  have HLD := Lib.hid hld
  have HNN := Lib.hid hN
  have HLN := Lib.hid hlen
  generalize hdd' : gd * od = dd at hdd HT ud ⊢
  have ud : IntKind.i64.wrap (gd * od) = dd := by rw [hdd']; exact ud
  clear hld hT0 hl hN hlen I0 h1 h2 h3 h4
  go_enter Try.func30, Try.ntmps30
  go_wp2_with fail
  have hI : Held (((w.alloc (.cells [Value.int .i64 gn, .int .i64 gd].toArray 24)).alloc (.cells [Value.int .i64 on, .int .i64 od].toArray 24)).alloc (.cells [Value.int .i64 0, .int .i64 0].toArray 24)) (fun W => (((Below w.heap.size w W ∧ ReadsC W (some ⟨b, off, none⟩) n l) ∧ Blk W w.heap.size [Value.int .i64 gn, .int .i64 gd]) ∧ Blk W (w.heap.size + 1) [Value.int .i64 on, .int .i64 od]) ∧ Blk W (w.heap.size + 1 + 1) [Value.int .i64 0, .int .i64 0]) := by
    simpa using I
  clear I
  generalize World.alloc _ _ = w1 at hI ⊢
  have q4 := hI.now.1.1.2.two
  have q5 := hI.now.1.2.two
  go_wp2_with (go_at_call 27; (with_reducible refine (Gives.c (part_calls _ _ _)).mono ?_); rintro e w2 ⟨rfl, hb⟩; have J := hI.next hb; clear hb q4 q5)
  clear hI
  have hB9 := Lib.hid (Blk.new w2 [.int .i64 0, .int .i64 dd] 24)
  go_loopw [19] (fun i wr => ∃ (k : Nat) (m : Int), k ≤ n ∧ i = .int .i64 k ∧ (0 ≤ m ∧ m ≤ 4000000000000000) ∧ Aside ((l.drop k).foldl (errStep gn gd on od) m = T) ∧ Aside (Blk wr w2.heap.size [.int .i64 m, .int .i64 dd]) ∧ Aside (Below w2.heap.size w2 wr)) (fun i _ => n - (intOf i).toNat)
  case atStart => exact ⟨0, 0, Nat.zero_le _, rfl, by omega, by rw [List.drop_zero]; exact HT.out, hB9.out, (Below.refl _ _).alloc (Nat.le_refl _) _⟩
  case round =>
    obtain ⟨k, m, hk, rfl, hm, HCC, H9, HB⟩ := hrel
    clear hB9
    have K := J.next HB.out
    have q9 := H9.out.two
    have z9 := H9.out.lt
    have f9 := H9.out.free2
    by_cases hlt : k < n
    · have hlt' : (k : Int) < (n : Int) := by omega
      have hw1 : IntKind.i64.wrap ((k : Int) + 1) = (k : Int) + 1 := i64_in (by omega) (by omega)
      have q4 := K.now.1.1.2.two
      have q5 := K.now.1.2.two
      have z4 := K.now.1.1.2.lt
      have z5 := K.now.1.2.lt
      have hx := K.now.1.1.1.2.at hlt
      have hT := HCC.out
      rw [errStep_at (by have := HLN.out; omega)] at hT
      have hbd := HLD.out k hlt
      have htm := HNN.out.want k (by have := HLN.out; omega)
      clear HCC
      generalize hmx : errStep gn gd on od m (cAt l k) = m' at hT
      unfold errStep loudF at hmx
      generalize cAt l k = cc at hx hmx hbd htm
      obtain ⟨s, lo, hi⟩ := cc
      dsimp only at hx hmx hbd htm
      rw [hdd'] at hmx
      have m1 := mul_bd (a := lo) (b := dd) (A := 50) (B := 64) (by omega) (by omega) (by omega) (by omega)
      have m2 := mul_bd (a := hi) (b := dd) (A := 50) (B := 64) (by omega) (by omega) (by omega) (by omega)
      have v1 : IntKind.i64.wrap (gn * s) = gn * s := i64_in (by omega) (by omega)
      have v2 : IntKind.i64.wrap (gn * s * od) = gn * s * od := i64_in (by omega) (by omega)
      have v3 : IntKind.i64.wrap (on * gd) = on * gd := i64_in (by omega) (by omega)
      generalize hL : gn * s * od + on * gd = L at hmx
      have v4 : IntKind.i64.wrap (gn * s * od + on * gd) = L := by rw [hL, i64_w]; exact w64_in (by omega) (by omega)
      have v5 : IntKind.i64.wrap (lo * dd) = lo * dd := i64_in (by omega) (by omega)
      have v6 : IntKind.i64.wrap (hi * dd) = hi * dd := i64_in (by omega) (by omega)
      have v7 : IntKind.i64.wrap (L - lo * dd) = L - lo * dd := by rw [i64_w]; exact w64_in (by omega) (by omega)
      have v8 : IntKind.i64.wrap (hi * dd - L) = hi * dd - L := by rw [i64_w]; exact w64_in (by omega) (by omega)
      have hm2 : 0 ≤ m' ∧ m' ≤ 4000000000000000 := by rw [← hmx]; omega
      have HBX := Lib.hid ((H9.out.set 0 (by simp) (.int .i64 m')).alloc (.cells #[.int .i64 s, .int .i64 lo, .int .i64 hi] 68))
      have HT2 := Lib.hid hT
      have HBW := Lib.hid ((HB.out.setCell (p := ⟨w2.heap.size, 0, none⟩) (Nat.le_refl _) (.int .i64 m')).alloc (by simpa using HB.out.size) (.cells #[.int .i64 s, .int .i64 lo, .int .i64 hi] 68))
      clear hT m1 m2 hL htm hbd
      go_wp2_with fail
      go_roundw
      case rel => exact ⟨k + 1, m', hlt, by go_num, hm2, HT2.out, HBX.out, HBW.out⟩
      case measure => simp [intOf]; omega
    · obtain rfl : k = n := by omega
      have hT := HCC.out
      rw [List.drop_eq_nil_of_le (by have := HLN.out; omega)] at hT
      have hT : m = T := hT
      subst hT
      have q6 := K.now.2.two
      have f6 := K.now.2.free2
      have z6 := K.now.2.lt
      go_wp2_with fail
      have k2 := (K.now.2.put2 (.int .i64 m) (.int .i64 dd)).two
      have kb := below2 K.now.1.1.1.1 (show w.heap.size ≤ w.heap.size + 1 + 1 by omega) (.int .i64 m) (.int .i64 dd)
      generalize World.setCell _ _ _ = wf at k2 kb ⊢
      refine bodyPost_ret (v := .agg #[.int .i64 m, .int .i64 dd]) (by simp [results, Try.results30, go_sem, k2]) rfl ⟨rfl, kb⟩
end Go.Proofs.Ytjncoableanmpaa
