/- The contracts of the reference's Clash (its error) and Verify. -/
import Derived.Test.YtphbiaagmhhhbaaRM
namespace Go.Proofs.Ytphbiaagmhhhbaa
open Go.RowKit Go.Lib Go.Shelf

theorem readsM2_at (w : World) (a b c d : Int) (t : TypeId) (B : Nat) (hB : w.heap.size = B) : ReadsM (w.alloc (.cells #[.int .i64 a, .int .i64 b, .int .i64 c, .int .i64 d] t)) (some ⟨B, 0, none⟩) 2 [(a, b), (c, d)] := by
  subst hB
  exact readsM2 (Blk.new w [.int .i64 a, .int .i64 b, .int .i64 c, .int .i64 d] t)

/-- A list and an error are handed back: the error. -/
def ErrOut (x : Int) (w : World) (e : Ending) (w' : World) : Prop := (∃ A n c, e = .returned (.tuple #[.slice A n c, .int .i64 x])) ∧ Below w.heap.size w w'

theorem clash_err0 {c t lo hi off : Int} {l : List (Int × Int)} (hz : measF c t lo hi off l = 0) :
    ((∃ i k, i < l.length ∧ k ≤ i ∧ Bad2 c lo hi off l i k) → (clashF c t lo hi off l).2 = 0) ∧ (¬ (∃ i k, i < l.length ∧ k ≤ i ∧ Bad2 c lo hi off l i k) → (clashF c t lo hi off l).2 = 8) := by
  obtain ⟨hs, _, _, hf⟩ := fine_at hz
  have h := clash_iff (c := c) (lo := lo) (hi := hi) (off := off) (l := l) hs.2.2.2.1 (fun i => (hf i).1.1)
  unfold clashF
  rw [if_pos hz, ← h]
  constructor
  · intro hh
    rw [if_neg (by omega)]
  · intro hh
    rw [if_pos (by omega)]

set_option maxRecDepth 100000 in
set_option maxHeartbeats 8000000 in
theorem rClash_yes {c t lo hi off R : Int} {A : Option Addr} {n cap : Nat} {l : List (Int × Int)} (hz : measF c t lo hi off l = 0) (hR : (clashF c t lo hi off l).2 = R) (w : World) (hl : ReadsM w A n l) :
    Calls Try.prog 42 #[.agg #[.int .i64 c, .int .i64 t, .int .i64 lo, .int .i64 hi], .int .i64 off, .slice A n cap] w (ErrOut R w) := by
  obtain ⟨hs, _, hmax, hf⟩ := fine_at hz
  have hlen := hl.1
  have hc0 := clash_err0 hz
  rw [hR, hlen] at hc0
  have HC := Lib.hid hc0
  have HL := Lib.hid hl
  have HZ := Lib.hid hz
  have HS := Lib.hid hs
  have HF := Lib.hid hf
  rw [hlen] at hmax
  clear hz hl hs hf hR hc0
  have I : Held (w.alloc (.cells [Value.int .i64 c, .int .i64 t, .int .i64 lo, .int .i64 hi].toArray 43)) (fun W => Below w.heap.size w W ∧ Blk W w.heap.size [.int .i64 c, .int .i64 t, .int .i64 lo, .int .i64 hi]) := .start (.from (Below.refl _ _) (Nat.le_refl _)) _ _
  go_enter Try.func42, Try.ntmps42
  go_wp2_with (go_at_call 72; (with_reducible refine (Gives.c (rmeasured_calls _ _ _ _ _ _ _ _ _ _ (HL.out.later I.now.1))).mono ?_); rintro e w1 ⟨rfl, hb⟩; rw [HZ.out]; replace I := I.next hb; clear hb)
  go_loopw [9] (fun i wr => ∃ a : Nat, a ≤ n ∧ i = .int .i64 a ∧ Aside (∀ i k, i < a → k ≤ i → ¬ Bad2 c lo hi off l i k) ∧ Aside (Below w1.heap.size w1 wr)) (fun i _ => n - (intOf i).toNat)
  case atStart => exact ⟨0, Nat.zero_le _, rfl, fun i k h _ => by omega, Below.refl _ _⟩
  case round =>
    obtain ⟨a, ha, rfl, HQ, HB⟩ := hrel
    by_cases hlt : a < n
    · have hlt' : (a : Int) < (n : Int) := by omega
      have hw1 : IntKind.i64.wrap ((a : Int) + 1) = (a : Int) + 1 := by rw [i64_w]; exact w64_in (by omega) (by omega)
      obtain ⟨wo, hwo⟩ : ∃ x, x = wr := ⟨_, rfl⟩
      subst hwo
      go_wp2_with fail
      go_loopw [10] (fun k wr => ∃ b : Nat, b ≤ a + 1 ∧ k = .int .i64 b ∧ Aside (∀ k, k < b → ¬ Bad2 c lo hi off l a k) ∧ Aside (Below wo.heap.size wo wr)) (fun k _ => a + 1 - (intOf k).toNat)
      case atStart => exact ⟨0, Nat.zero_le _, rfl, fun k h => by omega, Below.refl _ _⟩
      case round =>
        obtain ⟨b, hb, rfl, HQ2, HB2⟩ := hrel
        have HBB := Lib.hid (HB.out.trans (HB2.out.mono HB.out.size))
        have J := I.next HBB.out
        by_cases hlb : b ≤ a
        · have hlb' : (b : Int) ≤ (a : Int) := by omega
          have hw2 : IntKind.i64.wrap ((b : Int) + 1) = (b : Int) + 1 := by rw [i64_w]; exact w64_in (by omega) (by omega)
          have hbn : b < n := by omega
          have hbn' : (b : Int) < (n : Int) := by omega
          have q1 := J.now.2.four
          have ra := HL.out.later J.now.1
          obtain ⟨B, o, rfl, hc⟩ := ra.2.2 (by omega)
          obtain ⟨hc1, hc2⟩ := hc a hlt
          obtain ⟨hc3, hc4⟩ := hc b hbn
          change wr.cell? _ = some (.int .i64 (mAt l a).1) at hc1
          change wr.cell? _ = some (.int .i64 (mAt l a).2) at hc2
          change wr.cell? _ = some (.int .i64 (mAt l b).1) at hc3
          change wr.cell? _ = some (.int .i64 (mAt l b).2) at hc4
          have hfa := HF.out a
          have hfb := HF.out b
          have hbad : Bad2 c lo hi off l a b ↔ (fittingF c lo hi off [((mAt l a).1, (mAt l a).2), ((mAt l b).1, (mAt l b).2)]).2 < (fittingF c lo hi off [((mAt l a).1, (mAt l a).2), ((mAt l b).1, (mAt l b).2)]).1 := Iff.rfl
          generalize (mAt l a).1 = x1 at hc1 hfa hbad
          generalize (mAt l a).2 = x2 at hc2 hfa hbad
          generalize (mAt l b).1 = y1 at hc3 hfb hbad
          generalize (mAt l b).2 = y2 at hc4 hfb hbad
          generalize hfit : fittingF c lo hi off [(x1, x2), (y1, y2)] = LH at hbad
          obtain ⟨L, H⟩ := LH
          have HFIT := Lib.hid hfit
          have HBAD := Lib.hid hbad
          have hff : ∀ i, FineM off (mAt [(x1, x2), (y1, y2)] i).1 (mAt [(x1, x2), (y1, y2)] i).2 := by
            intro i
            match i with
            | 0 => exact hfa
            | 1 => exact hfb
            | i + 2 =>
              have e : mAt [(x1, x2), (y1, y2)] (i + 2) = (0, 0) := rfl
              rw [e]
              exact ⟨⟨by decide, by decide⟩, ⟨by decide, by decide⟩, hfa.2.2⟩
          have HFF := Lib.hid hff
          clear hfit hbad hff hfa hfb hc ra
          have hS1 : ∀ W, Below wr.heap.size wr W → Below wr.heap.size wr W ∧ (W.cell? ⟨w.heap.size, 0, none⟩ = some (.int .i64 c) ∧ W.cell? ⟨w.heap.size, 1, none⟩ = some (.int .i64 t) ∧ W.cell? ⟨w.heap.size, 2, none⟩ = some (.int .i64 lo) ∧ W.cell? ⟨w.heap.size, 3, none⟩ = some (.int .i64 hi)) ∧ W.cell? ⟨B, o + a * 2, none⟩ = some (.int .i64 x1) ∧ W.cell? ⟨B, o + a * 2 + 1, none⟩ = some (.int .i64 x2) ∧ W.cell? ⟨B, o + b * 2, none⟩ = some (.int .i64 y1) ∧ W.cell? ⟨B, o + b * 2 + 1, none⟩ = some (.int .i64 y2) :=
            fun W hW => ⟨hW, (J.next hW).now.2.four, (hW.cell (p := ⟨B, o + a * 2, none⟩) (World.block_lt_of_cell? wr _ hc1)).trans hc1, (hW.cell (p := ⟨B, o + a * 2 + 1, none⟩) (World.block_lt_of_cell? wr _ hc2)).trans hc2, (hW.cell (p := ⟨B, o + b * 2, none⟩) (World.block_lt_of_cell? wr _ hc3)).trans hc3, (hW.cell (p := ⟨B, o + b * 2 + 1, none⟩) (World.block_lt_of_cell? wr _ hc4)).trans hc4⟩
          have HS1 := Lib.hid hS1
          clear hS1
          go_wp2
          go_region_held3 (fun W => Below wr.heap.size wr W ∧ (W.cell? ⟨w.heap.size, 0, none⟩ = some (.int .i64 c) ∧ W.cell? ⟨w.heap.size, 1, none⟩ = some (.int .i64 t) ∧ W.cell? ⟨w.heap.size, 2, none⟩ = some (.int .i64 lo) ∧ W.cell? ⟨w.heap.size, 3, none⟩ = some (.int .i64 hi)) ∧ W.cell? ⟨B, o + a * 2, none⟩ = some (.int .i64 x1) ∧ W.cell? ⟨B, o + a * 2 + 1, none⟩ = some (.int .i64 x2) ∧ W.cell? ⟨B, o + b * 2, none⟩ = some (.int .i64 y1) ∧ W.cell? ⟨B, o + b * 2 + 1, none⟩ = some (.int .i64 y2))
            (first
              | exact HS1.out _ (below2 hb2 (by simp) _ _)
              | exact HS1.out _ (hb2.alloc hb2.size _)
              | exact HS1.out _ hb2
              | exact HS1.out _ ((((Below.refl wr.heap.size wr).alloc (Nat.le_refl _) _).alloc (by simp) _).drew)
              | exact HS1.out _ (((Below.refl wr.heap.size wr).alloc (Nat.le_refl _) _).drew)
              | exact HS1.out _ (below_drewN' (Below.refl _ _) 1)
              | fail)
            (first
              | (go_at_call 73; (with_reducible refine (Gives.c (rfitting_calls HFIT.out _ HS.out HFF.out ((readsM2_at wr _ _ _ _ _ _ rfl).later (Below.refl _ _).drew))).mono ?_); rintro e w2 ⟨rfl, hb0⟩; have hb2 : Below wr.heap.size wr w2 := ((Below.refl wr.heap.size wr).alloc (Nat.le_refl _) _).drew.trans (hb0.mono (by simp)))
              | (go_at_call 73; (with_reducible refine (Gives.c (rfitting_calls HFIT.out _ HS.out HFF.out ((readsM2_at wr _ _ _ _ _ _ rfl).later ((Below.refl _ _).alloc (Nat.le_refl _) _).drew))).mono ?_); rintro e w2 ⟨rfl, hb0⟩; have hb2 : Below wr.heap.size wr w2 := (((Below.refl wr.heap.size wr).alloc (Nat.le_refl _) _).alloc (by simp) _).drew.trans (hb0.mono (by simp; omega)); have kx : Blk w2 (wr.heap.size + 1) [.int .i64 0, .int .i64 0] := Blk.later (Blk.drew (by simpa using Blk.new (wr.alloc _) [.int .i64 0, .int .i64 0] 26)) hb0; have q3 := kx.two; have f3 := kx.free2)
              | (go_at_call 73; (with_reducible refine (Gives.c (rfitting_calls HFIT.out _ HS.out HFF.out ((readsM2_at (wr.alloc _) _ _ _ _ _ (wr.heap.size + 1) (by simp)).later (Below.refl _ _).drew))).mono ?_); rintro e w2 ⟨rfl, hb0⟩; have hb2 : Below wr.heap.size wr w2 := (((Below.refl wr.heap.size wr).alloc (Nat.le_refl _) _).alloc (by simp) _).drew.trans (hb0.mono (by simp; omega)); have kx : Blk w2 wr.heap.size [.int .i64 0, .int .i64 0] := Blk.later (Blk.drew (Blk.alloc (Blk.new wr [.int .i64 0, .int .i64 0] 26) _)) hb0; have q3 := kx.two; have f3 := kx.free2)
              | fail)
          all_goals (first
            | (have qx : (w2.alloc (.cells #[.int .i64 L, .int .i64 H] 26)).cell? ⟨w2.heap.size, 0, none⟩ = some (.int .i64 L) ∧ (w2.alloc (.cells #[.int .i64 L, .int .i64 H] 26)).cell? ⟨w2.heap.size, 1, none⟩ = some (.int .i64 H) := (Blk.new w2 [.int .i64 L, .int .i64 H] 26).two
               rename_i hh
               have hbb := hh.1
               clear hh
               generalize World.alloc _ _ = W3 at hbb qx ⊢)
            | (have qx := (kx.put2 (.int .i64 L) (.int .i64 H)).two
               rename_i hh
               have hbb := hh.1
               clear hh q3 f3 kx
               generalize World.setCell _ _ _ = W3 at hbb qx ⊢))
          all_goals (
            have HB3 := Lib.hid (HB2.out.trans (hbb.mono HB2.out.size))
            have JJ := Lib.hid (J.next hbb).now.1
            clear hbb hc1 hc2 hc3 hc4 q1 J hb0 hb2
            by_cases hLH : H < L
            · have hR0 : R = 0 := HC.out.1 ⟨a, b, hlt, hlb, HBAD.out.2 hLH⟩
              subst hR0
              by_cases hab : b = a
              · have hab' : ((b : Int) == (a : Int)) = true := by rw [hab]; simp
                go_wp2
                go_ret2
                exact ⟨⟨_, _, _, rfl⟩, JJ.out.alloc JJ.out.size _⟩
              · have hab' : ((b : Int) == (a : Int)) = false := beq_eq_false_iff_ne.2 (by omega)
                go_wp2
                go_ret2
                exact ⟨⟨_, _, _, rfl⟩, JJ.out.alloc JJ.out.size _⟩
            · have hNB : ∀ k, k < b + 1 → ¬ Bad2 c lo hi off l a k := fun k hk => by
                by_cases e : k = b
                · rw [e]; exact fun h => hLH (HBAD.out.1 h)
                · exact HQ2.out k (by omega)
              have HNB := Lib.hid hNB
              clear hNB
              go_wp2
              go_roundw
              case measure => simp [intOf]; omega
              case rel => exact ⟨b + 1, by omega, by go_num, HNB.out, HB3.out⟩)
        · have hb1 : b = a + 1 := by omega
          have hNA : ∀ i k, i < a + 1 → k ≤ i → ¬ Bad2 c lo hi off l i k := fun i k hi hk => by
            by_cases e : i = a
            · rw [e] at hk ⊢; exact HQ2.out k (by omega)
            · exact HQ.out i k (by omega) hk
          have HNA := Lib.hid hNA
          clear hNA J
          go_wp2
          go_roundw
          case measure => simp [intOf]; omega
          case rel => exact ⟨a + 1, by omega, by go_num, HNA.out, HBB.out⟩
    · obtain rfl : a = n := by omega
      have hR8 : R = 8 := HC.out.2 (by
        rintro ⟨i, k, h1, h2, h3⟩
        exact HQ.out i k h1 h2 h3)
      subst hR8
      go_wp2
      go_ret2
      exact ⟨⟨_, _, _, rfl⟩, (I.next HB.out).now.1⟩

theorem rClash_calls (c t lo hi off : Int) (A : Option Addr) (n cap : Nat) (l : List (Int × Int)) (w : World) (hl : ReadsM w A n l) :
    Calls Try.prog 42 #[.agg #[.int .i64 c, .int .i64 t, .int .i64 lo, .int .i64 hi], .int .i64 off, .slice A n cap] w (ErrOut (clashF c t lo hi off l).2 w) := by
  by_cases hz : measF c t lo hi off l = 0
  · exact rClash_yes hz rfl w hl
  · have e : (clashF c t lo hi off l).2 = measF c t lo hi off l := by unfold clashF; rw [if_neg hz]
    rw [e]
    generalize hm : measF c t lo hi off l = z at hz
    have HL := Lib.hid hl
    have HZ := Lib.hid hm
    have e0 : (z == 0) = false := beq_eq_false_iff_ne.2 hz
    have e1 : (z != 0) = true := bne_iff_ne.2 hz
    have I : Held (w.alloc (.cells [Value.int .i64 c, .int .i64 t, .int .i64 lo, .int .i64 hi].toArray 43)) (fun W => Below w.heap.size w W) := (Held.from (Below.refl _ _) (Nat.le_refl _)).alloc _
    clear hl hz hm e
    go_enter Try.func42, Try.ntmps42
    go_wp2_with (go_at_call 72; (with_reducible refine (Gives.c (rmeasured_calls _ _ _ _ _ _ _ _ _ _ (HL.out.later I.now))).mono ?_); rintro e w1 ⟨rfl, hb⟩; rw [HZ.out]; replace I := I.next hb; clear hb)
    go_ret2
    exact ⟨⟨_, _, _, rfl⟩, I.now⟩
end Go.Proofs.Ytphbiaagmhhhbaa
