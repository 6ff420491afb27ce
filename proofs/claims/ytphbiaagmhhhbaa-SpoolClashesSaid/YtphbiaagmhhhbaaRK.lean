/- The contract of the reference's fitting: all growths are tried. -/
import Derived.Test.YtphbiaagmhhhbaaRJ
namespace Go.Proofs.Ytphbiaagmhhhbaa
open Go.RowKit Go.Lib Go.Shelf

/-- A growth fits the first k measurements. -/
def fitB (c off g : Int) (l : List (Int × Int)) : Nat → Bool
  | 0 => true
  | k + 1 => fitB c off g l k && btw ((mAt l k).2 - off) (len c g (mAt l k).1) ((mAt l k).2 + off)
theorem fitB_iff {c off g : Int} {l : List (Int × Int)} (k : Nat) : fitB c off g l k = true ↔ ∀ i, i < k → Fits c off g (mAt l i) := by
  induction k with
  | zero => simp [fitB]
  | succ k ih =>
    simp only [fitB, Bool.and_eq_true, ih]
    have hb : btw ((mAt l k).2 - off) (len c g (mAt l k).1) ((mAt l k).2 + off) = true ↔ Fits c off g (mAt l k) := by
      unfold btw Fits; simp
    rw [hb]
    constructor
    · rintro ⟨h1, h2⟩ i hi
      by_cases e : i = k
      · rw [e]; exact h2
      · exact h1 i (by omega)
    · intro h
      exact ⟨fun i hi => h i (by omega), h k (by omega)⟩

/-- The least and the greatest growth among k ones from lo on that fit; Lo is above Hi: there are none. -/
def fitGo (c lo off : Int) (l : List (Int × Int)) : Nat → Int × Int
  | 0 => (1, 0)
  | k + 1 => if fitB c off (lo + k) l l.length then (if (fitGo c lo off l k).2 < (fitGo c lo off l k).1 then lo + k else (fitGo c lo off l k).1, lo + k) else fitGo c lo off l k
def fittingF (c lo hi off : Int) (l : List (Int × Int)) : Int × Int := fitGo c lo off l (hi + 1 - lo).toNat

theorem Blk.set0 {w : World} {B : Nat} {a b : Value} (h : Blk w B [a, b]) (x : Value) : Blk (w.setCell ⟨B, 0, none⟩ x) B [x, b] := h.set 0 (by simp) x
theorem Blk.set1 {w : World} {B : Nat} {a b : Value} (h : Blk w B [a, b]) (x : Value) : Blk (w.setCell ⟨B, 1, none⟩ x) B [a, x] := h.set 1 (by simp) x

/-- What a round of fitting finds. -/
structure FI (w : World) (c t lo hi : Int) (L H : Int) (W : World) : Prop where
  below : Below w.heap.size w W
  s : Blk W w.heap.size [.int .i64 c, .int .i64 t, .int .i64 lo, .int .i64 hi]
  r : Blk W (w.heap.size + 1) [.int .i64 0, .int .i64 0]
  o : Blk W (w.heap.size + 1 + 1) [.int .i64 L, .int .i64 H]
theorem FI.next {w : World} {c t lo hi L H : Int} {W W' : World} (h : FI w c t lo hi L H W) (hb : Below W.heap.size W W') : FI w c t lo hi L H W' :=
  ⟨h.below.trans (hb.mono h.below.size), h.s.later hb, h.r.later hb, h.o.later hb⟩
theorem FI.set0 {w : World} {c t lo hi L H x : Int} {W : World} (h : FI w c t lo hi L H W) : FI w c t lo hi x H (W.setCell ⟨w.heap.size + 1 + 1, 0, none⟩ (.int .i64 x)) :=
  ⟨h.below.setCell (by simp; omega) _, h.s.other (by omega) _ _, h.r.other (by omega) _ _, h.o.set0 _⟩
theorem FI.set1 {w : World} {c t lo hi L H x : Int} {W : World} (h : FI w c t lo hi L H W) : FI w c t lo hi L x (W.setCell ⟨w.heap.size + 1 + 1, 1, none⟩ (.int .i64 x)) :=
  ⟨h.below.setCell (by simp; omega) _, h.s.other (by omega) _ _, h.r.other (by omega) _ _, h.o.set1 _⟩

set_option maxRecDepth 100000 in
set_option maxHeartbeats 8000000 in
theorem rfitting_calls {c t lo hi off : Int} {A : Option Addr} {n cap : Nat} {l : List (Int × Int)} {L H : Int} (hr : fittingF c lo hi off l = (L, H)) (w : World) (hs : Sound c t lo hi) (hf : ∀ i, FineM off (mAt l i).1 (mAt l i).2) (hl : ReadsM w A n l) :
    Gives 73 #[.agg #[.int .i64 c, .int .i64 t, .int .i64 lo, .int .i64 hi], .int .i64 off, .slice A n cap] (.agg #[.int .i64 L, .int .i64 H]) w := by
  unfold Gives
  have hlh := hs.2.2.2.1
  have hl0 := hs.2.2.1
  have hh1 := hs.2.2.2.2
  have hlen := hl.1
  have hmax := hl.2.1
  have hcall : ∀ g i W, lo ≤ g → g ≤ hi → Gives 63 #[.agg #[.int .i64 c, .int .i64 t, .int .i64 lo, .int .i64 hi], .int .i64 g, .int .i64 (mAt l i).1] (.int .i64 (len c g (mAt l i).1)) W := fun g i W h0 h1 => rlength_calls (by have := hs.1; omega) hs.1.2 (by omega) (by omega) (hf i).1.1 (by have := (hf i).1.2; omega) W
  have hwr : ∀ i, IntKind.i64.wrap ((mAt l i).2 - off) = (mAt l i).2 - off ∧ IntKind.i64.wrap ((mAt l i).2 + off) = (mAt l i).2 + off := fun i => by
    obtain ⟨_, h2, h3⟩ := hf i
    constructor <;> (rw [i64_w]; exact w64_in (by omega) (by omega))
  have HC := Lib.hid hcall
  have HW := Lib.hid hwr
  have HL := Lib.hid hl
  have HR := Lib.hid hr
  have i0 : FI w c t lo hi 1 0 (((w.alloc (.cells #[Value.int .i64 c, .int .i64 t, .int .i64 lo, .int .i64 hi] 43)).alloc (.cells #[Value.int .i64 0, .int .i64 0] 26)).alloc (.cells #[Value.int .i64 1, .int .i64 0] 26)) := by
    have b3 : Below w.heap.size w (((w.alloc (.cells [Value.int .i64 c, .int .i64 t, .int .i64 lo, .int .i64 hi].toArray 43)).alloc (.cells [Value.int .i64 0, .int .i64 0].toArray 26)).alloc (.cells [Value.int .i64 1, .int .i64 0].toArray 26)) := (((Below.refl _ _).alloc (Nat.le_refl _) _).alloc (by simp) _).alloc (by simp; omega) _
    have kr : Blk ((w.alloc (.cells [Value.int .i64 c, .int .i64 t, .int .i64 lo, .int .i64 hi].toArray 43)).alloc (.cells [Value.int .i64 0, .int .i64 0].toArray 26)) (w.heap.size + 1) [.int .i64 0, .int .i64 0] := by simpa using Blk.new (w.alloc (.cells [Value.int .i64 c, .int .i64 t, .int .i64 lo, .int .i64 hi].toArray 43)) [.int .i64 0, .int .i64 0] 26
    have ko : Blk (((w.alloc (.cells [Value.int .i64 c, .int .i64 t, .int .i64 lo, .int .i64 hi].toArray 43)).alloc (.cells [Value.int .i64 0, .int .i64 0].toArray 26)).alloc (.cells [Value.int .i64 1, .int .i64 0].toArray 26)) (w.heap.size + 1 + 1) [.int .i64 1, .int .i64 0] := by simpa using Blk.new ((w.alloc (.cells [Value.int .i64 c, .int .i64 t, .int .i64 lo, .int .i64 hi].toArray 43)).alloc (.cells [Value.int .i64 0, .int .i64 0].toArray 26)) [.int .i64 1, .int .i64 0] 26
    exact ⟨b3, ((Blk.new w _ 43).alloc _).alloc _, kr.alloc _, ko⟩
  clear hs hf hcall hwr hl hr
  go_enter Try.func73, Try.ntmps73
  go_wp2_with fail
  generalize World.alloc _ _ = W0 at i0 ⊢
  go_loopw [8] (fun g wr => ∃ k : Nat, lo + k ≤ hi + 1 ∧ g = .int .i64 (lo + k) ∧ Aside (FI w c t lo hi (fitGo c lo off l k).1 (fitGo c lo off l k).2 wr)) (fun g _ => (hi + 1 - intOf g).toNat)
  case atStart => exact ⟨0, by omega, by simp, i0⟩
  case round =>
    clear i0
    obtain ⟨k, hk, rfl, HF⟩ := hrel
    have q1 := HF.out.s.four
    by_cases hlt : lo + (k : Int) ≤ hi
    · have hw1 : IntKind.i64.wrap (lo + (k : Int) + 1) = lo + (k : Int) + 1 := by rw [i64_w]; exact w64_in (by omega) (by omega)
      have hstep : fitGo c lo off l (k + 1) = if fitB c off (lo + k) l l.length then (if (fitGo c lo off l k).2 < (fitGo c lo off l k).1 then lo + k else (fitGo c lo off l k).1, lo + k) else fitGo c lo off l k := rfl
      generalize fitGo c lo off l k = LH at HF hstep
      obtain ⟨L1, H1⟩ := LH
      have HS := Lib.hid hstep
      clear hstep
      have HF2 : Aside (FI w c t lo hi L1 H1 wr) := HF
      clear HF
      obtain ⟨wo, hwo⟩ : ∃ x, x = wr := ⟨_, rfl⟩
      subst hwo
      go_wp2_with fail
      go_loopw [9, 10] (fun f i WZ => ∃ j : Nat, j ≤ n ∧ i = .int .i64 j ∧ f = .bool (fitB c off (lo + k) l j) ∧ Aside (Below wo.heap.size wo WZ)) (fun _ i _ => n - (intOf i).toNat)
      case atStart => exact ⟨0, Nat.zero_le _, rfl, rfl, Below.refl _ _⟩
      case round =>
        clear q1
        obtain ⟨j, hj, rfl, rfl, HB⟩ := hrel
        have F2 := HF2.out.next HB.out
        have HFF := Lib.hid F2
        clear F2
        have q1 := HFF.out.s.four
        by_cases hlj : j < n
        · have hlj' : (j : Int) < (n : Int) := by omega
          have hw2 : IntKind.i64.wrap ((j : Int) + 1) = (j : Int) + 1 := by rw [i64_w]; exact w64_in (by omega) (by omega)
          have ra := HL.out.later HFF.out.below
          obtain ⟨b, o, rfl, hc⟩ := ra.2.2 (by omega)
          obtain ⟨hc1, hc2⟩ := hc j hlj
          change wr.cell? _ = some (.int .i64 (mAt l j).1) at hc1
          change wr.cell? _ = some (.int .i64 (mAt l j).2) at hc2
          have hfs : fitB c off (lo + k) l (j + 1) = (fitB c off (lo + k) l j && btw ((mAt l j).2 - off) (len c (lo + k) (mAt l j).1) ((mAt l j).2 + off)) := rfl
          have hwj := HW.out j
          have hcl := fun W => HC.out (lo + k) j W (by omega) (by omega)
          generalize (mAt l j).1 = x at hc1 hfs hcl
          generalize (mAt l j).2 = y at hc2 hfs hwj
          obtain ⟨hwa, hwb⟩ := hwj
          have HCL := Lib.hid hcl
          have HFS := Lib.hid hfs
          clear hfs hcl hc ra
          have hS1 : ∀ W, Below wr.heap.size wr W → Below wr.heap.size wr W ∧ (W.cell? ⟨w.heap.size, 0, none⟩ = some (.int .i64 c) ∧ W.cell? ⟨w.heap.size, 1, none⟩ = some (.int .i64 t) ∧ W.cell? ⟨w.heap.size, 2, none⟩ = some (.int .i64 lo) ∧ W.cell? ⟨w.heap.size, 3, none⟩ = some (.int .i64 hi)) ∧ W.cell? ⟨b, o + j * 2, none⟩ = some (.int .i64 x) ∧ W.cell? ⟨b, o + j * 2 + 1, none⟩ = some (.int .i64 y) := fun W hW => ⟨hW, (HFF.out.next hW).s.four, (hW.cell (p := ⟨b, o + j * 2, none⟩) (World.block_lt_of_cell? wr _ hc1)).trans hc1, (hW.cell (p := ⟨b, o + j * 2 + 1, none⟩) (World.block_lt_of_cell? wr _ hc2)).trans hc2⟩
          have HS1 := Lib.hid hS1
          clear hS1
          cases hfb : fitB c off (lo + k) l j with
          | true =>
            go_wp2
            go_region_held3 (fun W => Below wr.heap.size wr W ∧ (W.cell? ⟨w.heap.size, 0, none⟩ = some (.int .i64 c) ∧ W.cell? ⟨w.heap.size, 1, none⟩ = some (.int .i64 t) ∧ W.cell? ⟨w.heap.size, 2, none⟩ = some (.int .i64 lo) ∧ W.cell? ⟨w.heap.size, 3, none⟩ = some (.int .i64 hi)) ∧ W.cell? ⟨b, o + j * 2, none⟩ = some (.int .i64 x) ∧ W.cell? ⟨b, o + j * 2 + 1, none⟩ = some (.int .i64 y))
              (first
                | assumption
                | exact HS1.out _ hb2
                | exact HS1.out _ (below_drewN' (Below.refl _ _) 1)
                | fail)
              (first
                | (go_at_call 63; (with_reducible refine (Gives.c (HCL.out _)).mono ?_); rintro e w2 ⟨rfl, hb0⟩; have hb2 : Below wr.heap.size wr w2 := (Below.refl wr.heap.size wr).drew.trans hb0)
                | (go_at_call 62; (with_reducible refine (is_calls _ _ _ _).mono ?_); rintro e w3 ⟨rfl, rfl⟩)
                | fail)
            rename_i hh
            have hfs := HFS.out
            rw [hfb, Bool.true_and] at hfs
            have hbb := hh.1
            clear hh hb0 hc1 hc2 q1
            go_wp2
            go_roundw
            case measure => simp [intOf]; omega
            case rel => exact ⟨j + 1, by omega, by go_num, by rw [hfs], HB.out.trans (hbb.mono HB.out.size)⟩
          | false =>
            go_wp2
            go_quiet (fail)
            go_wp2
            have hfs := HFS.out
            rw [hfb, Bool.false_and] at hfs
            go_roundw
            case measure => simp [intOf]; omega
            case rel => exact ⟨j + 1, by omega, by go_num, by rw [hfs], below_drewN' HB.out _⟩
        · obtain rfl : j = n := by omega
          have o1 := HFF.out.o.two
          have o2 := HFF.out.o.free2
          have o3 := HFF.out.o.lt
          have hst := HS.out
          rw [hlen] at hst
          generalize fitB c off (lo + k) l j = fb at hst
          cases fb with
          | true =>
            rw [if_pos rfl] at hst
            by_cases hHL : H1 < L1
            · rw [if_pos hHL] at hst
              have HST := Lib.hid hst
              clear hst
              go_wp2
              go_roundw
              case measure => simp [intOf]; omega
              case rel =>
                refine ⟨k + 1, by omega, by go_num, ?_⟩
                show Aside _
                rw [HST.out]
                exact HFF.out.set0.set1
            · rw [if_neg hHL] at hst
              have HST := Lib.hid hst
              clear hst
              go_wp2
              go_roundw
              case measure => simp [intOf]; omega
              case rel =>
                refine ⟨k + 1, by omega, by go_num, ?_⟩
                show Aside _
                rw [HST.out]
                exact HFF.out.set1
          | false =>
            rw [if_neg (by decide)] at hst
            have HST := Lib.hid hst
            clear hst
            go_wp2
            go_roundw
            case measure => simp [intOf]; omega
            case rel =>
              refine ⟨k + 1, by omega, by go_num, ?_⟩
              show Aside _
              rw [HST.out]
              exact HFF.out
    · have hkk : k = (hi + 1 - lo).toNat := by omega
      have hLH : fitGo c lo off l k = (L, H) := by rw [hkk]; exact HR.out
      have HF2 := HF.out
      rw [hLH] at HF2
      have o1 := HF2.o.two
      have r1 := HF2.r.two
      have r2 := HF2.r.free2
      have r3 := HF2.r.lt
      have BB := Lib.hid HF2.below
      clear HF HF2 hLH
      go_wp2
      have r := put2 (a := .int .i64 L) (b := .int .i64 H) r1.1 r1.2
      refine bodyPost_ret (v := .agg #[.int .i64 L, .int .i64 H]) (by simp [results, Try.results73, go_sem, r.1, r.2]) rfl ⟨rfl, ?_⟩
      exact below2 BB.out (by omega) _ _
end Go.Proofs.Ytphbiaagmhhhbaa
