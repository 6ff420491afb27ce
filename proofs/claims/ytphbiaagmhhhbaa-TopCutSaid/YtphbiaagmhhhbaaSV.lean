/- The contracts of numbers and of S. -/
import Derived.Test.YtphbiaagmhhhbaaSU
namespace Go.Proofs.Ytphbiaagmhhhbaa
open Go.RowKit Go.Lib Go.Shelf

theorem numbers_calls (A B : Option Addr) (n m ca cb : Nat) (a b : List Int) (w : World) (ha : Reads w A n a) (hb : Reads w B m b) :
    Gives 35 #[.slice A n ca, .slice B m cb] (.bool (decide (a = b))) w := by
  unfold Gives
  have h1 := ha.1
  have h2 := hb.1
  have h3 := ha.2.1
  generalize hd : decide (a = b) = d
  by_cases hne : n = m
  · subst hne
    have HA := Lib.hid ha
    have HB := Lib.hid hb
    have HD := Lib.hid hd
    have hneq : (((n : Int)) != n) = false := by simp
    clear ha hb hd
    go_enter Try.func35, Try.ntmps35
    go_wp2
    go_loopw [5] (fun i wr => ∃ k : Nat, k ≤ n ∧ i = .int .i64 k ∧ Aside (∀ j, j < k → a[j]?.getD 0 = b[j]?.getD 0) ∧ Aside (Below w.heap.size w wr))
      (fun i _ => n - (intOf i).toNat)
    case atStart => exact ⟨0, Nat.zero_le _, rfl, fun j hj => by omega, Below.refl _ _⟩
    case round =>
      obtain ⟨k, hk, rfl, HQ, HW⟩ := hrel
      by_cases hlt : k < n
      · have hlt' : (k : Int) < (n : Int) := by omega
        have hw2 : IntKind.i64.wrap ((k : Int) + 1) = (k : Int) + 1 := by rw [i64_w]; exact w64_in (by omega) (by omega)
        have ra := HA.out.later HW.out
        have rb := HB.out.later HW.out
        obtain ⟨ba, oa, rfl, ca⟩ := ra.2.2 (by omega)
        obtain ⟨bb, ob, rfl, cb⟩ := rb.2.2 (by omega)
        have ea := ca k hlt
        have eb := cb k hlt
        clear ca cb ra rb
        generalize hu : a[k]?.getD 0 = u at ea
        generalize hv : b[k]?.getD 0 = v at eb
        have HU := Lib.hid hu
        have HV := Lib.hid hv
        clear hu hv
        by_cases huv : u = v
        · have e1 : (u != v) = false := by simp [huv]
          have HE := Lib.hid huv
          clear huv
          go_wp2
          go_quiet (fail)
          go_wp2
          go_roundw
          case measure => simp [intOf]; omega
          case rel =>
            refine ⟨k + 1, by omega, by go_num, ?_, below_drewN' HW.out _⟩
            intro j hj
            by_cases hjk : j = k
            · subst hjk; rw [HU.out, HV.out]; exact HE.out
            · exact HQ.out j (by omega)
        · have e1 : (u != v) = true := by simp [huv]
          have hdf : d = false := by
            rw [← HD.out, decide_eq_false_iff_not]
            intro hab
            apply huv
            rw [← HU.out, ← HV.out, hab]
          subst hdf
          clear huv
          go_wp2
          go_quiet (fail)
          go_wp2
          go_ret
          exact ⟨rfl, below_drewN' HW.out _⟩
      · obtain rfl : k = n := by omega
        have hdt : d = true := by
          rw [← HD.out, decide_eq_true_eq]
          apply List.ext_getElem (by omega)
          intro j hj1 hj2
          have := HQ.out j (by omega)
          rw [List.getElem?_eq_getElem hj1, List.getElem?_eq_getElem hj2] at this
          exact this
        subst hdt
        go_wp2
        go_ret
        exact ⟨rfl, HW.out⟩
  · have hdf : d = false := by
      rw [← hd, decide_eq_false_iff_not]
      intro hab
      rw [hab] at h1
      omega
    subst hdf
    have hneq : (((n : Int)) != m) = true := bne_iff_ne.2 (by omega)
    clear ha hb hd
    go_enter Try.func35, Try.ntmps35
    go_wp2
    go_ret
    exact ⟨rfl, Below.refl _ _⟩

theorem S_calls (w : World) : Gives 49 #[] (.agg #[.int .i64 100, .int .i64 10, .int .i64 3, .int .i64 5]) w := by
  unfold Gives
  go_enter Try.func49, Try.ntmps49
  go_wp2
  have K := (Blk.new w [.int .i64 100, .int .i64 10, .int .i64 3, .int .i64 5] 28).four
  refine bodyPost_ret (v := .agg #[.int .i64 100, .int .i64 10, .int .i64 3, .int .i64 5]) (by simp [results, Try.results49, go_sem]) rfl ⟨rfl, ?_⟩
  exact (Below.refl _ _).alloc (Nat.le_refl _) _

/-- What holds now and after whatever leaves these blocks as they are. -/
def Held (w : World) (P : World → Prop) : Prop := ∀ W, Below w.heap.size w W → P W
theorem Held.now {w : World} {P : World → Prop} (h : Held w P) : P w := h w (Below.refl _ _)
theorem Held.next {w w1 : World} {P : World → Prop} (h : Held w P) (hb : Below w.heap.size w w1) : Held w1 P := fun W hW => h W (hb.trans (hW.mono hb.size))
theorem Held.with {w : World} {P Q : World → Prop} (h : Held w P) (hq : Held w Q) : Held w (fun W => P W ∧ Q W) := fun W hW => ⟨h W hW, hq W hW⟩
theorem Held.blk {w : World} {B : Nat} {cs : List Value} (h : Blk w B cs) : Held w (fun W => Blk W B cs) := fun _ hW => h.later hW
theorem Held.reads {w : World} {A : Option Addr} {n : Nat} {l : List Int} (h : Reads w A n l) : Held w (fun W => Reads W A n l) := fun _ hW => h.later hW
theorem Held.readsM {w : World} {A : Option Addr} {n : Nat} {l : List (Int × Int)} (h : ReadsM w A n l) : Held w (fun W => ReadsM W A n l) := fun _ hW => h.later hW
theorem Held.from {w0 w : World} {b : Nat} (h : Below b w0 w) (hw : b ≤ w.heap.size) : Held w (fun W => Below b w0 W) := fun _ hW => h.trans (hW.mono hw)
theorem Held.alloc {w : World} {P : World → Prop} (h : Held w P) (o : Obj) : Held (w.alloc o) P := h.next ((Below.refl _ _).alloc (Nat.le_refl _) _)
theorem Held.allocB {w : World} {P : World → Prop} (h : Held w P) (cs : List Value) (t : TypeId) : Held (w.alloc (.cells cs.toArray t)) (fun W => P W ∧ Blk W w.heap.size cs) := (h.alloc _).with (.blk (Blk.new w cs t))

theorem reads3 (w : World) (a b c : Int) (t : TypeId) : Reads (w.alloc (.cells #[.int .i64 a, .int .i64 b, .int .i64 c] t)) (some ⟨w.heap.size, 0, none⟩) 3 [a, b, c] := by
  have k := Blk.new w [.int .i64 a, .int .i64 b, .int .i64 c] t
  refine ⟨rfl, by omega, fun _ => ⟨_, 0, rfl, fun j hj => ?_⟩⟩
  have : j = 0 ∨ j = 1 ∨ j = 2 := by omega
  rcases this with rfl | rfl | rfl
  · exact k.cell 0 _ rfl
  · exact k.cell 1 _ rfl
  · exact k.cell 2 _ rfl
theorem readsM2 {w : World} {B : Nat} {a b c d : Int} (k : Blk w B [.int .i64 a, .int .i64 b, .int .i64 c, .int .i64 d]) : ReadsM w (some ⟨B, 0, none⟩) 2 [(a, b), (c, d)] := by
  refine ⟨rfl, by omega, fun _ => ⟨_, 0, rfl, fun j hj => ?_⟩⟩
  have : j = 0 ∨ j = 1 := by omega
  rcases this with rfl | rfl
  · exact ⟨k.cell 0 _ rfl, k.cell 1 _ rfl⟩
  · exact ⟨k.cell 2 _ rfl, k.cell 3 _ rfl⟩

theorem ex_length : lengthF 100 10 3 5 4 = (418, 430, 0) := by decide +kernel
theorem ex_place : placeF 100 10 3 5 25 = (256, 260, 0) := by decide +kernel
theorem ex_arrival : arrivalF 100 10 3 5 249 = (24, 25, 0) := by decide +kernel
theorem ex_cut : cutF 100 10 3 5 4 [0, 10, 25] = ([0, 100, 258], 0) := by decide +kernel
theorem ex_play : playF 100 10 3 5 4 [0, 100, 258] = ([0, 10, 25], 0) := by decide +kernel
theorem ex_drift : driftF 100 10 3 5 4 25 = (25, 26, 0) := by decide +kernel
theorem ex_govern : governF 100 10 3 5 4 3 = ([10, 10, 11], 0) := by decide +kernel
theorem ex_growths : growthsF 100 10 3 5 1 [(2, 204), (4, 424)] = (4, 4, 0) := by decide +kernel
theorem ex_growths2 : growthsF 100 10 3 5 1 [(2, 206), (4, 418)] = (0, 0, 15) := by decide +kernel
theorem ex_clash : clashF 100 10 3 5 1 [(2, 206), (4, 418)] = ([0, 1], 0) := by decide +kernel
theorem ex_verify : verifyF 100 10 3 5 1 [(2, 206), (4, 418)] [0, 1] = 0 := by decide +kernel
end Go.Proofs.Ytphbiaagmhhhbaa
