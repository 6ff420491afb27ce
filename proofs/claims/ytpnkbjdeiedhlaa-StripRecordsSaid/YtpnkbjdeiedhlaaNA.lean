/- The laws' helpers: is a tube in a strip; the tubes whose bits are 1; the record of numbers. -/
import Derived.Test.YtpnkbjdeiedhlaaRW
import Derived.Test.YtpnkbjdeiedhlaaAR
import Derived.Laws.BitsLemmas
namespace Go.Proofs.Ytpnkbjdeiedhlaa
open Go.RowKit Go.Lib Go.Shelf
open St

set_option maxRecDepth 100000 in
theorem has_calls (A : Option Addr) (n c : Nat) (l : List Int) (t : Int) (w : World) (hl : Reads w A n l) :
    Quiet 43 #[.slice A n c, .int .i64 t] (.bool (decide (t ∈ l))) w := by
  unfold Quiet
  have hm := hl.2.1
  have hlen := hl.1
  have HL := Lib.hid hl
  clear hl
  generalize hd : decide (t ∈ l) = d
  have HD := Lib.hid hd
  clear hd
  go_enter Try.func43, Try.ntmps43
  go_wp2_with fail
  go_loop [9] (fun i => ∃ k : Nat, k ≤ n ∧ i = .int .i64 k ∧ Aside (∀ j, j < k → ¬ l[j]?.getD 0 = t)) (fun i => n - (intOf i).toNat)
  case atStart => exact ⟨0, Nat.zero_le _, rfl, fun j hj => absurd hj (Nat.not_lt_zero _)⟩
  case round =>
    obtain ⟨k, hk, rfl, HE⟩ := hrel
    by_cases hlt : k < n
    · have hlt' : (k : Int) < (n : Int) := by omega
      have hw1 : IntKind.i64.wrap ((k : Int) + 1) = (k : Int) + 1 := by rw [i64_w]; exact w64_in (by omega) (by omega)
      obtain ⟨b, off, e, hc⟩ := HL.out.2.2 (by omega)
      subst e
      have hc0 := hc k hlt
      have hmem : l[k]?.getD 0 ∈ l := by rw [List.getElem?_eq_getElem (by omega)]; exact List.getElem_mem _
      have hN : ¬ l[k]?.getD 0 = t → ∀ j, j < k + 1 → ¬ l[j]?.getD 0 = t := fun h j hj => by
        by_cases e : j = k
        · rw [e]; exact h
        · exact HE.out j (by omega)
      clear hc
      generalize l[k]?.getD 0 = x at hc0 hmem hN
      have HN := Lib.hid hN
      clear hN hlen
      by_cases hq : x = t
      · have hq1 : (x == t) = true := beq_iff_eq.2 hq
        have hdt : d = true := by rw [← HD.out, decide_eq_true_eq, ← hq]; exact hmem
        subst hdt
        clear hq hmem
        go_wp2_with fail
        go_ret
        exact ⟨rfl, rfl⟩
      · have hq1 : (x == t) = false := beq_eq_false_iff_ne.2 hq
        have HQ := Lib.hid (HN.out hq)
        clear hq hmem
        go_wp2_with fail
        go_round
        case measure => simp [intOf]; omega
        case rel => exact ⟨k + 1, by omega, by go_num, HQ.out⟩
    · obtain rfl : n = k := by omega
      have hdf : d = false := by
        rw [← HD.out, decide_eq_false_iff_not]
        intro hmem
        obtain ⟨j, hj, e⟩ := List.getElem_of_mem hmem
        refine HE.out j (by omega) ?_
        rw [List.getElem?_eq_getElem hj]
        exact e
      subst hdf
      go_wp2
      go_ret
      exact ⟨rfl, rfl⟩
/-- The bit of a tube. -/
def bit (b : Nat) (t : Int) : Bool := decide (b / 2 ^ t.toNat % 2 = 1)
theorem two63' : (2 : Int) ^ 63 = 9223372036854775808 := by decide
theorem and1 (i : Nat) (hi : i < 9223372036854775808) : bits BinOp.and IntKind.i64 (i : Int) 1 = ((i % 2 : Nat) : Int) := by
  have h := bits_mask .i64 63 (by decide) (fun n h0 h1 => by rw [two63'] at h1; rw [IntKind.wrap_i64]; omega) 1 (by decide) (i : Int) (by omega) (by rw [two63']; omega)
  have e : ((2 : Int) ^ 1 - 1) = 1 := by decide
  rw [e] at h
  rw [h]
  omega
/-- How the machine reckons the bit. -/
theorem bit_reckon {b k : Nat} (hb : b ≤ 1000000) : (b : Int) / 2 ^ k = ((b / 2 ^ k : Nat) : Int) ∧ bits BinOp.and IntKind.i64 ((b / 2 ^ k : Nat) : Int) 1 = ((b / 2 ^ k % 2 : Nat) : Int) := by
  refine ⟨?_, and1 _ ?_⟩
  · rw [Int.natCast_ediv, Int.natCast_pow]
    rfl
  · have := Nat.div_le_self b (2 ^ k)
    omega
set_option maxRecDepth 100000 in
theorem set_calls {n b : Nat} (hn : n ≤ 20) (hb : b ≤ 1000000) (w : World) :
    Calls Try.prog 40 #[.int .i64 (n : Int), .int .i64 (b : Int)] w fun e w' => ∃ A m c, e = .returned (.slice A m c) ∧ (Reads w' A m (segK (bit b) n) ∧ m ≤ c ∧ ∀ p, A = some p → w.heap.size ≤ p.block) ∧ Below w.heap.size w w' := by
  obtain ⟨i0, hi0, hz0, hz1, hz2⟩ := info_parts info3
  go_enter Try.func40, Try.ntmps40
  go_wp2_with fail
  go_loopw [5, 6] (fun s5 s6 wr => ∃ (k m : Nat), k ≤ n ∧ s6 = .int .i64 k ∧ m = (segK (bit b) k).length ∧ Aside (wr.ownsRow w.heap.size 3 1 s5 m (nums (segK (bit b) k))) ∧ Aside (Below w.heap.size w wr)) (fun _ s6 _ => n - (intOf s6).toNat)
  case atStart => exact ⟨0, 0, Nat.zero_le _, rfl, rfl, World.ownsRow_nil w _ 3 1, Below.refl _ _⟩
  case round =>
    obtain ⟨k, m, hk, rfl, hm, HO, HB⟩ := hrel
    by_cases hlt : k < n
    · have hlt' : (k : Int) < (n : Int) := by omega
      have hw1 : IntKind.i64.wrap ((k : Int) + 1) = (k : Int) + 1 := i64_in (by omega) (by omega)
      have hk64 : (k : Int) ≤ 64 := by omega
      obtain ⟨e1, e2⟩ := bit_reckon (b := b) (k := k) hb
      have hpl := segK_len (bit b) k
      rw [← hm] at hpl
      have hst : segK (bit b) (k + 1) = if bit b k then segK (bit b) k ++ [(k : Int)] else segK (bit b) k := rfl
      have hbt : bit b k = decide (b / 2 ^ k % 2 = 1) := by unfold bit; rw [Int.toNat_natCast]
      generalize segK (bit b) k = xs at HO hst hm
      generalize b / 2 ^ k = q at e1 e2 hbt
      generalize q % 2 = r at e2 hbt
      have HM := Lib.hid hm
      have hsz := HB.out.size
      clear hm
      by_cases hr : r = 1
      · have h1 : ((r : Int) == 1) = true := beq_iff_eq.2 (by omega)
        rw [hbt, decide_eq_true hr, if_pos rfl] at hst
        have HS := Lib.hid (show nums (segK (bit b) (k + 1)) = nums xs ++ [.int .i64 (k : Int)] by rw [hst, nums_snoc])
        have HL := Lib.hid (show m + 1 = (segK (bit b) (k + 1)).length by rw [hst, HM.out]; simp)
        clear hst hbt hr
        go_wp2_with (at_builtin; refine wpList_append_own _ rfl _ _ 31 rfl w.heap.size 3 i0 (.int .i64 0) 1 8 Try.underlying31 hi0 hz0 hz1 hz2 rfl (by decide) _ _ _ rfl (HO.out.alloc _) ⟨wr.heap.size, 0, none⟩ 1 1 [.int .i64 (k : Int)] rfl rfl (cells_new _ [.int .i64 (k : Int)] _ _ rfl) (by intro u hu; simp at hu; subst hu; rfl) ?c3 ?c4 ?c5 ?_)
        case c3 => unfold maxLen; omega
        case c4 => omega
        case c5 => simp; omega
        intro v' w4 hown' hgrow _
        have HO' := Lib.hid hown'
        have HB4 := Lib.hid ((HB.out.alloc HB.out.size _).grown hgrow (by simp; omega) (by intro j hj; exact own_base' HO.out j hj))
        clear hown' hgrow
        go_wp2
        go_roundw
        case measure => simp [intOf]; omega
        case rel => exact ⟨k + 1, m + 1, by omega, by go_num, HL.out, (show Aside _ from by rw [HS.out]; exact HO'.out), HB4.out⟩
      · have h1 : ((r : Int) == 1) = false := beq_eq_false_iff_ne.2 (by omega)
        rw [hbt, decide_eq_false hr, if_neg (by decide)] at hst
        have HST := Lib.hid hst
        clear hst hbt hr
        go_wp2_with fail
        go_roundw
        case measure => simp [intOf]; omega
        case rel => exact ⟨k + 1, m, by omega, by go_num, by rw [HST.out]; exact HM.out, (show Aside _ from by rw [HST.out]; exact HO.out), HB.out⟩
    · obtain rfl : n = k := by omega
      have hpl := segK_len (bit b) n
      have hcp := own_cap HO.out
      have hbs := own_base' HO.out
      obtain ⟨A', c', e, hr⟩ := own_reads HO.out (by omega)
      subst e
      have HR := Lib.hid hr
      have HC := Lib.hid (hcp _ _ rfl)
      have HF := Lib.hid (show ∀ p, A' = some p → w.heap.size ≤ p.block from fun p hp => hbs _ (by subst hp; rfl))
      clear hr hcp hbs
      go_wp2_with fail
      go_ret
      exact ⟨A', m, c', rfl, ⟨HR.out, HC.out, HF.out⟩, HB.out⟩
end Go.Proofs.Ytpnkbjdeiedhlaa
