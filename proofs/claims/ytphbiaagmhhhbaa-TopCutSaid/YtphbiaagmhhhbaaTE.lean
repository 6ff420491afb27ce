/- The contract of the step's Check at a sheet as stated. -/
import Derived.Test.YtphbiaagmhhhbaaTD
namespace Go.Proofs.Ytphbiaagmhhhbaa
open Go.RowKit Go.Lib Go.Shelf

theorem far_calls {p : Int} (hp : 0 ≤ p ∧ p ≤ 1000000) (w : World) : Gives 80 #[.int .i64 p] (.bool false) w := by
  unfold Gives
  have hb := btw_yes hp
  go_enter Try.func80, Try.ntmps80
  go_wp2_with (go_at_call 78; (with_reducible refine (Quiet.c (sbetween_calls _ _ _ _)).mono ?_); rintro e w1 ⟨rfl, rfl⟩)
  go_ret
  exact ⟨rfl, Below.refl _ _⟩

/-- Positions as stated. -/
def Posns (l : List Int) : Prop := ∀ j : Nat, 0 ≤ (l[j]?.getD 0 : Int) ∧ (l[j]?.getD 0 : Int) ≤ 1000000

theorem index80_calls {A : Option Addr} {n c : Nat} {l : List Int} (hp : Posns l) (w : World) (hl : Reads w A n l) : Gives 92 #[.slice A n c, .func (.func 80) #[] #[]] (.int .i64 (-1)) w := by
  unfold Gives
  have hm := hl.2.1
  have HL := Lib.hid hl
  have HP := Lib.hid hp
  have eg := eg80
  clear hl hp
  go_enter Try.func92, Try.ntmps92
  go_wp2_with fail
  go_loopw [8] (fun i wr => ∃ k : Nat, k ≤ n ∧ i = .int .i64 k ∧ Aside (Below w.heap.size w wr)) (fun i _ => n - (intOf i).toNat)
  case atStart => exact ⟨0, Nat.zero_le _, rfl, Below.refl _ _⟩
  case round =>
    obtain ⟨k, hk, rfl, HB⟩ := hrel
    by_cases hlt : k < n
    · have hlt' : (k : Int) < (n : Int) := by omega
      have hw2 : IntKind.i64.wrap ((k : Int) + 1) = (k : Int) + 1 := i64_in (by omega) (by omega)
      obtain ⟨b, off, rfl, hc⟩ := (HL.out.later HB.out).2.2 (by omega)
      have hx := hc k hlt
      have hpk := HP.out k
      generalize l[k]?.getD 0 = p at hx hpk
      clear hc
      have hcall := far_calls hpk wr
      unfold Gives at hcall
      clear hpk
      go_wp2_with (go_at_fn 80; refine hcall.mono ?_; rintro e w1 ⟨rfl, hb1⟩; have HB1 := Lib.hid hb1; clear hb1)
      go_roundw
      case measure => simp [intOf]; omega
      case rel => exact ⟨k + 1, by omega, by go_num, HB.out.trans (HB1.out.mono HB.out.size)⟩
    · obtain rfl : k = n := by omega
      go_wp2
      go_ret
      exact ⟨rfl, HB.out⟩

theorem contains80_calls {A : Option Addr} {n c : Nat} {l : List Int} (hp : Posns l) (w : World) (hl : Reads w A n l) : Gives 79 #[.slice A n c, .func (.func 80) #[] #[]] (.bool false) w := by
  unfold Gives
  have HL := Lib.hid hl
  have HP := Lib.hid hp
  clear hl hp
  go_enter Try.func79, Try.ntmps79
  go_wp2_with (go_at_call 92; (with_reducible refine (Gives.c (index80_calls HP.out _ HL.out)).mono ?_); rintro e w1 ⟨rfl, hb1⟩)
  go_ret
  exact ⟨rfl, hb1⟩

/-- The copy of a number. -/
def rowAt (ls : List (List Int)) (j : Nat) : List Int := ls[j]?.getD []
/-- A slice that reads as a list of copies. -/
def ReadsR (w : World) (A : Option Addr) (n : Nat) (ls : List (List Int)) : Prop :=
  ls.length = n ∧ (0 < n → ∃ b off, A = some ⟨b, off, none⟩ ∧ ∀ j, j < n → ∃ Aj cj, w.cell? ⟨b, off + j, none⟩ = some (.slice Aj (rowAt ls j).length cj) ∧ Reads w Aj (rowAt ls j).length (rowAt ls j))
theorem ReadsR.later {w w1 : World} {A : Option Addr} {n : Nat} {ls : List (List Int)} (h : ReadsR w A n ls) (hb : Below w.heap.size w w1) : ReadsR w1 A n ls := by
  refine ⟨h.1, fun h0 => ?_⟩
  obtain ⟨b, off, e, hc⟩ := h.2 h0
  refine ⟨b, off, e, fun j hj => ?_⟩
  obtain ⟨Aj, cj, h1, h2⟩ := hc j hj
  exact ⟨Aj, cj, (hb.cell (p := ⟨b, off + j, none⟩) (World.block_lt_of_cell? w _ h1)).trans h1, h2.later hb⟩

/-- Copies as stated. -/
def Copies (ls : List (List Int)) : Prop := ∀ j, j < ls.length → 1 ≤ (rowAt ls j).length ∧ (rowAt ls j).length ≤ 12 ∧ Posns (rowAt ls j)

set_option maxRecDepth 100000 in
set_option maxHeartbeats 2000000 in
theorem scheck_calls {off : Int} {C : Option Addr} {n cc : Nat} {ls : List (List Int)} (ho : 0 ≤ off ∧ off ≤ 50) (hn : 1 ≤ n ∧ n ≤ 6) (hc : Copies ls) (w : World) (hl : ReadsR w C n ls) :
    Gives 56 #[.agg #[.int .i64 off, .slice C n cc]] (.int .i64 0) w := by
  unfold Gives
  have hb := btw_yes ho
  have hln := hl.1
  have n1 : ((n : Int) == 0) = false := beq_eq_false_iff_ne.2 (by omega)
  have n2 : decide (6 < (n : Int)) = false := decide_eq_false (by omega)
  have n3 : ¬ n = 0 := by omega
  have n4 : ¬ 6 < n := by omega
  have HL := Lib.hid hl
  have HC := Lib.hid hc
  have I : Held (w.alloc (.cells [Value.int .i64 off, .slice C n cc].toArray 31)) (fun W => Below w.heap.size w W ∧ Blk W w.heap.size [.int .i64 off, .slice C n cc]) := (Held.from ((Below.refl _ _).alloc (Nat.le_refl _) _) (by simp)).with (.blk (Blk.new w _ 31))
  have q0 := I.now.2.two
  clear hl hc
  go_enter Try.func56, Try.ntmps56
  go_wp2_with (go_at_call 78; (with_reducible refine (Quiet.c (sbetween_calls _ _ _ _)).mono ?_); rintro e w1 ⟨rfl, rfl⟩)
  generalize World.alloc _ _ = w1 at I ⊢
  go_loopw [23] (fun i wr => ∃ k : Nat, k ≤ n ∧ i = .int .i64 k ∧ Aside (Below w1.heap.size w1 wr)) (fun i _ => n - (intOf i).toNat)
  case atStart => exact ⟨0, Nat.zero_le _, rfl, Below.refl _ _⟩
  case round =>
    clear q0
    obtain ⟨k, hk, rfl, HB⟩ := hrel
    have J := I.next HB.out
    by_cases hlt : k < n
    · have hlt' : (k : Int) < (n : Int) := by omega
      have hw2 : IntKind.i64.wrap ((k : Int) + 1) = (k : Int) + 1 := i64_in (by omega) (by omega)
      obtain ⟨b, o, rfl, hcs⟩ := (HL.out.later J.now.1).2 (by omega)
      obtain ⟨Aj, cj, hx, hr⟩ := hcs k hlt
      obtain ⟨h1, h2, h3⟩ := HC.out k (by omega)
      clear hcs
      generalize rowAt ls k = l at hx hr h1 h2 h3
      have hm := hr.2.1
      generalize hm' : l.length = m at hx hr h1 h2 hm
      have m1 : ((m : Int) == 0) = false := beq_eq_false_iff_ne.2 (by omega)
      have m2 : decide (12 < (m : Int)) = false := decide_eq_false (by omega)
      have m3 : ¬ m = 0 := by omega
      have m4 : ¬ 12 < m := by omega
      have HR := Lib.hid hr
      have H3 := Lib.hid h3
      clear hr h3 hm' hm
      go_wp2_with (go_at_call 79; (with_reducible refine (Gives.c (contains80_calls H3.out _ HR.out)).mono ?_); rintro e w3 ⟨rfl, hb3⟩; have HB3 := Lib.hid hb3; clear hb3)
      go_roundw
      case measure => simp [intOf]; omega
      case rel => exact ⟨k + 1, by omega, by go_num, HB.out.trans (HB3.out.mono HB.out.size)⟩
    · obtain rfl : k = n := by omega
      go_wp2
      go_ret
      exact ⟨rfl, J.now.1⟩
end Go.Proofs.Ytphbiaagmhhhbaa
