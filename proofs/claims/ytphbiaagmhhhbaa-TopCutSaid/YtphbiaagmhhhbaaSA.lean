import Derived.Test.YtphbiaagmhhhbaaProg
import Derived.WalkKit
import Derived.Handy
import Derived.Lib.Hide
import Derived.Deep.LoopGhost
import Derived.Shelf.GgClosure.Gives
namespace Go.Proofs.Ytphbiaagmhhhbaa
open Go.RowKit Go.Lib Go.Shelf

/-- The binary search, round by round. -/
def bs (p : Int → Bool) : Nat → Int → Int → Int
  | 0, lo, _ => lo
  | k + 1, lo, hi => if lo < hi then (if p (lo + (hi - lo) / 2) then bs p k lo (lo + (hi - lo) / 2) else bs p k (lo + (hi - lo) / 2 + 1) hi) else lo

theorem bs_fuel (p : Int → Bool) (k : Nat) : ∀ (m : Nat) (lo hi : Int), (hi - lo).toNat ≤ k → (hi - lo).toNat ≤ m → bs p k lo hi = bs p m lo hi := by
  induction k with
  | zero =>
    intro m lo hi h1 h2
    cases m with
    | zero => rfl
    | succ m => simp only [bs]; rw [if_neg (by omega)]
  | succ k ih =>
    intro m lo hi h1 h2
    cases m with
    | zero => simp only [bs]; rw [if_neg (by omega)]
    | succ m =>
      simp only [bs]
      by_cases h : lo < hi
      · rw [if_pos h, if_pos h]
        by_cases hp : p (lo + (hi - lo) / 2) = true
        · rw [if_pos hp, if_pos hp]; exact ih _ _ _ (by omega) (by omega)
        · rw [if_neg hp, if_neg hp]; exact ih _ _ _ (by omega) (by omega)
      · rw [if_neg h, if_neg h]

/-- The search from here on gives R. -/
def BsTo (p : Int → Bool) (l h R : Int) : Prop := bs p (h - l).toNat l h = R
theorem BsTo.yes {p : Int → Bool} {l h R : Int} (H : BsTo p l h R) (hl : l < h) (hp : p (l + (h - l) / 2) = true) : BsTo p l (l + (h - l) / 2) R := by
  unfold BsTo at *
  rw [← H]
  obtain ⟨k, hk⟩ : ∃ k, (h - l).toNat = k + 1 := ⟨(h - l).toNat - 1, by omega⟩
  rw [hk]
  simp only [bs]
  rw [if_pos hl, if_pos hp]
  exact bs_fuel _ _ _ _ _ (by omega) (by omega)
theorem BsTo.no {p : Int → Bool} {l h R : Int} (H : BsTo p l h R) (hl : l < h) (hp : p (l + (h - l) / 2) = false) : BsTo p (l + (h - l) / 2 + 1) h R := by
  unfold BsTo at *
  rw [← H]
  obtain ⟨k, hk⟩ : ∃ k, (h - l).toNat = k + 1 := ⟨(h - l).toNat - 1, by omega⟩
  rw [hk]
  simp only [bs]
  rw [if_pos hl, if_neg (by rw [hp]; decide)]
  exact bs_fuel _ _ _ _ _ (by omega) (by omega)
theorem BsTo.last {p : Int → Bool} {l h R : Int} (H : BsTo p l h R) (hl : ¬ l < h) : l = R := by
  unfold BsTo at *
  rw [← H, show (h - l).toNat = 0 by omega]
  rfl

/-- What is asked of a closure over ints: in every later world, for arguments in a range. -/
def PredIn (P : Program) (g : Nat) (lb : Array Value) (a b : Int) (p : Int → Bool) (w : World) : Prop :=
  ∀ (W : World) (x : Int), Below w.heap.size w W → a ≤ x → x < b → Calls P g (#[.int .i64 x] ++ lb) W fun e W' => e = .returned (.bool (p x)) ∧ Below w.heap.size w W'

theorem ret_int {a b : Int} (h : a = b) : Ending.returned (.int .i64 a) = .returned (.int .i64 b) := by rw [h]

theorem first_calls (p : Int → Bool) (g : Nat) (lb : Array Value) (eg : ∀ args w, (callFunc g args).run Try.prog w = .ok (.enter g args) w)
    (a b : Int) (w : World) (ha : -1000000000000000 ≤ a) (hb : b ≤ 1000000000000000) (hab : a ≤ b) (hp : PredIn Try.prog g lb a b p w) :
    Calls Try.prog 76 #[.int .i64 a, .int .i64 b, .func (.func g) #[] lb] w fun e w' => e = .returned (.int .i64 (bs p (b - a).toNat a b)) ∧ Below w.heap.size w w' := by
  generalize hR : bs p (b - a).toNat a b = R
  have HR : BsTo p a b R := hR
  clear hR
  have HP := Lib.hid hp
  clear hp
  go_enter Try.func76, Try.ntmps76
  go_wp2
  go_loopw [1, 0] (fun v1 v0 wr => ∃ l h : Int, a ≤ l ∧ l ≤ h ∧ h ≤ b ∧ v0 = .int .i64 l ∧ v1 = .int .i64 h ∧ BsTo p l h R ∧ Aside (Below w.heap.size w wr)) (fun v1 v0 _ => (intOf v1 - intOf v0).toNat)
  case atStart => exact ⟨a, b, by omega, by omega, by omega, rfl, rfl, HR, Below.refl _ _⟩
  case round =>
    obtain ⟨l, h, h1, h2, h3, rfl, rfl, HT, BW⟩ := hrel
    clear HR
    by_cases hlt : l < h
    · have hcall := HP.out wr (l + (h - l) / 2) BW.out (by omega) (by omega)
      cases hq : p (l + (h - l) / 2) with
      | true =>
        rw [hq] at hcall
        have HT' := HT.yes hlt hq
        clear hq
        go_wp2_with (go_at_fn g; refine hcall.mono ?_; rintro e w' ⟨rfl, hb'⟩)
        go_roundw
        case measure => simp [intOf]; omega
        case rel => exact ⟨l, l + (h - l) / 2, by omega, by omega, by omega, rfl, rfl, HT', hb'⟩
      | false =>
        rw [hq] at hcall
        have HT' := HT.no hlt hq
        clear hq
        go_wp2_with (go_at_fn g; refine hcall.mono ?_; rintro e w' ⟨rfl, hb'⟩)
        go_roundw
        case measure => simp [intOf]; omega
        case rel => exact ⟨l + (h - l) / 2 + 1, h, by omega, by omega, by omega, rfl, rfl, HT', hb'⟩
    · go_wp2
      go_ret
      exact ⟨ret_int (HT.last (by omega)), BW.out⟩
end Go.Proofs.Ytphbiaagmhhhbaa
