/- The contracts of the step's allows and Check. -/
import Derived.Test.YtphbiaagmhhhbaaTC
namespace Go.Proofs.Ytphbiaagmhhhbaa
open Go.RowKit Go.Lib Go.Shelf

theorem arcs_froms {off s : Int} (h0 : 1 ≤ s) (h1 : s ≤ 1000) (l : List Int) : Froms (arcsF off s l) := by
  intro j
  by_cases hj : j < (arcsF off s l).length
  · have hm : mAt (arcsF off s l) j ∈ arcsF off s l := by
      unfold mAt
      rw [List.getElem?_eq_getElem hj]
      exact List.getElem_mem hj
    obtain ⟨p, _, e⟩ := arcs_mem hm
    rw [e]
    unfold arcF
    split
    · exact ⟨Int.le_refl _, by dsimp; omega⟩
    · have := Int.emod_nonneg (p - off) (show s ≠ 0 by omega)
      have := Int.emod_lt_of_pos (p - off) (show 0 < s by omega)
      exact ⟨by dsimp; omega, by dsimp; omega⟩
  · unfold mAt
    rw [List.getElem?_eq_none (by omega)]
    exact ⟨by decide, by decide⟩

set_option maxRecDepth 100000 in
set_option maxHeartbeats 2000000 in
theorem allows_calls {off s : Int} {C A : Option Addr} {nc cc n cap : Nat} {l : List Int} (h0 : 1 ≤ s) (h1 : s ≤ 1000) (ho : 0 ≤ off ∧ off ≤ 50) (hn : n ≤ 12) (w : World) (hl : Reads w A n l) (hb : ∀ j : Nat, 0 ≤ (l[j]?.getD 0 : Int) ∧ (l[j]?.getD 0 : Int) ≤ 1000000) :
    Gives 57 #[.agg #[.int .i64 off, .slice C nc cc], .slice A n cap, .int .i64 s] (.bool (allowsF off s l)) w := by
  unfold Gives
  generalize hq : allowsF off s l = q
  unfold allowsF at hq
  have hfr := arcs_froms (off := off) h0 h1 l
  have HC : ∀ W, Below w.heap.size w W → Calls Try.prog 81 #[.agg #[.int .i64 off, .slice C nc cc], .slice A n cap, .int .i64 s] W (ArcsOut (arcsF off s l) W) := fun W hW => arcs_calls h0 h1 ho hn W (hl.later hW) hb
  have HC := Lib.hid HC
  have I : Held ((w.alloc (.cells [Value.int .i64 off, .slice C nc cc].toArray 31)).alloc (.cells [Value.int .i64 s].toArray 3)) (fun W => (Below w.heap.size w W ∧ Blk W w.heap.size [.int .i64 off, .slice C nc cc]) ∧ Blk W (w.heap.size + 1) [.int .i64 s]) :=
    fun W hW => ⟨⟨(((Below.refl _ _).alloc (Nat.le_refl _) _).alloc (by simp) _).trans (hW.mono (by simp; omega)), ((Blk.new w [.int .i64 off, .slice C nc cc] 31).alloc _).later hW⟩, Blk.later (by simpa using Blk.new (w.alloc (.cells [Value.int .i64 off, .slice C nc cc].toArray 31)) [.int .i64 s] 3) hW⟩
  generalize arcsF off s l = L at hq hfr HC
  have HQ := Lib.hid hq
  have HF := Lib.hid hfr
  clear hl hb hq hfr
  go_enter Try.func57, Try.ntmps57
  go_upto_region 1 with fail
  generalize World.alloc _ _ = w1 at I ⊢
  have q0 := I.now.2.one
  have q1 := I.now.1.2.two
  go_wp2_with (first
    | (go_at_call 81; (with_reducible refine (HC.out _ I.now.1.1).mono ?_); intro e w2 hh; obtain ⟨⟨A2, n2, cp2, rfl, hr⟩, hbb⟩ := hh; replace I := (I.next hbb).with (.readsM hr); clear hr hbb q0 q1; have J := I.allocB [.slice A2 n2 cp2] 112; have q2 := J.now.2.one; have HP : Hid (PredA 83 #[.pointer (some ⟨w2.heap.size, 0, none⟩), .pointer (some ⟨w.heap.size + 1, 0, none⟩)] (commonB L s) L (w2.alloc (.cells #[.slice A2 n2 cp2] 112))) := Lib.hid (fun W j hW hj => common_calls h0 h1 (HF.out j) HF.out W ((J W hW).2.one) ((J W hW).1.2) ((J W hW).1.1.2.one)))
    | (go_at_call 82; (with_reducible refine (Gives.c (containsA_calls eg83 A2 n2 cp2 L _ J.now.1.2 HP.out)).mono ?_); rw [HQ.out]; rintro e w3 ⟨rfl, hb⟩; replace J := J.next hb))
  go_ret
  exact ⟨rfl, J.now.1.1.1.1⟩
end Go.Proofs.Ytphbiaagmhhhbaa
