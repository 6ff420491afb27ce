/- The contracts of Cut and Play. -/
import Derived.Test.YtphbiaagmhhhbaaSJ
namespace Go.Proofs.Ytphbiaagmhhhbaa
open Go.RowKit Go.Lib Go.Shelf

theorem eg52 : ∀ args w, (callFunc 52 args).run Try.prog w = .ok (.enter 52 args) w := enters_of Try.func52 (by kernel_rfl) rfl
theorem eg53 : ∀ args w, (callFunc 53 args).run Try.prog w = .ok (.enter 53 args) w := enters_of Try.func53 (by kernel_rfl) rfl
theorem eg54 : ∀ args w, (callFunc 54 args).run Try.prog w = .ok (.enter 54 args) w := enters_of Try.func54 (by kernel_rfl) rfl
theorem eg55 : ∀ args w, (callFunc 55 args).run Try.prog w = .ok (.enter 55 args) w := enters_of Try.func55 (by kernel_rfl) rfl

/-- A list and an error are handed back. -/
def ListOut (r : List Int × Int) (w : World) (e : Ending) (w' : World) : Prop :=
  (∃ A n c, e = .returned (.tuple #[.slice A n c, .int .i64 r.2]) ∧ Reads w' A n r.1) ∧ Below w.heap.size w w'

theorem nilOut {w w' : World} {e : Ending} {x : Int} (he : e = .returned (.tuple #[.slice none 0 0, .int .i64 x])) (hb : Below w.heap.size w w') : ListOut ([], x) w e w' :=
  ⟨⟨none, 0, 0, he, rfl, by omega, fun h => absurd h (by omega)⟩, hb⟩

def cutF (c t lo hi g : Int) (l : List Int) : List Int × Int :=
  if Sound c t lo hi ∧ lo ≤ g ∧ g ≤ hi then
    if 100 < l.length then ([], 5) else if ferr (timedF t) l = 0 then (l.map (plc c t g), 0) else ([], ferr (timedF t) l)
  else ([], 3)
def playF (c t lo hi g : Int) (l : List Int) : List Int × Int :=
  if Sound c t lo hi ∧ lo ≤ g ∧ g ≤ hi then
    if 100 < l.length then ([], 5) else if ferr (placedF c t g) l = 0 then (l.map (arr c t g), 0) else ([], ferr (placedF c t g) l)
  else ([], 3)

theorem timed_ok {t x : Int} (h : timedF t x = 0) : 0 ≤ x ∧ x ≤ 1000 * t := by
  unfold timedF at h
  split at h
  · assumption
  · omega

theorem cut_calls (c t lo hi g : Int) (A : Option Addr) (n cap : Nat) (l : List Int) (w : World) (hl : Reads w A n l) :
    Calls Try.prog 17 #[.agg #[.int .i64 c, .int .i64 t, .int .i64 lo, .int .i64 hi], .int .i64 g, .slice A n cap] w (ListOut (cutF c t lo hi g l) w) := by
  unfold cutF
  by_cases hs : Sound c t lo hi
  · by_cases hg : lo ≤ g ∧ g ≤ hi
    · rw [if_pos ⟨hs, hg⟩]
      have hm := hl.2.1
      have hln := hl.1
      by_cases hn : 100 < l.length
      · rw [if_pos hn]
        rw [hln] at hn
        have H := Lib.hid hs
        have HG := Lib.hid hg
        clear hs hg hl hln
        go_enter Try.func17, Try.ntmps17
        go_wp2_with (first | (go_at_call 50; refine (wind_yes H.out HG.out.1 HG.out.2 _).mono ?_; rintro e w1 ⟨rfl, hb⟩; have Hb := Lib.hid hb; clear hb) | (go_at_call 51; refine (mapped_many _ _ _ _ _ _ hn hm).mono ?_; rintro e w2 ⟨rfl, hb2⟩; have Hb2 := Lib.hid hb2; clear hb2))
        go_ret2
        have b1 : Below w.heap.size w w1 := ((Below.refl _ _).alloc (Nat.le_refl _) _).trans (Hb.out.mono (by simp))
        exact nilOut rfl ((b1.alloc b1.size _).trans (Hb2.out.mono (by have := b1.size; simp; omega)))
      · rw [if_neg hn]
        have H := Lib.hid hs
        have HG := Lib.hid hg
        have HL := Lib.hid hl
        generalize hR : (if ferr (timedF t) l = 0 then (l.map (plc c t g), (0 : Int)) else ([], ferr (timedF t) l)) = R
        have HRR := Lib.hid hR
        clear hs hg hl hR
        go_enter Try.func17, Try.ntmps17
        go_wp2_with (first | (go_at_call 50; refine (wind_yes H.out HG.out.1 HG.out.2 _).mono ?_; rintro e w1 ⟨rfl, hb⟩; have Hb := Lib.hid hb; clear hb))
        have b1 : Below w.heap.size w w1 := ((Below.refl _ _).alloc (Nat.le_refl _) _).trans (Hb.out.mono (by simp))
        have b2 : Below w.heap.size w (w1.alloc (.cells #[.int .i64 c, .int .i64 t, .int .i64 lo, .int .i64 hi, .int .i64 g] 84)) := b1.alloc b1.size _
        have hs := H.out
        have f1 : FnOver 52 #[.agg #[.int .i64 c, .int .i64 t, .int .i64 lo, .int .i64 hi]] (fun x => x ∈ l) (timedF t) (w1.alloc (.cells #[.int .i64 c, .int .i64 t, .int .i64 lo, .int .i64 hi, .int .i64 g] 84)) := by
          intro W x _ _
          exact timed_calls c t lo hi x (by have := hs.1; have := hs.2.1; omega) (by have := hs.1; have := hs.2.1; omega) W
        have f2 : FnOver 53 #[.agg #[.int .i64 c, .int .i64 t, .int .i64 lo, .int .i64 hi, .int .i64 g]] (fun x => x ∈ l ∧ timedF t x = 0) (plc c t g) (w1.alloc (.cells #[.int .i64 c, .int .i64 t, .int .i64 lo, .int .i64 hi, .int .i64 g] 84)) := by
          intro W x _ hx
          have hx := timed_ok hx.2
          exact place_calls hs (by have := hs.2.2; have := HG.out; omega) (by have := hs.2.2; have := HG.out; omega) hx.1 hx.2 W
        refine (mapped_calls 52 53 _ _ eg52 eg53 (timedF t) (plc c t g) n cap A l _ (HL.out.later b2) (by omega) f1 f2).mono ?_
        rintro e w3 ⟨⟨A', n', c', xs, rfl, hxs, hr⟩, hb3⟩
        have HXS := Lib.hid hxs
        have HR := Lib.hid hr
        have HB := Lib.hid (b2.trans (hb3.mono b2.size))
        clear hxs hr hb3 b1 b2 hs f1 f2
        go_wp2
        go_ret2
        have hx := HXS.out
        rw [← HRR.out]
        by_cases he : ferr (timedF t) l = 0
        · rw [if_pos he] at hx ⊢
          subst hx
          exact ⟨⟨A', n', c', by rw [he]; rfl, HR.out⟩, HB.out⟩
        · rw [if_neg he] at hx ⊢
          subst hx
          exact ⟨⟨A', n', c', rfl, HR.out⟩, HB.out⟩
    · rw [if_neg (fun h => hg h.2)]
      have H := Lib.hid hs
      have HG := Lib.hid hg
      clear hs hg hl
      go_enter Try.func17, Try.ntmps17
      go_wp2_with (first | (go_at_call 50; refine (wind_far H.out HG.out _).mono ?_; rintro e w1 ⟨rfl, hb⟩; have Hb := Lib.hid hb; clear hb))
      go_ret2
      have b1 : Below w.heap.size w w1 := ((Below.refl _ _).alloc (Nat.le_refl _) _).trans (Hb.out.mono (by simp))
      exact nilOut rfl (b1.alloc b1.size _)
  · rw [if_neg (fun h => hs h.1)]
    have H := Lib.hid hs
    clear hs hl
    go_enter Try.func17, Try.ntmps17
    go_wp2_with (first | (go_at_call 50; refine (wind_no H.out _).mono ?_; rintro e w1 ⟨rfl, hb⟩; have Hb := Lib.hid hb; clear hb))
    go_ret2
    have b1 : Below w.heap.size w w1 := ((Below.refl _ _).alloc (Nat.le_refl _) _).trans (Hb.out.mono (by simp))
    exact nilOut rfl (b1.alloc b1.size _)
theorem play_calls (c t lo hi g : Int) (A : Option Addr) (n cap : Nat) (l : List Int) (w : World) (hl : Reads w A n l) :
    Calls Try.prog 18 #[.agg #[.int .i64 c, .int .i64 t, .int .i64 lo, .int .i64 hi], .int .i64 g, .slice A n cap] w (ListOut (playF c t lo hi g l) w) := by
  unfold playF
  by_cases hs : Sound c t lo hi
  · by_cases hg : lo ≤ g ∧ g ≤ hi
    · rw [if_pos ⟨hs, hg⟩]
      have hm := hl.2.1
      have hln := hl.1
      by_cases hn : 100 < l.length
      · rw [if_pos hn]
        rw [hln] at hn
        have H := Lib.hid hs
        have HG := Lib.hid hg
        clear hs hg hl hln
        go_enter Try.func18, Try.ntmps18
        go_wp2_with (first | (go_at_call 50; refine (wind_yes H.out HG.out.1 HG.out.2 _).mono ?_; rintro e w1 ⟨rfl, hb⟩; have Hb := Lib.hid hb; clear hb) | (go_at_call 51; refine (mapped_many _ _ _ _ _ _ hn hm).mono ?_; rintro e w2 ⟨rfl, hb2⟩; have Hb2 := Lib.hid hb2; clear hb2))
        go_ret2
        have b1 : Below w.heap.size w w1 := ((Below.refl _ _).alloc (Nat.le_refl _) _).trans (Hb.out.mono (by simp))
        exact nilOut rfl ((b1.alloc b1.size _).trans (Hb2.out.mono (by have := b1.size; simp; omega)))
      · rw [if_neg hn]
        have H := Lib.hid hs
        have HG := Lib.hid hg
        have HL := Lib.hid hl
        generalize hR : (if ferr (placedF c t g) l = 0 then (l.map (arr c t g), (0 : Int)) else ([], ferr (placedF c t g) l)) = R
        have HRR := Lib.hid hR
        clear hs hg hl hR
        go_enter Try.func18, Try.ntmps18
        go_wp2_with (first | (go_at_call 50; refine (wind_yes H.out HG.out.1 HG.out.2 _).mono ?_; rintro e w1 ⟨rfl, hb⟩; have Hb := Lib.hid hb; clear hb))
        have b1 : Below w.heap.size w w1 := ((Below.refl _ _).alloc (Nat.le_refl _) _).trans (Hb.out.mono (by simp))
        have b2 : Below w.heap.size w (w1.alloc (.cells #[.int .i64 c, .int .i64 t, .int .i64 lo, .int .i64 hi, .int .i64 g] 84)) := b1.alloc b1.size _
        have hs := H.out
        have f1 : FnOver 54 #[.agg #[.int .i64 c, .int .i64 t, .int .i64 lo, .int .i64 hi, .int .i64 g]] (fun x => x ∈ l) (placedF c t g) (w1.alloc (.cells #[.int .i64 c, .int .i64 t, .int .i64 lo, .int .i64 hi, .int .i64 g] 84)) := by
          intro W x _ _
          exact placed_calls hs (by have := hs.2.2; have := HG.out; omega) (by have := hs.2.2; have := HG.out; omega) W
        have f2 : FnOver 55 #[.agg #[.int .i64 c, .int .i64 t, .int .i64 lo, .int .i64 hi, .int .i64 g]] (fun x => x ∈ l ∧ placedF c t g x = 0) (arr c t g) (w1.alloc (.cells #[.int .i64 c, .int .i64 t, .int .i64 lo, .int .i64 hi, .int .i64 g] 84)) := by
          intro W x _ _
          exact arrival_calls hs (by have := hs.2.2; have := HG.out; omega) (by have := hs.2.2; have := HG.out; omega) W
        refine (mapped_calls 54 55 _ _ eg54 eg55 (placedF c t g) (arr c t g) n cap A l _ (HL.out.later b2) (by omega) f1 f2).mono ?_
        rintro e w3 ⟨⟨A', n', c', xs, rfl, hxs, hr⟩, hb3⟩
        have HXS := Lib.hid hxs
        have HR := Lib.hid hr
        have HB := Lib.hid (b2.trans (hb3.mono b2.size))
        clear hxs hr hb3 b1 b2 hs f1 f2
        go_wp2
        go_ret2
        have hx := HXS.out
        rw [← HRR.out]
        by_cases he : ferr (placedF c t g) l = 0
        · rw [if_pos he] at hx ⊢
          subst hx
          exact ⟨⟨A', n', c', by rw [he]; rfl, HR.out⟩, HB.out⟩
        · rw [if_neg he] at hx ⊢
          subst hx
          exact ⟨⟨A', n', c', rfl, HR.out⟩, HB.out⟩
    · rw [if_neg (fun h => hg h.2)]
      have H := Lib.hid hs
      have HG := Lib.hid hg
      clear hs hg hl
      go_enter Try.func18, Try.ntmps18
      go_wp2_with (first | (go_at_call 50; refine (wind_far H.out HG.out _).mono ?_; rintro e w1 ⟨rfl, hb⟩; have Hb := Lib.hid hb; clear hb))
      go_ret2
      have b1 : Below w.heap.size w w1 := ((Below.refl _ _).alloc (Nat.le_refl _) _).trans (Hb.out.mono (by simp))
      exact nilOut rfl (b1.alloc b1.size _)
  · rw [if_neg (fun h => hs h.1)]
    have H := Lib.hid hs
    clear hs hl
    go_enter Try.func18, Try.ntmps18
    go_wp2_with (first | (go_at_call 50; refine (wind_no H.out _).mono ?_; rintro e w1 ⟨rfl, hb⟩; have Hb := Lib.hid hb; clear hb))
    go_ret2
    have b1 : Below w.heap.size w w1 := ((Below.refl _ _).alloc (Nat.le_refl _) _).trans (Hb.out.mono (by simp))
    exact nilOut rfl (b1.alloc b1.size _)
end Go.Proofs.Ytphbiaagmhhhbaa
