/- Play, where all places are as stated: the list that is handed back is a new one. -/
import Derived.Test.YtphbiaagmhhhbaaTH
import Derived.Test.YtphbiaagmhhhbaaRE
namespace Go.Proofs.Ytphbiaagmhhhbaa
open Go.RowKit Go.Lib Go.Shelf

/-- A new list is handed back. -/
def MapNew (F : Int → Int) (l : List Int) (w : World) (e : Ending) (w' : World) : Prop :=
  (∃ A n c, e = .returned (.tuple #[.slice A n c, .int .i64 0]) ∧ Reads w' A n (l.map F) ∧ ∀ p, A = some p → w.heap.size ≤ p.block) ∧ Below w.heap.size w w'

set_option maxRecDepth 100000 in
theorem mapped_new (g1 g2 : Nat) (p1 p2 : Array Value) (e1 : ∀ args w, (callFunc g1 args).run Try.prog w = .ok (.enter g1 args) w) (e2 : ∀ args w, (callFunc g2 args).run Try.prog w = .ok (.enter g2 args) w)
    (ck F : Int → Int) (n c : Nat) (A : Option Addr) (l : List Int) (w : World) (hl : Reads w A n l) (hn : n ≤ 100)
    (hck : ∀ x ∈ l, ck x = 0) (h1 : FnOver g1 p1 (fun x => x ∈ l) ck w) (h2 : FnOver g2 p2 (fun x => x ∈ l ∧ ck x = 0) F w) :
    Calls Try.prog 51 #[.slice A n c, .func (.func g1) p1 #[], .func (.func g2) p2 #[]] w (MapNew F l w) := by
  obtain ⟨i0, hi, hz0, hz1, hz2⟩ := info_parts info3
  have hd : decide ((100 : Int) < (n : Int)) = false := decide_eq_false (by omega)
  have hlen := hl.1
  have HL := Lib.hid hl
  have HCK := Lib.hid hck
  have H1 := Lib.hid h1
  have H2 := Lib.hid h2
  clear hl h1 h2 hck
  go_enter Try.func51, Try.ntmps51
  go_wp2_with fail
  go_loopw [8, 17] (fun v i wr => ∃ k : Nat, k ≤ n ∧ i = .int .i64 k ∧ Aside (wr.ownsRow w.heap.size 3 1 v k (nums (outs F l k))) ∧ Aside (∀ j, j < k → ck (l[j]?.getD 0) = 0) ∧ Aside (Below w.heap.size w wr))
    (fun _ i _ => n - (intOf i).toNat)
  case atStart => exact ⟨0, Nat.zero_le _, rfl, World.ownsRow_nil _ _ _ _, fun j hj => absurd hj (Nat.not_lt_zero _), Below.refl _ _⟩
  case round =>
    obtain ⟨k, hk, rfl, HO, HE, HB⟩ := hrel
    by_cases hlt : k < n
    · have hlt' : (k : Int) < (n : Int) := by omega
      obtain ⟨b, off, rfl, hc⟩ := HL.out.2.2 (by omega)
      have hc1 := (HB.out.cell (p := ⟨b, off + k, none⟩) (World.block_lt_of_cell? w _ (hc k hlt))).trans (hc k hlt)
      clear hc
      have hmem : l[k]?.getD 0 ∈ l := by rw [List.getElem?_eq_getElem (by omega)]; simp
      have call1 := H1.out wr (l[k]?.getD 0) HB.out hmem
      have hs := take_snoc l F k (by omega)
      have hE : ck (l[k]?.getD 0) ≠ 0 → ferr ck l = ck (l[k]?.getD 0) := fun h => ferr_hit (by omega) HE.out h
      have hE' : ck (l[k]?.getD 0) = 0 → ∀ j, j < k + 1 → ck (l[j]?.getD 0) = 0 := fun h j hj => by
        by_cases e : j = k
        · rw [e]; exact h
        · exact HE.out j (by omega)
      generalize l[k]?.getD 0 = x at hc1 hmem call1 hs hE hE'
      have HS := Lib.hid hs
      have HX := Lib.hid hE
      have HX' := Lib.hid hE'
      clear hs hE hE'
      by_cases hz : ck x = 0
      · rw [hz] at call1
        have Z := Lib.hid hz
        clear hz
        go_wp2_with (first
          | (go_at_fn g1; refine call1.mono ?_; rintro e w1 ⟨rfl, hb1⟩; have B1 := Lib.hid hb1; clear hb1))
        have hB1 : Below w.heap.size w w1 := HB.out.trans (B1.out.mono HB.out.size)
        refine (H2.out w1 x hB1 ⟨hmem, Z.out⟩).mono ?_
        rintro e w2 ⟨rfl, hb2⟩
        have hB2 := Lib.hid (hB1.trans (hb2.mono hB1.size))
        have hO2 := own_later (own_later HO.out B1.out) hb2
        have hsz := hB2.out.size
        clear hb2 call1 hmem hB1
        go_wp2_with (first
          | (at_builtin; refine wpList_append_own _ rfl _ _ 32 rfl w.heap.size 3 i0 (.int .i64 0) 1 8 Try.underlying32 hi hz0 hz1 hz2 rfl (by decide) _ _ _ rfl (hO2.alloc _) ⟨w2.heap.size, 0, none⟩ 1 1 [.int .i64 (F x)] rfl rfl (cell_one_new _ _ _) (by intro u hu; simp at hu; subst hu; rfl) ?c3 ?c4 ?c5 ?_))
        case c3 => unfold maxLen; omega
        case c4 => omega
        case c5 => simp; omega
        intro v' w3 hown' hgrow _
        have HO' := Lib.hid hown'
        have HB3 := Lib.hid ((hB2.out.alloc hB2.out.size _).grown hgrow (by simp; omega) (by intro j hj; exact own_base' hO2 j hj))
        clear hown' hgrow hO2
        go_wp2
        go_roundw
        case measure => simp [intOf]; omega
        case rel => exact ⟨k + 1, by omega, by go_num, (show Aside _ from by rw [HS.out]; exact HO'.out), HX'.out Z.out, HB3.out⟩
      · exact absurd (HCK.out x hmem) hz
    · obtain rfl : k = n := by omega
      have HO2 := HO.out
      rw [show outs F l k = l.map F from by unfold outs; rw [← hlen, List.take_length]] at HO2
      obtain ⟨A', c', rfl, hR, hN⟩ := own_reads_new HO2 (by omega)
      have HR := Lib.hid hR
      have HN := Lib.hid hN
      clear hR HO2 hN
      go_wp2
      go_ret2
      exact ⟨⟨A', k, c', rfl, HR.out, HN.out⟩, HB.out⟩

set_option maxRecDepth 100000 in
theorem play_new {c t lo hi g : Int} {A : Option Addr} {n cap : Nat} {l : List Int} (hs : Sound c t lo hi) (hg : lo ≤ g ∧ g ≤ hi) (hn : n ≤ 100) (hp : ∀ x ∈ l, placedF c t g x = 0) (w : World) (hl : Reads w A n l) :
    Calls Try.prog 18 #[.agg #[.int .i64 c, .int .i64 t, .int .i64 lo, .int .i64 hi], .int .i64 g, .slice A n cap] w (MapNew (arr c t g) l w) := by
  have HP := Lib.hid hp
  have H := Lib.hid hs
  have HG := Lib.hid hg
  have HL := Lib.hid hl
  have hm := hl.2.1
  clear hs hg hl hp
  go_enter Try.func18, Try.ntmps18
  go_wp2_with (first | (go_at_call 50; refine (wind_yes H.out HG.out.1 HG.out.2 _).mono ?_; rintro e w1 ⟨rfl, hb⟩; have Hb := Lib.hid hb; clear hb))
  have b1 : Below w.heap.size w w1 := ((Below.refl _ _).alloc (Nat.le_refl _) _).trans (Hb.out.mono (by simp))
  have b2 : Below w.heap.size w (w1.alloc (.cells #[.int .i64 c, .int .i64 t, .int .i64 lo, .int .i64 hi, .int .i64 g] 84)) := b1.alloc b1.size _
  have hs := H.out
  have f1 : FnOver 54 #[.agg #[.int .i64 c, .int .i64 t, .int .i64 lo, .int .i64 hi, .int .i64 g]] (fun x => x ∈ l) (placedF c t g) (w1.alloc (.cells #[.int .i64 c, .int .i64 t, .int .i64 lo, .int .i64 hi, .int .i64 g] 84)) := by
    intro W x _ _
    exact placed_calls hs (by have := hs.2.2; have := HG.out; omega) (by have := hs.2.2; have := HG.out; omega) W
  have f2 : FnOver 55 #[.agg #[.int .i64 c, .int .i64 t, .int .i64 lo, .int .i64 hi, .int .i64 g]] (fun x => x ∈ l ∧ placedF c t g x = 0) (arr c t g) (w1.alloc (.cells #[.int .i64 c, .int .i64 t, .int .i64 lo, .int .i64 hi, .int .i64 g] 84)) := by
    intro W x _ _
    exact arrival_calls hs (by have := hs.2.2; have := HG.out; omega) (by have := hs.2.2; have := HG.out; omega) W
  refine (mapped_new 54 55 _ _ eg54 eg55 (placedF c t g) (arr c t g) n cap A l _ (HL.out.later b2) (by omega) HP.out f1 f2).mono ?_
  rintro e w3 ⟨⟨A', n', c', rfl, hr, hn'⟩, hb3⟩
  have HN := Lib.hid (fun p h => Nat.le_trans b2.size (hn' p h))
  have HR := Lib.hid hr
  have HB := Lib.hid (b2.trans (hb3.mono b2.size))
  clear hn' hr hb3 b1 b2 hs f1 f2
  go_wp2
  go_ret2
  exact ⟨⟨A', n', c', rfl, HR.out, HN.out⟩, HB.out⟩

set_option maxRecDepth 100000 in
theorem cut_new {c t lo hi g : Int} {A : Option Addr} {n cap : Nat} {l : List Int} (hs : Sound c t lo hi) (hg : lo ≤ g ∧ g ≤ hi) (hn : n ≤ 100) (hp : ∀ x ∈ l, timedF t x = 0) (w : World) (hl : Reads w A n l) :
    Calls Try.prog 17 #[.agg #[.int .i64 c, .int .i64 t, .int .i64 lo, .int .i64 hi], .int .i64 g, .slice A n cap] w (MapNew (plc c t g) l w) := by
  have HP := Lib.hid hp
  have H := Lib.hid hs
  have HG := Lib.hid hg
  have HL := Lib.hid hl
  have hm := hl.2.1
  clear hs hg hl hp
  go_enter Try.func17, Try.ntmps17
  go_wp2_with (first | (go_at_call 50; refine (wind_yes H.out HG.out.1 HG.out.2 _).mono ?_; rintro e w1 ⟨rfl, hb⟩; have Hb := Lib.hid hb; clear hb))
  have b1 : Below w.heap.size w w1 := ((Below.refl _ _).alloc (Nat.le_refl _) _).trans (Hb.out.mono (by simp))
  have b2 : Below w.heap.size w (w1.alloc (.cells #[.int .i64 c, .int .i64 t, .int .i64 lo, .int .i64 hi, .int .i64 g] 84)) := b1.alloc b1.size _
  have hs := H.out
  have f1 : FnOver 52 #[.agg #[.int .i64 c, .int .i64 t, .int .i64 lo, .int .i64 hi]] (fun x => x ∈ l) (timedF t) (w1.alloc (.cells #[.int .i64 c, .int .i64 t, .int .i64 lo, .int .i64 hi, .int .i64 g] 84)) := by
    intro W x _ _
    exact timed_calls c t lo hi x (by have := hs.1; have := hs.2.1; omega) (by have := hs.1; have := hs.2.1; omega) W
  have f2 : FnOver 53 #[.agg #[.int .i64 c, .int .i64 t, .int .i64 lo, .int .i64 hi, .int .i64 g]] (fun x => x ∈ l ∧ timedF t x = 0) (plc c t g) (w1.alloc (.cells #[.int .i64 c, .int .i64 t, .int .i64 lo, .int .i64 hi, .int .i64 g] 84)) := by
    intro W x _ hx
    have hx := timed_ok hx.2
    exact place_calls hs (by have := hs.2.2; have := HG.out; omega) (by have := hs.2.2; have := HG.out; omega) hx.1 hx.2 W
  refine (mapped_new 52 53 _ _ eg52 eg53 (timedF t) (plc c t g) n cap A l _ (HL.out.later b2) (by omega) HP.out f1 f2).mono ?_
  rintro e w3 ⟨⟨A', n', c', rfl, hr, hn'⟩, hb3⟩
  have HN := Lib.hid (fun p h => Nat.le_trans b2.size (hn' p h))
  have HR := Lib.hid hr
  have HB := Lib.hid (b2.trans (hb3.mono b2.size))
  clear hn' hr hb3 b1 b2 hs f1 f2
  go_wp2
  go_ret2
  exact ⟨⟨A', n', c', rfl, HR.out, HN.out⟩, HB.out⟩
end Go.Proofs.Ytphbiaagmhhhbaa
