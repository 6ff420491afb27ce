/- The contracts of the reference's listed, Cut, Play. -/
import Derived.Test.YtphbiaagmhhhbaaRD
namespace Go.Proofs.Ytphbiaagmhhhbaa
open Go.RowKit Go.Lib Go.Shelf

def listedF (c t lo hi g n : Int) : Int := if Sound c t lo hi ∧ lo ≤ g ∧ g ≤ hi then (if 100 < n then 5 else 0) else 3

theorem listed_calls (c t lo hi g n : Int) (w : World) :
    Gives 69 #[.agg #[.int .i64 c, .int .i64 t, .int .i64 lo, .int .i64 hi], .int .i64 g, .int .i64 n] (.int .i64 (listedF c t lo hi g n)) w := by
  unfold Gives listedF
  by_cases hs : Sound c t lo hi
  · have hk := chk_yes hs
    by_cases hg : lo ≤ g ∧ g ≤ hi
    · have hm := btw_yes hg
      rw [if_pos ⟨hs, hg⟩]
      by_cases hn : 100 < n
      · rw [if_pos hn]
        clear hs hg
        go_enter Try.func69, Try.ntmps69
        go_wp2_with (first | (go_at_call 28; (with_reducible refine (Gives.c (rcheck_calls _ _ _ _ _)).mono ?_); rintro e w1 ⟨rfl, hb⟩; rw [hk]; have q := ((Blk.new w _ 43).later hb).four) | (go_at_call 62; (with_reducible refine (is_calls _ _ _ _).mono ?_); rintro e w1 ⟨rfl, rfl⟩))
        go_ret
        exact ⟨rfl, ((Below.refl _ _).alloc (Nat.le_refl _) _).trans (hb.mono (by simp))⟩
      · rw [if_neg hn]
        clear hs hg
        go_enter Try.func69, Try.ntmps69
        go_wp2_with (first | (go_at_call 28; (with_reducible refine (Gives.c (rcheck_calls _ _ _ _ _)).mono ?_); rintro e w1 ⟨rfl, hb⟩; rw [hk]; have q := ((Blk.new w _ 43).later hb).four) | (go_at_call 62; (with_reducible refine (is_calls _ _ _ _).mono ?_); rintro e w1 ⟨rfl, rfl⟩))
        go_ret
        exact ⟨rfl, ((Below.refl _ _).alloc (Nat.le_refl _) _).trans (hb.mono (by simp))⟩
    · have hm := btw_no hg
      rw [if_neg (fun h => hg h.2)]
      clear hs hg
      go_enter Try.func69, Try.ntmps69
      go_wp2_with (first | (go_at_call 28; (with_reducible refine (Gives.c (rcheck_calls _ _ _ _ _)).mono ?_); rintro e w1 ⟨rfl, hb⟩; rw [hk]; have q := ((Blk.new w _ 43).later hb).four) | (go_at_call 62; (with_reducible refine (is_calls _ _ _ _).mono ?_); rintro e w1 ⟨rfl, rfl⟩))
      go_ret
      exact ⟨rfl, ((Below.refl _ _).alloc (Nat.le_refl _) _).trans (hb.mono (by simp))⟩
  · have hk := chk_no hs
    rw [if_neg (fun h => hs h.1)]
    clear hs
    go_enter Try.func69, Try.ntmps69
    go_wp2_with (first | (go_at_call 28; (with_reducible refine (Gives.c (rcheck_calls _ _ _ _ _)).mono ?_); rintro e w1 ⟨rfl, hb⟩; rw [hk]; have q := ((Blk.new w _ 43).later hb).four) | (go_at_call 62; (with_reducible refine (is_calls _ _ _ _).mono ?_); rintro e w1 ⟨rfl, rfl⟩))
    go_ret
    exact ⟨rfl, ((Below.refl _ _).alloc (Nat.le_refl _) _).trans (hb.mono (by simp))⟩

theorem listed_zero {c t lo hi g n : Int} (h : listedF c t lo hi g n = 0) : Sound c t lo hi ∧ (lo ≤ g ∧ g ≤ hi) ∧ n ≤ 100 := by
  unfold listedF at h
  split at h
  · rename_i hh
    split at h
    · cases h
    · exact ⟨hh.1, hh.2, by omega⟩
  · cases h

theorem cutF_eq {c t lo hi g : Int} {l : List Int} {n : Nat} (hn : l.length = n) :
    cutF c t lo hi g l = if listedF c t lo hi g n = 0 then (if ferr (timedF t) l = 0 then (l.map (plc c t g), 0) else ([], ferr (timedF t) l)) else ([], listedF c t lo hi g n) := by
  unfold cutF listedF
  subst hn
  by_cases hs : Sound c t lo hi ∧ lo ≤ g ∧ g ≤ hi
  · rw [if_pos hs, if_pos hs]
    by_cases h : 100 < l.length
    · rw [if_pos h, if_pos (show (100 : Int) < l.length by omega), if_neg (by decide)]
    · rw [if_neg h, if_neg (show ¬ (100 : Int) < l.length by omega), if_pos rfl]
  · rw [if_neg hs, if_neg hs, if_neg (by decide)]
theorem playF_eq {c t lo hi g : Int} {l : List Int} {n : Nat} (hn : l.length = n) :
    playF c t lo hi g l = if listedF c t lo hi g n = 0 then (if ferr (placedF c t g) l = 0 then (l.map (arr c t g), 0) else ([], ferr (placedF c t g) l)) else ([], listedF c t lo hi g n) := by
  unfold playF listedF
  subst hn
  by_cases hs : Sound c t lo hi ∧ lo ≤ g ∧ g ≤ hi
  · rw [if_pos hs, if_pos hs]
    by_cases h : 100 < l.length
    · rw [if_pos h, if_pos (show (100 : Int) < l.length by omega), if_neg (by decide)]
    · rw [if_neg h, if_neg (show ¬ (100 : Int) < l.length by omega), if_pos rfl]
  · rw [if_neg hs, if_neg hs, if_neg (by decide)]

/-- A list of its own and an error are handed back. -/
def ListNew (r : List Int × Int) (w : World) (e : Ending) (w' : World) : Prop :=
  (∃ A n c, e = .returned (.tuple #[.slice A n c, .int .i64 r.2]) ∧ Reads w' A n r.1 ∧ ∀ p, A = some p → w.heap.size ≤ p.block) ∧ Below w.heap.size w w'
theorem nilNew {w w' : World} {e : Ending} {x : Int} (he : e = .returned (.tuple #[.slice none 0 0, .int .i64 x])) (hb : Below w.heap.size w w') : ListNew ([], x) w e w' :=
  ⟨⟨none, 0, 0, he, ⟨rfl, by omega, fun h => absurd h (by omega)⟩, fun p hp => by cases hp⟩, hb⟩
theorem ListNew.out {r : List Int × Int} {w w' : World} {e : Ending} (h : ListNew r w e w') : ListOut r w e w' := by
  obtain ⟨⟨A, n, c, he, hr, _⟩, hb⟩ := h
  exact ⟨⟨A, n, c, he, hr⟩, hb⟩
theorem own_reads_new {w : World} {base n : Nat} {e : TypeId} {v : Value} {xs : List Int} (h : w.ownsRow base e 1 v n (nums xs)) (hn : n ≤ 17592186044416) : ∃ A c, v = .slice A n c ∧ Reads w A n xs ∧ ∀ p, A = some p → base ≤ p.block := by
  obtain ⟨A, c, rfl, hr⟩ := own_reads h hn
  refine ⟨A, c, rfl, hr, fun p hp => ?_⟩
  subst hp
  rcases h.2 with ⟨h2, _⟩ | ⟨g, cap, cur, h2, hb, _⟩
  · cases h2
  · cases h2
    exact hb

set_option maxRecDepth 100000 in
set_option maxHeartbeats 2000000 in
theorem rcut_new (c t lo hi g : Int) (A : Option Addr) (n cap : Nat) (l : List Int) (w : World) (hl : Reads w A n l) :
    Calls Try.prog 33 #[.agg #[.int .i64 c, .int .i64 t, .int .i64 lo, .int .i64 hi], .int .i64 g, .slice A n cap] w (ListNew (cutF c t lo hi g l) w) := by
  rw [cutF_eq hl.1]
  generalize hz : listedF c t lo hi g n = z
  have hmax := hl.2.1
  by_cases h0 : z = 0
  · subst h0
    rw [if_pos rfl]
    obtain ⟨hs, hg, hn⟩ := listed_zero hz
    obtain ⟨i0, hi0, hz0, hz1, hz2⟩ := info_parts info3
    have hp : ∀ x W, 0 ≤ x → x ≤ 1000 * t → Gives 66 #[.agg #[.int .i64 c, .int .i64 t, .int .i64 lo, .int .i64 hi], .int .i64 g, .int .i64 x] (.int .i64 (plc c t g x)) W := fun x W h0 h1 => rplace_calls hs.2.1.1 hs.2.1.2 hs.1.2 (by have := hs.2.2; omega) (by have := hs.2.2; omega) h0 h1 W
    have hwt : IntKind.i64.wrap (1000 * t) = 1000 * t := by rw [i64_w]; exact w64_in (by have := hs.2.1; have := hs.1; omega) (by have := hs.2.1; have := hs.1; omega)
    generalize hR : (if ferr (timedF t) l = 0 then (l.map (plc c t g), (0 : Int)) else ([], ferr (timedF t) l)) = R
    have HR := Lib.hid hR
    have HP := Lib.hid hp
    have HL := Lib.hid hl
    have HZ := Lib.hid hz
    have hlen := hl.1
    have I : Held (w.alloc (.cells [Value.int .i64 c, .int .i64 t, .int .i64 lo, .int .i64 hi].toArray 43)) (fun W => Below w.heap.size w W ∧ Blk W w.heap.size [.int .i64 c, .int .i64 t, .int .i64 lo, .int .i64 hi]) := .start (.from (Below.refl _ _) (Nat.le_refl _)) _ _
    clear hR hp hl hz hs hg
    go_enter Try.func33, Try.ntmps33
    go_wp2_with (go_at_call 69; (with_reducible refine (Gives.c (listed_calls _ _ _ _ _ _ _)).mono ?_); rintro e w1 ⟨rfl, hb⟩; rw [HZ.out]; replace I := I.next hb; clear hb)
    go_loopw [9, 10] (fun v i wr => ∃ k : Nat, k ≤ n ∧ i = .int .i64 k ∧ Aside (wr.ownsRow w1.heap.size 3 1 v k (nums (outs (plc c t g) l k))) ∧ Aside (∀ j, j < k → timedF t (l[j]?.getD 0) = 0) ∧ Aside (Below w1.heap.size w1 wr))
      (fun _ i _ => n - (intOf i).toNat)
    case atStart => exact ⟨0, Nat.zero_le _, rfl, World.ownsRow_nil _ _ _ _, fun j hj => absurd hj (Nat.not_lt_zero _), Below.refl _ _⟩
    case round =>
      obtain ⟨k, hk, rfl, HO, HE, HB⟩ := hrel
      have J := I.next HB.out
      by_cases hlt : k < n
      · have hlt' : (k : Int) < (n : Int) := by omega
        have hw2 : IntKind.i64.wrap ((k : Int) + 1) = (k : Int) + 1 := by rw [i64_w]; exact w64_in (by omega) (by omega)
        have q := J.now.2.four
        have ra := HL.out.later J.now.1
        obtain ⟨b, off, rfl, hc⟩ := ra.2.2 (by omega)
        have hc1 := hc k hlt
        have hs := take_snoc l (plc c t g) k (by omega)
        have hE : timedF t (l[k]?.getD 0) ≠ 0 → ferr (timedF t) l = timedF t (l[k]?.getD 0) := fun h => ferr_hit (by omega) HE.out h
        have hE' : timedF t (l[k]?.getD 0) = 0 → ∀ j, j < k + 1 → timedF t (l[j]?.getD 0) = 0 := fun h j hj => by
          by_cases e : j = k
          · rw [e]; exact h
          · exact HE.out j (by omega)
        generalize hxk : l[k]?.getD 0 = x at hc1 hs hE hE'
        have HXK := Lib.hid hxk
        clear hxk
        have HS := Lib.hid hs
        have HX := Lib.hid hE
        have HX' := Lib.hid hE'
        clear hs hE hE' hc ra
        have hS1 : ∀ W, Below wr.heap.size wr W → Below wr.heap.size wr W ∧ (W.cell? ⟨w.heap.size, 0, none⟩ = some (.int .i64 c) ∧ W.cell? ⟨w.heap.size, 1, none⟩ = some (.int .i64 t) ∧ W.cell? ⟨w.heap.size, 2, none⟩ = some (.int .i64 lo) ∧ W.cell? ⟨w.heap.size, 3, none⟩ = some (.int .i64 hi)) ∧ W.cell? ⟨b, off + k, none⟩ = some (.int .i64 x) := fun W hW => ⟨hW, (J.next hW).now.2.four, (hW.cell (p := ⟨b, off + k, none⟩) (World.block_lt_of_cell? wr _ hc1)).trans hc1⟩
        have HS1 := Lib.hid hS1
        clear hS1
        by_cases hx : 0 ≤ x ∧ x ≤ 1000 * t
        · have hm := btw_yes hx
          have hok : timedF t x = 0 := if_pos hx
          go_wp2
          go_region_held3 (fun W => Below wr.heap.size wr W ∧ (W.cell? ⟨w.heap.size, 0, none⟩ = some (.int .i64 c) ∧ W.cell? ⟨w.heap.size, 1, none⟩ = some (.int .i64 t) ∧ W.cell? ⟨w.heap.size, 2, none⟩ = some (.int .i64 lo) ∧ W.cell? ⟨w.heap.size, 3, none⟩ = some (.int .i64 hi)) ∧ W.cell? ⟨b, off + k, none⟩ = some (.int .i64 x))
            (first
              | assumption
              | exact HS1.out _ (below_drewN' (Below.refl _ _) 1)
              | fail)
            (first
              | (go_at_call 62; (with_reducible refine (is_calls _ _ _ _).mono ?_); rintro e w2 ⟨rfl, rfl⟩)
              | fail)
          rename_i w2 hh
          obtain ⟨G0, G1, G2⟩ := hh
          have HB2 := Lib.hid (HB.out.trans (G0.mono HB.out.size))
          have HO2 := Lib.hid (own_later HO.out G0)
          have hB2 := HB2.out.size
          have hS2 : ∀ W, Below w1.heap.size w1 W → (W.cell? ⟨w.heap.size, 0, none⟩ = some (.int .i64 c) ∧ W.cell? ⟨w.heap.size, 1, none⟩ = some (.int .i64 t) ∧ W.cell? ⟨w.heap.size, 2, none⟩ = some (.int .i64 lo) ∧ W.cell? ⟨w.heap.size, 3, none⟩ = some (.int .i64 hi)) ∧ W.cell? ⟨b, off + k, none⟩ = some (.int .i64 x) := fun W hW => ⟨(I.next hW).now.2.four, by
            have h := (HL.out.later (I.next hW).now.1).2.2 (by omega)
            obtain ⟨b', off', e, hc⟩ := h
            cases e
            rw [← HXK.out]
            exact hc k hlt⟩
          have HS2 := Lib.hid hS2
          clear G0 G1 G2 q hc1 hmax hS2 HS1
          go_wp2
          go_region_held3 (fun W => (W.cell? ⟨w.heap.size, 0, none⟩ = some (.int .i64 c) ∧ W.cell? ⟨w.heap.size, 1, none⟩ = some (.int .i64 t) ∧ W.cell? ⟨w.heap.size, 2, none⟩ = some (.int .i64 lo) ∧ W.cell? ⟨w.heap.size, 3, none⟩ = some (.int .i64 hi)) ∧ W.cell? ⟨b, off + k, none⟩ = some (.int .i64 x))
            (first
              | exact HS2.out _ HB4.out
              | exact HS2.out _ (HB3.out.alloc HB3.out.size _)
              | exact HS2.out _ HB3.out
              | exact HS2.out _ (below_drewN' HB2.out 1)
              | fail)
            (first
              | (go_at_call 66; (with_reducible refine (Gives.c (HP.out _ _ hx.1 hx.2)).mono ?_); rintro e w3 ⟨rfl, hb⟩; have HB3 := Lib.hid ((below_drewN' HB2.out 1).trans (hb.mono hB2)); have hO3 := own_later (own_later HO2.out (below_drewN' (Below.refl _ _) 1)) hb; have hsz := HB3.out.size)
              | (refine step_append_lies _ rfl _ _ _ rfl w1.heap.size 3 i0 (.int .i64 0) 1 8 Try.underlying32 hi0 hz0 hz1 hz2 rfl (by decide) _ _ _ rfl (hO3.alloc _) ⟨w3.heap.size, 0, none⟩ 1 1 [.int .i64 (plc c t g x)] rfl rfl (cell_one_new _ _ _) (by intro u hu; simp at hu; subst hu; rfl) (by decide) (by unfold maxLen; omega) (by omega) (by simp; omega) _ rfl ?_; intro g4 cap4 w4 hown' hgrow hat hlt4; have HO' := Lib.hid hown'; have HB4 := Lib.hid ((HB3.out.alloc HB3.out.size _).grown hgrow (by simp; omega) (by intro j hj; exact own_base' hO3 j hj)))
              | fail)
          clear hown' hgrow hO3
          go_wp2
          go_roundw
          case measure => simp [intOf]; omega
          case rel => exact ⟨k + 1, by omega, by go_num, (show Aside _ from by rw [HS.out]; exact HO'.out), HX'.out hok, HB4.out⟩
        · have hm := btw_no hx
          have hok : timedF t x = 3 := if_neg hx
          go_wp2
          go_region_held3 (fun W => Below wr.heap.size wr W ∧ (W.cell? ⟨w.heap.size, 0, none⟩ = some (.int .i64 c) ∧ W.cell? ⟨w.heap.size, 1, none⟩ = some (.int .i64 t) ∧ W.cell? ⟨w.heap.size, 2, none⟩ = some (.int .i64 lo) ∧ W.cell? ⟨w.heap.size, 3, none⟩ = some (.int .i64 hi)) ∧ W.cell? ⟨b, off + k, none⟩ = some (.int .i64 x))
            (first
              | assumption
              | exact HS1.out _ (below_drewN' (Below.refl _ _) 1)
              | fail)
            (first
              | (go_at_call 62; (with_reducible refine (is_calls _ _ _ _).mono ?_); rintro e w2 ⟨rfl, rfl⟩)
              | fail)
          rename_i w2 hh
          go_wp2
          go_ret2
          have he := HX.out (by rw [hok]; decide)
          rw [← HR.out, if_neg (by rw [he, hok]; decide), he, hok]
          exact nilNew rfl (J.next hh.1).now.1
      · obtain rfl : k = n := by omega
        have he := Lib.hid (ferr_none (ck := timedF t) (l := l) (fun j hj => HE.out j (by omega)))
        have HO2 := HO.out
        rw [show outs (plc c t g) l k = l.map (plc c t g) from by unfold outs; rw [← hlen, List.take_length]] at HO2
        obtain ⟨A', c', rfl, hR, hN⟩ := own_reads_new HO2 (by omega)
        have HN := Lib.hid hN
        clear hN
        have HRR := Lib.hid hR
        clear hR HO2
        go_wp2
        go_ret2
        rw [← HR.out, if_pos he.out]
        exact ⟨⟨A', k, c', rfl, HRR.out, fun p hp => Nat.le_trans I.now.1.size (HN.out p hp)⟩, J.now.1⟩
  · rw [if_neg h0]
    have HZ := Lib.hid hz
    have e0 : (z == 0) = false := beq_eq_false_iff_ne.2 h0
    have e1 : (z != 0) = true := bne_iff_ne.2 h0
    clear hz h0 hl
    go_enter Try.func33, Try.ntmps33
    go_wp2_with (go_at_call 69; (with_reducible refine (Gives.c (listed_calls _ _ _ _ _ _ _)).mono ?_); rintro e w1 ⟨rfl, hb⟩; rw [HZ.out])
    go_ret2
    exact nilNew rfl (((Below.refl _ _).alloc (Nat.le_refl _) _).trans (hb.mono (by simp)))
theorem rcut_calls (c t lo hi g : Int) (A : Option Addr) (n cap : Nat) (l : List Int) (w : World) (hl : Reads w A n l) :
    Calls Try.prog 33 #[.agg #[.int .i64 c, .int .i64 t, .int .i64 lo, .int .i64 hi], .int .i64 g, .slice A n cap] w (ListOut (cutF c t lo hi g l) w) :=
  (rcut_new c t lo hi g A n cap l w hl).mono fun _ _ h => h.out
end Go.Proofs.Ytphbiaagmhhhbaa
