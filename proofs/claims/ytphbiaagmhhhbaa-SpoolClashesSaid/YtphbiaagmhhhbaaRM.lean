/- The contracts of the reference's Growths and Clash; plain: what Verify goes through. -/
import Derived.Test.YtphbiaagmhhhbaaRL
namespace Go.Proofs.Ytphbiaagmhhhbaa
open Go.RowKit Go.Lib Go.Shelf

/-! ### What Verify goes through. -/
def VI (c lo hi off : Int) (l : List (Int × Int)) (cl : List Int) (R : Int) (k : Nat) : Prop :=
  ∃ last X Y, verGo c lo hi off l (cl.drop k) last X Y = R ∧ (0 < k → last = cl[k - 1]?.getD 0) ∧ (k = 0 → last = -1) ∧ (lo ≤ X ∧ Y ≤ hi) ∧
    ∀ g, lo ≤ g → g ≤ hi → ((∀ j, j < k → Fits c off g (mAt l (cl[j]?.getD 0).toNat)) ↔ X ≤ g ∧ g ≤ Y)
theorem VI.zero {c lo hi off : Int} {l : List (Int × Int)} {cl : List Int} : VI c lo hi off l cl (verGo c lo hi off l cl (-1) lo hi) 0 :=
  ⟨-1, lo, hi, rfl, fun h => by omega, fun _ => rfl, ⟨Int.le_refl _, Int.le_refl _⟩, fun g h0 h1 => ⟨fun _ => ⟨h0, h1⟩, fun _ j hj => by omega⟩⟩
theorem VI.step {c lo hi off : Int} {l : List (Int × Int)} {cl : List Int} {R : Int} {k : Nat} (hf : ∀ i, 0 ≤ (mAt l i).1) (hk : k < cl.length) (h : VI c lo hi off l cl R k) {x : Int} (hx : cl[k]?.getD 0 = x) :
    (¬ (0 ≤ x ∧ x ≤ (l.length : Int) - 1) → R = 8) ∧ (0 ≤ x ∧ x ≤ (l.length : Int) - 1 → (0 < k ∧ x ≤ cl[k - 1]?.getD 0 → R = 7) ∧ (¬ (0 < k ∧ x ≤ cl[k - 1]?.getD 0) → VI c lo hi off l cl R (k + 1))) := by
  obtain ⟨last, X, Y, hR, hl, hl0, hb, hg⟩ := h
  rw [List.drop_eq_getElem_cons hk] at hR
  have hxk : cl[k] = x := by rw [← hx, List.getElem?_eq_getElem hk]; rfl
  rw [hxk] at hR
  unfold verGo at hR
  by_cases h1 : 0 ≤ x ∧ x ≤ (l.length : Int) - 1
  · rw [if_pos h1] at hR
    refine ⟨fun h => absurd h1 h, fun _ => ⟨?_, ?_⟩⟩
    · rintro ⟨h2, h3⟩
      rw [if_pos (by rw [hl h2]; exact h3)] at hR
      exact hR.symm
    · intro h2
      rw [if_neg (by
        intro h3
        by_cases hk0 : k = 0
        · rw [hl0 hk0] at h3; omega
        · exact h2 ⟨by omega, by rw [← hl (by omega)]; exact h3⟩)] at hR
      refine ⟨x, _, _, hR, fun _ => by rw [Nat.add_sub_cancel, hx], fun h => by omega, ⟨by omega, by omega⟩, fun g h0 h4 => ?_⟩
      have hit := fit_iff (c := c) (off := off) (m := mAt l x.toNat) (hf _) h0 h4
      have hgg := hg g h0 h4
      constructor
      · intro hh
        have a := hgg.1 (fun j hj => hh j (by omega))
        have b := hh k (by omega)
        rw [hx] at b
        have := hit.1 b
        omega
      · intro hh j hj
        by_cases e : j = k
        · rw [e, hx]; exact hit.2 (by omega)
        · exact hgg.2 (by omega) j (by omega)
  · rw [if_neg h1] at hR
    exact ⟨fun _ => hR.symm, fun h => absurd h h1⟩

def sel (l : List (Int × Int)) (cl : List Int) (k : Nat) : List (Int × Int) := (cl.take k).map fun i => mAt l i.toNat
theorem sel_length {l : List (Int × Int)} {cl : List Int} {k : Nat} (hk : k ≤ cl.length) : (sel l cl k).length = k := by unfold sel; simp; omega
theorem sel_at {l : List (Int × Int)} {cl : List Int} {k j : Nat} (hk : k ≤ cl.length) (hj : j < k) : mAt (sel l cl k) j = mAt l (cl[j]?.getD 0).toNat := by
  unfold sel
  conv => lhs; unfold mAt
  rw [List.getElem?_map, List.getElem?_take_of_lt hj, List.getElem?_eq_getElem (by omega)]
  rfl
theorem sel_snoc {l : List (Int × Int)} {cl : List Int} {k : Nat} (hk : k < cl.length) : cellsM (sel l cl (k + 1)) = cellsM (sel l cl k) ++ [Value.int .i64 (mAt l (cl[k]?.getD 0).toNat).1, Value.int .i64 (mAt l (cl[k]?.getD 0).toNat).2] := by
  unfold sel
  rw [List.take_succ_eq_append_getElem hk, List.map_append, cellsM_append, List.getElem?_eq_getElem hk]
  rfl
theorem VI.done {c lo hi off : Int} {l : List (Int × Int)} {cl : List Int} {R : Int} (hlh : lo ≤ hi) (h : VI c lo hi off l cl R cl.length) :
    R = if (fittingF c lo hi off (sel l cl cl.length)).1 ≤ (fittingF c lo hi off (sel l cl cl.length)).2 then 14 else 0 := by
  obtain ⟨last, X, Y, hR, _, _, hb, hg⟩ := h
  rw [List.drop_length] at hR
  unfold verGo at hR
  have hfa : ∀ g, FitsAll c off g (sel l cl cl.length) ↔ ∀ j, j < cl.length → Fits c off g (mAt l (cl[j]?.getD 0).toNat) := by
    intro g
    unfold FitsAll
    rw [sel_length (Nat.le_refl _)]
    constructor
    · intro h j hj
      have := h j hj
      rw [sel_at (Nat.le_refl _) hj] at this
      exact this
    · intro h j hj
      rw [sel_at (Nat.le_refl _) hj]
      exact h j hj
  rcases fitting_spec (c := c) (lo := lo) (hi := hi) (off := off) (l := sel l cl cl.length) hlh with ⟨h1, h2⟩ | ⟨h1, h2, h3, h4, _, _⟩
  · rw [if_neg (by omega)]
    rw [← hR, if_neg]
    intro hXY
    exact h2 X hb.1 (by omega) ((hfa X).2 ((hg X hb.1 (by omega)).2 ⟨Int.le_refl _, hXY⟩))
  · rw [if_pos h1, ← hR, if_pos]
    have := (hg _ h2 (by omega)).1 ((hfa _).1 h4)
    omega

/-! ### Growths -/
theorem two_boxes (w : World) (c t lo hi : Int) : Held ((w.alloc (.cells [Value.int .i64 c, .int .i64 t, .int .i64 lo, .int .i64 hi].toArray 43)).alloc (.cells [Value.int .i64 0, .int .i64 0].toArray 26)) (fun W => (Below w.heap.size w W ∧ Blk W w.heap.size [.int .i64 c, .int .i64 t, .int .i64 lo, .int .i64 hi]) ∧ Blk W (w.heap.size + 1) [.int .i64 0, .int .i64 0]) := by
  have h1 : Held (w.alloc (.cells [Value.int .i64 c, .int .i64 t, .int .i64 lo, .int .i64 hi].toArray 43)) (fun W => Below w.heap.size w W ∧ Blk W w.heap.size [.int .i64 c, .int .i64 t, .int .i64 lo, .int .i64 hi]) := .start (.from (Below.refl _ _) (Nat.le_refl _)) _ _
  have h2 := h1.allocB [Value.int .i64 0, .int .i64 0] 26
  have e : (w.alloc (.cells [Value.int .i64 c, .int .i64 t, .int .i64 lo, .int .i64 hi].toArray 43)).heap.size = w.heap.size + 1 := by simp
  rw [e] at h2
  exact h2

theorem rGrowths_err {c t lo hi off z : Int} {A : Option Addr} {n cap : Nat} {l : List (Int × Int)} (hz : measF c t lo hi off l = z) (h0 : z ≠ 0) (w : World) (hl : ReadsM w A n l) :
    Gives 40 #[.agg #[.int .i64 c, .int .i64 t, .int .i64 lo, .int .i64 hi], .int .i64 off, .slice A n cap] (.tuple #[.agg #[.int .i64 0, .int .i64 0], .int .i64 z]) w := by
  unfold Gives
  have HL := Lib.hid hl
  have HZ := Lib.hid hz
  have I := two_boxes w c t lo hi
  have e0 : (z == 0) = false := beq_eq_false_iff_ne.2 h0
  have e1 : (z != 0) = true := bne_iff_ne.2 h0
  clear hz hl h0
  go_enter Try.func40, Try.ntmps40
  go_wp2_with (go_at_call 72; (with_reducible refine (Gives.c (rmeasured_calls _ _ _ _ _ _ _ _ _ _ (HL.out.later I.now.1.1))).mono ?_); rintro e w1 ⟨rfl, hb⟩; rw [HZ.out]; replace I := I.next hb; clear hb; have q3 := I.now.2.two; have f3 := I.now.2.free2; have z3 := I.now.2.lt)
  have r := put2 (a := .int .i64 0) (b := .int .i64 0) q3.1 q3.2
  refine bodyPost_ret (v := .tuple #[.agg #[.int .i64 0, .int .i64 0], .int .i64 z]) (by simp [results, Try.results40, go_sem, r.1, r.2]) rfl ⟨rfl, ?_⟩
  exact below2 I.now.1.1 (by omega) _ _

theorem rGrowths_yes {c t lo hi off L H : Int} {A : Option Addr} {n cap : Nat} {l : List (Int × Int)} (hz : measF c t lo hi off l = 0) (hr : fittingF c lo hi off l = (L, H)) (w : World) (hl : ReadsM w A n l) :
    (H < L → Gives 40 #[.agg #[.int .i64 c, .int .i64 t, .int .i64 lo, .int .i64 hi], .int .i64 off, .slice A n cap] (.tuple #[.agg #[.int .i64 0, .int .i64 0], .int .i64 15]) w) ∧
    (¬ H < L → Gives 40 #[.agg #[.int .i64 c, .int .i64 t, .int .i64 lo, .int .i64 hi], .int .i64 off, .slice A n cap] (.tuple #[.agg #[.int .i64 L, .int .i64 H], .int .i64 0]) w) := by
  unfold Gives
  obtain ⟨hs, _, _, hf⟩ := fine_at hz
  have HL := Lib.hid hl
  have HZ := Lib.hid hz
  have HS := Lib.hid hs
  have HF := Lib.hid hf
  have HR := Lib.hid hr
  clear hz hl hs hf hr
  constructor
  · intro hLH
    have I := two_boxes w c t lo hi
    go_enter Try.func40, Try.ntmps40
    go_wp2_with (first
      | (go_at_call 72; (with_reducible refine (Gives.c (rmeasured_calls _ _ _ _ _ _ _ _ _ _ (HL.out.later I.now.1.1))).mono ?_); rintro e w1 ⟨rfl, hb⟩; rw [HZ.out]; replace I := I.next hb; clear hb; have q := I.now.1.2.four; have z := I.now.1.2.lt)
      | (go_at_call 73; (with_reducible refine (Gives.c (rfitting_calls HR.out _ HS.out HF.out (HL.out.later I.now.1.1))).mono ?_); rintro e w2 ⟨rfl, hb⟩; replace I := I.next hb; clear hb q z; have q3 := I.now.2.two; have f3 := I.now.2.free2; have z3 := I.now.2.lt))
    have r := put2 (a := .int .i64 0) (b := .int .i64 0) q3.1 q3.2
    refine bodyPost_ret (v := .tuple #[.agg #[.int .i64 0, .int .i64 0], .int .i64 15]) (by simp [results, Try.results40, go_sem, r.1, r.2, z3]) rfl ⟨rfl, ?_⟩
    exact (below2 I.now.1.1 (by omega) _ _).alloc (by simp; exact I.now.1.1.size) _
  · intro hLH
    have I := two_boxes w c t lo hi
    go_enter Try.func40, Try.ntmps40
    go_wp2_with (first
      | (go_at_call 72; (with_reducible refine (Gives.c (rmeasured_calls _ _ _ _ _ _ _ _ _ _ (HL.out.later I.now.1.1))).mono ?_); rintro e w1 ⟨rfl, hb⟩; rw [HZ.out]; replace I := I.next hb; clear hb; have q := I.now.1.2.four; have z := I.now.1.2.lt)
      | (go_at_call 73; (with_reducible refine (Gives.c (rfitting_calls HR.out _ HS.out HF.out (HL.out.later I.now.1.1))).mono ?_); rintro e w2 ⟨rfl, hb⟩; replace I := I.next hb; clear hb q z; have q3 := I.now.2.two; have f3 := I.now.2.free2; have z3 := I.now.2.lt))
    have r := put2 (a := .int .i64 L) (b := .int .i64 H) q3.1 q3.2
    refine bodyPost_ret (v := .tuple #[.agg #[.int .i64 L, .int .i64 H], .int .i64 0]) (by simp [results, Try.results40, go_sem, r.1, r.2, z3]) rfl ⟨rfl, ?_⟩
    exact (below2 I.now.1.1 (by omega) _ _).alloc (by simp; exact I.now.1.1.size) _

theorem rGrowths_calls {c t lo hi off a b e : Int} {A : Option Addr} {n cap : Nat} {l : List (Int × Int)} (h : growthsF c t lo hi off l = (a, b, e)) (w : World) (hl : ReadsM w A n l) :
    Gives 40 #[.agg #[.int .i64 c, .int .i64 t, .int .i64 lo, .int .i64 hi], .int .i64 off, .slice A n cap] (.tuple #[.agg #[.int .i64 a, .int .i64 b], .int .i64 e]) w := by
  unfold growthsF at h
  by_cases hz : measF c t lo hi off l = 0
  · rw [if_pos hz] at h
    obtain ⟨hs, _, _, hf⟩ := fine_at hz
    have hh := rGrowths_yes (cap := cap) hz (L := (fittingF c lo hi off l).1) (H := (fittingF c lo hi off l).2) rfl w hl
    rcases fitting_known (c := c) (lo := lo) (hi := hi) (off := off) (l := l) hs.2.2.2.1 (fun i => (hf i).1.1) with ⟨h1, h2⟩ | ⟨h1, h2, h3⟩
    · rw [if_pos h2] at h
      cases h
      exact hh.1 h1
    · rw [if_neg (by omega)] at h
      cases h
      rw [← h2, ← h3]
      exact hh.2 (by omega)
  · rw [if_neg hz] at h
    cases h
    exact rGrowths_err rfl hz w hl
end Go.Proofs.Ytphbiaagmhhhbaa
