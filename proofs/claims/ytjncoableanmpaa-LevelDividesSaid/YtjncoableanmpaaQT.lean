/- The reference's Divide: the error of the best division. -/
import Derived.Test.YtjncoableanmpaaQU
import Derived.Deep.DeepCutAuto
namespace Go.Proofs.Ytjncoableanmpaa
open Go.RowKit Go.Lib Go.Shelf

theorem blkA_0 (w : World) (cs ds : List Value) (t u : TypeId) : Blk ((w.alloc (.cells cs.toArray t)).alloc (.cells ds.toArray u)).drew w.heap.size cs := ((Blk.new w cs t).alloc _).drew
theorem blkA_1 (w : World) (cs ds : List Value) (t u : TypeId) : Blk ((w.alloc (.cells cs.toArray t)).alloc (.cells ds.toArray u)).drew (w.heap.size + 1) ds := Blk.drew (by simpa using Blk.new (w.alloc (.cells cs.toArray t)) ds u)
/-- The rows behind some players: old fractions, old starts. -/
structure Old (l : List Cd) (n B8 B9 p : Nat) (v : Nat → Int × Int) (sv : Nat → Value) (W : World) : Prop where
  r : Row2 W B8 n v
  s : RowS W B9 n sv
  lie : ∀ e, e ≤ n → Lies W (p - 1) B8 B9 (sv e)
  val : ∀ e, 1 < p → p - 1 ≤ e → e ≤ n → v e = ((dF l (p - 2) e).1.num, ((dF l (p - 2) e).1.den : Int))

/-- What column e holds when the last starts below f are tried. -/
def Col (l : List Cd) (k e f : Nat) (x : Int × Int) : Prop :=
  (f = k - 1 → x = (0, 0)) ∧ (k = 1 → 0 < f → x = ((alo l 0 e).num, ((alo l 0 e).den : Int))) ∧ (2 ≤ k → k - 1 < f → ∃ q, Lst l (k - 2) e f q ∧ x = (q.num, (q.den : Int)))
theorem Col.done {l : List Cd} {k e : Nat} {x : Int × Int} (h : Col l k e e x) (hk : 1 ≤ k) (he : k ≤ e) : x = ((dF l (k - 1) e).1.num, ((dF l (k - 1) e).1.den : Int)) := by
  by_cases h1 : k = 1
  · subst h1
    exact h.2.1 rfl (by omega)
  · obtain ⟨q, hq, hx⟩ := h.2.2 (by omega) (by omega)
    have e1 := hq.done (by omega)
    rw [show k - 2 + 1 = k - 1 by omega] at e1
    rw [hx, e1]
/-- The value of one try. -/
def tryX (l : List Cd) (k e f : Nat) : Rat := if 1 < k ∧ alo l f e < (dF l (k - 2) f).1 then (dF l (k - 2) f).1 else alo l f e
theorem tryX_one (l : List Cd) {k : Nat} (e f : Nat) (h : k = 1) : tryX l k e f = alo l f e := if_neg (by omega)
theorem tryX_max (l : List Cd) {k : Nat} (e f : Nat) (h : 2 ≤ k) : tryX l k e f = maxR (dF l (k - 2) f).1 (alo l f e) := by
  unfold tryX maxR
  by_cases h1 : alo l f e < (dF l (k - 2) f).1
  · rw [if_pos h1, if_pos ⟨by omega, h1⟩]
  · rw [if_neg h1, if_neg (fun h => h1 h.2)]
theorem max_sml {l : List Cd} (hg : Good l) {n a e : Nat} (h1 : 1 ≤ a) (h2 : a < e) (h3 : e ≤ l.length) : Sml (maxR (dF l n a).1 (alo l a e)) := by
  rcases maxR_or (dF l n a).1 (alo l a e) with h | h
  · rw [h]; exact (dF_sml hg n a h1 (by omega)).1
  · rw [h]; exact alo_sml hg h2 h3
theorem tryX_sml {l : List Cd} (hg : Good l) {k e f : Nat} (hk : 1 ≤ k) (hf : k - 1 ≤ f) (hfe : f < e) (hel : e ≤ l.length) : Sml (tryX l k e f) := by
  by_cases h1 : k = 1
  · rw [tryX_one l e f h1]; exact alo_sml hg hfe hel
  · rw [tryX_max l e f (by omega)]; exact max_sml hg (by omega) hfe hel
theorem Col.next {l : List Cd} (hg : Good l) {k e f : Nat} {u : Int × Int} (h : Col l k e f u) (hk : 1 ≤ k) (hf : k - 1 ≤ f) (hfe : f < e) (hel : e ≤ l.length) (hs : ¬ (k = 1 ∧ 0 < f)) :
    (u = (0, 0) ∧ Col l k e (f + 1) ((tryX l k e f).num, ((tryX l k e f).den : Int))) ∨
    (∃ q : Rat, u = (q.num, (q.den : Int)) ∧ Sml q ∧ (tryX l k e f < q → Col l k e (f + 1) ((tryX l k e f).num, ((tryX l k e f).den : Int))) ∧ (¬ tryX l k e f < q → Col l k e (f + 1) u)) := by
  by_cases hf1 : f = k - 1
  · refine .inl ⟨h.1 hf1, fun h1 => absurd h1 (by omega), fun h1 _ => ?_, fun h2 _ => ⟨_, ?_, rfl⟩⟩
    · rw [tryX_one l e f h1, show f = 0 by omega]
    · rw [tryX_max l e f h2, hf1, show k - 1 + 1 = k - 2 + 2 by omega, show k - 1 = k - 2 + 1 by omega]
      exact Lst.first l (k - 2) e
  · have hk2 : 2 ≤ k := by omega
    obtain ⟨q, hq, hx⟩ := h.2.2 hk2 (by omega)
    have hst := hq.step (by omega)
    rw [← tryX_max l e f hk2] at hst
    refine .inr ⟨q, hx, ?_, fun hlt => ⟨fun h1 => absurd h1 (by omega), fun h1 _ => absurd h1 (by omega), fun _ _ => ⟨_, ?_, rfl⟩⟩, fun hlt => ⟨fun h1 => absurd h1 (by omega), fun h1 _ => absurd h1 (by omega), fun _ _ => ⟨q, ?_, hx⟩⟩⟩
    · obtain ⟨⟨a, h1, h2, h3⟩, _⟩ := hq
      rw [h3]
      exact max_sml hg (by omega) (by omega) hel
    · rw [if_pos hlt] at hst; exact hst
    · rw [if_neg hlt] at hst; exact hst
/-- What lies there at the end. -/
def Ends (w : World) (T B8 B9 n : Nat) (sv : Value) (q : Rat) (X : World) : Prop :=
  Below w.heap.size w X ∧ X.cell? ⟨B9, n, none⟩ = some sv ∧ (X.cell? ⟨B8, n * 2, none⟩ = some (.int .i64 q.num) ∧ X.cell? ⟨B8, n * 2 + 1, none⟩ = some (.int .i64 (q.den : Int))) ∧ ∃ a b, Blk X T [a, b]
theorem Ends.drew {w : World} {T B8 B9 n : Nat} {sv : Value} {q : Rat} {X : World} (h : Ends w T B8 B9 n sv q X) : Ends w T B8 B9 n sv q X.drew := by
  obtain ⟨h1, h2, h3, a, b, h4⟩ := h
  exact ⟨h1.drew, h2, h3, a, b, h4.drew⟩
theorem Ends.put {w : World} {T B8 B9 n : Nat} {sv : Value} {q : Rat} {X : World} (h : Ends w T B8 B9 n sv q X) (hT : w.heap.size ≤ T) (h8 : T ≠ B8) (h9 : T ≠ B9) (x y : Value) : Ends w T B8 B9 n sv q ((X.setCell ⟨T, 0, none⟩ x).setCell ⟨T, 1, none⟩ y) := by
  obtain ⟨h1, h2, h3, a, b, h4⟩ := h
  refine ⟨below2 h1 hT _ _, ?_, ⟨?_, ?_⟩, x, y, h4.put2 x y⟩
  · rw [World.cell?_setCell_other _ _ _ _ (by intro e; exact h9 (congrArg Addr.block e)), World.cell?_setCell_other _ _ _ _ (by intro e; exact h9 (congrArg Addr.block e))]
    exact h2
  · rw [World.cell?_setCell_other _ _ _ _ (by intro e; exact h8 (congrArg Addr.block e)), World.cell?_setCell_other _ _ _ _ (by intro e; exact h8 (congrArg Addr.block e))]
    exact h3.1
  · rw [World.cell?_setCell_other _ _ _ _ (by intro e; exact h8 (congrArg Addr.block e)), World.cell?_setCell_other _ _ _ _ (by intro e; exact h8 (congrArg Addr.block e))]
    exact h3.2
theorem Ends.cells {w : World} {T B8 B9 n : Nat} {sv : Value} {q : Rat} {X : World} (h : Ends w T B8 B9 n sv q X) : Below w.heap.size w X ∧ X.cell? ⟨B9, n, none⟩ = some sv ∧ (X.cell? ⟨B8, n * 2, none⟩ = some (.int .i64 q.num) ∧ X.cell? ⟨B8, n * 2 + 1, none⟩ = some (.int .i64 (q.den : Int))) ∧
    (X.cell? ⟨T, 0, none⟩ = some (valAt X ⟨T, 0, none⟩) ∧ X.cell? ⟨T, 1, none⟩ = some (valAt X ⟨T, 1, none⟩) ∧ X.frozen? ⟨T, 0, none⟩ = false ∧ X.frozen? ⟨T, 1, none⟩ = false) := by
  obtain ⟨h1, h2, h3, a, b, h4⟩ := h
  exact ⟨h1, h2, h3, h4.vals⟩

set_option maxRecDepth 100000 in
set_option maxHeartbeats 16000000 in
theorem rdivide_calls {b off n c p : Nat} {l : List Cd} (w : World) (hl : ReadsC w (some ⟨b, off, none⟩) n l) (hk : chk l = 0) (hp : 1 ≤ p ∧ p ≤ n) (hcap : n ≤ c) :
    Calls Try.prog 22 #[.slice (some ⟨b, off, none⟩) n c, .int .i64 (p : Int)] w
      fun e' w' => (∃ A m c', e' = .returned (.tuple #[.slice A m c', rv (dF l (p - 1) n).1, .int .i64 0])) ∧ Below w.heap.size w w' := by
  have hg := chk_good hk
  have hlen := hl.1
  have hn24 : n ≤ 24 := by have := hg.few; omega
  have I : Held (w.alloc (.cells [Value.int .i64 0, .int .i64 0].toArray 24)) (fun W => (Below w.heap.size w W ∧ ReadsC W (some ⟨b, off, none⟩) n l) ∧ Blk W w.heap.size [Value.int .i64 0, .int .i64 0]) :=
    ((Held.from (Below.refl _ _) (Nat.le_refl _)).with (.readsC hl)).allocB [Value.int .i64 0, .int .i64 0] 24
  have C1 : ∀ W, ReadsC W (some ⟨b, off, none⟩) n l → Gives 16 #[.slice (some ⟨b, off, none⟩) n c] (.int .i64 0) W := fun W h => by have := rcheck_calls (some ⟨b, off, none⟩) n c l W h hcap; rwa [hk] at this
  have HC1 := Lib.hid C1
  have hB : ∀ n lo hi W, Quiet 43 #[.int .i64 n, .int .i64 lo, .int .i64 hi] (.bool (btw lo n hi)) W := is_calls
  have HBT := Lib.hid hB
  have d1 : btw 1 (p : Int) (n : Int) = true := btw_yes ⟨by omega, by omega⟩
  have HL := Lib.hid hl
  have HG := Lib.hid hg
  clear C1 hB hl hk
  go_enter Try.func22, Try.ntmps22
  go_wp2_with fail
  generalize World.alloc _ _ = w1 at I ⊢
  go_upto_region 6 with (first
    | (go_at_call 16; (with_reducible refine (Gives.c (HC1.out _ I.now.1.2)).mono ?_); rintro e w2 ⟨rfl, hb⟩; replace I := I.next hb; clear hb)
    | (go_at_call 43; (with_reducible refine (Quiet.c (HBT.out _ _ _ _)).mono ?_); rintro e w3 ⟨rfl, rfl⟩))
  clear d1
  have wn1 : IntKind.i64.wrap ((n : Int) + 1) = (n : Int) + 1 := i64_in (by omega) (by omega)
  obtain ⟨cs72, hl72, hmk72⟩ := mk72 (n := n) (by omega)
  obtain ⟨cs110, hl110, hmk110⟩ := mk110 (n := n) (by omega)
  have HM72 := Lib.hid hmk72
  have HM110 := Lib.hid hmk110
  have HL72 := Lib.hid hl72
  have HL110 := Lib.hid hl110
  clear hl72 hl110
  go_cut [8, 9] (fun s8 s9 wx => ∃ B8 B9 : Nat, s8 = .slice (some ⟨B8, 0, none⟩) (n + 1) (n + 1) ∧ s9 = .slice (some ⟨B9, 0, none⟩) (n + 1) (n + 1) ∧ Aside (Row2 wx B8 n (fun _ => (0, 0))) ∧ Aside (RowS wx B9 n (fun _ => .slice none 0 0)) ∧ Aside (Below w2.heap.size w2 wx) ∧ (B8 ≠ B9 ∧ w2.heap.size ≤ B8 ∧ w2.heap.size ≤ B9))
  case first =>
    go_region_held3 (fun X => Below w2.heap.size w2 X)
      (first | exact (by go_grown) | fail)
      (fail)
    all_goals
      go_wp2_with fail
      go_meet
      first
        | exact ⟨_, _, rfl, rfl, ((row2_new HL72.out 24).later ((Below.refl _ _).alloc (Nat.le_refl _) _)).later (Below.refl _ _).drew, RowS.later (by simpa using rowS_new (W := w2.alloc (.cells cs72.toArray 24)) HL110.out 38) (Below.refl _ _).drew, belowA2 .., by omega, by omega, by omega⟩
        | exact ⟨_, _, rfl, rfl, Row2.later (by simpa using row2_new (W := w2.alloc (.cells cs110.toArray 38)) HL72.out 24) (Below.refl _ _).drew, ((rowS_new HL110.out 38).later ((Below.refl _ _).alloc (Nat.le_refl _) _)).later (Below.refl _ _).drew, belowA2 .., by omega, by omega, by omega⟩
  case rest =>
    obtain ⟨B8, B9, rfl, rfl, H8, H9, HB, hne⟩ := hcut
    have HNE := Lib.hid hne
    have hO : Old l n B8 B9 1 (fun _ => (0, 0)) (fun _ => .slice none 0 0) wc := ⟨H8.out, H9.out, fun e _ => Lies.nil _ _ _ _, fun e h => absurd h (by omega)⟩
    have HO := Lib.hid hO
    have hw2 := Lib.hid HB.out
    clear hO H8 H9 HB hne
    go_wp2_with fail
    go_loopw [8, 9, 10] (fun s8 s9 s10 wr => ∃ (k B8 B9 : Nat) (v : Nat → Int × Int) (sv : Nat → Value), (1 ≤ k ∧ k ≤ p + 1) ∧ s10 = .int .i64 k ∧ s8 = .slice (some ⟨B8, 0, none⟩) (n + 1) (n + 1) ∧ s9 = .slice (some ⟨B9, 0, none⟩) (n + 1) (n + 1) ∧ Aside (Old l n B8 B9 k v sv wr) ∧ Aside (Below w2.heap.size w2 wr) ∧ (B8 ≠ B9 ∧ w2.heap.size ≤ B8 ∧ w2.heap.size ≤ B9)) (fun _ _ s10 _ => p + 1 - (intOf s10).toNat)
    case atStart => exact ⟨1, B8, B9, _, _, ⟨by omega, by omega⟩, rfl, rfl, rfl, HO.out, hw2.out, HNE.out⟩
    case round =>
      obtain ⟨k, B8, B9, v, sv, hk, rfl, rfl, rfl, HO, HB, hne⟩ := hrel
      by_cases hkp : p < k
      · obtain rfl : k = p + 1 := by omega
        have hkp' : ¬ ((p : Int) + 1) ≤ (p : Int) := by omega
        have K := I.next HB.out
        obtain ⟨A, m, c', xs, hsv, _⟩ := HO.out.lie n (Nat.le_refl _)
        have hval := HO.out.val n (by omega) (by omega) (Nat.le_refl _)
        rw [show p + 1 - 2 = p - 1 by omega] at hval
        have hc9 := (HO.out.s.at (Nat.le_refl n)).1
        have hc8 := (HO.out.r.at (Nat.le_refl n)).1
        rw [hsv] at hc9
        rw [hval] at hc8
        dsimp only at hc8
        generalize hq : (dF l (p - 1) n).1 = q at hc8
        have HQ := Lib.hid hq
        clear hq
        have hnl : (n : Int) < (n : Int) + 1 := by omega
        have q5 := K.now.2.two
        have f5 := K.now.2.free2
        have z5 := K.now.2.lt
        have hE : Ends w w.heap.size B8 B9 n (.slice A m c') q wr := ⟨K.now.1.1, hc9, hc8, _, _, K.now.2⟩
        have HE := Lib.hid hE
        have hw2T : w.heap.size < w2.heap.size := I.now.2.lt
        have HNE := Lib.hid (show w.heap.size ≠ B8 ∧ w.heap.size ≠ B9 by omega)
        have HK := Lib.hid K
        clear hE hc8 hc9 HO HB hsv hval K I hne hw2T
        go_wp2_with fail
        go_region_held3 (fun X => Below w.heap.size w X ∧ X.cell? ⟨B9, n, none⟩ = some (.slice A m c') ∧ (X.cell? ⟨B8, n * 2, none⟩ = some (.int .i64 q.num) ∧ X.cell? ⟨B8, n * 2 + 1, none⟩ = some (.int .i64 (q.den : Int))) ∧
    (X.cell? ⟨w.heap.size, 0, none⟩ = some (valAt X ⟨w.heap.size, 0, none⟩) ∧ X.cell? ⟨w.heap.size, 1, none⟩ = some (valAt X ⟨w.heap.size, 1, none⟩) ∧ X.frozen? ⟨w.heap.size, 0, none⟩ = false ∧ X.frozen? ⟨w.heap.size, 1, none⟩ = false))
          (first
            | with_reducible exact HE.out.drew.cells
            | with_reducible exact (HE.out.put (Nat.le_refl _) HNE.out.1 HNE.out.2 _ _).drew.cells
            | fail)
          (fail)
        all_goals
          have k2 := (HK.out.now.2.put2 (.int .i64 q.num) (.int .i64 (q.den : Int))).two
          have kb := below2 HK.out.now.1.1 (Nat.le_refl w.heap.size) (.int .i64 q.num) (.int .i64 (q.den : Int))
          generalize World.setCell _ _ _ = wf at k2 kb ⊢
          go_wp2
          refine bodyPost_ret (v := .tuple #[.slice A m c', rv q, .int .i64 0]) (by simp [results, Try.results22, go_sem, k2, rv]) rfl ⟨⟨A, m, c', by rw [HQ.out]⟩, kb.drew⟩
      · have hkp' : (k : Int) ≤ (p : Int) := by omega
        have hw1 : IntKind.i64.wrap ((k : Int) + 1) = (k : Int) + 1 := i64_in (by omega) (by omega)
        obtain ⟨wo, hwo⟩ : ∃ x, x = wr := ⟨_, rfl⟩
        subst hwo
        have HNE := Lib.hid hne
        clear hne
        go_upto_region 10 with fail
        go_cut [11, 12] (fun s11 s12 wx => ∃ B11 B12 : Nat, s11 = .slice (some ⟨B11, 0, none⟩) (n + 1) (n + 1) ∧ s12 = .slice (some ⟨B12, 0, none⟩) (n + 1) (n + 1) ∧ Aside (Row2 wx B11 n (fun _ => (0, 0))) ∧ Aside (RowS wx B12 n (fun _ => .slice none 0 0)) ∧ Aside (Below wo.heap.size wo wx) ∧ (B11 ≠ B12 ∧ wo.heap.size ≤ B11 ∧ wo.heap.size ≤ B12))
        case first =>
          go_region_held3 (fun X => Below wo.heap.size wo X)
            (first | exact (by go_grown) | fail)
            (fail)
          all_goals
            go_wp2_with fail
            go_meet
            first
              | exact ⟨_, _, rfl, rfl, ((row2_new HL72.out 24).later ((Below.refl _ _).alloc (Nat.le_refl _) _)).later (Below.refl _ _).drew, RowS.later (by simpa using rowS_new (W := wo.alloc (.cells cs72.toArray 24)) HL110.out 38) (Below.refl _ _).drew, belowA2 .., by omega, by omega, by omega⟩
              | exact ⟨_, _, rfl, rfl, Row2.later (by simpa using row2_new (W := wo.alloc (.cells cs110.toArray 38)) HL72.out 24) (Below.refl _ _).drew, ((rowS_new HL110.out 38).later ((Below.refl _ _).alloc (Nat.le_refl _) _)).later (Below.refl _ _).drew, belowA2 .., by omega, by omega, by omega⟩
        case rest =>
          obtain ⟨B11, B12, rfl, rfl, H11, H12, HB2, hne2⟩ := hcut
          have HN2 := Lib.hid hne2
          have hl0 : ∀ e, e ≤ n → Lies wc k B11 B12 (.slice none 0 0) := fun e _ => Lies.nil _ _ _ _
          have HL0 := Lib.hid hl0
          have HR0 := Lib.hid H11.out
          have HS0 := Lib.hid H12.out
          have HBX := Lib.hid HB2.out
          clear hne2 hl0 H11 H12 HB2
          go_wp2_with fail
          go_loopw [13] (fun s13 wr => ∃ (e : Nat) (v2 : Nat → Int × Int) (sv2 : Nat → Value), (k ≤ e ∧ e ≤ n + 1) ∧ s13 = .int .i64 e ∧ Aside (Row2 wr B11 n v2) ∧ Aside (RowS wr B12 n sv2) ∧ Aside (∀ i, i ≤ n → Lies wr k B11 B12 (sv2 i)) ∧ Aside (∀ i, k ≤ i → i < e → v2 i = ((dF l (k - 1) i).1.num, ((dF l (k - 1) i).1.den : Int))) ∧ Aside (∀ i, e ≤ i → v2 i = (0, 0)) ∧ Aside (Below wo.heap.size wo wr)) (fun s13 _ => n + 1 - (intOf s13).toNat)
          case atStart => exact ⟨k, _, _, ⟨Nat.le_refl _, by omega⟩, rfl, HR0.out, HS0.out, HL0.out, fun i h1 h2 => absurd h2 (by omega), fun _ _ => rfl, HBX.out⟩
          case round =>
            obtain ⟨e, v2, sv2, he, rfl, HR, HS, HLI, HV, HZ, HBR⟩ := hrel
            clear HL0 HR0 HS0 HBX
            by_cases hend : n < e
            · obtain rfl : e = n + 1 := by omega
              have hend' : ¬ ((n : Int) + 1) ≤ (n : Int) := by omega
              have HO2 := Lib.hid (show Old l n B11 B12 (k + 1) v2 sv2 wr from ⟨HR.out, HS.out, by rw [show k + 1 - 1 = k by omega]; exact HLI.out, fun i _ h2 h3 => by rw [show k + 1 - 2 = k - 1 by omega]; exact HV.out i (by omega) (by omega)⟩)
              have hn2 := HN2.out
              have hsz := HB.out.size
              have HBF := Lib.hid (HB.out.trans (HBR.out.mono HB.out.size))
              clear HR HS HLI HV HZ HBR
              go_wp2_with fail
              go_roundw
              case rel => exact ⟨k + 1, B11, B12, v2, sv2, ⟨by omega, by omega⟩, by go_num, rfl, rfl, HO2.out, HBF.out, by omega, by omega, by omega⟩
              case measure => simp [intOf]; omega
            · have hend' : (e : Int) ≤ (n : Int) := by omega
              have hw2 : IntKind.i64.wrap ((e : Int) + 1) = (e : Int) + 1 := i64_in (by omega) (by omega)
              obtain ⟨k1, hk1⟩ : ∃ k1, k1 = k - 1 := ⟨_, rfl⟩
              have wk1 : IntKind.i64.wrap ((k : Int) - 1) = (k1 : Int) := by rw [i64_in (by omega) (by omega)]; omega
              have HK1 := Lib.hid hk1
              have hcol : Col l k e k1 (v2 e) := ⟨fun _ => HZ.out e (Nat.le_refl _), fun h1 h2 => absurd h2 (by omega), fun _ h2 => absurd h2 (by omega)⟩
              have HC0 := Lib.hid hcol
              have hke : k1 ≤ e := by omega
              clear hcol hk1
              obtain ⟨w5, hw5⟩ : ∃ x, x = wr := ⟨_, rfl⟩
              subst hw5
              go_wp2_with fail
              go_loopw [14] (fun s14 wr => ∃ (f : Nat) (v3 : Nat → Int × Int) (sv3 : Nat → Value), (k1 ≤ f ∧ f ≤ e) ∧ s14 = .int .i64 f ∧ Aside (Row2 wr B11 n v3) ∧ Aside (RowS wr B12 n sv3) ∧ Aside (∀ i, i ≤ n → Lies wr k B11 B12 (sv3 i)) ∧ Aside (∀ i, i ≠ e → v3 i = v2 i) ∧ Aside (Col l k e f (v3 e)) ∧ Aside (Below wo.heap.size wo wr)) (fun s14 _ => e - (intOf s14).toNat)
              case atStart => exact ⟨k1, v2, sv2, ⟨Nat.le_refl _, hke⟩, rfl, HR.out, HS.out, HLI.out, fun _ _ => rfl, HC0.out, HBR.out⟩
              case round =>
                obtain ⟨f, v3, sv3, hf, rfl, HR3, HS3, HLI3, HOT, HCO, HBR3⟩ := hrel
                clear HC0
                by_cases hfe : e ≤ f
                · obtain rfl : f = e := by omega
                  have hcd := HCO.out.done hk.1 he.1
                  have HV3 := Lib.hid (show ∀ i, k ≤ i → i < f + 1 → v3 i = ((dF l (k - 1) i).1.num, ((dF l (k - 1) i).1.den : Int)) from fun i h1 h2 => by
                    by_cases hif : i = f
                    · subst hif; exact hcd
                    · rw [HOT.out i hif]; exact HV.out i h1 (by omega))
                  have HZ3 := Lib.hid (show ∀ i, f + 1 ≤ i → v3 i = (0, 0) from fun i h1 => by rw [HOT.out i (by omega)]; exact HZ.out i (by omega))
                  clear hcd HR HS HLI HV HZ HBR HOT HCO
                  go_wp2_with fail
                  go_roundw
                  case rel => exact ⟨f + 1, v3, sv3, ⟨by omega, by omega⟩, by go_num, HR3.out, HS3.out, HLI3.out, HV3.out, HZ3.out, HBR3.out⟩
                  case measure => simp [intOf]; omega
                · replace hfe : f < e := by omega
                  have hfe' : (f : Int) < (e : Int) := by omega
                  have hw3 : IntKind.i64.wrap ((f : Int) + 1) = (f : Int) + 1 := i64_in (by omega) (by omega)
                  by_cases hsk : k = 1 ∧ 0 < f
                  · have ek : ((k : Int) == 1) = true := beq_iff_eq.2 (by omega)
                    have ef : (0 : Int) < (f : Int) := by omega
                    have HC2 := Lib.hid (show Col l k e (f + 1) (v3 e) from ⟨fun h => absurd h (by omega), fun h1 _ => HCO.out.2.1 h1 hsk.2, fun h2 => absurd h2 (by omega)⟩)
                    clear hsk HCO HV HZ HR HS HLI HBR
                    go_wp2_with fail
                    go_roundw
                    case rel => exact ⟨f + 1, v3, sv3, ⟨by omega, by omega⟩, by go_num, HR3.out, HS3.out, HLI3.out, HOT.out, HC2.out, HBR3.out⟩
                    case measure => simp [intOf]; omega
                  · obtain ⟨w6, hw6⟩ : ∃ x, x = wr := ⟨_, rfl⟩
                    subst hw6
                    go_upto_region 17 with fail
                    go_cut [72] (fun s72 wx => s72 = .bool false ∧ wx = w6)
                    case first =>
                      by_cases h1 : k = 1
                      · have ek : ((k : Int) == 1) = true := beq_iff_eq.2 (by omega)
                        have ef : ¬ (0 : Int) < (f : Int) := by omega
                        clear h1
                        go_wp2_with fail
                        go_meet
                        exact ⟨by first | rfl | exact congrArg Value.bool (decide_eq_false (by omega)), rfl⟩
                      · have ek : ((k : Int) == 1) = false := beq_eq_false_iff_ne.2 (by omega)
                        go_wp2_with fail
                        go_meet
                        exact ⟨rfl, rfl⟩
                    case rest =>
                      obtain ⟨rfl, rfl⟩ := hcut
                      clear HR HS HLI HV HZ HBR
                      have hel : e ≤ l.length := by omega
                      have hk1 := HK1.out
                      have hnx := HCO.out.next HG.out hk.1 (by omega) hfe hel hsk
                      have hxs := tryX_sml HG.out hk.1 (show k - 1 ≤ f by omega) hfe hel
                      have hys := alo_sml HG.out hfe hel
                      have hov : 1 < k → v f = ((dF l (k - 2) f).1.num, ((dF l (k - 2) f).1.den : Int)) := fun h1 => HO.out.val f h1 (by omega) (by omega)
                      have hos : 1 < k → Sml (dF l (k - 2) f).1 := fun h1 => (dF_sml HG.out (k - 2) f (by omega) (by omega)).1
                      have hxd : tryX l k e f = if 1 < k ∧ alo l f e < (dF l (k - 2) f).1 then (dF l (k - 2) f).1 else alo l f e := rfl
                      have h50 : ∀ W, ReadsC W (some ⟨b, off, none⟩) n l → Calls Try.prog 50 #[.slice (some ⟨b, off + f * 3, none⟩) (e - f) (c - f)] W fun e' w' => ∃ v, e' = .returned (.tuple #[.agg #[.int .i64 (alo l f e).num, .int .i64 ((alo l f e).den : Int)], v]) ∧ Below W.heap.size W w' := fun W h =>
                        rbest_calls W (reads_sub h hfe (by omega)) (sub_good HG.out hfe hel)
                      generalize tryX l k e f = x at hxd hnx hxs
                      generalize alo l f e = y at hxd hys h50
                      generalize (dF l (k - 2) f).1 = o at hxd hov hos
                      have h51 : 1 < k → ∀ W, Gives 51 #[.agg #[.int .i64 y.num, .int .i64 (y.den : Int)], .agg #[.int .i64 o.num, .int .i64 (o.den : Int)]] (.bool (decide (y < o))) W := fun h1 W => by
                        have h2 := hos h1
                        unfold Sml at h2 hys
                        exact rless_calls (by omega) (by omega) (by omega) (by omega) W
                      have h51b : ∀ q : Rat, Sml q → ∀ W, Gives 51 #[.agg #[.int .i64 x.num, .int .i64 (x.den : Int)], .agg #[.int .i64 q.num, .int .i64 (q.den : Int)]] (.bool (decide (x < q))) W := fun q h1 W => by
                        unfold Sml at h1 hxs
                        exact rless_calls (by omega) (by omega) (by omega) (by omega) W
                      have H50 := Lib.hid h50
                      have H51 := Lib.hid h51
                      have H51b := Lib.hid h51b
                      have HNX := Lib.hid hnx
                      have HXD := Lib.hid hxd
                      have HOV := Lib.hid hov
                      have i1 : (f : Int) ≤ (e : Int) := by omega
                      have i2 : (e : Int) ≤ (c : Int) := by omega
                      have i4 : ¬ c - f = 0 := by omega
                      have i5 : ¬ c = f := by omega
                      have g1 : (f : Int) < (n : Int) + 1 := by omega
                      have g2 : (e : Int) < (n : Int) + 1 := by omega
                      have K := ((I.next (HB.out.trans (HBR3.out.mono HB.out.size))).with (Held.from (Below.refl wc.heap.size wc) (Nat.le_refl _)))
                      have hen : e ≤ n := by omega
                      have hfn : f ≤ n := by omega
                      have hkm : k ≤ 24 := by omega
                      have HLE := Lib.hid (show (k - 1 ≤ f ∧ f ≤ n) ∧ e ≤ n from ⟨⟨by omega, by omega⟩, by omega⟩)
                      clear hnx hxs hys hov hos hxd h50 h51 h51b hsk hfe hel HCO hk1
                      go_upto_if 72 with fail
                      go_upto_region 19 with (go_at_call 50; (with_reducible refine (H50.out _ K.now.1.1.2).mono ?_); rintro e' wa ⟨v', rfl, hb⟩; replace K := K.next hb; have zA := K.now.2.size; replace K := K.allocB [.int .i64 y.num, .int .i64 (y.den : Int)] 24; clear hb)
                      generalize World.alloc _ _ = wb at K ⊢
                      generalize wa.heap.size = T at K zA ⊢
                      clear i1 i2 i4 i5 H50
                      obtain ⟨wv, hwv⟩ : ∃ z, z = wc := ⟨_, rfl⟩
                      rw [← hwv] at K zA HR3 HS3 HLI3 HBR3
                      clear hwv
                      have HK := Lib.hid K
                      have q15 := K.now.2.two
                      obtain ⟨dd, hdd⟩ : ∃ dd, decide (1 < k ∧ y < o) = dd := ⟨_, rfl⟩
                      have HDD := Lib.hid hdd
                      clear K hdd
                      go_cut [90] (fun s90 wx => s90 = .bool dd ∧ Aside (Below wb.heap.size wb wx))
                      case first =>
                        by_cases h1 : 1 < k
                        · have e1 : (1 : Int) < (k : Int) := by omega
                          have hS : ∀ X, Below wb.heap.size wb X → Below wb.heap.size wb X ∧ (X.cell? ⟨T, 0, none⟩ = some (.int .i64 y.num) ∧ X.cell? ⟨T, 1, none⟩ = some (.int .i64 (y.den : Int))) ∧ (X.cell? ⟨B8, f * 2, none⟩ = some (.int .i64 o.num) ∧ X.cell? ⟨B8, f * 2 + 1, none⟩ = some (.int .i64 (o.den : Int))) := fun X hX => by
                            have hk2 := HK.out X hX
                            have hr := (HO.out.r.later (HBR3.out.trans (hk2.1.2.mono HBR3.out.size))).at (e := f) hfn
                            rw [HOV.out h1] at hr
                            exact ⟨hX, hk2.2.two, hr.1⟩
                          have HS := Lib.hid hS
                          have hdd := HDD.out
                          have h51 := H51.out h1
                          have edd : decide (y < o) = dd := by rw [← hdd]; simp [h1]
                          rw [edd] at h51
                          have H51' := Lib.hid h51
                          clear hS hdd h51 edd
                          go_region_held3 (fun X => Below wb.heap.size wb X ∧ (X.cell? ⟨T, 0, none⟩ = some (.int .i64 y.num) ∧ X.cell? ⟨T, 1, none⟩ = some (.int .i64 (y.den : Int))) ∧ (X.cell? ⟨B8, f * 2, none⟩ = some (.int .i64 o.num) ∧ X.cell? ⟨B8, f * 2 + 1, none⟩ = some (.int .i64 (o.den : Int))))
                            (first
                              | with_reducible exact HS.out _ (Below.refl _ _).drew
                              | with_reducible exact HS.out _ (HBY.out)
                              | fail)
                            (first
                              | (go_at_call 51; (with_reducible refine (Gives.c (H51'.out _)).mono ?_); rintro e' wy ⟨rfl, hb⟩; have HBY := Lib.hid ((Below.refl wb.heap.size wb).drew.trans hb))
                              | fail)
                          all_goals
                            go_wp2_with fail
                            go_meet
                            exact ⟨rfl, HBY.out⟩
                        · have e1 : ¬ (1 : Int) < (k : Int) := by omega
                          have hdd := HDD.out
                          have edd : dd = false := by rw [← hdd]; simp [h1]
                          go_quiet (fail)
                          go_wp2_with fail
                          go_meet
                          exact ⟨by rw [edd], by first | exact Below.refl _ _ | exact below_drewN' (Below.refl _ _) _⟩
                      case rest =>
                        obtain ⟨rfl, hb1⟩ := hcut
                        have K := HK.out.next hb1.out
                        have q15 := K.now.2.two
                        have f15 := K.now.2.free2
                        have z15 := K.now.2.lt
                        go_upto_if 90 with fail
                        go_cut [15] (fun s15 wx => s15 = .pointer (some ⟨T, 0, none⟩) ∧ Aside (Blk wx T [.int .i64 x.num, .int .i64 (x.den : Int)]) ∧ Aside (Below wv.heap.size wv wx))
                        case first =>
                          have hxd := HXD.out
                          have hdd := HDD.out
                          cases dd with
                          | true =>
                            have hd := of_decide_eq_true hdd
                            rw [if_pos hd] at hxd
                            have hq := (HO.out.r.later (HBR3.out.trans (K.now.1.2.mono HBR3.out.size))).at (e := f) hfn
                            rw [HOV.out hd.1] at hq
                            have hq8 := hq.1
                            have HX := Lib.hid hxd
                            clear hq hd hxd hdd
                            go_wp2_with fail
                            go_meet
                            exact ⟨rfl, by rw [HX.out]; exact K.now.2.put2 _ _, below2 K.now.1.2 zA _ _⟩
                          | false =>
                            rw [if_neg (of_decide_eq_false hdd)] at hxd
                            have HX := Lib.hid hxd
                            clear hxd hdd
                            go_wp2_with fail
                            go_meet
                            exact ⟨rfl, by rw [HX.out]; exact K.now.2, K.now.1.2⟩
                        case rest =>
                          obtain ⟨rfl, HX, HB7⟩ := hcut
                          clear K q15 f15 z15 hb1 HK
                          obtain ⟨w7, hw7⟩ : ∃ z, z = wc := ⟨_, rfl⟩
                          rw [← hw7] at HX HB7 ⊢
                          clear hw7
                          have hTn : T ≠ B11 ∧ T ≠ B12 := by have := HR3.out.lt; have := HS3.out.lt; omega
                          have HTN := Lib.hid hTn
                          have HR7 := Lib.hid (HR3.out.later HB7.out)
                          have HS7 := Lib.hid (HS3.out.later HB7.out)
                          have HL7 := Lib.hid (show ∀ i, i ≤ n → Lies w7 k B11 B12 (sv3 i) from fun i hi => (HLI3.out i hi).later HB7.out)
                          have HBB7 := Lib.hid (HBR3.out.trans (HB7.out.mono HBR3.out.size))
                          have q15 := HX.out.two
                          clear hTn HR3 HS3 HLI3 HBR3 HB7 zA HXD HDD HOV H51
                          go_upto_region 21 with fail
                          go_cut [108] (fun s108 wx => ∃ bb : Bool, s108 = .bool bb ∧ Aside (bb = true → Col l k e (f + 1) (x.num, (x.den : Int))) ∧ Aside (bb = false → Col l k e (f + 1) (v3 e)) ∧ Aside (Below w7.heap.size w7 wx))
                          case first =>
                            rcases HNX.out with ⟨hu, hc⟩ | ⟨q, hu, hqs, hc1, hc2⟩
                            · have r21 := (HR7.out.at hen).1.2
                              rw [hu] at r21
                              dsimp only at r21
                              have HC := Lib.hid hc
                              clear hu hc
                              go_quiet (fail)
                              go_wp2_with fail
                              go_meet
                              exact ⟨true, rfl, fun _ => HC.out, fun h => (by cases h), by first | exact Below.refl _ _ | exact below_drewN' (Below.refl _ _) _⟩
                            · have hd0 : ((q.den : Int) == 0) = false := beq_eq_false_iff_ne.2 (by have := q.den_pos; omega)
                              obtain ⟨bb, hbb⟩ : ∃ bb, decide (x < q) = bb := ⟨_, rfl⟩
                              have h51 := H51b.out q hqs
                              rw [hbb] at h51
                              have H51c := Lib.hid h51
                              have HC1 := Lib.hid hc1
                              have HC2 := Lib.hid hc2
                              have HB1 := Lib.hid hbb
                              have hS : ∀ X, Below w7.heap.size w7 X → Below w7.heap.size w7 X ∧ (X.cell? ⟨T, 0, none⟩ = some (.int .i64 x.num) ∧ X.cell? ⟨T, 1, none⟩ = some (.int .i64 (x.den : Int))) ∧ (X.cell? ⟨B11, e * 2, none⟩ = some (.int .i64 q.num) ∧ X.cell? ⟨B11, e * 2 + 1, none⟩ = some (.int .i64 (q.den : Int))) := fun X hX => by
                                have hr := ((HR7.out.later hX).at hen).1
                                rw [hu] at hr
                                exact ⟨hX, (HX.out.later hX).two, hr⟩
                              have HS := Lib.hid hS
                              clear hu hqs hc1 hc2 hbb h51 hS
                              go_region_held3 (fun X => Below w7.heap.size w7 X ∧ (X.cell? ⟨T, 0, none⟩ = some (.int .i64 x.num) ∧ X.cell? ⟨T, 1, none⟩ = some (.int .i64 (x.den : Int))) ∧ (X.cell? ⟨B11, e * 2, none⟩ = some (.int .i64 q.num) ∧ X.cell? ⟨B11, e * 2 + 1, none⟩ = some (.int .i64 (q.den : Int))))
                                (first
                                  | with_reducible exact HS.out _ (Below.refl _ _).drew
                                  | with_reducible exact HS.out _ (HBY.out)
                                  | fail)
                                (first
                                  | (go_at_call 51; (with_reducible refine (Gives.c (H51c.out _)).mono ?_); rintro e' wy ⟨rfl, hb⟩; have HBY := Lib.hid ((Below.refl w7.heap.size w7).drew.trans hb))
                                  | fail)
                              all_goals
                                go_wp2_with fail
                                go_meet
                                exact ⟨bb, rfl, fun h => HC1.out ((Col.dec bb HB1.out).1 h), fun h => HC2.out ((Col.dec bb HB1.out).2 h), HBY.out⟩
                          case rest =>
                            obtain ⟨bb, rfl, HCT, HCF, HB8⟩ := hcut
                            obtain ⟨w8, hw8⟩ : ∃ z, z = wc := ⟨_, rfl⟩
                            rw [← hw8] at HB8 ⊢
                            clear hw8 q15 H51b HNX
                            have HR8 := Lib.hid (HR7.out.later HB8.out)
                            have HS8 := Lib.hid (HS7.out.later HB8.out)
                            have HL8 := Lib.hid (show ∀ i, i ≤ n → Lies w8 k B11 B12 (sv3 i) from fun i hi => (HL7.out i hi).later HB8.out)
                            have HBB8 := Lib.hid (HBB7.out.trans (HB8.out.mono HBB7.out.size))
                            have HT8 := Lib.hid (HX.out.later HB8.out)
                            clear HR7 HS7 HL7 HBB7 HX HB8
                            go_upto_if 108 with fail
                            cases bb with
                            | false =>
                              have HCX := Lib.hid (HCF.out rfl)
                              clear HCT HCF
                              go_wp2_with fail
                              go_roundw
                              case rel => exact ⟨f + 1, v3, sv3, ⟨by omega, by omega⟩, by go_num, HR8.out, HS8.out, HL8.out, HOT.out, HCX.out, HBB8.out⟩
                              case measure => simp [intOf]; omega
                            | true =>
                              have HCX := Lib.hid (HCT.out rfl)
                              clear HCT HCF
                              go_upto_region 22 with fail
                              obtain ⟨A, m, c2, ys, hsv, hrd, hmk, hmc, hAb⟩ := HO.out.lie f hfn
                              have hne2 := HN2.out
                              have hM : wo.heap.size ≤ w8.heap.size := HBB8.out.size
                              have HM1 := Lib.hid (Mid.start HBB8.out HR8.out HS8.out hne2.1 hne2.2)
                              have hlt9 := HO.out.s.lt
                              have hlt11 : B11 < w8.heap.size := HR8.out.lt
                              have hlt12 : B12 < w8.heap.size := HS8.out.lt
                              have HRD := Lib.hid hrd
                              have hk9 : ∀ X v' sv', Mid wo w8 B11 B12 n v' sv' X → _ := fun X v' sv' h => h.cells HT8.out HTN.out (HO.out.s.later HBB8.out) (show B9 ≠ B11 ∧ B9 ≠ B12 by omega) hfn hsv hen
                              have HK9 := Lib.hid hk9
                              obtain ⟨i0, hi0, hz0, hz1, hz2⟩ := info_parts info3
                              clear hrd hAb hne2 hk9 hsv
                              go_region_held3 (fun X => (X.cell? ⟨T, 0, none⟩ = some (.int .i64 x.num) ∧ X.cell? ⟨T, 1, none⟩ = some (.int .i64 (x.den : Int))) ∧ X.cell? ⟨B9, f, none⟩ = some (.slice A m c2) ∧ (X.cell? ⟨B11, e * 2, none⟩ = some (valAt X ⟨B11, e * 2, none⟩) ∧ X.cell? ⟨B11, e * 2 + 1, none⟩ = some (valAt X ⟨B11, e * 2 + 1, none⟩) ∧ X.frozen? ⟨B11, e * 2, none⟩ = false ∧ X.frozen? ⟨B11, e * 2 + 1, none⟩ = false) ∧ (X.cell? ⟨B12, e, none⟩ = some (valAt X ⟨B12, e, none⟩) ∧ X.frozen? ⟨B12, e, none⟩ = false))
                                (first
                                    | (refine HK9.out _ v3 sv3 ?_; (repeat (first | with_reducible exact HM3.out | with_reducible exact HM2.out | with_reducible exact HM1.out | with_reducible refine Mid.put1 ?_ hen _ | with_reducible refine Mid.put2 ?_ hen _ _ | with_reducible refine Mid.alloc ?_ _ | with_reducible refine Mid.drew ?_)); done)
                                    | (refine HK9.out _ (upd v3 e (x.num, (x.den : Int))) sv3 ?_; (repeat (first | with_reducible exact HM3.out | with_reducible exact HM2.out | with_reducible exact HM1.out | with_reducible refine Mid.put1 ?_ hen _ | with_reducible refine Mid.put2 ?_ hen _ _ | with_reducible refine Mid.alloc ?_ _ | with_reducible refine Mid.drew ?_)); done)
                                    | (refine HK9.out _ (upd v3 e (x.num, (x.den : Int))) (upd sv3 e (.slice (some ⟨g9, 0, none⟩) (m + 1) cap9)) ?_; (repeat (first | with_reducible exact HM3.out | with_reducible exact HM2.out | with_reducible exact HM1.out | with_reducible refine Mid.put1 ?_ hen _ | with_reducible refine Mid.put2 ?_ hen _ _ | with_reducible refine Mid.alloc ?_ _ | with_reducible refine Mid.drew ?_)); done)
                                    | fail)
                                (first
                                  | (rw [if_pos (by rfl)]; refine wp_append_reads _ (.tmp 114) (.tmp 118) 38 rfl w8.heap.size i0 (.int .i64 0) 8 Try.underlying38 hi0 hz0 hz1 hz2 rfl (.slice (some ⟨w8.heap.size, 0, none⟩) 0 0) 0 [] rfl (by repeat (first | (with_reducible refine own_made ?_ ?_; (simp); (first | omega | (simp; done))) | with_reducible refine own_alloc ?_ _ | with_reducible refine own_drew ?_ | with_reducible refine own_put ?_ hlt11 _ _)) A m c2 ys rfl (by exact HRD.out.later (Mid.base (show Mid wo w8 B11 B12 n v3 sv3 _ from by repeat (first | with_reducible exact HM3.out | with_reducible exact HM2.out | with_reducible exact HM1.out | with_reducible refine Mid.put1 ?_ hen _ | with_reducible refine Mid.put2 ?_ hen _ _ | with_reducible refine Mid.alloc ?_ _ | with_reducible refine Mid.drew ?_)))) (by unfold maxLen; omega) (by omega) (by exact Mid.size (show Mid wo w8 B11 B12 n v3 sv3 _ from by repeat (first | with_reducible exact HM3.out | with_reducible exact HM2.out | with_reducible exact HM1.out | with_reducible refine Mid.put1 ?_ hen _ | with_reducible refine Mid.put2 ?_ hen _ _ | with_reducible refine Mid.alloc ?_ _ | with_reducible refine Mid.drew ?_))) ?_; intro v2 w2 hown2 hgrow2; have HO2 := Lib.hid hown2; have HM2 := Lib.hid (Mid.grown (show Mid wo w8 B11 B12 n v3 sv3 _ from by repeat (first | with_reducible exact HM3.out | with_reducible exact HM2.out | with_reducible exact HM1.out | with_reducible refine Mid.put1 ?_ hen _ | with_reducible refine Mid.put2 ?_ hen _ _ | with_reducible refine Mid.alloc ?_ _ | with_reducible refine Mid.drew ?_)) hgrow2 (by intro j hj; cases hj; first | exact Nat.le_refl _ | exact Nat.le_succ _) hM); (first | (refine with_fact (p := Blk w2 w8.heap.size [.int .i64 (f : Int)]) ?_ ?_; refine Blk.kept ?_ hgrow2 ?_; (repeat (first | (with_reducible refine Blk.at_new ?_ _ _; (simp)) | with_reducible refine Blk.drew ?_ | with_reducible refine Blk.alloc ?_ _)); (simp [Value.ownBlock]); intro bf; have BF := Lib.hid bf) | (refine with_fact (p := Blk w2 (w8.heap.size + 1) [.int .i64 (f : Int)]) ?_ ?_; refine Blk.kept ?_ hgrow2 ?_; (repeat (first | (with_reducible refine Blk.at_new ?_ _ _; (simp)) | with_reducible refine Blk.drew ?_ | with_reducible refine Blk.alloc ?_ _)); (simp [Value.ownBlock]); intro bf; have BF := Lib.hid bf) | skip); clear hown2 hgrow2)
                                    | (rw [if_pos (by rfl)]; refine wp_append_reads _ (.tmp 114) (.tmp 118) 38 rfl w8.heap.size i0 (.int .i64 0) 8 Try.underlying38 hi0 hz0 hz1 hz2 rfl (.slice (some ⟨w8.heap.size + 1, 0, none⟩) 0 0) 0 [] rfl (by repeat (first | (with_reducible refine own_made ?_ ?_; (simp); (first | omega | (simp; done))) | with_reducible refine own_alloc ?_ _ | with_reducible refine own_drew ?_ | with_reducible refine own_put ?_ hlt11 _ _)) A m c2 ys rfl (by exact HRD.out.later (Mid.base (show Mid wo w8 B11 B12 n v3 sv3 _ from by repeat (first | with_reducible exact HM3.out | with_reducible exact HM2.out | with_reducible exact HM1.out | with_reducible refine Mid.put1 ?_ hen _ | with_reducible refine Mid.put2 ?_ hen _ _ | with_reducible refine Mid.alloc ?_ _ | with_reducible refine Mid.drew ?_)))) (by unfold maxLen; omega) (by omega) (by exact Mid.size (show Mid wo w8 B11 B12 n v3 sv3 _ from by repeat (first | with_reducible exact HM3.out | with_reducible exact HM2.out | with_reducible exact HM1.out | with_reducible refine Mid.put1 ?_ hen _ | with_reducible refine Mid.put2 ?_ hen _ _ | with_reducible refine Mid.alloc ?_ _ | with_reducible refine Mid.drew ?_))) ?_; intro v2 w2 hown2 hgrow2; have HO2 := Lib.hid hown2; have HM2 := Lib.hid (Mid.grown (show Mid wo w8 B11 B12 n v3 sv3 _ from by repeat (first | with_reducible exact HM3.out | with_reducible exact HM2.out | with_reducible exact HM1.out | with_reducible refine Mid.put1 ?_ hen _ | with_reducible refine Mid.put2 ?_ hen _ _ | with_reducible refine Mid.alloc ?_ _ | with_reducible refine Mid.drew ?_)) hgrow2 (by intro j hj; cases hj; first | exact Nat.le_refl _ | exact Nat.le_succ _) hM); (first | (refine with_fact (p := Blk w2 w8.heap.size [.int .i64 (f : Int)]) ?_ ?_; refine Blk.kept ?_ hgrow2 ?_; (repeat (first | (with_reducible refine Blk.at_new ?_ _ _; (simp)) | with_reducible refine Blk.drew ?_ | with_reducible refine Blk.alloc ?_ _)); (simp [Value.ownBlock]); intro bf; have BF := Lib.hid bf) | (refine with_fact (p := Blk w2 (w8.heap.size + 1) [.int .i64 (f : Int)]) ?_ ?_; refine Blk.kept ?_ hgrow2 ?_; (repeat (first | (with_reducible refine Blk.at_new ?_ _ _; (simp)) | with_reducible refine Blk.drew ?_ | with_reducible refine Blk.alloc ?_ _)); (simp [Value.ownBlock]); intro bf; have BF := Lib.hid bf) | skip); clear hown2 hgrow2)
                                  | (rw [if_pos (by rfl)]; refine wp_append_own _ (.tmp 119) (.tmp 121) 38 rfl w8.heap.size 3 i0 (.int .i64 0) 1 8 Try.underlying38 hi0 hz0 hz1 hz2 rfl (by decide) v2 (0 + m) (nums ([] ++ ys)) rfl (by repeat (first | with_reducible exact HO2.out | with_reducible refine own_alloc ?_ _ | with_reducible refine own_drew ?_ | with_reducible refine own_put ?_ hlt11 _ _)) _ 1 1 [.int .i64 (f : Int)] rfl rfl (one_cell (Blk.one (by repeat (first | with_reducible exact BF.out | (with_reducible refine Blk.at_new ?_ _ _; (simp)) | with_reducible refine Blk.drew ?_ | with_reducible refine Blk.alloc ?_ _)))) (by intro u hu; simp at hu; subst hu; rfl) (by unfold maxLen; omega) (by omega) (by exact Mid.size (show Mid wo w8 B11 B12 n v3 sv3 _ from by repeat (first | with_reducible exact HM3.out | with_reducible exact HM2.out | with_reducible exact HM1.out | with_reducible refine Mid.put1 ?_ hen _ | with_reducible refine Mid.put2 ?_ hen _ _ | with_reducible refine Mid.alloc ?_ _ | with_reducible refine Mid.drew ?_))) ?_; intro v9 w9 hown9 hgrow9 _; obtain ⟨g9, cap9, rfl, hg9, _⟩ := hown9.form (by omega); have HG9 := Lib.hid hg9; have HO9 := Lib.hid hown9; have HM3 := Lib.hid (Mid.grown (show Mid wo w8 B11 B12 n v3 sv3 _ from by repeat (first | with_reducible exact HM3.out | with_reducible exact HM2.out | with_reducible exact HM1.out | with_reducible refine Mid.put1 ?_ hen _ | with_reducible refine Mid.put2 ?_ hen _ _ | with_reducible refine Mid.alloc ?_ _ | with_reducible refine Mid.drew ?_)) hgrow9 (fun k hk => own_base' HO2.out k hk) hM); clear hown9 hgrow9 hg9)
                                  | fail)
                              all_goals
                                have HO9' := HO9.out
                                rw [Nat.zero_add, List.nil_append] at HO9'
                                go_wp2_with fail
                                go_roundw
                                case rel =>
                                  have hmid := ((HM3.out.put2 hen x.num (x.den : Int)).put1 hen (.slice (some ⟨g9, 0, none⟩) (m + 1) cap9))
                                  have hlie := lies_own (k := k) (B1 := B11) (B2 := B12) (xs := ys ++ [(f : Int)]) (by rw [nums_snoc]; exact own_put (own_put (own_put HO9' hlt11 (e * 2) (.int .i64 x.num)) hlt11 (e * 2 + 1) (.int .i64 (x.den : Int))) hlt12 e (.slice (some ⟨g9, 0, none⟩) (m + 1) cap9)) (by omega) (by omega) (by omega) hlt11 hlt12
                                  exact ⟨f + 1, (upd v3 e (x.num, (x.den : Int))), upd sv3 e (.slice (some ⟨g9, 0, none⟩) (m + 1) cap9), ⟨by omega, by omega⟩, by go_num, hmid.r, hmid.s, fun i hi => by
                                    by_cases hie : i = e
                                    · subst hie; rw [upd_same]; exact hlie
                                    · rw [upd_ne _ _ hie]; exact hmid.lies (HL8.out i hi), fun i hi => by rw [upd_ne _ _ hi]; exact HOT.out i hi, by rw [upd_same]; exact HCX.out, hmid.base⟩
                                case measure => simp [intOf]; omega
end Go.Proofs.Ytjncoableanmpaa
