/- The reference: the greatest offence. -/
import Derived.Test.YtjncoableanmpaaQE
namespace Go.Proofs.Ytjncoableanmpaa
open Go.RowKit Go.Lib Go.Shelf

/-- The greatest so far: one of the trios', and none of those seen is greater. -/
def Bst (l : List Cd) (n : Nat) (P : Trio → Prop) (q : Rat) : Prop :=
  (∃ u, TrioOk n u ∧ q = (clm l u).off) ∧ ∀ u, TrioOk n u → P u → (clm l u).off ≤ q
theorem Bst.step {l : List Cd} {n : Nat} {P P' : Trio → Prop} {q : Rat} {v : Trio} (h : Bst l n P q) (hv : TrioOk n v) (hP : ∀ u, TrioOk n u → P' u → P u ∨ u = v) :
    Bst l n P' (if q < (clm l v).off then (clm l v).off else q) := by
  obtain ⟨h1, h2⟩ := h
  by_cases hlt : q < (clm l v).off
  · rw [if_pos hlt]
    refine ⟨⟨v, hv, rfl⟩, fun u hu hp => ?_⟩
    rcases hP u hu hp with h | rfl
    · exact Rat.le_trans (h2 u hu h) (Rat.le_of_lt hlt)
    · exact Rat.le_refl
  · rw [if_neg hlt]
    refine ⟨h1, fun u hu hp => ?_⟩
    rcases hP u hu hp with h | rfl
    · exact h2 u hu h
    · exact Rat.not_lt.1 hlt
theorem Bst.weak {l : List Cd} {n : Nat} {P P' : Trio → Prop} {q : Rat} (h : Bst l n P q) (hP : ∀ u, TrioOk n u → P' u → P u) : Bst l n P' q :=
  ⟨h.1, fun u hu hp => h.2 u hu (hP u hu hp)⟩
theorem Bst.off {l : List Cd} {n : Nat} {P : Trio → Prop} {q : Rat} (h : Bst l n P q) (hn : l.length = n) (h0 : 0 < n) (hP : ∀ u, TrioOk n u → P u) : q = (bestC l).off := by
  subst hn
  obtain ⟨t, ht, e, hb⟩ := bestC_spec h0
  obtain ⟨⟨u, hu, rfl⟩, h2⟩ := h
  refine Rat.le_antisymm (hb u hu) ?_
  rw [e]
  exact h2 t ht (hP t ht)
theorem clm_one (l : List Cd) (i : Nat) : (clm l (i, i, i)).off = one1 (cAt l i) := by
  unfold clm
  rw [if_pos rfl]
theorem clm_three (l : List Cd) {i j k : Nat} (h1 : i < j) (h2 : j < k) : (clm l (i, j, k)).off = three1 (cAt l i) (cAt l j) (cAt l k) := by
  unfold clm
  rw [if_neg (by dsimp only; omega)]
def seenI (i : Nat) (u : Trio) : Prop := u.1 < i
def seenJ (i j : Nat) (u : Trio) : Prop := u.1 < i ∨ (u.1 = i ∧ (u.1 = u.2.2 ∨ u.2.1 < j))
def seenK (i j k : Nat) (u : Trio) : Prop := u.1 < i ∨ (u.1 = i ∧ (u.1 = u.2.2 ∨ u.2.1 < j ∨ (u.2.1 = j ∧ u.2.2 < k)))
theorem seen_one {n i : Nat} (u : Trio) (hu : TrioOk n u) (h : seenJ i (i + 1) u) : seenI i u ∨ u = (i, i, i) := by
  obtain ⟨x, y, z⟩ := u
  unfold seenJ at h
  unfold seenI
  unfold TrioOk at hu
  dsimp only at h hu ⊢
  by_cases h1 : x < i
  · exact .inl h1
  · refine .inr ?_
    have : x = i ∧ y = i ∧ z = i := by omega
    rw [this.1, this.2.1, this.2.2]
theorem seen_jk {n i j : Nat} (u : Trio) (hu : TrioOk n u) (h : seenK i j (j + 1) u) : seenJ i j u := by
  obtain ⟨x, y, z⟩ := u
  unfold seenK at h
  unfold seenJ
  unfold TrioOk at hu
  dsimp only at h hu ⊢
  omega
theorem seen_kj {n i j : Nat} (u : Trio) (hu : TrioOk n u) (h : seenJ i (j + 1) u) : seenK i j n u := by
  obtain ⟨x, y, z⟩ := u
  unfold seenJ at h
  unfold seenK
  unfold TrioOk at hu
  dsimp only at h hu ⊢
  omega
theorem seen_k {n i j k : Nat} (hij : i < j) (hjk : j < k) (u : Trio) (hu : TrioOk n u) (h : seenK i j (k + 1) u) : seenK i j k u ∨ u = (i, j, k) := by
  obtain ⟨x, y, z⟩ := u
  unfold seenK at h
  unfold seenK
  unfold TrioOk at hu
  dsimp only at h hu ⊢
  by_cases h1 : x < i ∨ (x = i ∧ (x = z ∨ y < j ∨ (y = j ∧ z < k)))
  · exact .inl h1
  · refine .inr ?_
    have : x = i ∧ y = j ∧ z = k := by omega
    rw [this.1, this.2.1, this.2.2]
theorem seen_ji {n i : Nat} (u : Trio) (hu : TrioOk n u) (h : seenI (i + 1) u) : seenJ i n u := by
  obtain ⟨x, y, z⟩ := u
  unfold seenI at h
  unfold seenJ
  unfold TrioOk at hu
  dsimp only at h hu ⊢
  omega

/-- What lies there. -/
structure RB (w : World) (b off n : Nat) (l : List Cd) (B4 : Nat) (q : Rat) (W : World) : Prop where
  low : Below w.heap.size w W
  rd : ReadsC W (some ⟨b, off, none⟩) n l
  t : Blk W w.heap.size [.int .i64 0, .int .i64 0]
  q : Blk W B4 [.int .i64 q.num, .int .i64 (q.den : Int)]
  n : w.heap.size < B4 ∧ b < w.heap.size
section
variable {w : World} {b off n : Nat} {l : List Cd} {B4 : Nat} {q : Rat} {W W' : World}
theorem RB.later (h : RB w b off n l B4 q W) (hb : Below W.heap.size W W') : RB w b off n l B4 q W' :=
  ⟨h.low.trans (hb.mono h.low.size), h.rd.later hb, h.t.later hb, h.q.later hb, h.n⟩
theorem RB.put (h : RB w b off n l B4 q W) (q' : Rat) : RB w b off n l B4 q' ((W.setCell ⟨B4, 0, none⟩ (.int .i64 q'.num)).setCell ⟨B4, 1, none⟩ (.int .i64 (q'.den : Int))) :=
  ⟨below2 h.low (by have := h.n; omega) _ _, h.rd.below (below2 (Below.refl w.heap.size W) (by have := h.n; omega) _ _) h.n.2, h.t.other2 (by have := h.n; omega) _ _, h.q.put2 _ _, h.n⟩
theorem RB.alloc (h : RB w b off n l B4 q W) (o : Obj) : RB w b off n l B4 q (W.alloc o) := h.later ((Below.refl _ _).alloc (Nat.le_refl _) _)
theorem RB.held (h : RB w b off n l B4 q W) : Held W (fun X => RB w b off n l B4 q X) := fun _ hX => h.later hX
end
theorem bst_bd {l : List Cd} {n : Nat} {P : Trio → Prop} {q : Rat} (hg : Good l) (hn : l.length = n) (h : Bst l n P q) : q.num.natAbs ≤ 20000000000000 ∧ (q.den : Int) ≤ 400000 := by
  subst hn
  obtain ⟨⟨u, hu, rfl⟩, _⟩ := h
  have := clm_bd hg hu
  omega

set_option maxRecDepth 100000 in
set_option maxHeartbeats 8000000 in
theorem rbest_calls {b off n c : Nat} {l : List Cd} (w : World) (hl : ReadsC w (some ⟨b, off, none⟩) n l) (hg : Good l) :
    Calls Try.prog 50 #[.slice (some ⟨b, off, none⟩) n c] w fun e w' => ∃ v, e = .returned (.tuple #[rv (bestC l).off, v]) ∧ Below w.heap.size w w' := by
  have hlen := hl.1
  have hpos : 0 < n := by have := hg.pos; omega
  have hn24 : n ≤ 24 := by have := hg.few; omega
  have hbw : b < w.heap.size := World.block_lt_of_cell? w _ (hl.at hpos).1
  have hone : ∀ i, i < n → ∀ W, Gives 54 #[.agg #[.int .i64 (cAt l i).1, .int .i64 (cAt l i).2.1, .int .i64 (cAt l i).2.2]] (rv (clm l (i, i, i)).off) W := fun i hi W => by
    rw [clm_one]
    exact proved_calls _ (hg.tame i (by omega)) W
  have hthree : ∀ i j k, i < j → j < k → k < n → ∀ W, Gives 55 #[.agg #[.int .i64 (cAt l i).1, .int .i64 (cAt l i).2.1, .int .i64 (cAt l i).2.2], .agg #[.int .i64 (cAt l j).1, .int .i64 (cAt l j).2.1, .int .i64 (cAt l j).2.2], .agg #[.int .i64 (cAt l k).1, .int .i64 (cAt l k).2.1, .int .i64 (cAt l k).2.2]] (rv (clm l (i, j, k)).off) W := fun i j k h1 h2 h3 W => by
    rw [clm_three l h1 h2]
    exact proved3_calls _ _ _ (hg.tame i (by omega)) (hg.tame j (by omega)) (hg.tame k (by omega)) (hg.inc i j h1 (by omega)) (hg.inc j k h2 (by omega)) W
  unfold rv at hone hthree
  have hless : ∀ (P : Trio → Prop) (q : Rat) (u : Trio), Bst l n P q → TrioOk n u → ∀ W, Gives 51 #[.agg #[.int .i64 q.num, .int .i64 (q.den : Int)], .agg #[.int .i64 (clm l u).off.num, .int .i64 ((clm l u).off.den : Int)]] (.bool (decide (q < (clm l u).off))) W := fun P q u h hu W => by
    have h1 := bst_bd hg hlen h
    have h2 := clm_bd hg (t := _) (by rw [hlen]; exact hu)
    exact rless_calls h1.1 h1.2 (by omega) (by omega) W
  have HONE := Lib.hid hone
  have HTHREE := Lib.hid hthree
  have HLESS := Lib.hid hless
  have HLEN := Lib.hid hlen
  have I : Held (w.alloc (.cells [Value.int .i64 0, .int .i64 0].toArray 24)) (fun W => (Below w.heap.size w W ∧ ReadsC W (some ⟨b, off, none⟩) n l) ∧ Blk W w.heap.size [Value.int .i64 0, .int .i64 0]) :=
    ((Held.from (Below.refl _ _) (Nat.le_refl _)).with (.readsC hl)).allocB [Value.int .i64 0, .int .i64 0] 24
  have h00 : (0 : Int) < (n : Int) := by omega
  have qx := hl.at hpos
  rw [Nat.zero_mul, Nat.add_zero] at qx
  have h0 := HONE.out 0 hpos
  have hB0 : Bst l n (seenI 0) (clm l (0, 0, 0)).off := ⟨⟨(0, 0, 0), ⟨hpos, .inl ⟨rfl, rfl⟩⟩, rfl⟩, fun u _ hu => absurd hu (Nat.not_lt_zero _)⟩
  generalize (clm l (0, 0, 0)).off = q0 at h0 hB0
  have H0 := Lib.hid h0
  have HB0 := Lib.hid hB0
  clear hl hone hthree hless hlen h0 hB0
  go_enter Try.func50, Try.ntmps50
  go_wp2_with (go_at_call 54; (with_reducible refine (Gives.c (H0.out (World.alloc _ _))).mono ?_); rintro e w5 ⟨rfl, hb⟩; replace I := I.next hb; clear hb qx)
  have R0 : RB w b off n l (w5.heap.size + 1) q0 ((w5.alloc (.cells #[Value.int .i64 0] 3)).alloc (.cells #[.int .i64 q0.num, .int .i64 (q0.den : Int)] 24)) :=
    ⟨(I.now.1.1.alloc I.now.1.1.size _).alloc (by have := I.now.1.1.size; simp; omega) _, (I.now.1.2.later ((Below.refl _ _).alloc (Nat.le_refl _) _)).later ((Below.refl _ _).alloc (Nat.le_refl _) _), (I.now.2.alloc _).alloc _, by simpa using Blk.new (w5.alloc (.cells #[Value.int .i64 0] 3)) [.int .i64 q0.num, .int .i64 (q0.den : Int)] 24, by have := I.now.1.1.size; omega⟩
  clear I
  generalize w5.heap.size + 1 = B4 at R0 ⊢
  generalize World.alloc _ _ = w6 at R0 ⊢
  have HR0 := Lib.hid R0
  clear R0
  go_loopw [5, 6] (fun _ s6 wr => ∃ (i : Nat) (q : Rat), i ≤ n ∧ s6 = .int .i64 i ∧ Aside (Bst l n (seenI i) q) ∧ Aside (RB w b off n l B4 q wr)) (fun _ s6 _ => n - (intOf s6).toNat)
  case atStart => exact ⟨0, q0, Nat.zero_le _, rfl, HB0.out, HR0.out⟩
  case round =>
    obtain ⟨i, q, hi, rfl, HBS, HR⟩ := hrel
    clear HR0 HB0
    by_cases hlt : i < n
    · have hlt' : (i : Int) < (n : Int) := by omega
      have hw1 : IntKind.i64.wrap ((i : Int) + 1) = (i : Int) + 1 := i64_in (by omega) (by omega)
      obtain ⟨wo, hwo⟩ : ∃ x, x = wr := ⟨_, rfl⟩
      subst hwo
      have ho := HONE.out i hlt
      have hL := HLESS.out _ _ (i, i, i) HBS.out ⟨hlt, .inl ⟨rfl, rfl⟩⟩
      have hst := HBS.out.step (P' := seenJ i (i + 1)) (v := (i, i, i)) ⟨hlt, .inl ⟨rfl, rfl⟩⟩ seen_one
      generalize (clm l (i, i, i)).off = x at ho hL hst
      have HST := Lib.hid hst
      obtain ⟨dd, hdd⟩ : ∃ dd, decide (q < x) = dd := ⟨_, rfl⟩
      rw [hdd] at hL
      have HDD := Lib.hid hdd
      have HO := Lib.hid ho
      have HL := Lib.hid hL
      have hS : ∀ W, Below wo.heap.size wo W → Below wo.heap.size wo W ∧ (W.cell? ⟨B4, 0, none⟩ = some (.int .i64 q.num) ∧ W.cell? ⟨B4, 1, none⟩ = some (.int .i64 (q.den : Int))) ∧ (W.cell? ⟨b, off + i * 3, none⟩ = some (.int .i64 (cAt l i).1) ∧ W.cell? ⟨b, off + i * 3 + 1, none⟩ = some (.int .i64 (cAt l i).2.1) ∧ W.cell? ⟨b, off + i * 3 + 2, none⟩ = some (.int .i64 (cAt l i).2.2)) := fun W hW => ⟨hW, (HR.out.later hW).q.two, (HR.out.later hW).rd.at hlt⟩
      have HS := Lib.hid hS
      clear ho hL hst hdd hS HBS
      go_upto_region 5 with fail
      go_cut [27] (fun s27 wx => s27 = .bool dd ∧ Aside (RB w b off n l B4 q wx))
      case first =>
        go_region_held3 (fun W => Below wo.heap.size wo W ∧ (W.cell? ⟨B4, 0, none⟩ = some (.int .i64 q.num) ∧ W.cell? ⟨B4, 1, none⟩ = some (.int .i64 (q.den : Int))) ∧ (W.cell? ⟨b, off + i * 3, none⟩ = some (.int .i64 (cAt l i).1) ∧ W.cell? ⟨b, off + i * 3 + 1, none⟩ = some (.int .i64 (cAt l i).2.1) ∧ W.cell? ⟨b, off + i * 3 + 2, none⟩ = some (.int .i64 (cAt l i).2.2)))
          (first
            | with_reducible exact HS.out _ (Below.refl _ _).drew
            | with_reducible exact HS.out _ HB1.out
            | with_reducible exact HS.out _ HB2.out
            | fail)
          (first
            | (go_at_call 54; (with_reducible refine (Gives.c (HO.out _)).mono ?_); rintro e wa ⟨rfl, hb⟩; have HB1 := Lib.hid ((Below.refl wo.heap.size wo).drew.trans hb))
            | (go_at_call 51; (with_reducible refine (Gives.c (HL.out _)).mono ?_); rintro e wb ⟨rfl, hb⟩; have HB2 := Lib.hid (HB1.out.trans (hb.mono HB1.out.size)))
            | fail)
        all_goals
          have R2 := HR.out.later HB2.out
          go_wp2_with fail
          go_meet
          exact ⟨rfl, R2⟩
      case rest =>
        obtain ⟨rfl, HRc⟩ := hcut
        go_upto_if 27 with fail
        have R2 := HRc.out
        have hx := R2.rd.at hlt
        have q4 := R2.q.two
        have z4 := R2.q.lt
        have f4 := R2.q.free2
        clear R2 HR HS
        go_cut [5] (fun _ wx => ∃ q' : Rat, Aside (Bst l n (seenJ i (i + 1)) q') ∧ Aside (RB w b off n l B4 q' wx))
        case first =>
          cases dd with
          | true =>
            have hq := HDD.out
            go_wp2_with (go_at_call 54; (with_reducible refine (Gives.c (HO.out _)).mono ?_); rintro e wd ⟨rfl, hb⟩; have R3 := HRc.out.later hb; clear q4 z4 f4 hb hx; have q4 := R3.q.two; have z4 := R3.q.lt; have f4 := R3.q.free2; have HR3 := Lib.hid R3; clear R3)
            go_meet
            exact ⟨x, by have h := HST.out; rwa [if_pos (of_decide_eq_true hq)] at h, (HR3.out.put x).alloc _⟩
          | false =>
            have hq := HDD.out
            go_wp2_with fail
            go_meet
            exact ⟨q, by have h := HST.out; rwa [if_neg (of_decide_eq_false hq)] at h, HRc.out⟩
        case rest =>
          obtain ⟨q1, HBS1, HR1⟩ := hcut
          clear HST HO HL HDD hx q4 z4 f4 HRc
          obtain ⟨w9, hw9⟩ : ∃ x, x = wc := ⟨_, rfl⟩
          subst hw9
          have HB1 := Lib.hid HBS1.out
          have HRB1 := Lib.hid HR1.out
          clear HBS1 HR1
          go_wp2_with fail
          go_loopw [5, 7] (fun _ s7 wr => ∃ (j : Nat) (q : Rat), (i < j ∧ j ≤ n) ∧ s7 = .int .i64 j ∧ Aside (Bst l n (seenJ i j) q) ∧ Aside (RB w b off n l B4 q wr)) (fun _ s7 _ => n - (intOf s7).toNat)
          case atStart => exact ⟨i + 1, q1, ⟨by omega, by omega⟩, by go_num, HB1.out, HRB1.out⟩
          case round =>
            obtain ⟨j, q2, hj, rfl, HBS2, HR2⟩ := hrel
            clear HB1 HRB1
            by_cases hjn : j < n
            · have hjn' : (j : Int) < (n : Int) := by omega
              have hw2 : IntKind.i64.wrap ((j : Int) + 1) = (j : Int) + 1 := i64_in (by omega) (by omega)
              have HIJ := Lib.hid hj.1
              have HB2 := Lib.hid (HBS2.out.weak (P' := seenK i j (j + 1)) seen_jk)
              have HRB2 := Lib.hid HR2.out
              clear HBS2 HR2
              obtain ⟨w10, hw10⟩ : ∃ x, x = wr := ⟨_, rfl⟩
              subst hw10
              go_wp2_with fail
              go_loopw [5, 8] (fun _ s8 wr => ∃ (k : Nat) (q : Rat), (j < k ∧ k ≤ n) ∧ s8 = .int .i64 k ∧ Aside (Bst l n (seenK i j k) q) ∧ Aside (RB w b off n l B4 q wr)) (fun _ s8 _ => n - (intOf s8).toNat)
              case atStart => exact ⟨j + 1, q2, ⟨by omega, by omega⟩, by go_num, HB2.out, HRB2.out⟩
              case round =>
                obtain ⟨k, q, hk, rfl, HBS, HR⟩ := hrel
                clear HB2 HRB2
                by_cases hkn : k < n
                · have hkn' : (k : Int) < (n : Int) := by omega
                  have hw3 : IntKind.i64.wrap ((k : Int) + 1) = (k : Int) + 1 := i64_in (by omega) (by omega)
                  obtain ⟨wo, hwo⟩ : ∃ x, x = wr := ⟨_, rfl⟩
                  subst hwo
                  have ho := HTHREE.out i j k HIJ.out hk.1 hkn
                  have hok : TrioOk n (i, j, k) := ⟨hkn, .inr ⟨HIJ.out, hk.1⟩⟩
                  have hL := HLESS.out _ _ (i, j, k) HBS.out hok
                  have hst := HBS.out.step (P' := seenK i j (k + 1)) (v := (i, j, k)) hok (seen_k HIJ.out hk.1)
                  generalize (clm l (i, j, k)).off = x at ho hL hst
                  have HST := Lib.hid hst
                  obtain ⟨dd, hdd⟩ : ∃ dd, decide (q < x) = dd := ⟨_, rfl⟩
                  rw [hdd] at hL
                  have HDD := Lib.hid hdd
                  have HO := Lib.hid ho
                  have HL := Lib.hid hL
                  have hS : ∀ W, Below wo.heap.size wo W → Below wo.heap.size wo W ∧ (W.cell? ⟨b, off + i * 3, none⟩ = some (.int .i64 (cAt l i).1) ∧ W.cell? ⟨b, off + i * 3 + 1, none⟩ = some (.int .i64 (cAt l i).2.1) ∧ W.cell? ⟨b, off + i * 3 + 2, none⟩ = some (.int .i64 (cAt l i).2.2)) ∧ (W.cell? ⟨b, off + j * 3, none⟩ = some (.int .i64 (cAt l j).1) ∧ W.cell? ⟨b, off + j * 3 + 1, none⟩ = some (.int .i64 (cAt l j).2.1) ∧ W.cell? ⟨b, off + j * 3 + 2, none⟩ = some (.int .i64 (cAt l j).2.2)) ∧ (W.cell? ⟨b, off + k * 3, none⟩ = some (.int .i64 (cAt l k).1) ∧ W.cell? ⟨b, off + k * 3 + 1, none⟩ = some (.int .i64 (cAt l k).2.1) ∧ W.cell? ⟨b, off + k * 3 + 2, none⟩ = some (.int .i64 (cAt l k).2.2)) := fun W hW => ⟨hW, (HR.out.later hW).rd.at hlt, (HR.out.later hW).rd.at hjn, (HR.out.later hW).rd.at hkn⟩
                  have HS := Lib.hid hS
                  clear ho hL hst hdd hS HBS
                  go_upto_region 13 with fail
                  go_cut [9] (fun s9 wx => ∃ B9, s9 = .pointer (some ⟨B9, 0, none⟩) ∧ Aside (Blk wx B9 [.int .i64 x.num, .int .i64 (x.den : Int)]) ∧ Aside (RB w b off n l B4 q wx))
                  case first =>
                    go_region_held3 (fun W => Below wo.heap.size wo W ∧ (W.cell? ⟨b, off + i * 3, none⟩ = some (.int .i64 (cAt l i).1) ∧ W.cell? ⟨b, off + i * 3 + 1, none⟩ = some (.int .i64 (cAt l i).2.1) ∧ W.cell? ⟨b, off + i * 3 + 2, none⟩ = some (.int .i64 (cAt l i).2.2)) ∧ (W.cell? ⟨b, off + j * 3, none⟩ = some (.int .i64 (cAt l j).1) ∧ W.cell? ⟨b, off + j * 3 + 1, none⟩ = some (.int .i64 (cAt l j).2.1) ∧ W.cell? ⟨b, off + j * 3 + 2, none⟩ = some (.int .i64 (cAt l j).2.2)) ∧ (W.cell? ⟨b, off + k * 3, none⟩ = some (.int .i64 (cAt l k).1) ∧ W.cell? ⟨b, off + k * 3 + 1, none⟩ = some (.int .i64 (cAt l k).2.1) ∧ W.cell? ⟨b, off + k * 3 + 2, none⟩ = some (.int .i64 (cAt l k).2.2)))
                      (first
                        | with_reducible exact HS.out _ (Below.refl _ _).drew
                        | with_reducible exact HS.out _ (afterA _ _)
                        | with_reducible exact HS.out _ HBA.out
                        | with_reducible exact HS.out _ (below2 HBA.out (Nat.le_refl _) _ _)
                        | with_reducible exact HS.out _ (HBA.out.alloc HBA.out.size _)
                        | fail)
                      (first
                        | (go_at_call 55; (with_reducible refine (Gives.c (HO.out (World.drew (World.alloc wo _)))).mono ?_); rintro e wa ⟨rfl, hb⟩; have kx := Blk.later (Blk.drew (Blk.new wo [.int .i64 0, .int .i64 0] 24)) hb; have q9 := kx.two; have f9 := kx.free2; have HKX := Lib.hid kx; have HBA := Lib.hid ((afterA wo _).trans (hb.mono (afterA wo _).size)); clear kx)
                        | (go_at_call 55; (with_reducible refine (Gives.c (HO.out _)).mono ?_); rintro e wa ⟨rfl, hb⟩; have HBA := Lib.hid ((Below.refl wo.heap.size wo).drew.trans hb))
                        | fail)
                    all_goals (first
                      | (have h1 := HKX.out.put2 (.int .i64 x.num) (.int .i64 (x.den : Int))
                         have R2 := HR.out.later (below2 HBA.out (Nat.le_refl _) (.int .i64 x.num) (.int .i64 (x.den : Int)))
                         go_wp2_with fail
                         go_meet
                         exact ⟨_, rfl, h1, R2⟩)
                      | (have h1 := Blk.new wa [.int .i64 x.num, .int .i64 (x.den : Int)] 24
                         have R2 := HR.out.later (HBA.out.alloc HBA.out.size (.cells [.int .i64 x.num, .int .i64 (x.den : Int)].toArray 24))
                         go_wp2_with fail
                         go_meet
                         exact ⟨_, rfl, h1, R2⟩))
                  case rest =>
                    obtain ⟨B9, rfl, H9, HRc⟩ := hcut
                    have q4 := HRc.out.q.two
                    have q9 := H9.out.two
                    clear HR HS HO
                    go_upto_if 66 with (go_at_call 51; (with_reducible refine (Gives.c (HL.out _)).mono ?_); rintro e wd ⟨rfl, hb⟩; have R3 := HRc.out.later hb; have K9 := H9.out.later hb; clear q4 q9 hb; have q4 := R3.q.two; have q9 := K9.two; have z4 := R3.q.lt; have f4 := R3.q.free2; have HR3 := Lib.hid R3; clear R3 K9)
                    clear HL H9 HRc
                    cases dd with
                    | true =>
                      have hq := HDD.out
                      have HNX := Lib.hid (show Bst l n (seenK i j (k + 1)) x by have h := HST.out; rwa [if_pos (of_decide_eq_true hq)] at h)
                      clear HST HDD hq
                      go_wp2_with fail
                      go_roundw
                      case rel => exact ⟨k + 1, x, by omega, by go_num, HNX.out, (HR3.out.put x).alloc _⟩
                      case measure => simp [intOf]; omega
                    | false =>
                      have hq := HDD.out
                      have HNX := Lib.hid (show Bst l n (seenK i j (k + 1)) q by have h := HST.out; rwa [if_neg (of_decide_eq_false hq)] at h)
                      clear HST HDD hq
                      go_wp2_with fail
                      go_roundw
                      case rel => exact ⟨k + 1, q, by omega, by go_num, HNX.out, HR3.out⟩
                      case measure => simp [intOf]; omega
                · obtain rfl : k = n := by omega
                  have HBX := Lib.hid (HBS.out.weak (P' := seenJ i (j + 1)) seen_kj)
                  have HRX := Lib.hid HR.out
                  clear HBS HR
                  go_wp2_with fail
                  go_roundw
                  case rel => exact ⟨j + 1, q, ⟨by have := HIJ.out; omega, by omega⟩, by go_num, HBX.out, HRX.out⟩
                  case measure => simp [intOf]; omega
            · obtain rfl : j = n := by omega
              have HBX := Lib.hid (HBS2.out.weak (P' := seenI (i + 1)) seen_ji)
              have HRX := Lib.hid HR2.out
              clear HBS2 HR2
              go_wp2_with fail
              go_roundw
              case rel => exact ⟨i + 1, q2, by omega, by go_num, HBX.out, HRX.out⟩
              case measure => simp [intOf]; omega
    · obtain rfl : i = n := by omega
      have hq := HBS.out.off HLEN.out hpos (fun u hu => by have := hu; unfold TrioOk at this; unfold seenI; omega)
      subst hq
      have R2 := HR.out
      have q4 := R2.q.two
      have z4 := R2.t.lt
      have f4 := R2.t.free2
      have qt := R2.t.two
      generalize hq1 : (bestC l).off = q at q4 R2
      have HQ0 := Lib.hid hq1
      clear hq1
      have HR2 := Lib.hid R2
      clear R2 HR HBS
      go_wp2_with fail
      have k2 := (HR2.out.t.put2 (.int .i64 q.num) (.int .i64 (q.den : Int))).two
      have kb := below2 HR2.out.low (Nat.le_refl w.heap.size) (.int .i64 q.num) (.int .i64 (q.den : Int))
      generalize World.setCell _ _ _ = wf at k2 kb ⊢
      refine bodyPost_ret (v := .tuple #[rv q, _]) (by simp [results, Try.results50, go_sem, k2]; rfl) rfl ⟨_, by rw [HQ0.out], kb⟩
end Go.Proofs.Ytjncoableanmpaa
