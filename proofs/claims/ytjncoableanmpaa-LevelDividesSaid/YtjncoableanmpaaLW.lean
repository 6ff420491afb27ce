/- Divide: the best division. -/
import Derived.Test.YtjncoableanmpaaLU
import Derived.Test.YtjncoableanmpaaLQ
namespace Go.Proofs.Ytjncoableanmpaa
open Go.RowKit Go.Lib Go.Shelf
attribute [local go_sem] field89_0 field89_2

set_option maxRecDepth 100000 in
set_option maxHeartbeats 8000000 in
theorem divide_calls {b off n c p : Nat} {l : List Cd} (w : World) (hl : ReadsC w (some ⟨b, off, none⟩) n l) (hk : chk l = 0) (hp : 1 ≤ p ∧ p ≤ n) (hcap : n ≤ c) :
    Calls Try.prog 21 #[.slice (some ⟨b, off, none⟩) n c, .int .i64 (p : Int)] w
      fun e' w' => (∃ s : Sv, e' = .returned (.tuple #[s.v, rv (dF l (p - 1) n).1, .int .i64 0]) ∧ s.Rd w' (dF l (p - 1) n).2) ∧ Below w.heap.size w w' := by
  have hg := chk_good hk
  have hlen := hl.1
  have hn24 : n ≤ 24 := by have := hg.few; omega
  have I : Held (w.alloc (.cells [Value.int .i64 0, .int .i64 0].toArray 24)) (fun W => (Below w.heap.size w W ∧ ReadsC W (some ⟨b, off, none⟩) n l) ∧ Blk W w.heap.size [Value.int .i64 0, .int .i64 0]) := fun W hW => by
    have h1 : Below w.heap.size w W := ((Below.refl _ _).alloc (Nat.le_refl _) _).trans (hW.mono (by simp))
    exact ⟨⟨h1, hl.later h1⟩, (Blk.new w _ 24).later hW⟩
  have C1 : ∀ W, ReadsC W (some ⟨b, off, none⟩) n l → Gives 15 #[.slice (some ⟨b, off, none⟩) n c] (.int .i64 0) W := fun W h => by have := check_calls (some ⟨b, off, none⟩) n c l W h; rwa [hk] at this
  have HC1 := Lib.hid C1
  have hB : ∀ lo n hi W, Quiet 42 #[.int .i64 lo, .int .i64 n, .int .i64 hi] (.bool (btw lo n hi)) W := between_calls
  have HBT := Lib.hid hB
  have d1 : btw 1 (p : Int) (n : Int) = true := btw_yes ⟨by omega, by omega⟩
  have HL := Lib.hid hl
  clear C1 hB hl hk
  go_enter Try.func21, Try.ntmps21
  go_wp2_with fail
  generalize World.alloc _ _ = w1 at I ⊢
  go_upto_region 6 with (first
    | (go_at_call 15; (with_reducible refine (Gives.c (HC1.out _ I.now.1.2)).mono ?_); rintro e w2 ⟨rfl, hb⟩; replace I := I.next hb; clear hb)
    | (go_at_call 42; (with_reducible refine (Quiet.c (HBT.out _ _ _ _)).mono ?_); rintro e w3 ⟨rfl, rfl⟩))
  clear d1
  have wn1 : IntKind.i64.wrap ((n : Int) + 1) = (n : Int) + 1 := i64_in (by omega) (by omega)
  obtain ⟨cs99, hl99, hmk99⟩ := mk99 (n := n) (by omega)
  obtain ⟨cs100, hl100, hmk100⟩ := mk100 (n := n) (by omega)
  have HM100 := Lib.hid hmk100
  clear hmk100
  go_wp2_with fail
  have KT : T0 l n w2.heap.size (w2.heap.size + 1) (w2.heap.size + 1) (fun _ => 0) 0 0 ((w2.alloc (.cells cs99.toArray 100)).alloc (.cells #[.slice (some ⟨w2.heap.size, 0, none⟩) n n] 99)) :=
    ⟨⟨cs99, hl99, (Blk.new w2 cs99 100).alloc _, fun i hi => absurd hi (by omega)⟩, fun i e a => absurd a (by omega), fun i a => absurd a (by omega), fun i k _ b => absurd b (by omega), by simpa using Blk.new (w2.alloc _) [.slice (some ⟨w2.heap.size, 0, none⟩) n n] 99, by omega⟩
  have KI := (I.alloc (.cells cs99.toArray 100)).alloc (.cells #[.slice (some ⟨w2.heap.size, 0, none⟩) n n] 99)
  have zr : w.heap.size < w2.heap.size := I.now.2.lt
  obtain ⟨Ba, hBa⟩ : ∃ Ba, w2.heap.size = Ba := ⟨_, rfl⟩
  rw [hBa] at KT KI zr ⊢
  generalize World.alloc _ _ = w4 at KT KI ⊢
  have HKT := Lib.hid KT
  have HKI := Lib.hid KI
  clear KT KI I hmk99 hl99 hBa
  have HG := Lib.hid hg
  go_loopw [34] (fun v wr => ∃ (j : Nat) (Bs : Nat → Nat), j ≤ n ∧ v = .int .i64 j ∧ Aside (T0 l n Ba (Ba + 1) (Ba + 1) Bs j j wr) ∧ Aside (Below w.heap.size w wr ∧ Blk wr w.heap.size [Value.int .i64 0, .int .i64 0])) (fun v _ => n - (intOf v).toNat)
  case atStart => exact ⟨0, _, Nat.zero_le _, rfl, HKT.out, HKI.out.now.1.1, HKI.out.now.2⟩
  case round =>
    obtain ⟨j, Bs, hj, rfl, HT, HI⟩ := hrel
    clear HKT HKI
    obtain ⟨wo, hwo⟩ : ∃ x, x = wr := ⟨_, rfl⟩
    subst hwo
    by_cases hlt : j < n
    · have hlt' : (j : Int) < (n : Int) := by omega
      have hw1 : IntKind.i64.wrap ((j : Int) + 1) = (j : Int) + 1 := i64_in (by omega) (by omega)
      have q8 := HT.out.b8.one
      have z8 := HT.out.b8.lt
      have qa := HT.out.cell hlt
      have hmk := HM100.out
      have hnew : ∀ i, i < j → Bs i ≠ wo.heap.size := fun i hi => by
        have := World.block_lt_of_cell? wo _ (HT.out.num i (i + 1) hi (by omega) (by omega)).1
        dsimp only at this
        omega
      have hT1 : T1 l n Ba (Ba + 1) (Ba + 1) (fun i => if i = j then wo.heap.size else Bs i) j (j + 1) (((wo.setCell ⟨Ba, j, none⟩ (rowV n wo.heap.size)).alloc (.cells cs100.toArray 82)).drew) :=
        ⟨(HT.out.set hlt (Nat.le_refl _) z8 hnew).later (afterA _ _), cs100, hl100, by rw [show (fun i => if i = j then wo.heap.size else Bs i) j = wo.heap.size from if_pos rfl]; exact (Blk.at_new (by simp) cs100 82).drew, fun e' a b => absurd a (by omega)⟩
      have hBB : Below w.heap.size w (((wo.setCell ⟨Ba, j, none⟩ (rowV n wo.heap.size)).alloc (.cells cs100.toArray 82)).drew) ∧ Blk (((wo.setCell ⟨Ba, j, none⟩ (rowV n wo.heap.size)).alloc (.cells cs100.toArray 82)).drew) w.heap.size [Value.int .i64 0, .int .i64 0] :=
        ⟨(HI.out.1.setCell (p := ⟨Ba, j, none⟩) (by show w.heap.size ≤ Ba; omega) _).trans ((afterA _ _).mono (by have := HI.out.1.size; simp; omega)), (HI.out.2.other (by omega) _ _).later (afterA _ _)⟩
      have HT1 := Lib.hid hT1
      have HBB := Lib.hid hBB
      clear hT1 hBB hnew
      go_wp2_with fail
      go_region
      clear q8 z8 qa hmk
      change Exit.then _ _ _ _ (((wo.setCell ⟨Ba, j, none⟩ (rowV n wo.heap.size)).alloc (.cells cs100.toArray 82)).drew)
      generalize (fun i => if i = j then wo.heap.size else Bs i) = Bs2 at HT1
      generalize (((wo.setCell ⟨Ba, j, none⟩ (rowV n wo.heap.size)).alloc (.cells cs100.toArray 82)).drew) = w5 at HT1 HBB ⊢
      go_wp2_with fail
      go_loopw [10] (fun v wr => ∃ e : Nat, j < e ∧ e ≤ n + 1 ∧ v = .int .i64 e ∧ Aside (T1 l n Ba (Ba + 1) (Ba + 1) Bs2 j e wr) ∧ Aside (Below w.heap.size w wr ∧ Blk wr w.heap.size [Value.int .i64 0, .int .i64 0])) (fun v _ => n + 1 - (intOf v).toNat)
      case atStart => exact ⟨j + 1, by omega, by omega, by go_num, HT1.out, HBB.out⟩
      case round =>
        obtain ⟨e, hje, hen, rfl, HT2, HB2⟩ := hrel
        by_cases hle : e ≤ n
        · have hle' : (e : Int) ≤ (n : Int) := by omega
          have hw2 : IntKind.i64.wrap ((e : Int) + 1) = (e : Int) + 1 := i64_in (by omega) (by omega)
          have i1 : (j : Int) ≤ (e : Int) := by omega
          have i2 : (e : Int) ≤ (c : Int) := by omega
          have i3 : (e : Int) < (n : Int) + 1 := by omega
          have i4 : ¬ c - j = 0 := by omega
          have i5 : ¬ c = j := by omega
          have hSC : ∀ (e2 : Nat) W, T1 l n Ba (Ba + 1) (Ba + 1) Bs2 j e2 W → Below w.heap.size w W → Below w.heap.size w W ∧ W.cell? ⟨Ba + 1, 0, none⟩ = some (.slice (some ⟨Ba, 0, none⟩) n n) ∧ W.cell? ⟨Ba, j, none⟩ = some (.slice (some ⟨Bs2 j, 0, none⟩) (n + 1) (n + 1)) ∧ (W.cell? ⟨Bs2 j, e * 2, none⟩ = some (valAt W ⟨Bs2 j, e * 2, none⟩) ∧ W.cell? ⟨Bs2 j, e * 2 + 1, none⟩ = some (valAt W ⟨Bs2 j, e * 2 + 1, none⟩)) ∧ W.frozen? ⟨Bs2 j, e * 2, none⟩ = false ∧ W.frozen? ⟨Bs2 j, e * 2 + 1, none⟩ = false := fun e2 W h1 h2 =>
            ⟨h2, h1.1.b8.one, h1.1.row (by omega), h1.vals hle⟩
          have HSC := Lib.hid hSC
          have C45 : ∀ W, Below w.heap.size w W → Gives 45 #[.slice (some ⟨b, off + j * 3, none⟩) (e - j) (c - j)] (clv (bestC (sub l j e))) W := fun W hW => best_calls W (reads_sub (HL.out.later hW) hje hle) (sub_good HG.out hje (by omega))
          have halo : (bestC (sub l j e)).off = alo l j e := rfl
          generalize bestC (sub l j e) = x at C45 halo
          have HALO := Lib.hid halo
          unfold clv at C45
          have H45 := Lib.hid C45
          clear hSC C45 halo
          go_wp2_with fail
          go_region_held3 (fun W => Below w.heap.size w W ∧ W.cell? ⟨Ba + 1, 0, none⟩ = some (.slice (some ⟨Ba, 0, none⟩) n n) ∧ W.cell? ⟨Ba, j, none⟩ = some (.slice (some ⟨Bs2 j, 0, none⟩) (n + 1) (n + 1)) ∧ (W.cell? ⟨Bs2 j, e * 2, none⟩ = some (valAt W ⟨Bs2 j, e * 2, none⟩) ∧ W.cell? ⟨Bs2 j, e * 2 + 1, none⟩ = some (valAt W ⟨Bs2 j, e * 2 + 1, none⟩)) ∧ W.frozen? ⟨Bs2 j, e * 2, none⟩ = false ∧ W.frozen? ⟨Bs2 j, e * 2 + 1, none⟩ = false)
            (first
              | with_reducible exact HSC.out _ _ (HT2.out.later (Below.refl _ _).drew) HB2.out.1.drew
              | with_reducible exact HSC.out _ _ HT3.out HB3.out.1
              | with_reducible exact HSC.out _ _ HT4.out HB4.out.1
              | fail)
            (first
              | (go_at_call 45; (with_reducible refine (Gives.c (H45.out _ HB2.out.1.drew)).mono ?_); rintro e' wa ⟨rfl, hb⟩; have HT3 := Lib.hid ((HT2.out.later (Below.refl _ _).drew).later hb); have HB3 := Lib.hid (And.intro (HB2.out.1.drew.trans (hb.mono HB2.out.1.drew.size)) (HB2.out.2.drew.later hb)); have hT4 := HT3.out.set hle; have hB4 := And.intro (below2' HB3.out.1 (show w.heap.size ≤ Bs2 j by have := HT3.out.1.low j (by omega); omega) (e * 2) (e * 2 + 1) (.int .i64 (alo l j e).num) (.int .i64 ((alo l j e).den : Int))) ((HB3.out.2.other (B' := Bs2 j) (by have := HT3.out.1.low j (by omega); omega) (e * 2) (.int .i64 (alo l j e).num)).other (B' := Bs2 j) (by have := HT3.out.1.low j (by omega); omega) (e * 2 + 1) (.int .i64 ((alo l j e).den : Int))); rw [← HALO.out] at hT4 hB4; have HT4 := Lib.hid hT4; have HB4 := Lib.hid hB4; clear hT4 hB4 hb)
              | fail)
          go_wp2_with fail
          go_roundw
          case rel => exact ⟨e + 1, by omega, by omega, by go_num, HT4.out, HB4.out⟩
          case measure => simp [intOf]; omega
        · obtain rfl : e = n + 1 := by omega
          have hgt : ¬ ((n + 1 : Nat) : Int) ≤ (n : Int) := by omega
          go_wp2_with fail
          go_roundw
          case rel => exact ⟨j + 1, Bs2, hlt, by go_num, HT2.out.done, HB2.out⟩
          case measure => simp [intOf]; omega
    · have ej : n = j := by omega
      subst ej
      clear hlt hj HM100 hl100
      obtain ⟨cs101, hl101, hmk101⟩ := mk101 (n := n) (by omega)
      have zwo := HT.out.b8.lt
      have hp2 : (p : Int) ≤ n := by omega
      go_wp2_with fail
      have KS : S0 n wo.heap.size (wo.heap.size + 1) (wo.heap.size + 1) (fun _ => (0, [])) (fun _ => ⟨0, 0, 0, 0⟩) 1 ((wo.alloc (.cells cs101.toArray 103)).alloc (.cells #[.slice (some ⟨wo.heap.size, 0, none⟩) (n + 1) (n + 1)] 101)) :=
        ⟨⟨cs101, hl101, (Blk.new wo cs101 103).alloc _, fun e a b => absurd a (by omega)⟩, fun e a b => absurd a (by omega), fun e a b => absurd a (by omega), by simpa using Blk.new (wo.alloc _) [.slice (some ⟨wo.heap.size, 0, none⟩) (n + 1) (n + 1)] 101, by omega⟩
      have KB : Below wo.heap.size wo ((wo.alloc (.cells cs101.toArray 103)).alloc (.cells #[.slice (some ⟨wo.heap.size, 0, none⟩) (n + 1) (n + 1)] 101)) := ((Below.refl _ _).alloc (Nat.le_refl _) _).alloc (by simp) _
      have hwt : ∀ W, Below wo.heap.size wo W → T0 l n Ba (Ba + 1) (Ba + 1) Bs n n W ∧ (Below w.heap.size w W ∧ Blk W w.heap.size [Value.int .i64 0, .int .i64 0]) := fun W h => ⟨HT.out.later h, HI.out.1.trans (h.mono HI.out.1.size), HI.out.2.later h⟩
      obtain ⟨Bh, hBh⟩ : ∃ Bh, wo.heap.size = Bh := ⟨_, rfl⟩
      rw [hBh] at KS KB hwt zwo ⊢
      generalize World.alloc _ _ = w6 at KS KB ⊢
      have HWT := Lib.hid hwt
      have HKS := Lib.hid KS
      have HKB := Lib.hid KB
      clear KS KB hwt HT HI hBh hmk101 hl101
      go_loopw [12] (fun v wr => ∃ (k : Nat) (tb : Nat → Sh) (sv : Nat → Sv), 1 ≤ k ∧ k ≤ n + 1 ∧ v = .int .i64 k ∧ Aside (S0 n Bh (Bh + 1) (Bh + 1) tb sv k wr) ∧ Aside (∀ i, 1 ≤ i → i < k → tb i = dF l 0 i) ∧ Aside (Below Bh wo wr)) (fun v _ => n + 1 - (intOf v).toNat)
      case atStart => exact ⟨1, _, _, by omega, by omega, rfl, HKS.out, fun i a b => absurd a (by omega), HKB.out⟩
      case round =>
        obtain ⟨k, tb, sv, hk1, hkn, rfl, HS, HTB, HB⟩ := hrel
        clear HKS HKB
        by_cases hlt : k ≤ n
        · have hlt' : (k : Int) ≤ (n : Int) := by omega
          have hw1 : IntKind.i64.wrap ((k : Int) + 1) = (k : Int) + 1 := i64_in (by omega) (by omega)
          have g0 : (0 : Int) < (n : Int) := by omega
          have g3 : (k : Int) < (n : Int) + 1 := by omega
          have hE := HWT.out _ HB.out
          have q8 := hE.1.b8.one
          have z8 := hE.1.b8.lt
          have qa := hE.1.row (j := 0) (by omega)
          have za : Ba < wr.heap.size := by omega
          have qn := hE.1.num 0 k (by omega) (by omega) hlt
          have zn : Bs 0 < wr.heap.size := World.block_lt_of_cell? wr _ qn.1
          have q11 := HS.out.b11.one
          have z11 := HS.out.b11.lt
          have qh := HS.out.vals hlt
          have zh : Bh < wr.heap.size := by omega
          clear hE
          go_wp2_with fail
          go_region
          change Exit.inBlock _ _ _ _ ((((wr.setCell ⟨Bh, k * 3, none⟩ (.int .i64 (alo l 0 k).num)).setCell ⟨Bh, k * 3 + 1, none⟩ (.int .i64 ((alo l 0 k).den : Int))).setCell ⟨Bh, k * 3 + 2, none⟩ (.slice (some ⟨wr.heap.size, 0, none⟩) 1 1)).alloc (.cells #[.int .i64 0] 3)).drew
          have hS2 : S0 n Bh (Bh + 1) (Bh + 1) (upd tb k (dF l 0 k)) (upd sv k ⟨wr.heap.size, 0, 1, 1⟩) (k + 1) ((((wr.setCell ⟨Bh, k * 3, none⟩ (.int .i64 (alo l 0 k).num)).setCell ⟨Bh, k * 3 + 1, none⟩ (.int .i64 ((alo l 0 k).den : Int))).setCell ⟨Bh, k * 3 + 2, none⟩ (.slice (some ⟨wr.heap.size, 0, none⟩) 1 1)).alloc (.cells #[.int .i64 0] 3)).drew :=
            HS.out.putA hlt (fun i a b c => by omega) (r := dF l 0 k) (s := ⟨wr.heap.size, 0, 1, 1⟩) ((afterA _ _).mono (by simp)) ((by simpa using Sv.Rd.one (((wr.setCell ⟨Bh, k * 3, none⟩ (.int .i64 (alo l 0 k).num)).setCell ⟨Bh, k * 3 + 1, none⟩ (.int .i64 ((alo l 0 k).den : Int))).setCell ⟨Bh, k * 3 + 2, none⟩ (.slice (some ⟨wr.heap.size, 0, none⟩) 1 1)) 0 3 : Sv.Rd ⟨wr.heap.size, 0, 1, 1⟩ _ [0]).later (Below.refl _ _).drew) z11
          have hB2 : Below Bh wo ((((wr.setCell ⟨Bh, k * 3, none⟩ (.int .i64 (alo l 0 k).num)).setCell ⟨Bh, k * 3 + 1, none⟩ (.int .i64 ((alo l 0 k).den : Int))).setCell ⟨Bh, k * 3 + 2, none⟩ (.slice (some ⟨wr.heap.size, 0, none⟩) 1 1)).alloc (.cells #[.int .i64 0] 3)).drew :=
            (below3' HB.out (Nat.le_refl _) _ _ _ _ _ _).trans ((afterA _ _).mono (by simp; omega))
          have HS2 := Lib.hid hS2
          have HB2 := Lib.hid hB2
          clear hS2 hB2 q8 z8 qa za qn zn q11 z11 qh zh
          generalize World.drew _ = w7 at HS2 HB2 ⊢
          go_wp2_with fail
          go_roundw
          case rel => exact ⟨k + 1, _, _, by omega, by omega, by go_num, HS2.out, fun i a b => by by_cases e : i = k; { subst e; exact upd_same _ _ _ }; { rw [upd_ne _ _ e]; exact HTB.out i a (by omega) }, HB2.out⟩
          case measure => simp [intOf]; omega
        · obtain rfl : k = n + 1 := by omega
          have hgt : ¬ ((n + 1 : Nat) : Int) ≤ (n : Int) := by omega
          clear hlt
          obtain ⟨w8, hw8⟩ : ∃ x, x = wr := ⟨_, rfl⟩
          subst hw8
          have hlw : Bh + 1 < w8.heap.size := HS.out.b11.lt
          have hp3 := hp
          have hal : ∀ j k, j < k → k ≤ n → Sml (alo l j k) := fun j k h1 h2 => alo_sml HG.out h1 (by omega)
          have hds : ∀ k, k ≤ 24 → ∀ e, 1 ≤ e → e ≤ n → Sml (dF l k e).1 ∧ (dF l k e).2.length ≤ 28 := fun k hk e h1 h2 => by have := dF_sml HG.out k e h1 (by omega); exact ⟨this.1, by omega⟩
          have HAL := Lib.hid hal
          have HDS := Lib.hid hds
          clear hal hds
          go_wp2_with fail
          have KS : S0 n Bh (Bh + 1) (Bh + 1) tb sv (n + 1) (w8.alloc (.cells #[.int .i64 2] 3)) := HS.out.later ((Below.refl _ _).alloc (Nat.le_refl _) _)
          have KB : Below Bh wo (w8.alloc (.cells #[.int .i64 2] 3)) := HB.out.trans (((Below.refl _ _).alloc (Nat.le_refl _) _).mono (by omega))
          have KX : Blk (w8.alloc (.cells #[.int .i64 2] 3)) w8.heap.size [.int .i64 ((2 : Nat) : Int)] := Blk.new _ _ _
          obtain ⟨B0, hB0⟩ : ∃ B0, w8.heap.size = B0 := ⟨_, rfl⟩
          rw [hB0] at KX hlw ⊢
          generalize World.alloc _ _ = w9 at KS KB KX ⊢
          have HKS := Lib.hid KS
          have HKB := Lib.hid KB
          have HKX := Lib.hid KX
          clear KS KB KX hB0
          go_loopw [13] (fun v wr => ∃ (B13 q : Nat) (tb : Nat → Sh) (sv : Nat → Sv), v = .pointer (some ⟨B13, 0, none⟩) ∧ 2 ≤ q ∧ q ≤ p + 1 ∧ Bh + 1 < B13 ∧ Aside (S0 n Bh (Bh + 1) (Bh + 1) tb sv (n + 1) wr) ∧ Aside (∀ i, q - 1 ≤ i → i ≤ n → tb i = dF l (q - 2) i) ∧ Aside (∀ i, 1 ≤ i → i ≤ n → Sml (tb i).1 ∧ (tb i).2.length ≤ 28) ∧ Aside (Below Bh wo wr) ∧ Aside (Blk wr B13 [.int .i64 (q : Int)])) (fun v wr => p + 1 - boxN v wr)
          case atStart => exact ⟨B0, 2, tb, sv, rfl, by omega, by omega, hlw, HKS.out, fun i a b => HTB.out i a (by omega), fun i a b => by rw [HTB.out i a (by omega)]; exact HDS.out 0 (by omega) i a b, HKB.out, HKX.out⟩
          case round =>
            clear HKS HKB HKX HTB HB HS
            obtain ⟨B13, q, tb2, sv2, rfl, hq2, hqp, h13, HS, HTB, HSM, HB, HX⟩ := hrel
            have q13 := HX.out.one
            have z13 := HX.out.lt
            by_cases hlt : q ≤ p
            · have hlt' : (q : Int) ≤ (p : Int) := by omega
              obtain ⟨wv, hwv⟩ : ∃ x, x = wr := ⟨_, rfl⟩
              subst hwv
              go_wp2_with fail
              have KS : S0 n Bh (Bh + 1) (Bh + 1) tb2 sv2 (n + 1) (wv.alloc (.cells #[.int .i64 n] 3)) := HS.out.later ((Below.refl _ _).alloc (Nat.le_refl _) _)
              have KB : Below Bh wo (wv.alloc (.cells #[.int .i64 n] 3)) := HB.out.trans (((Below.refl _ _).alloc (Nat.le_refl _) _).mono (by omega))
              have KX : Blk (wv.alloc (.cells #[.int .i64 n] 3)) B13 [.int .i64 (q : Int)] := HX.out.alloc _
              have KY : Blk (wv.alloc (.cells #[.int .i64 n] 3)) wv.heap.size [.int .i64 (n : Int)] := Blk.new _ _ _
              have hlw2 : Bh + 1 < wv.heap.size := by omega
              have hlx2 : B13 < wv.heap.size := by omega
              obtain ⟨B1, hB1⟩ : ∃ B1, wv.heap.size = B1 := ⟨_, rfl⟩
              rw [hB1] at KY hlw2 hlx2 ⊢
              generalize World.alloc _ _ = w9 at KS KB KX KY ⊢
              have HKS := Lib.hid KS
              have HKB := Lib.hid KB
              have HKX := Lib.hid KX
              have HKY := Lib.hid KY
              have HBX := Lib.hid (boxN_of HX.out)
              clear KS KB KX KY hB1 q13 z13
              go_loopw [14] (fun v wr => ∃ (B14 e : Nat) (tb : Nat → Sh) (sv : Nat → Sv), v = .pointer (some ⟨B14, 0, none⟩) ∧ q - 1 ≤ e ∧ e ≤ n ∧ Bh + 1 < B14 ∧ B14 ≠ B13 ∧ Aside (S0 n Bh (Bh + 1) (Bh + 1) tb sv (n + 1) wr) ∧ Aside (∀ i, q - 1 ≤ i → i ≤ n → tb i = if i ≤ e then dF l (q - 2) i else dF l (q - 1) i) ∧ Aside (∀ i, 1 ≤ i → i ≤ n → Sml (tb i).1 ∧ (tb i).2.length ≤ 28) ∧ Aside (Below Bh wo wr) ∧ Aside (Blk wr B13 [.int .i64 (q : Int)]) ∧ Aside (Blk wr B14 [.int .i64 (e : Int)])) (fun v wr => boxN v wr)
              case atStart => exact ⟨B1, n, tb2, sv2, rfl, by omega, by omega, hlw2, by omega, HKS.out, fun i a b => by rw [if_pos b]; exact HTB.out i a b, HSM.out, HKB.out, HKX.out, HKY.out⟩
              case round =>
                clear HKS HKB HKX HKY HTB HB HS HSM HX
                obtain ⟨B14, e, tb, sv, rfl, hqe, hen, h14, hne, HS, HTB, HSM, HB, HX, HY⟩ := hrel
                have q13 := HX.out.one
                have z13 := HX.out.lt
                have q14 := HY.out.one
                have z14 := HY.out.lt
                by_cases hle : q ≤ e
                · have hle' : (q : Int) ≤ (e : Int) := by omega
                  have hw1 : IntKind.i64.wrap ((e : Int) - 1) = ((e - 1 : Nat) : Int) := by rw [i64_in (by omega) (by omega)]; omega
                  have g3 : (e : Int) < (n : Int) + 1 := by omega
                  have hS : ∀ tb sv X, S0 n Bh (Bh + 1) (Bh + 1) tb sv (n + 1) X → Below Bh wo X → Blk X B14 [.int .i64 (e : Int)] → Below Bh wo X ∧ X.cell? ⟨Bh + 1, 0, none⟩ = some (.slice (some ⟨Bh, 0, none⟩) (n + 1) (n + 1)) ∧ X.cell? ⟨B14, 0, none⟩ = some (.int .i64 (e : Int)) ∧ (X.cell? ⟨Bh, e * 3, none⟩ = some (valAt X ⟨Bh, e * 3, none⟩) ∧ X.cell? ⟨Bh, e * 3 + 1, none⟩ = some (valAt X ⟨Bh, e * 3 + 1, none⟩) ∧ X.cell? ⟨Bh, e * 3 + 2, none⟩ = some (valAt X ⟨Bh, e * 3 + 2, none⟩)) ∧ X.frozen? ⟨Bh, e * 3, none⟩ = false ∧ X.frozen? ⟨Bh, e * 3 + 1, none⟩ = false ∧ X.frozen? ⟨Bh, e * 3 + 2, none⟩ = false := fun tb sv X h1 h2 h3 =>
                    ⟨h2, h1.b11.one, h3.one, h1.vals hen⟩
                  have hlo : Bh + 1 < wr.heap.size := HS.out.b11.lt
                  have C58 := fun X (hX : Below wr.heap.size wr X) => least_calls (l := l) (n := n) (Ba := Ba) (Bh := Bh) (B13 := B13) (B14 := B14) (B8 := Ba + 1) (B11 := Bh + 1) (Bs := Bs) (tb := tb) (sv := sv) (p := q) (e := e) X
                    ⟨⟨fun j hj => (HWT.out X (HB.out.trans (hX.mono (by have := HS.out.b11.lt; omega)))).1.row hj, fun j k h1 h2 => (HWT.out X (HB.out.trans (hX.mono (by have := HS.out.b11.lt; omega)))).1.num j k (by omega) h1 h2⟩, ⟨fun i a b => by obtain ⟨ds, h1, h2, h3⟩ := (HS.out.later hX).bh; have := h3 i a (by omega); exact ⟨h2.cell _ _ this.1, h2.cell _ _ this.2.1, h2.cell _ _ this.2.2⟩, fun i a b => (HS.out.later hX).rd i a (by omega)⟩, (HX.out.later hX).one, (HY.out.later hX).one, (HWT.out X (HB.out.trans (hX.mono (by have := HS.out.b11.lt; omega)))).1.b8.one, (HS.out.later hX).b11.one⟩ hq2 hle hen hn24 HSM.out HAL.out
                  unfold shv at C58
                  have HSS := Lib.hid hS
                  have H58 := Lib.hid C58
                  clear hS C58
                  go_wp2_with fail
                  clear q13 z13 q14 z14
                  go_region_held3 (fun X => Below Bh wo X ∧ X.cell? ⟨Bh + 1, 0, none⟩ = some (.slice (some ⟨Bh, 0, none⟩) (n + 1) (n + 1)) ∧ X.cell? ⟨B14, 0, none⟩ = some (.int .i64 (e : Int)) ∧ (X.cell? ⟨Bh, e * 3, none⟩ = some (valAt X ⟨Bh, e * 3, none⟩) ∧ X.cell? ⟨Bh, e * 3 + 1, none⟩ = some (valAt X ⟨Bh, e * 3 + 1, none⟩) ∧ X.cell? ⟨Bh, e * 3 + 2, none⟩ = some (valAt X ⟨Bh, e * 3 + 2, none⟩)) ∧ X.frozen? ⟨Bh, e * 3, none⟩ = false ∧ X.frozen? ⟨Bh, e * 3 + 1, none⟩ = false ∧ X.frozen? ⟨Bh, e * 3 + 2, none⟩ = false)
                    (first
                      | with_reducible exact HSS.out _ _ _ (HS.out.later (Below.refl _ _).drew) HB.out.drew (HY.out.later (Below.refl _ _).drew)
                      | with_reducible exact HSS.out _ _ _ HS3.out HB3.out HY3.out
                      | with_reducible exact HSS.out _ _ _ HS4.out HB4.out HY4.out
                      | fail)
                    (first
                      | (go_at_call 58; (with_reducible refine (H58.out _ (Below.refl _ _).drew).mono ?_); rintro e' wa ⟨⟨rr, ss, hr, rfl, hrd, hsb⟩, hb⟩; have hbb := (Below.refl wr.heap.size wr).drew.trans hb; have HS3 := Lib.hid (HS.out.later hbb); have HB3 := Lib.hid (HB.out.trans (hbb.mono (by omega))); have HY3 := Lib.hid (HY.out.later hbb); have HX3 := Lib.hid (HX.out.later hbb); have HR := Lib.hid hr; have HRD := Lib.hid hrd
                         have hs4 := HS3.out.put (k' := n + 1) hen (fun i _ h _ => h) hrd (show Bh + 1 < ss.b by have : wr.heap.size ≤ ss.b := hsb; omega)
                         have hb4 := below3' HB3.out (Nat.le_refl _) (e * 3) (e * 3 + 1) (e * 3 + 2) (.int .i64 rr.1.num) (.int .i64 (rr.1.den : Int)) ss.v
                         have hy4 := ((HY3.out.other (B' := Bh) (by omega) (e * 3) (.int .i64 rr.1.num)).other (B' := Bh) (by omega) (e * 3 + 1) (.int .i64 (rr.1.den : Int))).other (B' := Bh) (by omega) (e * 3 + 2) ss.v
                         have hx4 := ((HX3.out.other (B' := Bh) (by omega) (e * 3) (.int .i64 rr.1.num)).other (B' := Bh) (by omega) (e * 3 + 1) (.int .i64 (rr.1.den : Int))).other (B' := Bh) (by omega) (e * 3 + 2) ss.v
                         have HS4 := Lib.hid hs4; have HB4 := Lib.hid hb4; have HY4 := Lib.hid hy4; have HX4 := Lib.hid hx4
                         clear hr hrd hsb hb hbb hs4 hb4 hy4 hx4)
                      | fail)
                  rename_i hh
                  clear hh HSS H58
                  have hrr : dF l (q - 1) e = rr := by
                    have h := HR.out
                    rw [show q - 1 = (q - 2) + 1 by omega] at h ⊢
                    exact dF_succ h (fun i a b => by rw [HTB.out i (by omega) (by omega), if_pos (by omega)])
                  have hsm2 : Sml rr.1 ∧ rr.2.length ≤ 28 := by
                    rw [← hrr]
                    exact HDS.out (q - 1) (by omega) e (by omega) hen
                  have HRR := Lib.hid hrr
                  have HSM2 := Lib.hid hsm2
                  clear hrr hsm2
                  generalize World.setCell _ _ _ = w7 at HS4 HB4 HY4 HX4 ⊢
                  have q14 := HY4.out.one
                  have z14 := HY4.out.lt
                  go_wp2_with fail
                  have ha : Below w7.heap.size w7 (w7.alloc (.cells #[.int .i64 ((e - 1 : Nat) : Int)] 3)) := (Below.refl _ _).alloc (Nat.le_refl _) _
                  have hnew : Blk (w7.alloc (.cells #[.int .i64 ((e - 1 : Nat) : Int)] 3)) w7.heap.size [.int .i64 ((e - 1 : Nat) : Int)] := Blk.new w7 _ 3
                  have hx7 := HX4.out.lt
                  have hs7 : Bh + 1 < w7.heap.size := HS4.out.b11.lt
                  refine ⟨⟨w7.heap.size, e - 1, _, _, rfl, by omega, by omega, by omega, by omega, HS4.out.later ha, fun i a b => ?_, fun i a b => ?_, HB4.out.trans (ha.mono (by omega)), HX4.out.later ha, hnew⟩, ?_⟩
                  · by_cases ee : i = e
                    · subst ee
                      rw [upd_same, if_neg (by omega)]
                      exact HRR.out.symm
                    · rw [upd_ne _ _ ee, HTB.out i a b]
                      by_cases e2 : i ≤ e
                      · rw [if_pos e2, if_pos (by omega)]
                      · rw [if_neg e2, if_neg (by omega)]
                  · by_cases ee : i = e
                    · subst ee
                      rw [upd_same]
                      exact HSM2.out
                    · rw [upd_ne _ _ ee]
                      exact HSM.out i a b
                  · rw [boxN_of hnew, boxN_of HY.out]
                    omega
                · have hge : ¬ (q : Int) ≤ (e : Int) := by omega
                  have hw1 : IntKind.i64.wrap ((q : Int) + 1) = ((q + 1 : Nat) : Int) := by rw [i64_in (by omega) (by omega)]; omega
                  go_wp2_with fail
                  have ha : Below wr.heap.size wr (wr.alloc (.cells #[.int .i64 ((q : Int) + 1)] 3)) := (Below.refl _ _).alloc (Nat.le_refl _) _
                  have hnew : Blk (wr.alloc (.cells #[.int .i64 ((q : Int) + 1)] 3)) wr.heap.size [.int .i64 ((q + 1 : Nat) : Int)] := Blk.new wr _ 3
                  refine ⟨⟨wr.heap.size, q + 1, _, _, rfl, by omega, by omega, by omega, HS.out.later ha, fun i a b => ?_, HSM.out, HB.out.trans (ha.mono (by omega)), hnew⟩, ?_⟩
                  · rw [HTB.out i (by omega) b, if_neg (by omega)]
                    rfl
                  · rw [boxN_of hnew, HBX.out]
                    omega
            · have hgt2 : ¬ (q : Int) ≤ (p : Int) := by omega
              obtain ⟨w5, hw5⟩ : ∃ x, x = wr := ⟨_, rfl⟩
              subst hw5
              have q11 := HS.out.b11.one
              have hn1 : 1 ≤ n := by omega
              have htn : tb2 n = dF l (p - 1) n := by
                rw [HTB.out n (by omega) (Nat.le_refl _)]
                rw [show q - 2 = p - 1 by omega]
              have hrd := HS.out.rd n hn1 (by omega)
              have hlo5 := HS.out.low n hn1 (by omega)
              have qh : w5.cell? ⟨Bh, n * 3, none⟩ = some (.int .i64 (tb2 n).1.num) ∧ w5.cell? ⟨Bh, n * 3 + 1, none⟩ = some (.int .i64 ((tb2 n).1.den : Int)) ∧ w5.cell? ⟨Bh, n * 3 + 2, none⟩ = some (.slice (some ⟨(sv2 n).b, (sv2 n).o, none⟩) (sv2 n).m (sv2 n).c) := by
                obtain ⟨ds, h1, h2, h3⟩ := HS.out.bh
                have := h3 n hn1 (by omega)
                exact ⟨h2.cell _ _ this.1, h2.cell _ _ this.2.1, h2.cell _ _ this.2.2⟩
              rw [htn] at hrd qh
              generalize sv2 n = ss at hrd qh hlo5
              generalize hR : dF l (p - 1) n = R at hrd qh ⊢
              have hwb := (HWT.out _ HB.out).2
              have hlw : w.heap.size < w5.heap.size := hwb.2.lt
              have HWB := Lib.hid hwb
              have HRD := Lib.hid hrd
              have hO : ∀ W, Gives 39 #[.agg #[.int .i64 R.1.num, .int .i64 (R.1.den : Int)]] (.agg #[.int .i64 R.1.num, .int .i64 (R.1.den : Int)]) W := out_calls _ _
              have HO := Lib.hid hO
              clear hO hrd htn hwb HTB HSM HB HX HS HWT HAL HDS HG
              go_wp2_with fail
              have ha : Below w5.heap.size w5 (w5.alloc (.cells #[.int .i64 R.1.num, .int .i64 (R.1.den : Int), .slice (some ⟨ss.b, ss.o, none⟩) ss.m ss.c] 103)) := (Below.refl _ _).alloc (Nat.le_refl _) _
              have hnew : Blk (w5.alloc (.cells #[.int .i64 R.1.num, .int .i64 (R.1.den : Int), .slice (some ⟨ss.b, ss.o, none⟩) ss.m ss.c] 103)) w5.heap.size [.int .i64 R.1.num, .int .i64 (R.1.den : Int), .slice (some ⟨ss.b, ss.o, none⟩) ss.m ss.c] := Blk.new w5 _ 103
              obtain ⟨Bx, hBx⟩ : ∃ Bx, w5.heap.size = Bx := ⟨_, rfl⟩
              have hb5 : Below w.heap.size w (w5.alloc (.cells #[.int .i64 R.1.num, .int .i64 (R.1.den : Int), .slice (some ⟨ss.b, ss.o, none⟩) ss.m ss.c] 103)) := HWB.out.1.trans (ha.mono (by omega))
              have hk5 := HWB.out.2.later ha
              have hr5 := HRD.out.later ha
              have hne5 : ss.b ≠ w.heap.size := by omega
              rw [hBx] at hnew hlw ⊢
              generalize World.alloc _ _ = wx at hnew hb5 hk5 hr5 ⊢
              have HN := Lib.hid hnew
              have HB5 := Lib.hid hb5
              have HK5 := Lib.hid hk5
              have HR5 := Lib.hid hr5
              clear ha hBx hnew hb5 hk5 hr5 HWB HRD
              have hS : ∀ X, Below w.heap.size w X → Blk X Bx [.int .i64 R.1.num, .int .i64 (R.1.den : Int), .slice (some ⟨ss.b, ss.o, none⟩) ss.m ss.c] → ∀ a b, Blk X w.heap.size [a, b] → Below w.heap.size w X ∧ (X.cell? ⟨Bx, 0, none⟩ = some (.int .i64 R.1.num) ∧ X.cell? ⟨Bx, 1, none⟩ = some (.int .i64 (R.1.den : Int)) ∧ X.cell? ⟨Bx, 2, none⟩ = some (.slice (some ⟨ss.b, ss.o, none⟩) ss.m ss.c)) ∧ X.cell? ⟨w.heap.size, 0, none⟩ = some (valAt X ⟨w.heap.size, 0, none⟩) ∧ X.cell? ⟨w.heap.size, 1, none⟩ = some (valAt X ⟨w.heap.size, 1, none⟩) ∧ X.frozen? ⟨w.heap.size, 0, none⟩ = false ∧ X.frozen? ⟨w.heap.size, 1, none⟩ = false := fun X h1 h2 a b h3 => ⟨h1, h2.three, h3.vals⟩
              have HSS := Lib.hid hS
              clear hS
              go_region_held3 (fun X => Below w.heap.size w X ∧ (X.cell? ⟨Bx, 0, none⟩ = some (.int .i64 R.1.num) ∧ X.cell? ⟨Bx, 1, none⟩ = some (.int .i64 (R.1.den : Int)) ∧ X.cell? ⟨Bx, 2, none⟩ = some (.slice (some ⟨ss.b, ss.o, none⟩) ss.m ss.c)) ∧ X.cell? ⟨w.heap.size, 0, none⟩ = some (valAt X ⟨w.heap.size, 0, none⟩) ∧ X.cell? ⟨w.heap.size, 1, none⟩ = some (valAt X ⟨w.heap.size, 1, none⟩) ∧ X.frozen? ⟨w.heap.size, 0, none⟩ = false ∧ X.frozen? ⟨w.heap.size, 1, none⟩ = false)
                (first
                  | with_reducible exact HSS.out _ HB5.out.drew HN.out.drew _ _ HK5.out.drew
                  | with_reducible exact HSS.out _ HB6.out HN6.out _ _ HK6.out
                  | with_reducible exact HSS.out _ HB7.out HN7.out _ _ HK7.out
                  | fail)
                (first
                  | (go_at_call 39; (with_reducible refine (Gives.c (HO.out _)).mono ?_); rintro e wa ⟨rfl, hb⟩; have HB6 := Lib.hid (HB5.out.drew.trans (hb.mono HB5.out.drew.size)); have HN6 := Lib.hid (HN.out.drew.later hb); have HK6 := Lib.hid (HK5.out.drew.later hb); have HR6 := Lib.hid ((HR5.out.later (Below.refl _ _).drew).later hb)
                     have HB7 := Lib.hid (below2' HB6.out (Nat.le_refl _) 0 1 (.int .i64 R.1.num) (.int .i64 (R.1.den : Int)))
                     have HN7 := Lib.hid (HN6.out.other2 (B' := w.heap.size) (by omega) (.int .i64 R.1.num) (.int .i64 (R.1.den : Int)))
                     have HK7 := Lib.hid (HK6.out.put2 (.int .i64 R.1.num) (.int .i64 (R.1.den : Int)))
                     have HR7 := Lib.hid ((HR6.out.other hne5 0 (.int .i64 R.1.num)).other hne5 1 (.int .i64 (R.1.den : Int)))
                     clear hb)
                  | fail)
              rename_i hh
              clear hh HSS
              generalize World.setCell _ _ _ = wf at HB7 HN7 HK7 HR7 ⊢
              have k2 := HK7.out.two
              go_wp2_with fail
              refine bodyPost_ret (v := .tuple #[ss.v, rv R.1, .int .i64 0]) (by simp [results, Try.results21, go_sem, k2]) rfl ?_
              rw [hR]
              exact ⟨⟨ss, rfl, HR7.out⟩, HB7.out⟩
end Go.Proofs.Ytjncoableanmpaa
