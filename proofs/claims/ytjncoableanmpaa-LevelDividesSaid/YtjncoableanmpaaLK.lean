/- The contract of Error. -/
import Derived.Test.YtjncoableanmpaaLJ
import Derived.Test.YtjncoableanmpaaPC
namespace Go.Proofs.Ytjncoableanmpaa
open Go.RowKit Go.Lib Go.Shelf
attribute [local go_sem] run_max3

/-- What Error comes to. -/
def errF (l : List Cd) (gn gd on od : Int) : Value :=
  if ¬ chk l = 0 then .tuple #[.agg #[.int .i64 0, .int .i64 0], .int .i64 (chk l)]
  else if insB gn gd 1000000 && insB on od 10000000000 then .tuple #[rv (fr (errN gn gd on od l) (gd * od)), .int .i64 0]
  else .tuple #[.agg #[.int .i64 0, .int .i64 0], .int .i64 3]
theorem blk2_0 (w : World) (cs : List Value) (t : TypeId) (o : Obj) : Blk ((w.alloc (.cells cs.toArray t)).alloc o).drew w.heap.size cs := ((Blk.new w cs t).alloc o).drew
theorem blk2_1 (w : World) (cs : List Value) (t : TypeId) (o : Obj) : Blk ((w.alloc o).alloc (.cells cs.toArray t)).drew (w.heap.size + 1) cs := Blk.drew (by simpa using Blk.new (w.alloc o) cs t)
theorem belowA2 (w : World) (o o' : Obj) : Below w.heap.size w ((w.alloc o).alloc o').drew := (((Below.refl _ _).alloc (Nat.le_refl _) _).alloc (by simp) _).drew

theorem insB_btw (a b n : Int) : (btw (-n) a n && btw 1 b 100000) = insB a b n := rfl

set_option maxRecDepth 100000 in
set_option maxHeartbeats 4000000 in
theorem error_calls (A : Option Addr) (n c : Nat) (l : List Cd) (gn gd on od : Int) (w : World) (hl : ReadsC w A n l) :
    Gives 13 #[.slice A n c, .agg #[.int .i64 gn, .int .i64 gd, .int .i64 on, .int .i64 od]] (errF l gn gd on od) w := by
  unfold Gives errF
  have I : Held ((w.alloc (.cells [Value.int .i64 gn, .int .i64 gd, .int .i64 on, .int .i64 od].toArray 26)).alloc (.cells [Value.int .i64 0, .int .i64 0].toArray 24)) (fun W => Below w.heap.size w W ∧ ReadsC W A n l ∧ Blk W w.heap.size [Value.int .i64 gn, .int .i64 gd, .int .i64 on, .int .i64 od] ∧ Blk W (w.heap.size + 1) [Value.int .i64 0, .int .i64 0]) :=
    fun W hW => by
      have h1 : Below w.heap.size w W := (((Below.refl _ _).alloc (Nat.le_refl _) _).alloc (by simp) _).trans (hW.mono (by simp; omega))
      exact ⟨h1, hl.later h1, ((Blk.new w _ 26).alloc _).later hW, Blk.later (by simpa using Blk.new (w.alloc _) [Value.int .i64 0, .int .i64 0] 24) hW⟩
  have HC : ∀ W, Below ((w.alloc (.cells [Value.int .i64 gn, .int .i64 gd, .int .i64 on, .int .i64 od].toArray 26)).alloc (.cells [Value.int .i64 0, .int .i64 0].toArray 24)).heap.size ((w.alloc (.cells [Value.int .i64 gn, .int .i64 gd, .int .i64 on, .int .i64 od].toArray 26)).alloc (.cells [Value.int .i64 0, .int .i64 0].toArray 24)) W → Gives 15 #[.slice A n c] (.int .i64 (chk l)) W := fun W hW => check_calls A n c l W (I W hW).2.1
  have hlen := hl.1
  by_cases hk : chk l = 0
  · rw [if_neg (fun h => h hk)]
    rw [hk] at HC
    have hg := chk_good hk
    have HG := Lib.hid hg
    have HC := Lib.hid HC
    clear hl hk
    have hI1 : ∀ W, Gives 37 #[.agg #[.int .i64 gn, .int .i64 gd], .int .i64 1000000] (.bool (insB gn gd 1000000)) W := fun W => inside_calls gn gd 1000000 (by decide) W
    have hI2 : ∀ W, Gives 37 #[.agg #[.int .i64 on, .int .i64 od], .int .i64 10000000000] (.bool (insB on od 10000000000)) W := fun W => inside_calls on od 10000000000 (by decide) W
    cases h1 : insB gn gd 1000000 with
    | false =>
      rw [h1] at hI1
      have HI1 := Lib.hid hI1
      rw [Bool.false_and, if_neg (by decide)]
      clear hI1 hI2 hg
      go_enter Try.func13, Try.ntmps13
      go_wp2_with fail
      generalize World.alloc _ _ = w1 at I HC ⊢
      go_wp2_with (first
        | (go_at_call 15; (with_reducible refine (Gives.c (HC.out _ (Below.refl _ _))).mono ?_); rintro e w2 ⟨rfl, hb⟩; replace I := I.next hb; have q0 := I.now.2.2.1.four; have qr := I.now.2.2.2.two; have fr2 := I.now.2.2.2.free2; clear hb)
        | (go_at_call 37; (first | with_reducible refine (Gives.c (HI1.out _)).mono ?_ | with_reducible refine (Gives.c (HI2.out _)).mono ?_); rintro e w3 ⟨rfl, hb⟩; replace I := I.next hb; clear hb q0 qr fr2; have q0 := I.now.2.2.1.four; have qr := I.now.2.2.2.two; have fr2 := I.now.2.2.2.free2))
      have k2 := (I.now.2.2.2.put2 (.int .i64 0) (.int .i64 0)).two
      have kb := below2 I.now.1 (show w.heap.size ≤ w.heap.size + 1 by omega) (.int .i64 0) (.int .i64 0)
      generalize World.setCell _ _ _ = wf at k2 kb ⊢
      refine bodyPost_ret (v := .tuple #[.agg #[.int .i64 0, .int .i64 0], .int .i64 3]) (by simp [results, Try.results13, go_sem, k2]) rfl ⟨rfl, kb⟩
    | true =>
      rw [h1] at hI1
      rw [Bool.true_and]
      cases h2 : insB on od 10000000000 with
      | false =>
        rw [h2] at hI2
        rw [if_neg (by decide)]
        have HI1 := Lib.hid hI1
        have HI2 := Lib.hid hI2
        clear hI1 hI2 hg
        go_enter Try.func13, Try.ntmps13
        go_wp2_with fail
        generalize World.alloc _ _ = w1 at I HC ⊢
        go_wp2_with (first
          | (go_at_call 15; (with_reducible refine (Gives.c (HC.out _ (Below.refl _ _))).mono ?_); rintro e w2 ⟨rfl, hb⟩; replace I := I.next hb; have q0 := I.now.2.2.1.four; have qr := I.now.2.2.2.two; have fr2 := I.now.2.2.2.free2; clear hb)
          | (go_at_call 37; (first | with_reducible refine (Gives.c (HI1.out _)).mono ?_ | with_reducible refine (Gives.c (HI2.out _)).mono ?_); rintro e w3 ⟨rfl, hb⟩; replace I := I.next hb; clear hb q0 qr fr2; have q0 := I.now.2.2.1.four; have qr := I.now.2.2.2.two; have fr2 := I.now.2.2.2.free2))
        have k2 := (I.now.2.2.2.put2 (.int .i64 0) (.int .i64 0)).two
        have kb := below2 I.now.1 (show w.heap.size ≤ w.heap.size + 1 by omega) (.int .i64 0) (.int .i64 0)
        generalize World.setCell _ _ _ = wf at k2 kb ⊢
        refine bodyPost_ret (v := .tuple #[.agg #[.int .i64 0, .int .i64 0], .int .i64 3]) (by simp [results, Try.results13, go_sem, k2]) rfl ⟨rfl, kb⟩
      | true =>
        rw [h2] at hI2
        rw [if_pos rfl]
        have HI1 := Lib.hid hI1
        have HI2 := Lib.hid hI2
        clear hI1 hI2
        unfold insB at h1 h2
        simp only [Bool.and_eq_true, decide_eq_true_eq] at h1 h2
        have hld := fun j (hj : j < n) => loud_bd (gn := gn) (gd := gd) (on := on) (od := od) (s := (cAt l j).1) h1.1 h1.2 h2.1 h2.2 ⟨(hg.tame j (by omega)).s0, (hg.tame j (by omega)).s1⟩
        have hpos : 0 < n := by have := hg.pos; omega
        have hn24 : n ≤ 24 := by have := hg.few; omega
        have hdd := (hld 0 hpos).2.2.2
        obtain ⟨T, hT0⟩ : ∃ T, errN gn gd on od l = T := ⟨_, rfl⟩
        rw [hT0]
        unfold errN at hT0
        have HT := Lib.hid hT0
        clear hT0
        have HLD := Lib.hid hld
        generalize hq : fr T (gd * od) = q
        have HQ := Lib.hid hq
        clear hld h1 h2 hg hq
        go_enter Try.func13, Try.ntmps13
        go_wp2_with fail
        generalize World.alloc _ _ = w1 at I HC ⊢
        go_upto_region 6 with (first
          | (go_at_call 15; (with_reducible refine (Gives.c (HC.out _ (Below.refl _ _))).mono ?_); rintro e w2 ⟨rfl, hb⟩; replace I := I.next hb; have q0 := I.now.2.2.1.four; have qr := I.now.2.2.2.two; have fr2 := I.now.2.2.2.free2; clear hb)
          | (go_at_call 37; (first | with_reducible refine (Gives.c (HI1.out _)).mono ?_ | with_reducible refine (Gives.c (HI2.out _)).mono ?_); rintro e w3 ⟨rfl, hb⟩; replace I := I.next hb; clear hb q0 qr fr2; have q0 := I.now.2.2.1.four; have qr := I.now.2.2.2.two; have fr2 := I.now.2.2.2.free2))
        have hS : ∀ W, Below w3.heap.size w3 W → Below w3.heap.size w3 W ∧ W.cell? ⟨w.heap.size, 0, none⟩ = some (.int .i64 gn) ∧ W.cell? ⟨w.heap.size, 1, none⟩ = some (.int .i64 gd) ∧ W.cell? ⟨w.heap.size, 2, none⟩ = some (.int .i64 on) ∧ W.cell? ⟨w.heap.size, 3, none⟩ = some (.int .i64 od) := fun W hW => ⟨hW, (I.next hW).now.2.2.1.four⟩
        have HS := Lib.hid hS
        clear hS
        go_cut [7, 8] (fun s7 s8 wx => ∃ B7 B8 : Nat, s7 = .pointer (some ⟨B7, 0, none⟩) ∧ s8 = .pointer (some ⟨B8, 0, none⟩) ∧ Aside (Blk wx B7 [.int .i64 gn, .int .i64 gd]) ∧ Aside (Blk wx B8 [.int .i64 on, .int .i64 od]) ∧ Aside (Below w3.heap.size w3 wx))
        case first =>
          go_region_held3 (fun W => Below w3.heap.size w3 W ∧ W.cell? ⟨w.heap.size, 0, none⟩ = some (.int .i64 gn) ∧ W.cell? ⟨w.heap.size, 1, none⟩ = some (.int .i64 gd) ∧ W.cell? ⟨w.heap.size, 2, none⟩ = some (.int .i64 on) ∧ W.cell? ⟨w.heap.size, 3, none⟩ = some (.int .i64 od))
            (first | exact HS.out _ (by go_grown) | fail)
            (fail)
          all_goals
            go_wp2_with fail
            go_meet
            exact ⟨_, _, rfl, rfl, by first | exact blk2_0 .. | exact blk2_1 .., by first | exact blk2_0 .. | exact blk2_1 .., belowA2 ..⟩
        case rest =>
          obtain ⟨B7, B8, rfl, rfl, H7, H8, HB⟩ := hcut
          have J := ((I.next HB.out).with (.blk H7.out)).with (.blk H8.out)
          have q7 := H7.out.two
          have q8 := H8.out.two
          clear H7 H8 HB HS q0 qr fr2 I
          have ud : IntKind.i64.wrap (gd * od) = gd * od := i64_in (by omega) (by omega)
          generalize hdd' : gd * od = dd at hdd HT ud
          have ud : IntKind.i64.wrap (gd * od) = dd := by rw [hdd']; exact ud
          go_wp2_with fail
          obtain ⟨b, off, rfl, _⟩ := (J.now.1.1.2.1).2.2 hpos
          have hB9 := Lib.hid (Blk.new wc [.int .i64 0, .int .i64 dd] 82)
          clear q7 q8
          go_loopw [42] (fun i wr => ∃ (k : Nat) (m : Int), k ≤ n ∧ i = .int .i64 k ∧ (0 ≤ m ∧ m ≤ 4000000000000000) ∧ Aside ((l.drop k).foldl (errStep gn gd on od) m = T) ∧ Aside (Blk wr wc.heap.size [.int .i64 m, .int .i64 dd]) ∧ Aside (Below wc.heap.size wc wr)) (fun i _ => n - (intOf i).toNat)
          case atStart => exact ⟨0, 0, Nat.zero_le _, rfl, by omega, by rw [List.drop_zero]; exact HT.out, hB9.out, (Below.refl _ _).alloc (Nat.le_refl _) _⟩
          case round =>
            obtain ⟨k, m, hk, rfl, hm, HCC, H9, HB⟩ := hrel
            clear hB9
            have K := J.next HB.out
            have q9 := H9.out.two
            have z9 := H9.out.lt
            by_cases hlt : k < n
            · have hlt' : (k : Int) < (n : Int) := by omega
              have hw1 : IntKind.i64.wrap ((k : Int) + 1) = (k : Int) + 1 := i64_in (by omega) (by omega)
              have q7 := K.now.1.2.two
              have q8 := K.now.2.two
              have z7 := K.now.1.2.lt
              have z8 := K.now.2.lt
              have hx := K.now.1.1.2.1.at hlt
              have hT := HCC.out
              rw [errStep_at (by omega)] at hT
              have hbd := HLD.out k hlt
              have htm := HG.out.tame k (by omega)
              have f9 := H9.out.free2
              clear HCC
              generalize hmx : errStep gn gd on od m (cAt l k) = m' at hT
              unfold errStep loudF at hmx
              generalize cAt l k = cc at hx hmx hbd htm
              obtain ⟨s, lo, hi⟩ := cc
              have t1 := htm.l0
              have t2 := htm.l1
              have t3 := htm.h1
              dsimp only at hx hmx hbd t1 t2 t3
              rw [hdd'] at hmx
              have m1 := mul_bd (a := lo) (b := dd) (A := 10000) (B := 10000000000) t1 (by omega) (by omega) (by omega)
              have m2 := mul_bd (a := hi) (b := dd) (A := 10000) (B := 10000000000) (by omega) t3 (by omega) (by omega)
              have v1 : IntKind.i64.wrap (gn * s) = gn * s := i64_in (by omega) (by omega)
              have v2 : IntKind.i64.wrap (gn * s * od) = gn * s * od := i64_in (by omega) (by omega)
              have v3 : IntKind.i64.wrap (on * gd) = on * gd := i64_in (by omega) (by omega)
              generalize hL : gn * s * od + on * gd = L at hmx
              have v4 : IntKind.i64.wrap (gn * s * od + on * gd) = L := by rw [hL, i64_w]; exact w64_in (by omega) (by omega)
              have v5 : IntKind.i64.wrap (lo * dd) = lo * dd := i64_in (by omega) (by omega)
              have v6 : IntKind.i64.wrap (hi * dd) = hi * dd := i64_in (by omega) (by omega)
              have v7 : IntKind.i64.wrap (L - lo * dd) = L - lo * dd := by rw [i64_w]; exact w64_in (by omega) (by omega)
              have v8 : IntKind.i64.wrap (hi * dd - L) = hi * dd - L := by rw [i64_w]; exact w64_in (by omega) (by omega)
              have hm2 : 0 ≤ m' ∧ m' ≤ 4000000000000000 := by rw [← hmx]; omega
              have hbx := (H9.out.set 0 (by simp) (.int .i64 m')).alloc (.cells #[.int .i64 s, .int .i64 lo, .int .i64 hi] 68)
              have HBX := Lib.hid hbx
              have HT2 := Lib.hid hT
              have hbw := (HB.out.setCell (p := ⟨wc.heap.size, 0, none⟩) (Nat.le_refl _) (.int .i64 m')).alloc (by simpa using HB.out.size) (.cells #[.int .i64 s, .int .i64 lo, .int .i64 hi] 68)
              have HBW := Lib.hid hbw
              clear hT hbx hbw m1 m2 hL htm t1 t2 t3 hbd
              go_wp2_with fail
              go_roundw
              case rel => exact ⟨k + 1, m', hlt, by go_num, hm2, HT2.out, HBX.out, HBW.out⟩
              case measure => simp [intOf]; omega
            · obtain rfl : k = n := by omega
              have hT := HCC.out
              rw [List.drop_eq_nil_of_le (by omega)] at hT
              have hT : m = T := hT
              subst hT
              have HP : ∀ W, Gives 38 #[.agg #[.int .i64 m, .int .i64 dd]] (rv q) W := fun W => by
                have h := plain_calls (n := m) (d := dd) (by omega) (by omega) (by omega) W
                have e : fr m dd = q := by rw [← hdd']; exact HQ.out
                rwa [e] at h
              have hO : ∀ W, Gives 39 #[rv q] (rv q) W := fun W => out_calls _ _ W
              unfold rv at HP hO
              have HP := Lib.hid HP
              have HO := Lib.hid hO
              clear hO
              go_wp2_with (first
                | (go_at_call 38; (with_reducible refine (Gives.c (HP.out _)).mono ?_); rintro e w5 ⟨rfl, hb⟩; replace K := K.next hb; clear hb)
                | (go_at_call 39; (with_reducible refine (Gives.c (HO.out _)).mono ?_); rintro e w6 ⟨rfl, hb⟩; replace K := K.next hb; clear hb; have qr := K.now.1.1.2.2.2.two; have fr2 := K.now.1.1.2.2.2.free2))
              have k2 := (K.now.1.1.2.2.2.put2 (.int .i64 q.num) (.int .i64 (q.den : Int))).two
              have kb := below2 K.now.1.1.1 (show w.heap.size ≤ w.heap.size + 1 by omega) (.int .i64 q.num) (.int .i64 (q.den : Int))
              generalize World.setCell _ _ _ = wf at k2 kb ⊢
              refine bodyPost_ret (v := .tuple #[rv q, .int .i64 0]) (by simp [results, Try.results13, go_sem, k2]) rfl ⟨rfl, kb⟩
  · rw [if_pos hk]
    have hne : (chk l == 0) = false := beq_eq_false_iff_ne.2 hk
    have HC := Lib.hid HC
    generalize chk l = e at hne HC hk
    clear hl
    go_enter Try.func13, Try.ntmps13
    go_wp2_with fail
    generalize World.alloc _ _ = w1 at I HC ⊢
    go_wp2_with (go_at_call 15; (with_reducible refine (Gives.c (HC.out _ (Below.refl _ _))).mono ?_); rintro e w2 ⟨rfl, hb⟩; replace I := I.next hb; have qr := I.now.2.2.2.two; have fr2 := I.now.2.2.2.free2; clear hb)
    have k2 := (I.now.2.2.2.put2 (.int .i64 0) (.int .i64 0)).two
    have kb := below2 I.now.1 (show w.heap.size ≤ w.heap.size + 1 by omega) (.int .i64 0) (.int .i64 0)
    generalize World.setCell _ _ _ = wf at k2 kb ⊢
    refine bodyPost_ret (v := .tuple #[.agg #[.int .i64 0, .int .i64 0], .int .i64 e]) (by simp [results, Try.results13, go_sem, k2]) rfl ⟨rfl, kb⟩
end Go.Proofs.Ytjncoableanmpaa
