/- The reference's Error. -/
import Derived.Test.YtjncoableanmpaaQB
import Derived.Test.YtjncoableanmpaaLK
namespace Go.Proofs.Ytjncoableanmpaa
open Go.RowKit Go.Lib Go.Shelf
attribute [local go_sem] run_max3

set_option maxRecDepth 100000 in
set_option maxHeartbeats 4000000 in
theorem rerror_calls (A : Option Addr) (n c : Nat) (l : List Cd) (gn gd on od : Int) (w : World) (hl : ReadsC w A n l) (hcap : n ≤ c) :
    Gives 14 #[.slice A n c, .agg #[.int .i64 gn, .int .i64 gd, .int .i64 on, .int .i64 od]] (errF l gn gd on od) w := by
  unfold Gives errF
  have I : Held ((w.alloc (.cells [Value.int .i64 gn, .int .i64 gd, .int .i64 on, .int .i64 od].toArray 34)).alloc (.cells [Value.int .i64 0, .int .i64 0].toArray 24)) (fun W => Below w.heap.size w W ∧ ReadsC W A n l ∧ Blk W w.heap.size [Value.int .i64 gn, .int .i64 gd, .int .i64 on, .int .i64 od] ∧ Blk W (w.heap.size + 1) [Value.int .i64 0, .int .i64 0]) :=
    fun W hW => by
      have h1 : Below w.heap.size w W := (((Below.refl _ _).alloc (Nat.le_refl _) _).alloc (by simp) _).trans (hW.mono (by simp; omega))
      exact ⟨h1, hl.later h1, ((Blk.new w _ 34).alloc _).later hW, Blk.later (by simpa using Blk.new (w.alloc _) [Value.int .i64 0, .int .i64 0] 24) hW⟩
  have HC : ∀ W, Below ((w.alloc (.cells [Value.int .i64 gn, .int .i64 gd, .int .i64 on, .int .i64 od].toArray 34)).alloc (.cells [Value.int .i64 0, .int .i64 0].toArray 24)).heap.size ((w.alloc (.cells [Value.int .i64 gn, .int .i64 gd, .int .i64 on, .int .i64 od].toArray 34)).alloc (.cells [Value.int .i64 0, .int .i64 0].toArray 24)) W → Gives 16 #[.slice A n c] (.int .i64 (chk l)) W := fun W hW => rcheck_calls A n c l W (I W hW).2.1 hcap
  have hlen := hl.1
  by_cases hk : chk l = 0
  · rw [if_neg (fun h => h hk)]
    rw [hk] at HC
    have hg := chk_good hk
    have HG := Lib.hid hg
    have HC := Lib.hid HC
    clear hl hk
    have hI1 : ∀ W, Gives 40 #[.agg #[.int .i64 gn, .int .i64 gd], .int .i64 1000000] (.bool (insB gn gd 1000000)) W := fun W => rgood_calls gn gd 1000000 (by decide) W
    have hI2 : ∀ W, Gives 40 #[.agg #[.int .i64 on, .int .i64 od], .int .i64 10000000000] (.bool (insB on od 10000000000)) W := fun W => rgood_calls on od 10000000000 (by decide) W
    cases h1 : insB gn gd 1000000 with
    | false =>
      rw [h1] at hI1
      have HI1 := Lib.hid hI1
      rw [Bool.false_and, if_neg (by decide)]
      clear hI1 hI2 hg
      go_enter Try.func14, Try.ntmps14
      go_wp2_with fail
      generalize World.alloc _ _ = w1 at I HC ⊢
      go_wp2_with (first
        | (go_at_call 16; (with_reducible refine (Gives.c (HC.out _ (Below.refl _ _))).mono ?_); rintro e w2 ⟨rfl, hb⟩; replace I := I.next hb; have q0 := I.now.2.2.1.four; have qr := I.now.2.2.2.two; have fr2 := I.now.2.2.2.free2; clear hb)
        | (go_at_call 40; (first | with_reducible refine (Gives.c (HI1.out _)).mono ?_ | with_reducible refine (Gives.c (HI2.out _)).mono ?_); rintro e w3 ⟨rfl, hb⟩; replace I := I.next hb; clear hb q0 qr fr2; have q0 := I.now.2.2.1.four; have qr := I.now.2.2.2.two; have fr2 := I.now.2.2.2.free2))
      have k2 := (I.now.2.2.2.put2 (.int .i64 0) (.int .i64 0)).two
      have kb := below2 I.now.1 (show w.heap.size ≤ w.heap.size + 1 by omega) (.int .i64 0) (.int .i64 0)
      generalize World.setCell _ _ _ = wf at k2 kb ⊢
      refine bodyPost_ret (v := .tuple #[.agg #[.int .i64 0, .int .i64 0], .int .i64 3]) (by simp [results, Try.results14, go_sem, k2]) rfl ⟨rfl, kb⟩
    | true =>
      rw [h1] at hI1
      rw [Bool.true_and]
      cases h2 : insB on od 10000000000 with
      | false =>
        rw [h2] at hI2
        rw [if_neg (by decide)]
        have HI1 := Lib.hid hI1
        have HI2 := Lib.hid hI2
        clear hI1 hI2 hg
        go_enter Try.func14, Try.ntmps14
        go_wp2_with fail
        generalize World.alloc _ _ = w1 at I HC ⊢
        go_wp2_with (first
          | (go_at_call 16; (with_reducible refine (Gives.c (HC.out _ (Below.refl _ _))).mono ?_); rintro e w2 ⟨rfl, hb⟩; replace I := I.next hb; have q0 := I.now.2.2.1.four; have qr := I.now.2.2.2.two; have fr2 := I.now.2.2.2.free2; clear hb)
          | (go_at_call 40; (first | with_reducible refine (Gives.c (HI1.out _)).mono ?_ | with_reducible refine (Gives.c (HI2.out _)).mono ?_); rintro e w3 ⟨rfl, hb⟩; replace I := I.next hb; clear hb q0 qr fr2; have q0 := I.now.2.2.1.four; have qr := I.now.2.2.2.two; have fr2 := I.now.2.2.2.free2))
        have k2 := (I.now.2.2.2.put2 (.int .i64 0) (.int .i64 0)).two
        have kb := below2 I.now.1 (show w.heap.size ≤ w.heap.size + 1 by omega) (.int .i64 0) (.int .i64 0)
        generalize World.setCell _ _ _ = wf at k2 kb ⊢
        refine bodyPost_ret (v := .tuple #[.agg #[.int .i64 0, .int .i64 0], .int .i64 3]) (by simp [results, Try.results14, go_sem, k2]) rfl ⟨rfl, kb⟩
      | true =>
        rw [h2] at hI2
        rw [if_pos rfl]
        have HI1 := Lib.hid hI1
        have HI2 := Lib.hid hI2
        clear hI1 hI2
        unfold insB at h1 h2
        simp only [Bool.and_eq_true, decide_eq_true_eq] at h1 h2
        have hld := fun j (hj : j < n) => loud_bd (gn := gn) (gd := gd) (on := on) (od := od) (s := (cAt l j).1) h1.1 h1.2 h2.1 h2.2 ⟨(hg.tame j (by omega)).s0, (hg.tame j (by omega)).s1⟩
        have hpos : 0 < n := by have := hg.pos; omega
        have hn24 : n ≤ 24 := by have := hg.few; omega
        have hdd := (hld 0 hpos).2.2.2
        obtain ⟨T, hT0⟩ : ∃ T, errN gn gd on od l = T := ⟨_, rfl⟩
        rw [hT0]
        unfold errN at hT0
        have HT := Lib.hid hT0
        clear hT0
        have HLD := Lib.hid hld
        generalize hq : fr T (gd * od) = q
        have HQ := Lib.hid hq
        have ud : IntKind.i64.wrap (gd * od) = gd * od := i64_in (by omega) (by omega)
        generalize hdd' : gd * od = dd at hdd HT ud
        have ud : IntKind.i64.wrap (gd * od) = dd := by rw [hdd']; exact ud
        clear hld h1 h2 hg hq
        go_enter Try.func14, Try.ntmps14
        go_wp2_with fail
        generalize World.alloc _ _ = w1 at I HC ⊢
        go_wp2_with (first
          | (go_at_call 16; (with_reducible refine (Gives.c (HC.out _ (Below.refl _ _))).mono ?_); rintro e w2 ⟨rfl, hb⟩; replace I := I.next hb; have q0 := I.now.2.2.1.four; have qr := I.now.2.2.2.two; have fr2 := I.now.2.2.2.free2; clear hb)
          | (go_at_call 40; (first | with_reducible refine (Gives.c (HI1.out _)).mono ?_ | with_reducible refine (Gives.c (HI2.out _)).mono ?_); rintro e w3 ⟨rfl, hb⟩; replace I := I.next hb; clear hb q0 qr fr2; have q0 := I.now.2.2.1.four; have qr := I.now.2.2.2.two; have fr2 := I.now.2.2.2.free2))
        obtain ⟨b, off, rfl, _⟩ := (I.now.2.1).2.2 hpos
        clear q0 qr fr2
        go_loopw [8, 9] (fun v8 v9 wr => ∃ (k : Nat) (m : Int), k ≤ n ∧ v8 = .int .i64 m ∧ v9 = .int .i64 k ∧ (0 ≤ m ∧ m ≤ 4000000000000000) ∧ Aside ((l.drop k).foldl (errStep gn gd on od) m = T) ∧ Aside (Below w3.heap.size w3 wr)) (fun _ i _ => n - (intOf i).toNat)
        case atStart => exact ⟨0, 0, Nat.zero_le _, rfl, rfl, by omega, by rw [List.drop_zero]; exact HT.out, Below.refl _ _⟩
        case round =>
          obtain ⟨k, m, hk, rfl, rfl, hm, HCC, HB⟩ := hrel
          have K := I.next HB.out
          by_cases hlt : k < n
          · have hlt' : (k : Int) < (n : Int) := by omega
            have hw1 : IntKind.i64.wrap ((k : Int) + 1) = (k : Int) + 1 := i64_in (by omega) (by omega)
            have q0 := K.now.2.2.1.four
            have hx := K.now.2.1.at hlt
            have hT := HCC.out
            rw [errStep_at (by omega)] at hT
            have hbd := HLD.out k hlt
            have htm := HG.out.tame k (by omega)
            clear HCC
            generalize hmx : errStep gn gd on od m (cAt l k) = m' at hT
            unfold errStep loudF at hmx
            generalize cAt l k = cc at hx hmx hbd htm
            obtain ⟨s, lo, hi⟩ := cc
            have t1 := htm.l0
            have t2 := htm.l1
            have t3 := htm.h1
            dsimp only at hx hmx hbd t1 t2 t3
            rw [hdd'] at hmx
            have m1 := mul_bd (a := lo) (b := dd) (A := 10000) (B := 10000000000) t1 (by omega) (by omega) (by omega)
            have m2 := mul_bd (a := hi) (b := dd) (A := 10000) (B := 10000000000) (by omega) t3 (by omega) (by omega)
            have v1 : IntKind.i64.wrap (gn * s) = gn * s := i64_in (by omega) (by omega)
            have v2 : IntKind.i64.wrap (gn * s * od) = gn * s * od := i64_in (by omega) (by omega)
            have v3 : IntKind.i64.wrap (on * gd) = on * gd := i64_in (by omega) (by omega)
            generalize hL : gn * s * od + on * gd = L at hmx
            have v4 : IntKind.i64.wrap (gn * s * od + on * gd) = L := by rw [hL, i64_w]; exact w64_in (by omega) (by omega)
            have v5 : IntKind.i64.wrap (lo * dd) = lo * dd := i64_in (by omega) (by omega)
            have v6 : IntKind.i64.wrap (hi * dd) = hi * dd := i64_in (by omega) (by omega)
            have v7 : IntKind.i64.wrap (L - lo * dd) = L - lo * dd := by rw [i64_w]; exact w64_in (by omega) (by omega)
            have v8 : IntKind.i64.wrap (hi * dd - L) = hi * dd - L := by rw [i64_w]; exact w64_in (by omega) (by omega)
            have hm2 : 0 ≤ m' ∧ m' ≤ 4000000000000000 := by rw [← hmx]; omega
            have HT2 := Lib.hid hT
            clear hT m1 m2 hL htm t1 t2 t3 hbd
            go_wp2_with fail
            go_quiet (fail)
            go_wp2
            go_quiet (fail)
            go_wp2
            go_roundw
            case rel => exact ⟨k + 1, m', hlt, by go_num, by go_num, hm2, HT2.out, below_drewN' HB.out _⟩
            case measure => simp [intOf]; omega
          · obtain rfl : k = n := by omega
            have hT := HCC.out
            rw [List.drop_eq_nil_of_le (by omega)] at hT
            have hT : m = T := hT
            subst hT
            have HP : ∀ W, Gives 41 #[.int .i64 m, .int .i64 dd] (rv q) W := fun W => by
              have h := rleast_calls (n := m) (d := dd) (by omega) (by omega) (by omega) W
              have e : fr m dd = q := by rw [← hdd']; exact HQ.out
              rwa [e] at h
            unfold rv at HP
            have HP := Lib.hid HP
            go_wp2_with (go_at_call 41; (with_reducible refine (Gives.c (HP.out _)).mono ?_); rintro e w5 ⟨rfl, hb⟩; replace K := K.next hb; clear hb; have qr := K.now.2.2.2.two; have fr2 := K.now.2.2.2.free2)
            have k2 := (K.now.2.2.2.put2 (.int .i64 q.num) (.int .i64 (q.den : Int))).two
            have kb := below2 K.now.1 (show w.heap.size ≤ w.heap.size + 1 by omega) (.int .i64 q.num) (.int .i64 (q.den : Int))
            generalize World.setCell _ _ _ = wf at k2 kb ⊢
            refine bodyPost_ret (v := .tuple #[rv q, .int .i64 0]) (by simp [results, Try.results14, go_sem, k2]) rfl ⟨rfl, kb⟩
  · rw [if_pos hk]
    have hne : (chk l == 0) = false := beq_eq_false_iff_ne.2 hk
    have HC := Lib.hid HC
    generalize chk l = e at hne HC hk
    clear hl
    go_enter Try.func14, Try.ntmps14
    go_wp2_with fail
    generalize World.alloc _ _ = w1 at I HC ⊢
    go_wp2_with (go_at_call 16; (with_reducible refine (Gives.c (HC.out _ (Below.refl _ _))).mono ?_); rintro e w2 ⟨rfl, hb⟩; replace I := I.next hb; have qr := I.now.2.2.2.two; have fr2 := I.now.2.2.2.free2; clear hb)
    have k2 := (I.now.2.2.2.put2 (.int .i64 0) (.int .i64 0)).two
    have kb := below2 I.now.1 (show w.heap.size ≤ w.heap.size + 1 by omega) (.int .i64 0) (.int .i64 0)
    generalize World.setCell _ _ _ = wf at k2 kb ⊢
    refine bodyPost_ret (v := .tuple #[.agg #[.int .i64 0, .int .i64 0], .int .i64 e]) (by simp [results, Try.results14, go_sem, k2]) rfl ⟨rfl, kb⟩
end Go.Proofs.Ytjncoableanmpaa
