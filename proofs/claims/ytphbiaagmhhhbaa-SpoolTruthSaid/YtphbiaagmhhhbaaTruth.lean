/- SpoolTruth: a growth that is true is among those that are returned; more measurements, or a smaller error, leave no more growths: the call returns true at every reel, growth, errors and list of triples. -/
import Derived.Test.YtphbiaagmhhhbaaMT
import Derived.Test.YtphbiaagmhhhbaaRN
import Derived.Deep.CutRange
namespace Go.Proofs.Ytphbiaagmhhhbaa
open Go.ChangeShapes Go.WideShapes Go.ChangeAt Go.RowKit Go.Lib Go.Shelf

/-- The right ones: without what is changed. -/
def rights (l : List Tri) : List Tri := l.map fun x => (x.1, x.2.1, 0)
theorem rights_at {l : List Tri} (i : Nat) : tAt (rights l) i = ((tAt l i).1, (tAt l i).2.1, 0) := by
  unfold tAt rights
  rw [List.getElem?_map]
  cases l[i]? <;> rfl
def cellsT (l : List Tri) : List Value := l.flatMap fun x => [Value.int .u8 x.1, Value.int .u8 x.2.1, Value.int .u8 x.2.2]
theorem cellsT_append (l k : List Tri) : cellsT (l ++ k) = cellsT l ++ cellsT k := by simp [cellsT]
theorem cellsT_snoc (l : List Tri) (k : Nat) (h : k < l.length) : cellsT (l.take (k + 1)) = cellsT (l.take k) ++ [Value.int .u8 (tAt l k).1, Value.int .u8 (tAt l k).2.1, Value.int .u8 (tAt l k).2.2] := by
  rw [List.take_succ_eq_append_getElem h, cellsT_append]
  unfold tAt
  rw [List.getElem?_eq_getElem h]
  rfl
theorem cellsT_at (l : List Tri) (j : Nat) (hj : j < l.length) : (cellsT l)[j * 3]? = some (.int .u8 (tAt l j).1) ∧ (cellsT l)[j * 3 + 1]? = some (.int .u8 (tAt l j).2.1) ∧ (cellsT l)[j * 3 + 2]? = some (.int .u8 (tAt l j).2.2) := by
  induction l generalizing j with
  | nil => simp at hj
  | cons x r ih =>
    cases j with
    | zero => exact ⟨rfl, rfl, rfl⟩
    | succ j =>
      have := ih j (by simpa using hj)
      have e : cellsT (x :: r) = Value.int .u8 x.1 :: Value.int .u8 x.2.1 :: Value.int .u8 x.2.2 :: cellsT r := rfl
      rw [e]
      refine ⟨?_, ?_, ?_⟩
      · rw [show (j + 1) * 3 = j * 3 + 1 + 1 + 1 by omega, List.getElem?_cons_succ, List.getElem?_cons_succ, List.getElem?_cons_succ, this.1]; rfl
      · rw [show (j + 1) * 3 + 1 = j * 3 + 1 + 1 + 1 + 1 by omega, List.getElem?_cons_succ, List.getElem?_cons_succ, List.getElem?_cons_succ, this.2.1]; rfl
      · rw [show (j + 1) * 3 + 2 = j * 3 + 2 + 1 + 1 + 1 by omega, List.getElem?_cons_succ, List.getElem?_cons_succ, List.getElem?_cons_succ, this.2.2]; rfl
theorem own_readsT {w : World} {base n : Nat} {e : TypeId} {v : Value} {xs : List Tri} (h : w.ownsRow base e 3 v n (cellsT xs)) (hl : xs.length = n) (hn : n * 3 ≤ 140737488351232) (hb : ∀ i, Bytes (tAt xs i)) :
    ∃ A c, v = .slice A n c ∧ ReadsT w A n xs := by
  rcases Nat.eq_zero_or_pos n with h0 | h0
  · subst h0
    rcases h.2 with ⟨rfl, _⟩ | ⟨g, cap, cur, rfl, _⟩
    · exact ⟨none, 0, rfl, hl, hn, hb, fun hp => absurd hp (by omega)⟩
    · exact ⟨_, cap, rfl, hl, hn, hb, fun hp => absurd hp (by omega)⟩
  · obtain ⟨g, cap, rfl, _, _⟩ := h.form h0
    refine ⟨_, cap, rfl, hl, hn, hb, fun _ => ⟨g, 0, rfl, fun j hj => ?_⟩⟩
    have c := cellsT_at xs j (by omega)
    have hadd : ∀ i, (⟨g, 0, none⟩ : Addr).add i = ⟨g, 0 + i, none⟩ := fun i => WideShapes.add_plain g 0 i
    have c1 := h.cells (g := g) rfl (j * 3) _ c.1
    have c2 := h.cells (g := g) rfl (j * 3 + 1) _ c.2.1
    have c3 := h.cells (g := g) rfl (j * 3 + 2) _ c.2.2
    rw [hadd] at c1 c2 c3
    exact ⟨c1, c2, c3⟩
theorem info76 : (Try.prog.info? 76).map (fun i => (i.zero, i.size, i.bytes)) = some (some (.agg #[.int .u8 0, .int .u8 0, .int .u8 0]), 3, 3) := by kernel_rfl

theorem g_calls {c t lo hi off a b e : Int} {A : Option Addr} {n cap : Nat} {l : List (Int × Int)} (h : growthsF c t lo hi off l = (a, b, e)) (w : World) (hl : ReadsM w A n l) :
    Gives 39 #[.agg #[.int .i64 c, .int .i64 t, .int .i64 lo, .int .i64 hi], .int .i64 off, .slice A n cap] (.tuple #[.agg #[.int .i64 a, .int .i64 b], .int .i64 e]) w := by
  have hh := Growths_calls c t lo hi off A n cap l w hl
  rw [h] at hh
  exact hh

set_option maxRecDepth 1000000 in
set_option maxHeartbeats 8000000 in
theorem truth_walk {r : Value} {c lo hi g d0 d s : Int} {T xn fn gn n cap : Nat} {B : Option Addr} {l : List Tri} (hsm : Small c T lo hi) (hx : xn ≤ 255) (hf : fn ≤ 255) (hgn : gn ≤ 255) (hd0 : (xn : Int) % (hi - lo + 1) = d0) (hg : lo + d0 = g)
    (hd : (fn : Int) % 20 = d) (hs2 : (gn : Int) % (d + 1) = s) {p0 p1 p2 p3 : Int} (hr : r = reel p0 p1 p2 p3) (hmade : ∀ W, Gives 45 #[r] (spl c T lo hi) W)
    (w : World) (hl : ReadsT w B n l) : Gives 14 #[r, .int .u8 (xn : Int), .int .u8 (fn : Int), .int .u8 (gn : Int), .slice B n cap] (.bool true) w := by
  unfold Gives
  subst hr
  have hgt := guard26
  have hst := stood26
  obtain ⟨i0, hi0, hz0, hz1, hz2⟩ := info_parts info76
  have I : Held w (fun W => Below w.heap.size w W) := .from (Below.refl _ _) (Nat.le_refl _)
  have hs := hsm.sound
  have hsm' := hsm
  obtain ⟨s1, s2, s3, s4, s5, s6, s7, s8⟩ := hsm'
  have hdd0 : 0 ≤ d0 := by rw [← hd0]; exact Int.emod_nonneg _ (by omega)
  have hdd1 : d0 < hi - lo + 1 := by rw [← hd0]; exact Int.emod_lt_of_pos _ (by omega)
  have hd1 : 0 ≤ d ∧ d ≤ 19 := by omega
  have hs0 : 0 ≤ s := by rw [← hs2]; exact Int.emod_nonneg _ (by omega)
  have hs1 : s < d + 1 := by rw [← hs2]; exact Int.emod_lt_of_pos _ (by omega)
  have hwx : IntKind.i64.wrap (xn : Int) = (xn : Int) := i64_in (by omega) (by omega)
  have hwf : IntKind.i64.wrap (fn : Int) = (fn : Int) := i64_in (by omega) (by omega)
  have hwg' : IntKind.i64.wrap (gn : Int) = (gn : Int) := i64_in (by omega) (by omega)
  have hwd : IntKind.i64.wrap (hi - lo) = hi - lo := i64_in (by omega) (by omega)
  have hwd1 : IntKind.i64.wrap (hi - lo + 1) = hi - lo + 1 := i64_in (by omega) (by omega)
  have hmd : (xn : Int).tmod (hi - lo + 1) = d0 := by rw [Int.tmod_eq_emod_of_nonneg (by omega)]; exact hd0
  have hwg : IntKind.i64.wrap (lo + d0) = g := by rw [hg]; exact i64_in (by omega) (by omega)
  have hmf : (fn : Int).tmod 20 = d := by rw [Int.tmod_eq_emod_of_nonneg (by omega)]; exact hd
  have hwd2 : IntKind.i64.wrap (d + 1) = d + 1 := i64_in (by omega) (by omega)
  have hms : (gn : Int).tmod (d + 1) = s := by rw [Int.tmod_eq_emod_of_nonneg (by omega)]; exact hs2
  have hws : IntKind.i64.wrap (d - s) = d - s := i64_in (by omega) (by omega)
  have hz1' : (hi - lo + 1 == 0) = false := beq_eq_false_iff_ne.2 (by omega)
  have hz3 : ¬ hi - lo + 1 = 0 := by omega
  have hz2' : (d + 1 == 0) = false := beq_eq_false_iff_ne.2 (by omega)
  have hz4 : ¬ d + 1 = 0 := by omega
  have hg0 : lo ≤ g := by omega
  have hg1 : g ≤ hi := by omega
  have hln := hl.1
  have hlm := hl.2.1
  have hrl : (rights l).length = n := by unfold rights; rw [List.length_map]; exact hln
  have hrb : ∀ i, Bytes (tAt (rights l) i) := fun i => by rw [rights_at]; have := hl.2.2.1 i; exact ⟨this.1, this.2.1, Int.le_refl 0, (by decide : (0 : Int) ≤ 255)⟩
  have hrz : ∀ i, (tAt (rights l) i).2.2 = 0 := fun i => by rw [rights_at]
  obtain ⟨X, Y, f1, f2, f3, f4, f5, f6, f7, f8, X3, Y3, f9, f10, f11⟩ := truth_spec (g := g) hs s4 hg0 hg1 (by omega) hd1.1 hd1.2 hrb hrz
  have f7' := f7 (d - s) (by omega) (by omega)
  have hemp : n = 0 → X = lo ∧ Y = hi := fun h => f8 (List.eq_nil_of_length_eq_zero (by omega))
  have hml := measL_length c g d (rights l)
  rw [hrl] at hml
  have HM := Lib.hid hmade
  have HG := Lib.hid f1
  have HC := Lib.hid f2
  have HG3 := Lib.hid f9
  have HL := Lib.hid hl
  have HRB := Lib.hid hrb
  have HEMP := Lib.hid hemp
  have hsn : ∀ k, k < n → cellsT ((rights l).take (k + 1)) = cellsT ((rights l).take k) ++ [Value.int .u8 (tAt l k).1, Value.int .u8 (tAt l k).2.1, Value.int .u8 0] := fun k hk => by
    rw [cellsT_snoc _ _ (by omega), rights_at]
  have HSN := Lib.hid hsn
  clear hmade f1 f2 f7 f8 f9 hl hrb hrz hemp hsn hd0 hg hd hs2 hsm hs
  generalize hdd : d - s = dd at hws f7'
  have hws2 : IntKind.i64.wrap (d - s) = dd := by rw [hdd]; exact hws
  clear hws
  generalize hMM : measL c g d (rights l) = MM at f7' HG HC HG3 hml
  have HF7 := Lib.hid f7'
  have HMM := Lib.hid hMM
  clear f7' hMM hdd
  go_enter Try.func14, Try.ntmps14
  go_upto_region 2 with (go_at_call 45; (with_reducible refine (Gives.c (HM.out (World.alloc _ _))).mono ?_); rintro e w1 ⟨rfl, hb⟩; replace I := (I.alloc _).next hb; clear hb)
  have I2 := I.allocB [.int .i64 c, .int .i64 (T : Int), .int .i64 lo, .int .i64 hi] 28
  clear I
  generalize World.alloc _ _ = W0 at I2 ⊢
  have q0 := I2.now.2.four
  go_quiet (fail)
  replace I2 := I2.next (below_drewN' (Below.refl _ _) nq)
  clear q0
  generalize World.drewN _ _ = W3 at I2 ⊢
  replace I2 := (Held.from (Below.refl W3.heap.size W3) (Nat.le_refl _)).with I2
  go_wp2
  go_loopw [14, 46] (fun v i wr => ∃ k : Nat, k ≤ n ∧ i = .int .i64 k ∧ Aside (wr.ownsRow W3.heap.size 76 3 v k (cellsT ((rights l).take k))) ∧ Aside (Below W3.heap.size W3 wr)) (fun _ i _ => n - (intOf i).toNat)
  case atStart => exact ⟨0, Nat.zero_le _, rfl, World.ownsRow_nil _ _ _ _, Below.refl _ _⟩
  case round =>
    obtain ⟨k, hk, rfl, HO, HB⟩ := hrel
    have J := I2.next HB.out
    by_cases hlt : k < n
    · have hlt' : (k : Int) < (n : Int) := by omega
      have hw1 : IntKind.i64.wrap ((k : Int) + 1) = (k : Int) + 1 := i64_in (by omega) (by omega)
      have ra := HL.out.later J.now.2.1
      obtain ⟨b, o, rfl, hc⟩ := ra.2.2.2 (by omega)
      obtain ⟨hx1, hx2, hx3⟩ := hc k hlt
      have hsn := HSN.out k hlt
      generalize (tAt l k).1 = x at hx1 hsn
      generalize (tAt l k).2.1 = y at hx2 hsn
      generalize (tAt l k).2.2 = z at hx3
      have HSN1 := Lib.hid hsn
      clear hsn hc ra
      have hsz := HB.out.size
      have hO := own_later HO.out ((Below.refl wr.heap.size wr).alloc (Nat.le_refl _) (.cells #[.int .u8 x, .int .u8 y, .int .u8 z] 76))
      have hBq := HB.out.alloc hsz (.cells #[.int .u8 x, .int .u8 y, .int .u8 z] 76)
      go_wp2_with (first
        | (at_builtin; refine wpList_append_own _ rfl _ _ 75 rfl W3.heap.size 76 i0 (.agg #[.int .u8 0, .int .u8 0, .int .u8 0]) 3 3 Try.underlying75 hi0 hz0 hz1 hz2 rfl (by decide) _ _ _ rfl (hO.alloc _) ⟨wr.heap.size + 1, 0, none⟩ 1 1 [.int .u8 x, .int .u8 y, .int .u8 0] rfl rfl (cells_new _ [.int .u8 x, .int .u8 y, .int .u8 0] _ _ (by simp)) (by intro u hu; simp at hu; rcases hu with rfl | rfl | rfl <;> rfl) ?c3 ?c4 ?c5 ?_))
      case c3 => unfold maxLen; omega
      case c4 => omega
      case c5 => simp; omega
      intro v' w4 hown' hgrow _
      have HO' := Lib.hid hown'
      have HB4 := Lib.hid ((hBq.alloc hBq.size _).grown hgrow (by simp; omega) (by intro j hj; exact own_base' hO j hj))
      clear hown' hgrow hO hBq
      go_wp2
      go_roundw
      case measure => simp [intOf]; omega
      case rel => exact ⟨k + 1, by omega, by go_num, (show Aside _ from by rw [HSN1.out]; exact HO'.out), HB4.out⟩
    · obtain rfl : k = n := by omega
      have HO2 := HO.out
      rw [← hrl, List.take_length, hrl] at HO2
      obtain ⟨A0, cap0, rfl, hR0⟩ := own_readsT HO2 hrl hlm HRB.out
      replace J := J.with (.readsT hR0)
      have q0 := J.now.1.2.2.four
      clear hR0 HO2 HO
      go_upto_region 13 with (first
        | (go_at_call 47; (with_reducible refine (lmeasured_calls (by omega) s4 (by omega) (by omega) hd1.1 hd1.2 _ J.now.2).mono ?_); intro e w4 hh; rw [HMM.out] at hh; obtain ⟨⟨M, cm, rfl, hr, hcm, hcm2⟩, hb⟩ := hh; replace J := (J.next hb).with (.readsM hr); clear hr hb q0; have q0 := J.now.1.1.2.2.four)
        | (go_at_call 39; (with_reducible refine (Gives.c (g_calls HG.out _ J.now.2)).mono ?_); rintro e w5 ⟨rfl, hb⟩; replace J := J.next hb; clear hb q0; have q0 := J.now.1.1.2.2.four; have z0 := J.now.1.1.2.2.lt)
        | (go_at_call 41; (with_reducible refine (Clash_calls _ _ _ _ _ _ _ _ _ _ (J.allocB [.int .i64 X, .int .i64 Y] 26).now.1.2).mono ?_); intro e w6 hh; obtain ⟨K, mk, ck, rfl, _, hb⟩ := slc_of HC.out hh; replace J := (J.allocB _ _).next hb; clear hb hh q0 z0))
      have q0 := J.now.1.1.1.2.2.four
      have qx := J.now.2.two
      have g1 : ¬ g < X := by omega
      have g2 : ¬ Y < g := by omega
      have g3 : ¬ X < lo := by omega
      have g4 : ¬ hi < Y := by omega
      clear HRB HSN HL
      go_upto_region 15 with fail
      clear g1 g2 g3 g4
      have hS1 : ∀ W, Below w6.heap.size w6 W → Below w6.heap.size w6 W ∧ (W.cell? ⟨w1.heap.size, 0, none⟩ = some (.int .i64 c) ∧ W.cell? ⟨w1.heap.size, 1, none⟩ = some (.int .i64 (T : Int)) ∧ W.cell? ⟨w1.heap.size, 2, none⟩ = some (.int .i64 lo) ∧ W.cell? ⟨w1.heap.size, 3, none⟩ = some (.int .i64 hi)) := fun W hW => ⟨hW, (J.next hW).now.1.1.1.2.2.four⟩
      have HS1 := Lib.hid hS1
      clear hS1 qx
      have hG2 : ∃ X2 Y2 e2, growthsF c T lo hi dd MM = (X2, Y2, e2) ∧ ((e2 = 0 ∧ X ≤ X2 ∧ Y2 ≤ Y) ∨ e2 = 15) := by
        rcases HF7.out with ⟨X2, Y2, h1, h2, h3⟩ | h1
        · exact ⟨X2, Y2, 0, h1, .inl ⟨rfl, h2, h3⟩⟩
        · exact ⟨0, 0, 15, h1, .inr rfl⟩
      obtain ⟨X2, Y2, e2, hG2, hE2⟩ := hG2
      have HG2 := Lib.hid hG2
      have HE2 := Lib.hid hE2
      clear hG2 hE2
      go_region_held3 (fun W => Below w6.heap.size w6 W ∧ (W.cell? ⟨w1.heap.size, 0, none⟩ = some (.int .i64 c) ∧ W.cell? ⟨w1.heap.size, 1, none⟩ = some (.int .i64 (T : Int)) ∧ W.cell? ⟨w1.heap.size, 2, none⟩ = some (.int .i64 lo) ∧ W.cell? ⟨w1.heap.size, 3, none⟩ = some (.int .i64 hi)))
        (first
          | exact HS1.out _ (below2 hb2 (by simp) _ _)
          | exact HS1.out _ (hb2.alloc hb2.size _)
          | exact HS1.out _ hb2
          | exact HS1.out _ (((Below.refl w6.heap.size w6).alloc (Nat.le_refl _) _).drew)
          | exact HS1.out _ (below_drewN' (Below.refl _ _) 1)
          | fail)
        (first
          | (go_at_call 39; (with_reducible refine (Gives.c (g_calls HG2.out (World.drew (World.alloc w6 _)) ((J.next ((Below.refl w6.heap.size w6).alloc (Nat.le_refl _) _).drew).now.1.2))).mono ?_); rintro e w7 ⟨rfl, hb0⟩; have hb2 : Below w6.heap.size w6 w7 := ((Below.refl w6.heap.size w6).alloc (Nat.le_refl _) _).drew.trans (hb0.mono (by simp)); have kx : Blk w7 w6.heap.size [.int .i64 0, .int .i64 0] := Blk.later (Blk.drew (Blk.new w6 [.int .i64 0, .int .i64 0] 26)) hb0; have q3 := kx.two; have f3 := kx.free2)
          | (go_at_call 39; (with_reducible refine (Gives.c (g_calls HG2.out _ ((J.next (Below.refl w6.heap.size w6).drew).now.1.2))).mono ?_); rintro e w7 ⟨rfl, hb0⟩; have hb2 : Below w6.heap.size w6 w7 := (Below.refl w6.heap.size w6).drew.trans hb0)
          | fail)
      all_goals (first
        | (have qy := (kx.put2 (.int .i64 X2) (.int .i64 Y2)).two
           rename_i hh
           have hbb := hh.1
           clear hh q3 f3 kx
           generalize World.setCell _ _ _ = W8 at hbb qy ⊢)
        | (have qy : (w7.alloc (.cells #[.int .i64 X2, .int .i64 Y2] 26)).cell? ⟨w7.heap.size, 0, none⟩ = some (.int .i64 X2) ∧ (w7.alloc (.cells #[.int .i64 X2, .int .i64 Y2] 26)).cell? ⟨w7.heap.size, 1, none⟩ = some (.int .i64 Y2) := (Blk.new w7 [.int .i64 X2, .int .i64 Y2] 26).two
           rename_i hh
           have hbb := hh.1
           clear hh
           generalize World.alloc _ _ = W8 at hbb qy ⊢))
      all_goals (
        replace J := J.next hbb
        clear hbb HS1 q0
        have q0 := J.now.1.1.1.2.2.four
        have qx := J.now.2.two
        have hok : (e2 = 0 ∧ ¬ X2 < X ∧ ¬ Y < Y2) ∨ e2 = 15 := by
          rcases HE2.out with ⟨h1, h2, h3⟩ | h1
          · exact .inl ⟨h1, by omega, by omega⟩
          · exact .inr h1
        clear hb0 hb2 HE2 HG2 HF7
        rcases hok with ⟨rfl, g1, g2⟩ | rfl
        all_goals (
          go_upto_region 18 with fail
          clear qy
          by_cases hk0 : k = 0
          · obtain ⟨hXl, hYl⟩ := HEMP.out hk0
            subst hXl hYl
            have h60 : (((six k : Nat) : Int) == 0) = true := by rw [hk0]; rfl
            clear hk0
            go_wp2_with (go_at_call 29; (with_reducible refine (Gives.c (works_calls _)).mono ?_); rintro e w' ⟨rfl, hb⟩; replace J := J.next hb)
            go_ret
            exact ⟨rfl, J.now.1.1.1.2.1⟩
          · have h61 : 1 ≤ six k := by unfold six; omega
            have h62 : (((six k : Nat) : Int) == 0) = false := beq_eq_false_iff_ne.2 (by omega)
            have h63 : (1 : Int) ≤ ((six k : Nat) : Int) := by omega
            have h64 : ((six k : Nat) : Int) ≤ (cm : Int) := by omega
            have h65 : 0 < six k := by omega
            have h66 : ¬ six k = 0 := by omega
            have h67 : (0 : Int) < ((six k : Nat) : Int) := by omega
            have h68 : (1 : Int) ≤ (cm : Int) := by omega
            clear hk0
            go_upto_region 20 with fail
            obtain ⟨b, o, rfl, _⟩ := J.now.1.2.2.2 (by omega)
            have hsub : ∀ W, Below W8.heap.size W8 W → ReadsM W (if cm = 1 then some ⟨b, o, none⟩ else some ⟨b, o + 2, none⟩) (six k - 1) (MM.drop 1) := fun W hW => by
              have rm := (J.next hW).now.1.2
              refine ⟨by rw [List.length_drop, rm.1], by have := rm.2.1; omega, fun h0 => ?_⟩
              rw [if_neg (show ¬ cm = 1 by omega)]
              obtain ⟨b', o', e', hc⟩ := rm.2.2 (by omega)
              cases e'
              refine ⟨b, o + 2, rfl, fun j hj => ?_⟩
              have h := hc (j + 1) (by omega)
              rw [List.getElem?_drop, Nat.add_comm 1 j, show o + 2 + j * 2 = o + (j + 1) * 2 by omega]
              exact h
            obtain ⟨o2, hsp⟩ : ∃ o2, (if cm = 1 then (some (⟨b, o, none⟩ : Addr)) else some ⟨b, o + 2, none⟩) = some ⟨b, o2, none⟩ := by
              by_cases h : cm = 1
              · exact ⟨o, if_pos h⟩
              · exact ⟨o + 2, if_neg h⟩
            rw [hsp] at hsub
            have HSUB := Lib.hid hsub
            have hS2 : ∀ W, Below W8.heap.size W8 W → Below W8.heap.size W8 W ∧ (W.cell? ⟨w1.heap.size, 0, none⟩ = some (.int .i64 c) ∧ W.cell? ⟨w1.heap.size, 1, none⟩ = some (.int .i64 (T : Int)) ∧ W.cell? ⟨w1.heap.size, 2, none⟩ = some (.int .i64 lo) ∧ W.cell? ⟨w1.heap.size, 3, none⟩ = some (.int .i64 hi)) := fun W hW => ⟨hW, (J.next hW).now.1.1.1.2.2.four⟩
            have HS2 := Lib.hid hS2
            clear hsub hS2 qx
            go_region_held3 (fun W => Below W8.heap.size W8 W ∧ (W.cell? ⟨w1.heap.size, 0, none⟩ = some (.int .i64 c) ∧ W.cell? ⟨w1.heap.size, 1, none⟩ = some (.int .i64 (T : Int)) ∧ W.cell? ⟨w1.heap.size, 2, none⟩ = some (.int .i64 lo) ∧ W.cell? ⟨w1.heap.size, 3, none⟩ = some (.int .i64 hi)))
              (first
                | exact HS2.out _ (below2 hb2 (by simp) _ _)
                | exact HS2.out _ (hb2.alloc hb2.size _)
                | exact HS2.out _ hb2
                | exact HS2.out _ (((Below.refl W8.heap.size W8).alloc (Nat.le_refl _) _).drew)
                | exact HS2.out _ (below_drewN' (Below.refl _ _) 1)
                | fail)
              (first
                | (go_at_call 39; (with_reducible refine (Gives.c (g_calls HG3.out (World.drew (World.alloc W8 _)) (HSUB.out _ ((Below.refl W8.heap.size W8).alloc (Nat.le_refl _) _).drew))).mono ?_); rintro e w9 ⟨rfl, hb0⟩; have hb2 : Below W8.heap.size W8 w9 := ((Below.refl W8.heap.size W8).alloc (Nat.le_refl _) _).drew.trans (hb0.mono (by simp)); have kx : Blk w9 W8.heap.size [.int .i64 0, .int .i64 0] := Blk.later (Blk.drew (Blk.new W8 [.int .i64 0, .int .i64 0] 26)) hb0; have q3 := kx.two; have f3 := kx.free2)
                | (go_at_call 39; (with_reducible refine (Gives.c (g_calls HG3.out _ (HSUB.out _ (Below.refl W8.heap.size W8).drew))).mono ?_); rintro e w9 ⟨rfl, hb0⟩; have hb2 : Below W8.heap.size W8 w9 := (Below.refl W8.heap.size W8).drew.trans hb0)
                | fail)
            all_goals (first
              | (have qy := (kx.put2 (.int .i64 X3) (.int .i64 Y3)).two
                 rename_i hh
                 have hbb := hh.1
                 clear hh q3 f3 kx
                 generalize World.setCell _ _ _ = W10 at hbb qy ⊢)
              | (have qy : (w9.alloc (.cells #[.int .i64 X3, .int .i64 Y3] 26)).cell? ⟨w9.heap.size, 0, none⟩ = some (.int .i64 X3) ∧ (w9.alloc (.cells #[.int .i64 X3, .int .i64 Y3] 26)).cell? ⟨w9.heap.size, 1, none⟩ = some (.int .i64 Y3) := (Blk.new w9 [.int .i64 X3, .int .i64 Y3] 26).two
                 rename_i hh
                 have hbb := hh.1
                 clear hh
                 generalize World.alloc _ _ = W10 at hbb qy ⊢))
            all_goals (
              replace J := J.next hbb
              clear hbb hb0 hb2
              have qx := J.now.2.two
              go_wp2_with (go_at_call 29; (with_reducible refine (Gives.c (works_calls _)).mono ?_); rintro e w' ⟨rfl, hb⟩; replace J := J.next hb)
              go_ret
              exact ⟨rfl, J.now.1.1.1.2.1⟩)))

theorem truth_law {a b p q : Int} (ha : 0 ≤ a ∧ a ≤ 255) (hb : 0 ≤ b ∧ b ≤ 255) (hp : 0 ≤ p ∧ p ≤ 255) (hq : 0 ≤ q ∧ q ≤ 255) {n m k z cap : Nat} (hn : n ≤ 255) (hm : m ≤ 255) (hk : k ≤ 255) {A : Option Addr} {l : List Tri} {w : World} (hl : ReadsT w A z l) :
    Gives 14 #[reel a b p q, .int .u8 (n : Int), .int .u8 (m : Int), .int .u8 (k : Int), .slice A z cap] (.bool true) w := by
  obtain ⟨T, hT⟩ := Int.eq_ofNat_of_zero_le (show 0 ≤ 1 + b % 20 by omega)
  have hs := made_small (a := a) (b := b) (p := p) (q := q)
  have hmd := fun W => made_calls ha hb hp hq W
  rw [hT] at hs
  simp only [hT] at hmd
  exact truth_walk hs hn hm hk rfl rfl rfl rfl rfl hmd w hl

theorem truth_own : ownKnob Try.prog.godebug = none := by kernel_rfl

set_option maxRecDepth 100000 in
theorem truth_lifted (os : Os) (started : os.Started) (H : Type) (enc : TypeId × Value → H) :
    ReturnsInHanded {} Try.checked os 14 .any (Rows.spoolTruthSpec.pre6 enc Try.prog Try.f14 Rows.spoolTruthRow.domain false) (Rows.spoolTruthSpec.post enc Try.prog Try.f14 false true false false) := by
  refine returnsInHanded_of_change_sized (C := Try.checked) truth_own started (by kernel_rfl) Try.func14
    (ChangeSpec.witness6 (enc := enc) (C := Try.checked) false ⟨#[], #[.agg #[.int .u8 0, .int .u8 0, .int .u8 0, .int .u8 0], .int .u8 0, .int .u8 0, .int .u8 0, .slice none 0 0], []⟩ 8 (by kernel_rfl) (by kernel_rfl) (by kernel_rfl) (by kernel_rfl)) ?_
  intro W base args ds gs before hval0 hW hcnd hsz _
  have hval : ∀ (j : Nat) t v, Try.f14.params[j]? = some t → args[j]? = some v → Value.okWide Try.prog W .any base t v := hval0
  have hW' := hW
  obtain ⟨p, q, hA, hV, rfl, hfz, hnd⟩ := hW
  rw [Try.params14] at hA hval
  obtain ⟨v1, l1, d1, ds1, p1, q1, e1, rfl, rfl, h1, hA⟩ := trodAll_cons hA
  obtain ⟨v2, l2, d2, ds2, p2, q2, rfl, rfl, rfl, h2, hA⟩ := trodAll_cons hA
  obtain ⟨v3, l3, d3, ds3, p3, q3, rfl, rfl, rfl, h3, hA⟩ := trodAll_cons hA
  obtain ⟨v4, l4, d4, ds4, p4, q4, rfl, rfl, rfl, h4, hA⟩ := trodAll_cons hA
  obtain ⟨v5, l5, d5, ds5, p5, q5, rfl, rfl, rfl, h5, hA⟩ := trodAll_cons hA
  obtain ⟨rfl, rfl, rfl⟩ := trodAll_nil hA
  obtain ⟨rfl, rfl⟩ := trodVars_none hV
  obtain rfl : args = #[v1, v2, v3, v4, v5] := by cases args; simp_all
  obtain ⟨b0, b1, b2, b3, rfl, hb0, hb1, hb2, hb3⟩ := reel_arg (hval 0 66 v1 rfl rfl) h1
  obtain ⟨n, rfl, hn⟩ := byte_arg (hval 1 5 v2 rfl rfl) h2
  obtain ⟨m, rfl, hm⟩ := byte_arg (hval 2 5 v3 rfl rfl) h3
  obtain ⟨k, rfl, hk⟩ := byte_arg (hval 3 5 v4 rfl rfl) h4
  obtain ⟨A, z, cap, l, rfl, hl⟩ := triples_arg (hval 4 75 v5 rfl rfl) h5 hsz (j := 4) rfl rfl
  refine (Gives.c (truth_law (cap := cap) hb0 hb1 hb2 hb3 hn hm hk hl)).mono fun e W' ⟨he, hb⟩ => ?_
  subst he
  exact ⟨_, rfl, post_true hW' rfl rfl rfl (by decide) hb⟩

theorem truth_over : Rows.spoolTruthRow.holds Try.pinned (OpenSpec.ofChange Rows.spoolTruthSpec) :=
  OpenClaim.holds_of_wide 14 Try.f14 rfl rfl rfl rfl rfl rfl rfl ⟨rfl, rfl, rfl, rfl, rfl⟩ rfl rfl rfl rfl rfl (by kernel_rfl) Try.func14 (by kernel_rfl)
    (of_decide_eq_true (by kernel_rfl)) (by unfold Func.isWrapper; first | (rw [if_pos (by decide +kernel)]; kernel_rfl) | (rw [if_neg (by decide +kernel)]; exact ⟨rfl, rfl⟩))
    (fun os started H enc _ => truth_lifted os started H enc)

/-- SpoolTruth returns true. -/
theorem spoolTruth_holds : Rows.SpoolTruthSaid := truth_over
#print axioms spoolTruth_holds
end Go.Proofs.Ytphbiaagmhhhbaa
