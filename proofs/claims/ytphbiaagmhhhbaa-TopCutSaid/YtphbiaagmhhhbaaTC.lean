/- The contracts of the step's arcs and allows. -/
import Derived.Test.YtphbiaagmhhhbaaTB
import Derived.Deep.DeepCutAuto
namespace Go.Proofs.Ytphbiaagmhhhbaa
open Go.RowKit Go.Lib Go.Shelf

/-- Arcs of a circle of at most 1000 offsets. -/
def Froms (l : List (Int × Int)) : Prop := ∀ j, 0 ≤ (mAt l j).1 ∧ (mAt l j).1 ≤ 1000

/-- 'func(a arc) bool { return !slices.ContainsFunc(arcs, ..) }', with arcs in block BL and step in block BS. -/
theorem common_calls {f c s : Int} {BL BS : Nat} {A : Option Addr} {n cap : Nat} {l : List (Int × Int)} (h0 : 1 ≤ s) (h1 : s ≤ 1000) (ho : 0 ≤ f ∧ f ≤ 1000) (hf : Froms l) (w : World)
    (kl : w.cell? ⟨BL, 0, none⟩ = some (.slice A n cap)) (hl : ReadsM w A n l) (ks : w.cell? ⟨BS, 0, none⟩ = some (.int .i64 s)) :
    Gives 83 #[.agg #[.int .i64 f, .int .i64 c], .pointer (some ⟨BL, 0, none⟩), .pointer (some ⟨BS, 0, none⟩)] (.bool (commonB l s (f, c))) w := by
  unfold Gives commonB
  have z1 := World.block_lt_of_cell? w _ kl
  have z2 := World.block_lt_of_cell? w _ ks
  have hb0 : Below w.heap.size w (w.alloc (.cells #[.int .i64 f, .int .i64 c] 116)) := (Below.refl _ _).alloc (Nat.le_refl _) _
  have hp : PredA 84 #[.pointer (some ⟨w.heap.size, 0, none⟩), .pointer (some ⟨BS, 0, none⟩)] (fun b => !hasB b f s) l (w.alloc (.cells #[.int .i64 f, .int .i64 c] 116)) := fun W j hW _ =>
    misses_calls h0 h1 ho (hf j) W ((Blk.new w [.int .i64 f, .int .i64 c] 116).later hW).two.1 ((hW.cell (p := ⟨BS, 0, none⟩) (by simp; exact Nat.lt_succ_of_lt z2)).trans ((hb0.cell (p := ⟨BS, 0, none⟩) z2).trans ks))
  have HP := Lib.hid hp
  have HR := Lib.hid (hl.later hb0)
  have eg := eg84
  clear hp hl hb0 hf
  generalize hq : l.any (fun b => !hasB b f s) = q
  have HQ := Lib.hid hq
  clear hq
  cases q with
  | true =>
    go_enter Try.func83, Try.ntmps83
    go_wp2_with (go_at_call 82; (with_reducible refine (Gives.c (containsA_calls eg A n cap l _ HR.out HP.out)).mono ?_); rw [HQ.out]; rintro e w1 ⟨rfl, hb⟩)
    go_ret
    exact ⟨rfl, ((Below.refl _ _).alloc (Nat.le_refl _) _).trans (hb.mono (by simp))⟩
  | false =>
    go_enter Try.func83, Try.ntmps83
    go_wp2_with (go_at_call 82; (with_reducible refine (Gives.c (containsA_calls eg A n cap l _ HR.out HP.out)).mono ?_); rw [HQ.out]; rintro e w1 ⟨rfl, hb⟩)
    go_ret
    exact ⟨rfl, ((Below.refl _ _).alloc (Nat.le_refl _) _).trans (hb.mono (by simp))⟩

theorem info116 : (Try.prog.info? 116).map (fun i => (i.zero, i.size, i.bytes)) = some (some (.agg #[.int .i64 0, .int .i64 0]), 2, 16) := by kernel_rfl

/-- Arcs are handed back. -/
def ArcsOut (l : List (Int × Int)) (w : World) (e : Ending) (w' : World) : Prop :=
  (∃ A n cp, e = .returned (.slice A n cp) ∧ ReadsM w' A n l) ∧ Below w.heap.size w w'

set_option maxRecDepth 100000 in
set_option maxHeartbeats 4000000 in
theorem arcs_calls {off s : Int} {C A : Option Addr} {nc cc n cap : Nat} {l : List Int} (h0 : 1 ≤ s) (h1 : s ≤ 1000) (ho : 0 ≤ off ∧ off ≤ 50) (hn : n ≤ 12) (w : World) (hl : Reads w A n l) (hb : ∀ j : Nat, 0 ≤ (l[j]?.getD 0 : Int) ∧ (l[j]?.getD 0 : Int) ≤ 1000000) :
    Calls Try.prog 81 #[.agg #[.int .i64 off, .slice C nc cc], .slice A n cap, .int .i64 s] w (ArcsOut (arcsF off s l) w) := by
  obtain ⟨i0, hi0, hz0, hz1, hz2⟩ := info_parts info116
  have hln := hl.1
  have HL := Lib.hid hl
  have HBD := Lib.hid hb
  have hw2 : IntKind.i64.wrap (2 * off) = 2 * off := i64_in (by omega) (by omega)
  have hw3 : IntKind.i64.wrap (2 * off + 1) = 2 * off + 1 := i64_in (by omega) (by omega)
  have I : Held (w.alloc (.cells [Value.int .i64 off, .slice C nc cc].toArray 31)) (fun W => Below w.heap.size w W ∧ Blk W w.heap.size [.int .i64 off, .slice C nc cc]) := (Held.from ((Below.refl _ _).alloc (Nat.le_refl _) _) (by simp)).with (.blk (Blk.new w _ 31))
  clear hl hb
  go_enter Try.func81, Try.ntmps81
  go_wp2_with fail
  generalize World.alloc _ _ = w1 at I ⊢
  go_loopw [7, 13] (fun v i wr => ∃ k : Nat, k ≤ n ∧ i = .int .i64 k ∧ Aside (wr.ownsRow w1.heap.size 116 2 v (arcsF off s (l.take k)).length (cellsM (arcsF off s (l.take k)))) ∧ Aside (Below w1.heap.size w1 wr)) (fun _ i _ => n - (intOf i).toNat)
  case atStart => exact ⟨0, Nat.zero_le _, rfl, World.ownsRow_nil _ _ _ _, Below.refl _ _⟩
  case round =>
    obtain ⟨k, hk, rfl, HO, HB⟩ := hrel
    have J := I.next HB.out
    by_cases hlt : k < n
    · have hlt' : (k : Int) < (n : Int) := by omega
      have hw1 : IntKind.i64.wrap ((k : Int) + 1) = (k : Int) + 1 := i64_in (by omega) (by omega)
      have q0 := J.now.2.two
      have z0 := J.now.2.lt
      have ra := HL.out.later J.now.1
      obtain ⟨b, o, rfl, hc⟩ := ra.2.2 (by omega)
      have hx := hc k hlt
      clear hc ra
      have hbp := HBD.out k
      generalize hp : l[k]?.getD 0 = p at hx hbp
      have hw4 : IntKind.i64.wrap (p - off) = p - off := i64_in (by omega) (by omega)
      have hsn : arcsF off s (l.take (k + 1)) = arcAdd off s (arcsF off s (l.take k)) p := by
        rw [List.take_succ_eq_append_getElem (by omega), arcs_snoc, ← hp, List.getElem?_eq_getElem (by omega)]
        rfl
      have HSN := Lib.hid hsn
      clear hsn hp
      go_wp2_with fail
      have hS : ∀ W, Below wr.heap.size wr W → Below wr.heap.size wr W ∧ W.cell? ⟨w.heap.size, 0, none⟩ = some (.int .i64 off) ∧ W.cell? ⟨w.heap.size, 1, none⟩ = some (.slice C nc cc) := fun W hW => ⟨hW, (J.next hW).now.2.two⟩
      have HS := Lib.hid hS
      clear hS
      go_cut [10] (fun s10 wx => s10 = .pointer (some ⟨wr.heap.size, 0, none⟩) ∧ Aside (Blk wx wr.heap.size [.int .i64 ((p - off) % s), .int .i64 (min s (2 * off + 1))]) ∧ Aside (Below wr.heap.size wr wx))
      case first =>
        go_region_held3 (fun W => Below wr.heap.size wr W ∧ W.cell? ⟨w.heap.size, 0, none⟩ = some (.int .i64 off) ∧ W.cell? ⟨w.heap.size, 1, none⟩ = some (.slice C nc cc))
          (first
            | exact HS.out _ (((Below.refl wr.heap.size wr).alloc (Nat.le_refl _) _).drew)
            | exact HS.out _ ((Below.refl wr.heap.size wr).drew)
            | fail)
          (first | (go_at_call 93; (with_reducible refine (Quiet.c (modulo_calls h0 h1 _)).mono ?_); rintro e w2 ⟨rfl, rfl⟩) | fail)
        all_goals
          go_wp2_with fail
          go_meet
          exact ⟨rfl, (Blk.new wr _ 116).drew, ((Below.refl wr.heap.size wr).alloc (Nat.le_refl _) _).drew⟩
      case rest =>
        obtain ⟨rfl, HK, HB2⟩ := hcut
        clear HS hw2 hw3 hw4
        go_upto_region 6 with fail
        have hk := HK.out
        have hz := hk.lt
        by_cases hc : s ≤ 2 * off + 1
        case' pos =>
          have ha := Lib.hid (show arcF off s p = (0, s) from if_pos hc)
          rw [show min s (2 * off + 1) = s by omega] at hk
          have q1 := hk.two
          have f1 := hk.free2
          have hx := hk.set 0 (by simp) (.int .i64 0)
          have hbx := HB2.out.setCell (p := ⟨wr.heap.size, 0, none⟩) (Nat.le_refl _) (.int .i64 0)
          have HX : Aside (Blk _ wr.heap.size [.int .i64 (arcF off s p).1, .int .i64 (arcF off s p).2]) := (by rw [ha.out]; exact hx)
          clear hc hk hx
          go_upto_region 8 with fail
          generalize hWW : wc.setCell ⟨wr.heap.size, 0, none⟩ (.int .i64 0) = wx at HX hbx ⊢
          clear hWW f1 ha q1 hz HK HB2
        case' neg =>
          have ha := Lib.hid (show arcF off s p = ((p - off) % s, 2 * off + 1) from if_neg hc)
          rw [show min s (2 * off + 1) = 2 * off + 1 by omega] at hk
          have q1 := hk.two
          have hne : (2 * off + 1 == s) = false := beq_eq_false_iff_ne.2 (by omega)
          have hne' : ¬ 2 * off + 1 = s := by omega
          have hbx := HB2.out
          have HX : Aside (Blk _ wr.heap.size [.int .i64 (arcF off s p).1, .int .i64 (arcF off s p).2]) := (by rw [ha.out]; exact hk)
          clear hc hk
          go_upto_region 8 with fail
          generalize hWW : wc = wx at HX hbx ⊢
          clear ha q1 hz HK HB2 hne hne' hWW
        all_goals
          clear q0 z0
          have hsn := HSN.out
          have hlk : (arcsF off s (l.take k)).length ≤ 12 := by
            have h1 := arcs_length (off := off) (step := s) (l.take k)
            have h2 := List.length_take_le k l
            omega
          obtain ⟨A, cA, rfl, hR, _⟩ := own_readsM (own_later HO.out hbx) rfl (by omega)
          have hO := own_later HO.out hbx
          have hB0 := HB.out.trans (hbx.mono HB.out.size)
          unfold arcAdd at hsn
          generalize arcsF off s (l.take k) = L at hsn hlk hR hO
          generalize arcF off s p = fc at hsn HX
          obtain ⟨f, c⟩ := fc
          have hkx := HX.out
          change Blk wx wr.heap.size [.int .i64 f, .int .i64 c] at hkx
          have hp : PredA 94 #[.pointer (some ⟨wr.heap.size, 0, none⟩)] (fun b => decide ((f, c) = b)) L wx := fun W j hW _ => same_calls W (hkx.later hW)
          have HP := Lib.hid hp
          have HR := Lib.hid hR
          have eg := eg94
          clear hp hR HSN HO
          cases hq : L.any (fun b => decide ((f, c) = b)) with
          | true =>
            rw [hq, if_pos rfl] at hsn
            have HSN := Lib.hid hsn
            have HQ := Lib.hid hq
            have HOO := Lib.hid hO
            clear hsn hq hO
            go_wp2_with (go_at_call 82; (with_reducible refine (Gives.c (containsA_calls eg A _ cA L _ HR.out HP.out)).mono ?_); rw [HQ.out]; rintro e w3 ⟨rfl, hb⟩)
            go_roundw
            case measure => simp [intOf]; omega
            case rel => exact ⟨k + 1, by omega, by go_num, (show Aside _ from by rw [HSN.out]; exact own_later HOO.out hb), hB0.trans (hb.mono hB0.size)⟩
          | false =>
            rw [hq, if_neg (by decide)] at hsn
            have HSN := Lib.hid hsn
            have HQ := Lib.hid hq
            clear hsn hq
            go_wp2_with (first
              | (go_at_call 82; (with_reducible refine (Gives.c (containsA_calls eg A _ cA L _ HR.out HP.out)).mono ?_); rw [HQ.out]; rintro e w3 ⟨rfl, hb⟩; have hO3 := own_later hO hb; have qx := (hkx.later hb).two; have hB3 := hB0.trans (hb.mono hB0.size); have hsz := hB3.size)
              | (at_builtin; refine wpList_append_own _ rfl _ _ 112 rfl w1.heap.size 116 i0 (.agg #[.int .i64 0, .int .i64 0]) 2 16 Try.underlying112 hi0 hz0 hz1 hz2 rfl (by decide) _ _ _ rfl (hO3.alloc _) ⟨w3.heap.size, 0, none⟩ 1 1 [.int .i64 f, .int .i64 c] rfl rfl (cells_new _ [.int .i64 f, .int .i64 c] _ _ (by simp)) (by intro u hu; simp at hu; rcases hu with rfl | rfl <;> rfl) ?c3 ?c4 ?c5 ?_))
            case c3 => unfold maxLen; omega
            case c4 => omega
            case c5 => simp; omega
            intro v' w4 hown' hgrow _
            have HO' := Lib.hid hown'
            have HB4 := Lib.hid ((hB3.alloc hB3.size _).grown hgrow (by simp; omega) (by intro j hj; exact own_base' hO3 j hj))
            clear hown' hgrow hO hO3
            go_wp2
            go_roundw
            case measure => simp [intOf]; omega
            case rel => exact ⟨k + 1, by omega, by go_num, (show Aside _ from by rw [HSN.out, List.length_append, cellsM_append]; exact HO'.out), HB4.out⟩
    · obtain rfl : k = n := by omega
      have ht : l.take k = l := by rw [← hln, List.take_length]
      have hlk : (arcsF off s l).length ≤ 12 := by
        have h1 := arcs_length (off := off) (step := s) l
        omega
      have hO := HO.out
      rw [ht] at hO
      obtain ⟨A, cA, rfl, hR, _⟩ := own_readsM hO rfl (by omega)
      have HR := Lib.hid hR
      clear hO hR ht
      go_wp2
      go_ret
      exact ⟨⟨A, _, cA, rfl, HR.out⟩, J.now.1⟩
end Go.Proofs.Ytphbiaagmhhhbaa
