/- Lists of triples of bytes as arguments; the contract of the laws' measured. -/
import Derived.Test.YtphbiaagmhhhbaaOC
import Derived.Test.YtphbiaagmhhhbaaRJ
import Derived.Test.YtphbiaagmhhhbaaRI
import Derived.SizedLaws
namespace Go.Proofs.Ytphbiaagmhhhbaa
open Go.RowKit Go.Lib Go.Shelf Go.ChangeShapes Go.WideShapes Go.ChangeAt

abbrev Tri := Int × Int × Int
def tAt (l : List Tri) (i : Nat) : Tri := l[i]?.getD (0, 0, 0)
def Bytes (x : Tri) : Prop := (0 ≤ x.1 ∧ x.1 ≤ 255) ∧ (0 ≤ x.2.1 ∧ x.2.1 ≤ 255) ∧ (0 ≤ x.2.2 ∧ x.2.2 ≤ 255)
/-- A slice that reads as a list of triples of bytes. -/
def ReadsT (w : World) (A : Option Addr) (n : Nat) (l : List Tri) : Prop :=
  l.length = n ∧ n * 3 ≤ 140737488351232 ∧ (∀ i, Bytes (tAt l i)) ∧ (0 < n → ∃ b off, A = some ⟨b, off, none⟩ ∧ ∀ j, j < n → w.cell? ⟨b, off + j * 3, none⟩ = some (.int .u8 (tAt l j).1) ∧ w.cell? ⟨b, off + j * 3 + 1, none⟩ = some (.int .u8 (tAt l j).2.1) ∧ w.cell? ⟨b, off + j * 3 + 2, none⟩ = some (.int .u8 (tAt l j).2.2))
theorem ReadsT.later {w w1 : World} {A : Option Addr} {n : Nat} {l : List Tri} (h : ReadsT w A n l) (hb : Below w.heap.size w w1) : ReadsT w1 A n l := by
  refine ⟨h.1, h.2.1, h.2.2.1, fun h0 => ?_⟩
  obtain ⟨b, off, e, hc⟩ := h.2.2.2 h0
  exact ⟨b, off, e, fun j hj => ⟨(hb.cell (p := ⟨b, off + j * 3, none⟩) (World.block_lt_of_cell? w _ (hc j hj).1)).trans (hc j hj).1, (hb.cell (p := ⟨b, off + j * 3 + 1, none⟩) (World.block_lt_of_cell? w _ (hc j hj).2.1)).trans (hc j hj).2.1, (hb.cell (p := ⟨b, off + j * 3 + 2, none⟩) (World.block_lt_of_cell? w _ (hc j hj).2.2)).trans (hc j hj).2.2⟩⟩
theorem Held.readsT {w : World} {A : Option Addr} {n : Nat} {l : List Tri} (h : ReadsT w A n l) : Held w (fun W => ReadsT W A n l) := fun _ hW => h.later hW

/-- A measurement by a triple. -/
def meas1 (c g d : Int) (x : Tri) : Int × Int := (x.1 % 25, max 0 (len c g (x.1 % 25) + x.2.1 % (2 * d + 1) - d + x.2.2))
def measL (c g d : Int) (l : List Tri) : List (Int × Int) := (l.take 6).map (meas1 c g d)
def six (n : Nat) : Nat := min n 6
theorem measL_length (c g d : Int) (l : List Tri) : (measL c g d l).length = six l.length := by
  unfold measL six
  simp
  omega
theorem measL_take (c g d : Int) (l : List Tri) {k : Nat} (hk : k < six l.length) : cellsM ((measL c g d l).take (k + 1)) = cellsM ((measL c g d l).take k) ++ [Value.int .i64 (meas1 c g d (tAt l k)).1, Value.int .i64 (meas1 c g d (tAt l k)).2] := by
  have hl := measL_length c g d l
  rw [cellsM_snoc _ _ (by omega)]
  have hk6 : k < 6 ∧ k < l.length := by unfold six at hk; omega
  have e : mAt (measL c g d l) k = meas1 c g d (tAt l k) := by
    unfold mAt measL tAt
    rw [List.getElem?_map, List.getElem?_take_of_lt hk6.1, List.getElem?_eq_getElem hk6.2]
    rfl
  rw [e]

theorem info80 : (Try.prog.info? 80).map (fun i => (i.zero, i.size, i.bytes)) = some (some (.agg #[.int .i64 0, .int .i64 0]), 2, 16) := by kernel_rfl

/-- Measurements are handed back. -/
def MeasOut (n : Nat) (m : List (Int × Int)) (w : World) (e : Ending) (w' : World) : Prop :=
  (∃ B cp, e = .returned (.slice B n cp) ∧ ReadsM w' B n m ∧ n ≤ cp ∧ cp ≤ 9223372036854775807) ∧ Below w.heap.size w w'
theorem own_cap {w : World} {base n size : Nat} {e : TypeId} {A : Option Addr} {c : Nat} {xs : List Value} (h : w.ownsRow base e size (.slice A n c) n xs) : n ≤ c ∧ c ≤ 9223372036854775807 := by
  rcases h.2 with ⟨h1, h2⟩ | ⟨g, cap, cur, h1, _, _, h2, h3, _⟩
  · cases h1
    omega
  · cases h1
    unfold maxLen at h3
    omega

set_option maxRecDepth 100000 in
set_option maxHeartbeats 4000000 in
theorem lmeasured_calls {c t lo hi g d : Int} (hc0 : 1 ≤ c) (hc1 : c ≤ 99) (hg0 : 0 ≤ g) (hg1 : g ≤ 40) (hd0 : 0 ≤ d) (hd1 : d ≤ 19) {A : Option Addr} {n cap : Nat} {l : List Tri} (w : World) (hl : ReadsT w A n l) :
    Calls Try.prog 47 #[.agg #[.int .i64 c, .int .i64 t, .int .i64 lo, .int .i64 hi], .int .i64 g, .int .i64 d, .slice A n cap] w
      (MeasOut (six n) (measL c g d l) w) := by
  obtain ⟨i0, hi0, hz0, hz1, hz2⟩ := info_parts info80
  have hln := hl.1
  have hmx := hl.2.1
  have HL := Lib.hid hl
  have hs6 : six n ≤ 6 ∧ six n ≤ n := by unfold six; omega
  have hml := measL_length c g d l
  rw [hln] at hml
  have hw2d : IntKind.i64.wrap (2 * d) = 2 * d := i64_in (by omega) (by omega)
  have hw2d1 : IntKind.i64.wrap (2 * d + 1) = 2 * d + 1 := i64_in (by omega) (by omega)
  have hz : (2 * d + 1 == 0) = false := beq_eq_false_iff_ne.2 (by omega)
  have hz' : ¬ 2 * d + 1 = 0 := by omega
  have I : Held (w.alloc (.cells [Value.int .i64 c, .int .i64 t, .int .i64 lo, .int .i64 hi].toArray 28)) (fun W => Below w.heap.size w W ∧ Blk W w.heap.size [.int .i64 c, .int .i64 t, .int .i64 lo, .int .i64 hi]) := .start (.from (Below.refl _ _) (Nat.le_refl _)) _ _
  clear hl
  go_enter Try.func47, Try.ntmps47
  go_wp2_with fail
  generalize World.alloc _ _ = w1 at I ⊢
  go_loopw [9, 10] (fun v i wr => ∃ k : Nat, k ≤ six n ∧ i = .int .i64 k ∧ Aside (wr.ownsRow w1.heap.size 80 2 v k (cellsM ((measL c g d l).take k))) ∧ Aside (Below w1.heap.size w1 wr)) (fun _ i _ => six n - (intOf i).toNat)
  case atStart => exact ⟨0, Nat.zero_le _, rfl, World.ownsRow_nil _ _ _ _, Below.refl _ _⟩
  case round =>
    obtain ⟨k, hk, rfl, HO, HB⟩ := hrel
    have J := I.next HB.out
    by_cases hlt : k < six n
    · have hkn : k < n := by omega
      have hkn' : (k : Int) < (n : Int) := by omega
      have hk6 : (k : Int) < 6 := by omega
      have hw1 : IntKind.i64.wrap ((k : Int) + 1) = (k : Int) + 1 := i64_in (by omega) (by omega)
      have q0 := J.now.2.four
      have ra := HL.out.later J.now.1
      obtain ⟨b, o, rfl, hc⟩ := ra.2.2.2 (by omega)
      obtain ⟨hx1, hx2, hx3⟩ := hc k hkn
      have hby := ra.2.2.1 k
      have hsn := measL_take c g d l (k := k) (by rw [hln]; exact hlt)
      unfold meas1 at hsn
      obtain ⟨hb1, hb2, hb3⟩ := hby
      generalize (tAt l k).1 = x at hx1 hb1 hsn
      generalize (tAt l k).2.1 = y at hx2 hb2 hsn
      generalize (tAt l k).2.2 = z at hx3 hb3 hsn
      have wx : IntKind.i64.wrap x = x := i64_in (by omega) (by omega)
      have wy : IntKind.i64.wrap y = y := i64_in (by omega) (by omega)
      have wz : IntKind.i64.wrap z = z := i64_in (by omega) (by omega)
      have mx : x.tmod 25 = x % 25 := Int.tmod_eq_emod_of_nonneg hb1.1
      have my : y.tmod (2 * d + 1) = y % (2 * d + 1) := Int.tmod_eq_emod_of_nonneg hb2.1
      have hm0 : 0 ≤ x % 25 ∧ x % 25 ≤ 24 := by omega
      have he0 : 0 ≤ y % (2 * d + 1) := Int.emod_nonneg _ (by omega)
      have he1 : y % (2 * d + 1) < 2 * d + 1 := Int.emod_lt_of_pos _ (by omega)
      generalize x % 25 = m at mx hm0 hsn
      generalize y % (2 * d + 1) = e at my he0 he1 hsn
      have h1 := mul_bd hm0.1 hm0.2 (show 0 ≤ c by omega) hc1
      have h2 := tri_bd hm0.1 (by omega)
      have h3 := mul_bd (a := g) (b := m * (m - 1) / 2) (A := 40) (B := 500500) hg0 hg1 (by omega) (by omega)
      have hlb := len_bd (c := c) (g := g) (n := m) (by omega) (by omega) hg0 (by omega) hm0.1 (by omega)
      have v1 : IntKind.i64.wrap (m * c) = m * c := i64_in (by omega) (by omega)
      have v2 : IntKind.i64.wrap (m - 1) = m - 1 := i64_in (by omega) (by omega)
      have v3 : IntKind.i64.wrap (m * (m - 1)) = m * (m - 1) := i64_in (by omega) (by omega)
      have v4 : IntKind.i64.wrap ((m * (m - 1)).tdiv 2) = m * (m - 1) / 2 := by rw [Int.tdiv_eq_ediv_of_nonneg h2.1]; exact i64_in (by omega) (by omega)
      have v5 : IntKind.i64.wrap (g * (m * (m - 1) / 2)) = g * (m * (m - 1) / 2) := i64_in (by omega) (by omega)
      have v6 : IntKind.i64.wrap (m * c + g * (m * (m - 1) / 2)) = len c g m := by unfold len; exact i64_in (by omega) (by omega)
      have v7 : IntKind.i64.wrap (len c g m + e) = len c g m + e := i64_in (by omega) (by omega)
      have v8 : IntKind.i64.wrap (len c g m + e - d) = len c g m + e - d := i64_in (by omega) (by omega)
      have v9 : IntKind.i64.wrap (len c g m + e - d + z) = len c g m + e - d + z := i64_in (by omega) (by omega)
      have HSN := Lib.hid hsn
      clear hsn hc ra h1 h2 h3 hlb he0 he1 hb1 hb2 hb3
      go_wp2
      go_quiet (fail)
      have hO := own_later HO.out (below_drewN' (Below.refl wr.heap.size wr) nq)
      have hBq := below_drewN' HB.out nq
      have hsz := HB.out.size
      go_wp2_with (first
        | (at_builtin; refine wpList_append_own _ rfl _ _ 55 rfl w1.heap.size 80 i0 (.agg #[.int .i64 0, .int .i64 0]) 2 16 Try.underlying55 hi0 hz0 hz1 hz2 rfl (by decide) _ _ _ rfl (hO.alloc _) ⟨wr.heap.size, 0, none⟩ 1 1 [.int .i64 m, .int .i64 (max 0 (len c g m + e - d + z))] rfl rfl (cells_new _ [.int .i64 m, .int .i64 (max 0 (len c g m + e - d + z))] _ _ (by simp)) (by intro u hu; simp at hu; rcases hu with rfl | rfl <;> rfl) ?c3 ?c4 ?c5 ?_))
      case c3 => unfold maxLen; omega
      case c4 => omega
      case c5 => simp; omega
      intro v' w4 hown' hgrow _
      have HO' := Lib.hid hown'
      have HB4 := Lib.hid ((hBq.alloc hBq.size _).grown hgrow (by simp; omega) (by intro j hj; exact own_base' hO j hj))
      clear hown' hgrow hO hBq
      go_wp2
      go_roundw
      case measure => simp [intOf]; omega
      case rel => exact ⟨k + 1, by omega, by go_num, (show Aside _ from by rw [HSN.out]; exact HO'.out), HB4.out⟩
    · obtain rfl : k = six n := by omega
      have HO2 := HO.out
      rw [← hml, List.take_length, hml] at HO2
      obtain ⟨A', c', rfl, hR, _⟩ := own_readsM HO2 hml (by omega)
      have HRR := Lib.hid hR
      have hcp := own_cap HO2
      clear hR HO2
      have hcase : (¬ ((six n : Nat) : Int) < (n : Int)) ∨ (((six n : Nat) : Int) < (n : Int) ∧ ¬ ((six n : Nat) : Int) < 6) := by unfold six; omega
      rcases hcase with a1 | ⟨a1, a2⟩
      · go_wp2
        go_ret
        exact ⟨⟨A', c', rfl, HRR.out, hcp.1, hcp.2⟩, J.now.1⟩
      · go_wp2
        go_ret
        exact ⟨⟨A', c', rfl, HRR.out, hcp.1, hcp.2⟩, J.now.1⟩

/-! ### The arguments. -/
variable {H : Type} {enc : TypeId × Value → H}
set_option maxRecDepth 100000 in
/-- A slice that reads as a list of triples of bytes: it is not too long. -/
theorem triples_arg {W : World} {base : Nat} {v : Value} {d : DataW H} {p : List MemPlace} (h : Value.okWide Try.prog W .any base 75 v) (hd : DataW.Trod enc Try.prog W 0 (fun _ => true) true 75 v d p)
    {ts : List TypeId} {ds : List (DataW H)} {j : Nat} (hsz : (DataW.weightsEach Try.prog ts ds).all (· ≤ reachBytes) = true) (hts : ts[j]? = some 75) (hds : ds[j]? = some d) :
    ∃ A n cap l, v = .slice A n cap ∧ ReadsT W A n l := by
  obtain ⟨A, n, cap, rfl⟩ := okWide_slice Try.underlying75 h
  obtain ⟨fuel, hf⟩ := hd
  have h3 : Try.prog.cellsOf 76 = 3 := by kernel_rfl
  have h1 : Try.prog.cellsOf 5 = 1 := by kernel_rfl
  have hby : Try.prog.bytesOf 76 = 3 := by kernel_rfl
  rcases DataW.trod_slice Try.underlying75 hf with ⟨hcs, _⟩ | ⟨a, len, cap', elems, rest, m, _, hcs, hx, _, hle, hmax, hlen, hel, _, _⟩
  · simp [Value.cells] at hcs
    obtain ⟨rfl, rfl, rfl⟩ := hcs
    exact ⟨none, 0, 0, [], rfl, rfl, by omega, fun i => ⟨by simp [tAt], by simp [tAt], by simp [tAt]⟩, fun h => absurd h (by omega)⟩
  · simp [Value.cells] at hcs
    obtain ⟨rfl, rfl, rfl⟩ := hcs
    have hdd : d = .slice (elems.map (·.1)) (rest.map (·.1)) := by
      have := congrArg Prod.fst hx
      exact this
    subst hdd
    have hsize := sized_slice hsz hts hds Try.underlying75
    rw [hby, List.length_map, List.length_map, hlen] at hsize
    have hr : reachBytes = 140737488351232 := by decide
    rw [hr] at hsize
    have key : ∀ j, j < n → ∃ x : Tri, Bytes x ∧ W.cell? (a.add (j * 3)) = some (.int .u8 x.1) ∧ W.cell? ((a.add (j * 3)).add 1) = some (.int .u8 x.2.1) ∧ W.cell? ((a.add (j * 3)).add 2) = some (.int .u8 x.2.2) := by
      intro j hj
      have hj' := hel j hj
      rw [h3, List.getElem?_eq_getElem (by omega), Option.bind_eq_some_iff] at hj'
      obtain ⟨cs, hcs, hst⟩ := hj'
      obtain ⟨xs, k, _, _, hcl, hxs, ha⟩ := DataW.trod_array Try.underlying76 hst
      have c := (World.cells?_some hcs).2.2
      have a0 := ha 0 (by omega)
      have a1 := ha 1 (by omega)
      have a2 := ha 2 (by omega)
      rw [List.getElem?_eq_getElem (by omega)] at a0 a1 a2
      obtain ⟨x0, c0, r0⟩ := byte_of a0
      obtain ⟨x1, c1, r1⟩ := byte_of a1
      obtain ⟨x2, c2, r2⟩ := byte_of a2
      rw [h1] at c0 c1 c2
      rw [h3] at hcl
      match cs, hcl with
      | [z0, z1, z2], _ =>
        simp at c0 c1 c2
        subst c0 c1 c2
        have d0 := c 0 (by omega)
        have d1 := c 1 (by omega)
        have d2 := c 2 (by omega)
        refine ⟨(x0, x1, x2), ⟨r0, r1, r2⟩, ?_, d1, d2⟩
        simpa [Addr.add] using d0
    obtain ⟨l, hl, hp⟩ := choose_upto key
    refine ⟨some a, n, cap, l, rfl, hl, by omega, fun i => ?_, fun h0 => ?_⟩
    · by_cases hi : i < n
      · exact (hp i hi (0, 0, 0)).1
      · unfold tAt
        rw [List.getElem?_eq_none (by omega)]
        exact ⟨by simp, by simp, by simp⟩
    · obtain ⟨b, off, spot⟩ := a
      have hspot : spot = none := by
        have := (hp 0 h0 (0, 0, 0)).2.1
        simpa [Addr.add] using World.cell?_spot this
      subst hspot
      refine ⟨b, off, rfl, fun j hj => ?_⟩
      have := (hp j hj (0, 0, 0)).2
      rw [WideShapes.add_plain, WideShapes.add_plain, WideShapes.add_plain] at this
      exact this
end Go.Proofs.Ytphbiaagmhhhbaa
