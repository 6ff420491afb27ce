/- Two rows that grow side by side; what the arguments of the laws by numbers are. -/
import Derived.Test.YtjncoableanmpaaQI
import Derived.Test.YtjncoableanmpaaQD
namespace Go.Proofs.Ytjncoableanmpaa
open Go.RowKit Go.Lib Go.Shelf Go.ChangeShapes Go.WideShapes Go.ChangeAt

theorem own_lt {w : World} {base n size : Nat} {e : TypeId} {v : Value} {xs : List Value} (h : w.ownsRow base e size v n xs) {j : Nat} (hj : v.ownBlock = some j) : j < w.heap.size := by
  rcases h.2 with ⟨rfl, _⟩ | ⟨g, cap, cur, rfl, _, hg, _⟩
  · simp [Value.ownBlock] at hj
  · have : g = j := by simpa [Value.ownBlock] using hj
    subst this
    exact (Array.getElem?_eq_some_iff.1 hg).1
/-- An append to a row: where the new one lies. -/
theorem append_two {P : Program} (w : World) (base : Nat) (t ty e : TypeId) (i : TypeInfo) (z : Value) (size bytes : Nat) (ht : P.underlying t = some (.slice e)) (hi : P.info? e = some i) (hz : i.zero = some z)
    (hsize : i.size = size) (hby : i.bytes = bytes) (hzs : z.cells.size = size) (hsz : 0 < size)
    (v : Value) (n : Nat) (xs : List Value) (hown : w.ownsRow base e size v n xs)
    (a : Addr) (m c : Nat) (news : List Value) (hl : news.length = m * size) (hnews : ∀ j u, news[j]? = some u → w.cell? (a.add j) = some u) (h1 : ∀ u ∈ news, u.oneCell' = true)
    (hm : 0 < m) (h63 : n + m ≤ maxLen) (hbytes : (n + m) * bytes ≤ 140737488355328) (hbase : base ≤ w.heap.size) :
    ∃ v' w', (Builtin.append_ #[t, t] ty #[v, .slice (some a) m c]).run P w = .ok v' w' ∧ w'.ownsRow base e size v' (n + m) (xs ++ news) ∧ w.grownBy w' v.ownBlock ∧ (v'.ownBlock = v.ownBlock ∨ v'.ownBlock = some w.heap.size) := by
  obtain ⟨v', w', hr, h2, h3, _⟩ := run_append_own (P := P) w base t ty e i z size bytes ht hi hz hsize hby hzs hsz v n xs hown a m c news hl hnews h1 h63 hbytes hbase
  refine ⟨v', w', hr, h2, h3, ?_⟩
  subst hsize
  subst hby
  have hmx : n + m ≤ 9223372036854775807 := by unfold maxLen at h63; omega
  rcases hown.2 with ⟨rfl, rfl⟩ | ⟨g, cap, cur, rfl, hbg, hg, hnc, hcm, hcs, htake⟩
  · have r := run_append_nil (P := P) w t ty e i z ht hi hz a m c news hl hnews (by omega) (by omega) (by have hb := hbytes; simp only [Nat.zero_add] at hb; omega)
    rw [r] at hr
    cases hr
    exact .inr rfl
  · by_cases hroom : n + m ≤ cap
    · have hfit : n * i.size + news.length ≤ cur.size := by rw [hl, hcs, ← Nat.add_mul]; exact Nat.mul_le_mul_right _ hroom
      have r := run_append_room (P := P) w t ty e i ht hi g n cap cur hg a m c news hl hnews h1 hroom hfit
      rw [r] at hr
      cases hr
      exact .inl rfl
    · have holds : ∀ j u, xs[j]? = some u → w.cell? ((⟨g, 0, none⟩ : Addr).add j) = some u := hown.cells (g := g) rfl
      have r := run_append_grow (P := P) w t ty e i z ht hi hz ⟨g, 0, none⟩ n cap xs hown.1 holds a m c news hl hnews (by omega) (by omega) (growslice_fits (by omega) hbytes)
      rw [r] at hr
      cases hr
      exact .inr rfl
theorem wpList_append_two {P : Program} (w : World) {ops : Array Oper} {rest : List Oper} {o : Oper} {a : Act} {Q : Exit → Act → World → Prop} (hgd : o.guard = none) (s x : Operand) (t : TypeId)
    (ho : o.op = .call { callee := .builtin .append, args := #[s, x], argTypes := #[t, t] })
    (base : Nat) (e : TypeId) (i : TypeInfo) (z : Value) (size bytes : Nat) (ht : P.underlying t = some (.slice e)) (hi : P.info? e = some i) (hz : i.zero = some z)
    (hsize : i.size = size) (hby : i.bytes = bytes) (hzs : z.cells.size = size) (hsz : 0 < size)
    (v : Value) (n : Nat) (xs : List Value) (hs : a.eval s = v) (hown : w.ownsRow base e size v n xs)
    (ad : Addr) (m c : Nat) (news : List Value) (hx : a.eval x = .slice (some ad) m c) (hl : news.length = m * size) (hnews : ∀ j u, news[j]? = some u → w.cell? (ad.add j) = some u) (h1 : ∀ u ∈ news, u.oneCell' = true)
    (hm : 0 < m) (h63 : n + m ≤ maxLen) (hbytes : (n + m) * bytes ≤ 140737488355328) (hbase : base ≤ w.heap.size)
    (h : ∀ v' w', w'.ownsRow base e size v' (n + m) (xs ++ news) → w.grownBy w' v.ownBlock → (v'.ownBlock = v.ownBlock ∨ v'.ownBlock = some w.heap.size) → wpList P ops Q rest (a.put o.dst v') w') : wpList P ops Q (o :: rest) a w :=
  wpList_plain hgd fun _ hK => by
    obtain ⟨v', w', hr, h2, h3, h4⟩ := append_two (P := P) w base t o.type e i z size bytes ht hi hz hsize hby hzs hsz v n xs hown ad m c news hl hnews h1 hm h63 hbytes hbase
    unfold Oper.wp execOp
    simp only [ho, resolve, invoke, builtin, Sem.run_bind, Sem.run_pure, Result.andThen_ok, List.map_toArray, List.map_cons, List.map_nil, hs, hx, hr]
    exact hK _ _ (h v' w' h2 h3 h4)
/-- Two values that don't share a block. -/
def Apart (v u : Value) : Prop := ∀ j, v.ownBlock = some j → u.ownBlock ≠ some j
theorem Apart.kept {w w' : World} {base n size : Nat} {e : TypeId} {v u : Value} {xs : List Value} (ha : Apart v u) (h : w.ownsRow base e size u n xs) (hg : w.grownBy w' v.ownBlock) : w'.ownsRow base e size u n xs := by
  refine h.kept hg ?_
  cases hu : u.ownBlock with
  | none => exact .inl rfl
  | some j =>
    refine .inr fun hv => ?_
    exact ha j hv.symm hu
theorem Apart.grow {w : World} {base n size : Nat} {e : TypeId} {v v' u : Value} {xs : List Value} (ha : Apart v u) (h : w.ownsRow base e size u n xs) (hv : v'.ownBlock = v.ownBlock ∨ v'.ownBlock = some w.heap.size) : Apart v' u := by
  intro j hj hu
  rcases hv with hv | hv
  · exact ha j (hv ▸ hj) hu
  · rw [hv] at hj
    have := own_lt h hu
    cases hj
    omega
theorem Apart.symm {v u : Value} (h : Apart v u) : Apart u v := fun j hj hv => h j hv hj
theorem Apart.nil (u : Value) : Apart (.slice none 0 0) u := fun j hj => by simp [Value.ownBlock] at hj

variable {H : Type} {enc : TypeId × Value → H}
theorem byte_of {W : World} {fuel : Nat} {cs : List Value} {y : DataW H × List MemPlace} (h : DataW.trod enc Try.prog W 0 (fun _ => true) true fuel 5 cs = some y) : ∃ n : Int, cs = [.int .u8 n] ∧ 0 ≤ n ∧ n ≤ 255 := by
  obtain ⟨n, hcs, _, hw⟩ := DataW.trod_int Try.underlying5 h
  exact ⟨n, hcs, bounds_u8 hw⟩
set_option maxRecDepth 100000 in
theorem byte_arg {W : World} {base : Nat} {v : Value} {d : DataW H} {p : List MemPlace} (h : Value.okWide Try.prog W .any base 5 v) (hd : DataW.Trod enc Try.prog W 0 (fun _ => true) true 5 v d p) : ∃ n : Int, v = .int .u8 n ∧ 0 ≤ n ∧ n ≤ 255 := by
  obtain ⟨n, rfl⟩ := okWide_int Try.underlying5 h
  obtain ⟨fuel, hf⟩ := hd
  obtain ⟨m, hm, h0, h1⟩ := byte_of hf
  have e : n = m := by simpa [Value.cells] using hm
  subst e
  exact ⟨n, rfl, h0, h1⟩
set_option maxRecDepth 100000 in
theorem scale_arg {W : World} {base : Nat} {v : Value} {d : DataW H} {p : List MemPlace} (h : Value.okWide Try.prog W .any base 52 v) (hd : DataW.Trod enc Try.prog W 0 (fun _ => true) true 52 v d p) :
    ∃ A n cap l, v = .slice A n cap ∧ ReadsS W A n l := by
  obtain ⟨A, n, cap, rfl⟩ := okWide_slice Try.underlying52 h
  obtain ⟨fuel, hf⟩ := hd
  have h3 : Try.prog.cellsOf 53 = 3 := by kernel_rfl
  have h1 : Try.prog.cellsOf 5 = 1 := by kernel_rfl
  rcases DataW.trod_slice Try.underlying52 hf with ⟨hcs, _⟩ | ⟨a, len, cap', elems, rest, m, _, hcs, _, _, hle, hmax, hlen, hel, _, _⟩
  · simp [Value.cells] at hcs
    obtain ⟨rfl, rfl, rfl⟩ := hcs
    exact ⟨none, 0, 0, [], rfl, rfl, by omega, fun j hj => absurd hj (by omega), fun h => absurd h (by omega)⟩
  · simp [Value.cells] at hcs
    obtain ⟨rfl, rfl, rfl⟩ := hcs
    have key : ∀ j, j < n → ∃ x : Tri, ((0 ≤ x.1 ∧ x.1 ≤ 255) ∧ (0 ≤ x.2.1 ∧ x.2.1 ≤ 255) ∧ (0 ≤ x.2.2 ∧ x.2.2 ≤ 255)) ∧ W.cell? (a.add (j * 3)) = some (.int .u8 x.1) ∧ W.cell? ((a.add (j * 3)).add 1) = some (.int .u8 x.2.1) ∧ W.cell? ((a.add (j * 3)).add 2) = some (.int .u8 x.2.2) := by
      intro j hj
      have hj' := hel j hj
      rw [h3, List.getElem?_eq_getElem (by omega), Option.bind_eq_some_iff] at hj'
      obtain ⟨cs, hcs, hst⟩ := hj'
      obtain ⟨xs, k, _, _, hcl, hxs, ha⟩ := DataW.trod_array Try.underlying53 hst
      have c := (World.cells?_some hcs).2.2
      have a0 := ha 0 (by omega)
      have a1 := ha 1 (by omega)
      have a2 := ha 2 (by omega)
      rw [List.getElem?_eq_getElem (by omega)] at a0 a1 a2
      obtain ⟨x0, c0, r0⟩ := byte_of a0
      obtain ⟨x1, c1, r1⟩ := byte_of a1
      obtain ⟨x2, c2, r2⟩ := byte_of a2
      rw [h1] at c0 c1 c2
      rw [h3] at hcl
      match cs, hcl with
      | [z0, z1, z2], _ =>
        simp at c0 c1 c2
        subst c0 c1 c2
        have d0 := c 0 (by omega)
        have d1 := c 1 (by omega)
        have d2 := c 2 (by omega)
        refine ⟨(x0, x1, x2), ⟨r0, r1, r2⟩, ?_, d1, d2⟩
        simpa [Addr.add] using d0
    obtain ⟨l, hl, hp⟩ := choose_upto key
    refine ⟨some a, n, cap, l, rfl, hl, by unfold maxLen at hmax; omega, fun j hj => (hp j hj (0, 0, 0)).1, fun h0 => ?_⟩
    obtain ⟨b, off, spot⟩ := a
    have hspot : spot = none := by
      have := (hp 0 h0 (0, 0, 0)).2.1
      simpa [Addr.add] using World.cell?_spot this
    subst hspot
    refine ⟨b, off, rfl, fun j hj => ?_⟩
    have := (hp j hj (0, 0, 0)).2
    rw [WideShapes.add_plain, WideShapes.add_plain, WideShapes.add_plain] at this
    exact this
end Go.Proofs.Ytjncoableanmpaa
