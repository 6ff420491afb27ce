/- Maps that are keyed by a state and a number of strips. -/
import Derived.Test.YtpnkbjdeiedhlaaLG
import Derived.Maps.Keyed
import Derived.DeepKeys4
namespace Go.Proofs.Ytpnkbjdeiedhlaa
open Go.RowKit Go.Lib Go.Shelf
open St

theorem und80 : Try.prog.underlying 80 = some (.array 3 3) := Try.underlying80
theorem und3 : Try.prog.underlying 3 = some (.int .i64) := by kernel_rfl
theorem cells111 : Try.prog.cellsOf 111 = 4 := by kernel_rfl
theorem cells80 : Try.prog.cellsOf 80 = 3 := by kernel_rfl
theorem cells3 : Try.prog.cellsOf 3 = 1 := by kernel_rfl
theorem law111 : Maps.Keyed Try.prog 111 := Maps.Keyed.of_law (deep_law_laid (by kernel_rfl) (m := 5) (by decide) (of_decide_eq_true (by kernel_rfl)) (by kernel_rfl) (by kernel_rfl))
theorem ktype111 : Try.prog.keyType 111 = true := by kernel_rfl
theorem tsize : ∃ m, Try.prog.types.size = m + 2 := ⟨Try.prog.types.size - 2, by kernel_rfl⟩
/-- A key as it lies. -/
abbrev kv (s : St) (n : Nat) : Value := .agg #[.int .i64 (s.a : Int), .int .i64 (s.b : Int), .int .i64 (s.c : Int), .int .i64 (n : Int)]
theorem kv_key {s : St} {n : Nat} (hs : s.tubes ≤ 1000) (hn : n ≤ 1000) : ∃ l, keyOf Try.prog 111 (kv s n) = some l := by
  obtain ⟨m, hm⟩ := tsize
  unfold tubes at hs
  have wf : ∀ k : Nat, k ≤ 1000 → (Lit.int .i64 (k : Int)).wf = true := fun k hk => WalkArith.wf_i64 (by omega)
  have wa := wf s.a (by omega)
  have wb := wf s.b (by omega)
  have wc := wf s.c (by omega)
  have wn := wf n hn
  refine ⟨.string (keyBytes [.int .i64 (s.a : Int), .int .i64 (s.b : Int), .int .i64 (s.c : Int), .int .i64 (n : Int)]), ?_⟩
  unfold keyOf
  simp only [Try.underlying111]
  rw [if_pos (by simp [ktype111, Value.formed, Try.underlying111, cells111]), hm]
  unfold Program.keyLits
  simp only [Try.underlying111, Value.cells]
  rw [if_pos (by rw [cells111]; exact ⟨rfl, by simp⟩)]
  simp only [List.mapM_cons, List.mapM_nil]
  have e1 : Try.prog.keyLits (m + 2) 80 ((#[Value.int .i64 (s.a : Int), .int .i64 (s.b : Int), .int .i64 (s.c : Int), .int .i64 (n : Int)].toList.drop 0).take (Try.prog.cellsOf 80)) = some [.int .i64 (s.a : Int), .int .i64 (s.b : Int), .int .i64 (s.c : Int)] := by
    unfold Program.keyLits
    simp only [Try.underlying80]
    rw [if_pos (by rw [cells80]; rfl), show List.range 3 = [0, 1, 2] from rfl, List.mapM_cons, List.mapM_cons, List.mapM_cons, List.mapM_nil]
    simp [cells80, cells3, Program.keyLits, wa, wb, wc]
  have e2 : Try.prog.keyLits (m + 2) 3 ((#[Value.int .i64 (s.a : Int), .int .i64 (s.b : Int), .int .i64 (s.c : Int), .int .i64 (n : Int)].toList.drop 3).take (Try.prog.cellsOf 3)) = some [.int .i64 (n : Int)] := by
    unfold Program.keyLits
    simp [cells3, wn]
  simp only [e1, e2]
  rfl

/-- What a map knows. -/
abbrev Kn := St → Nat → Option Bool
def Kn.put (f : Kn) (s : St) (n : Nat) (b : Bool) : Kn := fun s' n' => if s' = s ∧ n' = n then some b else f s' n'
/-- Block B is a map that knows just this; all keys are small. -/
def MapD (w : World) (B : Nat) (f : Kn) : Prop := ∃ es clock, w.heap[B]? = some (.map es clock) ∧
  (es.toList.Pairwise fun x y => x.key ≠ y.key) ∧
  (∀ e ∈ es.toList, ∃ s n b, (s.tubes ≤ 1000 ∧ n ≤ 1000) ∧ e.key = kv s n ∧ e.val = .bool b ∧ f s n = some b) ∧
  (∀ s n b, f s n = some b → ∃ e ∈ es.toList, e.key = kv s n)
theorem MapD.lt {w : World} {B : Nat} {f : Kn} (h : MapD w B f) : B < w.heap.size := by
  obtain ⟨es, clock, hb, _⟩ := h
  exact (Array.getElem?_eq_some_iff.1 hb).1
theorem MapD.made (w : World) : MapD (w.alloc (.map #[] 0)) w.heap.size (fun _ _ => none) :=
  ⟨#[], 0, World.alloc_heap_new w _, by simp, by simp, by simp⟩
theorem MapD.kept {w w' : World} {B : Nat} {f : Kn} (h : MapD w B f) (hb : w'.heap[B]? = w.heap[B]?) : MapD w' B f := by
  obtain ⟨es, clock, h1, h2⟩ := h
  exact ⟨es, clock, hb.trans h1, h2⟩
theorem MapD.later {w w' : World} {B : Nat} {f : Kn} (h : MapD w B f) (hb : Below w.heap.size w w') : MapD w' B f := h.kept (hb.block B h.lt)
theorem kv_inj {s t : St} {n m : Nat} (h : kv s n = kv t m) : s = t ∧ n = m := by
  obtain ⟨a, b, c⟩ := s
  obtain ⟨a', b', c'⟩ := t
  simp only [kv, Value.agg.injEq, Array.mk.injEq, List.cons.injEq, Value.int.injEq, true_and, and_true] at h
  refine ⟨?_, by omega⟩
  obtain ⟨h1, h2, h3, _⟩ := h
  have e1 : a = a' := by omega
  have e2 : b = b' := by omega
  have e3 : c = c' := by omega
  rw [e1, e2, e3]
theorem getObj_map {w : World} {B : Nat} {es : Array MapEntry} {clock : Nat} (h : w.heap[B]? = some (.map es clock)) : (getObj B).run Try.prog w = .ok (.map es clock) w := by simp [getObj, Sem.run, h]
theorem MapD.find {w : World} {B : Nat} {f : Kn} (h : MapD w B f) {s : St} {n : Nat} (hs : s.tubes ≤ 1000) (hn : n ≤ 1000) :
    ∃ es clock, w.heap[B]? = some (.map es clock) ∧ ((f s n = none ∧ (Instr.findKey 111 (kv s n) es.toList).run Try.prog w = .ok none w ∧ ∀ e ∈ es.toList, e.key ≠ kv s n) ∨ ∃ b j e, f s n = some b ∧ (Instr.findKey 111 (kv s n) es.toList).run Try.prog w = .ok (some (j, .bool b)) w ∧ es.toList[j]? = some e ∧ e.key = kv s n) := by
  obtain ⟨es, clock, hb, hp, h1, h2⟩ := h
  obtain ⟨l, hl⟩ := kv_key hs hn
  refine ⟨es, clock, hb, ?_⟩
  rcases law111.find w hl es.toList (fun e he => by
    obtain ⟨s', n', b, ⟨g1, g2⟩, g3, _⟩ := h1 e he
    rw [g3]
    exact kv_key g1 g2) with ⟨hr, hno⟩ | ⟨j, e, hr, hj, he⟩
  · left
    refine ⟨?_, hr, hno⟩
    cases hf : f s n with
    | none => rfl
    | some b =>
      obtain ⟨e, he, hk⟩ := h2 s n b hf
      exact absurd hk (hno e he)
  · right
    obtain ⟨s', n', b, _, g3, g4, g5⟩ := h1 e (List.mem_of_getElem? hj)
    rw [he] at g3
    obtain ⟨rfl, rfl⟩ := kv_inj g3
    exact ⟨b, j, e, g5, by rw [hr, g4], hj, he⟩
theorem zero4 (w : World) : (zeroValue 4).run Try.prog w = .ok (.bool false) w := by kernel_rfl
/-- Asking the map. -/
theorem MapD.look {w : World} {B : Nat} {f : Kn} (h : MapD w B f) {s : St} {n : Nat} (hs : s.tubes ≤ 1000) (hn : n ≤ 1000) (ok : Bool) :
    (Instr.lookup 95 (.map (some B)) (kv s n) ok).run Try.prog w = .ok (if ok then .tuple #[.bool ((f s n).getD false), .bool (f s n).isSome] else .bool ((f s n).getD false)) w := by
  obtain ⟨es, clock, hb, hf⟩ := h.find hs hn
  obtain ⟨l, hl⟩ := kv_key hs hn
  have hc := law111.check w es.isEmpty hl
  rcases hf with ⟨h0, hr, _⟩ | ⟨b, j, e, h0, hr, _, _⟩
  · cases ok <;> simp [Instr.lookup, run_underlying Try.underlying95, getObj_map hb, hc, hr, h0]
  · cases ok <;> simp [Instr.lookup, run_underlying Try.underlying95, getObj_map hb, hc, hr, h0]
/-- Writing into the map. -/
theorem MapD.write {w : World} {B : Nat} {f : Kn} (h : MapD w B f) {s : St} {n : Nat} (hs : s.tubes ≤ 1000) (hn : n ≤ 1000) (b : Bool) :
    ∃ w', (Instr.mapUpdate 95 (.map (some B)) (kv s n) (.bool b)).run Try.prog w = .ok () w' ∧ MapD w' B (f.put s n b) ∧ w.grownBy w' (some B) ∧ w'.heap.size = w.heap.size := by
  have hlt := h.lt
  obtain ⟨es0, clock0, hb0, hp, h1, h2⟩ := h
  obtain ⟨es, clock, hb, hf⟩ := MapD.find ⟨es0, clock0, hb0, hp, h1, h2⟩ hs hn
  rw [hb0] at hb
  cases hb
  obtain ⟨l, hl⟩ := kv_key hs hn
  have hc := law111.check w false hl
  have hst := law111.stays w hl
  have hg : ∀ o, w.grownBy (w.putObj B o) (some B) := fun o => ⟨rfl, rfl, rfl, by simp [World.putObj], fun k _ hk => World.putObj_heap_other (fun e => hk (by rw [e]))⟩
  rcases hf with ⟨h0, hr, hno⟩ | ⟨b', j, e, h0, hr, hj, he⟩
  · refine ⟨w.putObj B (.map (es0.push { key := kv s n, val := .bool b, born := clock0 }) (clock0 + 1)), ?_, ⟨_, _, World.putObj_heap_same hlt, ?_, ?_, ?_⟩, hg _, by simp [World.putObj]⟩
    · simp [Instr.mapUpdate, run_underlying Try.underlying95, getObj_map hb0, hc, hr, setObj, Sem.run, World.putObj, hb0]
    · rw [Array.toList_push, List.pairwise_append]
      refine ⟨hp, by simp, fun x hx y hy => ?_⟩
      simp only [List.mem_singleton] at hy
      subst hy
      exact hno x hx
    · intro e he
      rw [Array.toList_push, List.mem_append] at he
      rcases he with he | he
      · obtain ⟨s', n', b', g1, g2, g3, g4⟩ := h1 e he
        refine ⟨s', n', b', g1, g2, g3, ?_⟩
        unfold Kn.put
        rw [if_neg (fun hh => hno e he (by rw [g2, hh.1, hh.2]))]
        exact g4
      · simp only [List.mem_singleton] at he
        subst he
        exact ⟨s, n, b, ⟨hs, hn⟩, rfl, rfl, by simp [Kn.put]⟩
    · intro s' n' b' hh
      unfold Kn.put at hh
      rw [Array.toList_push]
      split at hh
      · rename_i hsn
        exact ⟨{ key := kv s n, val := .bool b, born := clock0 }, by simp, by rw [hsn.1, hsn.2]⟩
      · obtain ⟨e, he, hk⟩ := h2 s' n' b' hh
        exact ⟨e, by simp [he], hk⟩
  · have hjlt : j < es0.size := by
      have := (List.getElem?_eq_some_iff.1 hj).1
      simpa using this
    have hej : es0[j]? = some e := by simpa using hj
    let g : MapEntry → MapEntry := fun e => { e with key := kv s n, val := .bool b }
    have hget : ∀ i, (es0.modify j g).toList[i]? = (es0.toList[i]?).map (fun a => if j = i then g a else a) := fun i => by
      rw [Array.toList_modify, List.getElem?_modify]
      rfl
    have hkeys : (es0.modify j g).toList.map (·.key) = es0.toList.map (·.key) := by
      apply List.ext_getElem?
      intro i
      rw [List.getElem?_map, List.getElem?_map, hget]
      by_cases hij : j = i
      · subst hij
        rw [hj]
        simp [g, he]
      · cases es0.toList[i]? <;> simp [hij]
    refine ⟨w.putObj B (.map (es0.modify j g) clock0), ?_, ⟨_, _, World.putObj_heap_same hlt, ?_, ?_, ?_⟩, hg _, by simp [World.putObj]⟩
    · simp [Instr.mapUpdate, run_underlying Try.underlying95, getObj_map hb0, hc, hr, setObj, Sem.run, World.putObj, hb0, hej, he, hst, g]
    · have h := List.pairwise_map.2 hp
      exact List.pairwise_map.1 (by rw [hkeys]; exact h)
    · intro x hx
      obtain ⟨i, hi⟩ := List.getElem?_of_mem hx
      rw [hget] at hi
      cases hxi : es0.toList[i]? with
      | none => rw [hxi] at hi; cases hi
      | some y =>
        rw [hxi] at hi
        by_cases hij : j = i
        · subst hij
          simp only [Option.map_some, if_true, Option.some.injEq] at hi
          subst hi
          exact ⟨s, n, b, ⟨hs, hn⟩, rfl, rfl, by simp [Kn.put]⟩
        · simp only [Option.map_some, if_neg hij, Option.some.injEq] at hi
          subst hi
          obtain ⟨s', n', b2, g1, g2, g3, g4⟩ := h1 y (List.mem_of_getElem? hxi)
          refine ⟨s', n', b2, g1, g2, g3, ?_⟩
          unfold Kn.put
          rw [if_neg (fun hh => ?_)]
          · exact g4
          · have hil := (List.getElem?_eq_some_iff.1 hxi).1
            have hjl := (List.getElem?_eq_some_iff.1 hj).1
            have e1 : es0.toList[i] = y := (List.getElem?_eq_some_iff.1 hxi).2
            have e2 : es0.toList[j] = e := (List.getElem?_eq_some_iff.1 hj).2
            have hky : es0.toList[i].key = es0.toList[j].key := by rw [e1, e2, g2, he, hh.1, hh.2]
            rcases Nat.lt_or_gt_of_ne hij with hlt2 | hgt
            · exact (List.pairwise_iff_getElem.1 hp j i hjl hil hlt2) hky.symm
            · exact (List.pairwise_iff_getElem.1 hp i j hil hjl hgt) hky
    · intro s' n' b2 hh
      have hmem : ∀ k, k ∈ es0.toList.map (·.key) → ∃ e ∈ (es0.modify j g).toList, e.key = k := fun k hk => by
        rw [← hkeys] at hk
        obtain ⟨e, he, hk⟩ := List.mem_map.1 hk
        exact ⟨e, he, hk⟩
      unfold Kn.put at hh
      split at hh
      · rename_i hsn
        exact hmem _ (List.mem_map.2 ⟨e, List.mem_of_getElem? hj, by rw [he, hsn.1, hsn.2]⟩)
      · obtain ⟨e', he', hk⟩ := h2 s' n' b2 hh
        exact hmem _ (List.mem_map.2 ⟨e', he', hk⟩)
end Go.Proofs.Ytpnkbjdeiedhlaa
