/- A region that draws its order, inside a round: by an invariant, one obligation for each operation. -/
import Derived.Test.YtpnkbjdeiedhlaaLJ
import Derived.OrdersIn
namespace Go.Proofs.Ytpnkbjdeiedhlaa
open Go.RowKit Go.Lib Go.Shelf

theorem ready_mem {ops : Array Oper} {listed : Array Bool} {i : Nat} (h : i ∈ Region.ready .any ops listed) :
    i < ops.size ∧ listed.getD i true = false ∧ ∀ o, ops[i]? = some o → ∀ e ∈ o.after, Region.binds .any e = true → listed.getD e.on false = true := by
  unfold Region.ready at h
  rw [List.mem_filter] at h
  obtain ⟨h1, h2⟩ := h
  rw [Bool.and_eq_true] at h2
  refine ⟨by simpa using h1, by simpa using h2.1, fun o ho e he hb => ?_⟩
  have h3 := h2.2
  rw [ho] at h3
  simp only [Option.map_some, Option.getD_some] at h3
  have h4 := Array.all_eq_true'.1 h3 e he
  rw [hb] at h4
  simpa using h4
theorem ready_some {ops : Array Oper} {listed : Array Bool} (hs : listed.size = ops.size) (hac : ∀ (i : Nat) (o : Oper), ops[i]? = some o → ∀ e ∈ o.after, e.on < i) {i : Nat} (hi : i < ops.size) (hf : listed.getD i true = false) :
    ∃ j, j ∈ Region.ready .any ops listed := by
  induction i using Nat.strongRecOn with
  | ind i ih =>
    by_cases hall : ∀ j, j < i → listed.getD j true = true
    · refine ⟨i, ?_⟩
      unfold Region.ready
      rw [List.mem_filter]
      refine ⟨by simpa using hi, ?_⟩
      rw [Bool.and_eq_true]
      refine ⟨by simpa using hf, ?_⟩
      rw [Array.getElem?_eq_getElem hi]
      simp only [Option.map_some, Option.getD_some]
      rw [Array.all_eq_true']
      intro e he
      have hlt := hac i _ (Array.getElem?_eq_getElem hi) e he
      have ht := hall e.on hlt
      have : listed.getD e.on false = true := by
        rw [Array.getD_eq_getD_getElem?] at ht ⊢
        rw [Array.getElem?_eq_getElem (by omega)] at ht ⊢
        exact ht
      rw [this, Bool.or_true]
    · have : ∃ j, j < i ∧ listed.getD j true = false := by
        refine Classical.byContradiction fun hc => hall fun j hj => ?_
        cases hb : listed.getD j true with
        | true => rfl
        | false => exact absurd ⟨j, hj, hb⟩ hc
      obtain ⟨j, hj, hb⟩ := this
      exact ih j hj (by omega) hb
def acB (ops : Array Oper) : Bool := (List.range ops.size).all fun i => match ops[i]? with
  | some o => o.after.all fun e => decide (e.on < i)
  | none => true
theorem ac_of {ops : Array Oper} (h : acB ops = true) : ∀ (i : Nat) (o : Oper), ops[i]? = some o → ∀ e ∈ o.after, e.on < i := by
  intro i o ho e he
  have hi := (Array.getElem?_eq_some_iff.1 ho).1
  have h1 := List.all_eq_true.1 h i (by simpa using hi)
  rw [ho] at h1
  exact of_decide_eq_true (Array.all_eq_true'.1 h1 e he)
/-- How many are not listed yet. -/
def open_ (listed : Array Bool) : Nat := listed.toList.countP (fun b => !b)
theorem open_set {listed : Array Bool} {i : Nat} (hi : i < listed.size) (hf : listed.getD i true = false) : open_ (listed.setIfInBounds i true) + 1 = open_ listed := by
  unfold open_
  have hl : i < listed.toList.length := by simpa using hi
  have hv : listed.toList[i] = false := by
    rw [Array.getD_eq_getD_getElem?, Array.getElem?_eq_getElem hi] at hf
    simpa using hf
  have hpos : 0 < listed.toList.countP (fun b => !b) := List.countP_pos_iff.2 ⟨listed.toList[i], List.getElem_mem hl, by rw [hv]; rfl⟩
  rw [Array.toList_setIfInBounds, List.countP_set hl]
  rw [hv]
  simp only [Bool.not_false, Bool.not_true, if_true, Bool.false_eq_true, if_false]
  omega
section
variable {F : Fence} {n : Nat} {P : Program} {ops : Array Oper} {Q : Exit → Act → World → Prop}
theorem anyIn_inv (Inv : (Nat → Bool) → Act → World → Prop) (hac : ∀ (i : Nat) (o : Oper), ops[i]? = some o → ∀ e ∈ o.after, e.on < i)
    (step : ∀ (L : Nat → Bool) (a : Act) (w : World) (i : Nat) (o : Oper), ops[i]? = some o → (∀ e ∈ o.after, Region.binds .any e = true → L e.on = true) → L i = false → Inv L a w → ∀ K : Act → World → Prop,
      (∀ a' w', Inv (fun j => j == i || L j) a' w' → K a' w') → if Region.wanted o (yielded ops a.tmps) = true then o.wpIn F n P a w K Q else ((∀ f, o.about P w a.eval = some f → F.fn f) ∧ K (a.put o.dst undef) w))
    (done : ∀ (L : Nat → Bool) (a : Act) (w : World), (∀ i, i < ops.size → L i = true) → Inv L a w → Q .normal a w) :
    ∀ (fuel : Nat) (listed : Array Bool) (a : Act) (w : World), listed.size = ops.size → open_ listed ≤ fuel → Inv (fun j => listed.getD j false) a w → wpAnyIn F n P .any ops Q fuel listed a w := by
  have hall : ∀ listed : Array Bool, listed.size = ops.size → Region.ready .any ops listed = [] → ∀ i, i < ops.size → listed.getD i false = true := fun listed hs hr i hi => by
    cases hb : listed.getD i true with
    | true =>
      rw [Array.getD_eq_getD_getElem?, Array.getElem?_eq_getElem (by omega)] at hb ⊢
      exact hb
    | false =>
      obtain ⟨j, hj⟩ := ready_some hs hac hi hb
      rw [hr] at hj
      cases hj
  intro fuel
  induction fuel with
  | zero =>
    intro listed a w hs h0 hI
    have hr : Region.ready .any ops listed = [] := by
      rw [List.eq_nil_iff_forall_not_mem]
      intro i hi
      obtain ⟨h1, h2, _⟩ := ready_mem hi
      have := open_set (listed := listed) (i := i) (by omega) h2
      omega
    exact ⟨hr, done _ a w (hall listed hs hr) hI⟩
  | succ fuel ih =>
    intro listed a w hs h0 hI
    refine ⟨fun hr => done _ a w (hall listed hs hr) hI, fun i hi => ?_⟩
    obtain ⟨h1, h2, h3⟩ := ready_mem hi
    unfold wpOpIn
    rw [Array.getElem?_eq_getElem h1]
    have hf : listed.getD i false = false := by
      rw [Array.getD_eq_getD_getElem?, Array.getElem?_eq_getElem (by omega)] at h2 ⊢
      exact h2
    refine step _ a w i _ (Array.getElem?_eq_getElem h1) (h3 _ (Array.getElem?_eq_getElem h1)) hf hI _ fun a' w' hI' => ?_
    refine ih _ a' w' (by simpa using hs) ?_ ?_
    · have := open_set (listed := listed) (i := i) (by omega) h2
      omega
    · have he : (fun j => (listed.setIfInBounds i true).getD j false) = (fun j => j == i || listed.getD j false) := by
        funext j
        rw [Array.getD_eq_getD_getElem?, Array.getD_eq_getD_getElem?, Array.getElem?_setIfInBounds]
        by_cases hji : i = j
        · subst hji
          rw [if_pos rfl, if_pos (by omega)]
          simp
        · rw [if_neg hji]
          have : (j == i) = false := beq_eq_false_iff_ne.2 (Ne.symm hji)
          rw [this, Bool.false_or]
      rw [he]
      exact hI'
theorem region_inv {id : Nat} {a : Act} {w : World} (hm : P.follows .mixedOrders = true) (Inv : (Nat → Bool) → Act → World → Prop) (hac : ∀ (i : Nat) (o : Oper), ops[i]? = some o → ∀ e ∈ o.after, e.on < i)
    (step : ∀ (L : Nat → Bool) (a : Act) (w : World) (i : Nat) (o : Oper), ops[i]? = some o → (∀ e ∈ o.after, Region.binds .any e = true → L e.on = true) → L i = false → Inv L a w → ∀ K : Act → World → Prop,
      (∀ a' w', Inv (fun j => j == i || L j) a' w' → K a' w') → if Region.wanted o (yielded ops a.tmps) = true then o.wpIn F n P a w K Q else ((∀ f, o.about P w a.eval = some f → F.fn f) ∧ K (a.put o.dst undef) w))
    (done : ∀ (L : Nat → Bool) (a : Act) (w : World), (∀ i, i < ops.size → L i = true) → Inv L a w → Q .normal a w)
    (h0 : Inv (fun _ => false) a w.drew) : (Code.region id ops true).wpIn F n P Q a w := by
  refine wpIn_region_any hm (anyIn_inv Inv hac step done ops.size _ a _ (by simp) ?_ ?_)
  · unfold open_
    rw [Array.toList_replicate]
    exact Nat.le_trans List.countP_le_length (by simp)
  · have he : (fun j => (Array.replicate ops.size false).getD j false) = (fun _ => false) := by
      funext j
      rw [Array.getD_eq_getD_getElem?, Array.getElem?_replicate]
      split <;> rfl
    rw [he]
    exact h0
end
end Go.Proofs.Ytpnkbjdeiedhlaa
