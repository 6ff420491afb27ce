/- A region that draws its order, by an invariant, one obligation for each operation: the plain walk's form. -/
import Derived.Test.YtpnkbjdeiedhlaaLR
import Derived.Orders
namespace Go.Proofs.Ytpnkbjdeiedhlaa
open Go.RowKit Go.Lib Go.Shelf

section
variable {P : Program} {ops : Array Oper} {Q : Exit → Act → World → Prop}
theorem any_inv (Inv : (Nat → Bool) → Act → World → Prop) (hac : ∀ (i : Nat) (o : Oper), ops[i]? = some o → ∀ e ∈ o.after, e.on < i)
    (step : ∀ (L : Nat → Bool) (a : Act) (w : World) (i : Nat) (o : Oper), ops[i]? = some o → (∀ e ∈ o.after, Region.binds .any e = true → L e.on = true) → L i = false → Inv L a w → ∀ K : Act → World → Prop,
      (∀ a' w', Inv (fun j => j == i || L j) a' w' → K a' w') → if Region.wanted o (yielded ops a.tmps) = true then o.wp P a w K Q else K (a.put o.dst undef) w)
    (done : ∀ (L : Nat → Bool) (a : Act) (w : World), (∀ i, i < ops.size → L i = true) → Inv L a w → Q .normal a w) :
    ∀ (fuel : Nat) (listed : Array Bool) (a : Act) (w : World), listed.size = ops.size → open_ listed ≤ fuel → Inv (fun j => listed.getD j false) a w → wpAny P .any ops Q fuel listed a w := by
  have hall : ∀ listed : Array Bool, listed.size = ops.size → Region.ready .any ops listed = [] → ∀ i, i < ops.size → listed.getD i false = true := fun listed hs hr i hi => by
    cases hb : listed.getD i true with
    | true =>
      rw [Array.getD_eq_getD_getElem?, Array.getElem?_eq_getElem (by omega)] at hb ⊢
      exact hb
    | false =>
      obtain ⟨j, hj⟩ := ready_some hs hac hi hb
      rw [hr] at hj
      cases hj
  intro fuel
  induction fuel with
  | zero =>
    intro listed a w hs h0 hI
    have hr : Region.ready .any ops listed = [] := by
      rw [List.eq_nil_iff_forall_not_mem]
      intro i hi
      obtain ⟨h1, h2, _⟩ := ready_mem hi
      have := open_set (listed := listed) (i := i) (by omega) h2
      omega
    exact ⟨hr, done _ a w (hall listed hs hr) hI⟩
  | succ fuel ih =>
    intro listed a w hs h0 hI
    refine ⟨fun hr => done _ a w (hall listed hs hr) hI, fun i hi => ?_⟩
    obtain ⟨h1, h2, h3⟩ := ready_mem hi
    unfold wpOp
    rw [Array.getElem?_eq_getElem h1]
    have hf : listed.getD i false = false := by
      rw [Array.getD_eq_getD_getElem?, Array.getElem?_eq_getElem (by omega)] at h2 ⊢
      exact h2
    have hst := step _ a w i _ (Array.getElem?_eq_getElem h1) (h3 _ (Array.getElem?_eq_getElem h1)) hf hI (wpAny P .any ops Q fuel (listed.setIfInBounds i true)) ?_
    · dsimp only
      by_cases hw : Region.wanted ops[i] (yielded ops a.tmps) = true
      · rw [if_pos hw] at hst ⊢
        exact .inl hst
      · rw [if_neg hw] at hst ⊢
        exact hst
    intro a' w' hI'
    refine ih _ a' w' (by simpa using hs) ?_ ?_
    · have := open_set (listed := listed) (i := i) (by omega) h2
      omega
    · have he : (fun j => (listed.setIfInBounds i true).getD j false) = (fun j => j == i || listed.getD j false) := by
        funext j
        rw [Array.getD_eq_getD_getElem?, Array.getD_eq_getD_getElem?, Array.getElem?_setIfInBounds]
        by_cases hji : i = j
        · subst hji
          rw [if_pos rfl, if_pos (by omega)]
          simp
        · rw [if_neg hji]
          have : (j == i) = false := beq_eq_false_iff_ne.2 (Ne.symm hji)
          rw [this, Bool.false_or]
      rw [he]
      exact hI'
theorem region_invP {id : Nat} {a : Act} {w : World} (hm : P.follows .mixedOrders = true) (Inv : (Nat → Bool) → Act → World → Prop) (hac : ∀ (i : Nat) (o : Oper), ops[i]? = some o → ∀ e ∈ o.after, e.on < i)
    (step : ∀ (L : Nat → Bool) (a : Act) (w : World) (i : Nat) (o : Oper), ops[i]? = some o → (∀ e ∈ o.after, Region.binds .any e = true → L e.on = true) → L i = false → Inv L a w → ∀ K : Act → World → Prop,
      (∀ a' w', Inv (fun j => j == i || L j) a' w' → K a' w') → if Region.wanted o (yielded ops a.tmps) = true then o.wp P a w K Q else K (a.put o.dst undef) w)
    (done : ∀ (L : Nat → Bool) (a : Act) (w : World), (∀ i, i < ops.size → L i = true) → Inv L a w → Q .normal a w)
    (h0 : Inv (fun _ => false) a w.drew) : (Code.region id ops true).wp P Q a w := by
  refine wp_region_any hm (any_inv Inv hac step done ops.size _ a _ (by simp) ?_ ?_)
  · unfold open_
    rw [Array.toList_replicate]
    exact Nat.le_trans List.countP_le_length (by simp)
  · have he : (fun j => (Array.replicate ops.size false).getD j false) = (fun _ => false) := by
      funext j
      rw [Array.getD_eq_getD_getElem?, Array.getElem?_replicate]
      split <;> rfl
    rw [he]
    exact h0
end
end Go.Proofs.Ytpnkbjdeiedhlaa
