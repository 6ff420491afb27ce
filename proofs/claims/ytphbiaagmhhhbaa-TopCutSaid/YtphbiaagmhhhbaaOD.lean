/- Lists of bytes as arguments; cutting and playing lists of times. -/
import Derived.Test.YtphbiaagmhhhbaaOC
namespace Go.Proofs.Ytphbiaagmhhhbaa
open Go.RowKit Go.Lib Go.Shelf Go.ChangeShapes Go.WideShapes Go.ChangeAt

/-- A slice that reads as a list of bytes, however long. -/
def ReadsB (w : World) (A : Option Addr) (n : Nat) (l : List Int) : Prop :=
  l.length = n ∧ n ≤ 9223372036854775807 ∧ (∀ x ∈ l, 0 ≤ x ∧ x ≤ 255) ∧ (0 < n → ∃ b off, A = some ⟨b, off, none⟩ ∧ ∀ j, j < n → w.cell? ⟨b, off + j, none⟩ = some (.int .u8 (l[j]?.getD 0)))
theorem ReadsB.later {w w1 : World} {A : Option Addr} {n : Nat} {l : List Int} (h : ReadsB w A n l) (hb : Below w.heap.size w w1) : ReadsB w1 A n l := by
  refine ⟨h.1, h.2.1, h.2.2.1, fun h0 => ?_⟩
  obtain ⟨b, off, e, hc⟩ := h.2.2.2 h0
  exact ⟨b, off, e, fun j hj => (hb.cell (p := ⟨b, off + j, none⟩) (World.block_lt_of_cell? w _ (hc j hj))).trans (hc j hj)⟩
theorem ReadsB.bd {w : World} {A : Option Addr} {n : Nat} {l : List Int} (h : ReadsB w A n l) (j : Nat) : 0 ≤ l[j]?.getD 0 ∧ l[j]?.getD 0 ≤ 255 := by
  by_cases hj : j < l.length
  · rw [List.getElem?_eq_getElem hj]
    exact h.2.2.1 _ (List.getElem_mem hj)
  · rw [List.getElem?_eq_none (by omega)]
    simp

variable {H : Type} {enc : TypeId × Value → H}
set_option maxRecDepth 100000 in
theorem bytes_arg {W : World} {base : Nat} {v : Value} {d : DataW H} {p : List MemPlace} (h : Value.okWide Try.prog W .any base 70 v) (hd : DataW.Trod enc Try.prog W 0 (fun _ => true) true 70 v d p) :
    ∃ A n cap l, v = .slice A n cap ∧ ReadsB W A n l := by
  obtain ⟨A, n, cap, rfl⟩ := okWide_slice Try.underlying70 h
  obtain ⟨fuel, hf⟩ := hd
  rcases open_ints Try.underlying70 Try.underlying5 (by kernel_rfl) hf with ⟨hcs, _⟩ | ⟨a, len, cap', zs, hcs, _, hle, hmax, hall, _, hcell, hwf⟩
  · simp [Value.cells] at hcs
    obtain ⟨rfl, rfl, rfl⟩ := hcs
    exact ⟨none, 0, 0, [], rfl, rfl, by omega, fun x hx => by simp at hx, fun h => absurd h (by omega)⟩
  · simp [Value.cells] at hcs
    obtain ⟨rfl, rfl, rfl⟩ := hcs
    simp only [if_true] at hall
    refine ⟨some a, n, cap, zs.take n, rfl, by rw [List.length_take]; omega, by unfold maxLen at hmax; omega, fun x hx => bounds_u8 (hwf x (List.mem_of_mem_take hx)), fun h0 => ?_⟩
    obtain ⟨b, off, rfl, hc⟩ := ints_at hcell (by omega)
    refine ⟨b, off, rfl, fun j hj => ?_⟩
    rw [hc j (by omega), List.getElem?_take_of_lt hj, List.getD_eq_getElem?_getD]

theorem ferr_all {ck : Int → Int} {l : List Int} (h : ∀ x ∈ l, ck x = 0) : ferr ck l = 0 := by
  induction l with
  | nil => rfl
  | cons x r ih =>
    simp only [ferr]
    rw [if_pos (h x (by simp))]
    exact ih fun y hy => h y (by simp [hy])

/-- Times that are cut, and played again. -/
theorem cutF_all {c t lo hi g : Int} {l : List Int} (hs : Sound c t lo hi) (h0 : lo ≤ g) (h1 : g ≤ hi) (hl : l.length ≤ 100) (hx : ∀ x ∈ l, 0 ≤ x ∧ x ≤ 1000 * t) : cutF c t lo hi g l = (l.map (plc c t g), 0) := by
  unfold cutF
  rw [if_pos ⟨hs, h0, h1⟩, if_neg (by omega), if_pos (ferr_all (ck := timedF t) fun x h => if_pos (hx x h))]
theorem playF_all {c t lo hi g : Int} {l : List Int} (hs : Sound c t lo hi) (h0 : lo ≤ g) (h1 : g ≤ hi) (hl : l.length ≤ 100) (hx : ∀ x ∈ l, 0 ≤ x ∧ x ≤ 1000 * t) : playF c t lo hi g (l.map (plc c t g)) = (l, 0) := by
  have ht := hs.2.1.1
  have hg : 0 ≤ g := by have := hs.2.2; omega
  have hb : ∀ x ∈ l, arr c t g (plc c t g x) = x := fun x h => arr_back ht hs.2.1.2 hg (hx x h).1 (hx x h).2
  unfold playF
  rw [if_pos ⟨hs, h0, h1⟩, if_neg (by simp; omega), if_pos]
  · rw [List.map_map]
    congr 1
    have : l.map (arr c t g ∘ plc c t g) = l.map id := List.map_congr_left fun x h => hb x h
    rw [this, List.map_id]
  · refine ferr_all fun y hy => ?_
    obtain ⟨x, h, rfl⟩ := List.mem_map.1 hy
    have hxx := hx x h
    have h2 := (plc_bd ht hs.2.1.2 hs.1.2 hg (by have := hs.2.2; omega) hxx.1 hxx.2).1
    unfold placedF
    rw [if_neg (by omega), hb x h, if_neg (by omega)]
end Go.Proofs.Ytphbiaagmhhhbaa
