/- The contract of mapped. -/
import Derived.Test.YtphbiaagmhhhbaaSI
import Derived.Maps.AppendAt
import Derived.Deep.AppendLies
namespace Go.Proofs.Ytphbiaagmhhhbaa
open Go.RowKit Go.Lib Go.Shelf

/-- A slice that reads as a list of whole numbers. -/
def Reads (w : World) (A : Option Addr) (n : Nat) (l : List Int) : Prop :=
  l.length = n ∧ n ≤ 17592186044416 ∧ (0 < n → ∃ b off, A = some ⟨b, off, none⟩ ∧ ∀ j, j < n → w.cell? ⟨b, off + j, none⟩ = some (.int .i64 (l[j]?.getD 0)))

theorem Reads.later {w w1 : World} {A : Option Addr} {n : Nat} {l : List Int} (h : Reads w A n l) (hb : Below w.heap.size w w1) : Reads w1 A n l := by
  refine ⟨h.1, h.2.1, fun h0 => ?_⟩
  obtain ⟨b, off, e, hc⟩ := h.2.2 h0
  exact ⟨b, off, e, fun j hj => (hb.cell (p := ⟨b, off + j, none⟩) (World.block_lt_of_cell? w _ (hc j hj))).trans (hc j hj)⟩

def nums (l : List Int) : List Value := l.map (Value.int .i64)
def outs (F : Int → Int) (l : List Int) (k : Nat) : List Int := (l.take k).map F

theorem own_reads {w : World} {base n : Nat} {e : TypeId} {v : Value} {xs : List Int} (h : w.ownsRow base e 1 v n (nums xs)) (hn : n ≤ 17592186044416) : ∃ A c, v = .slice A n c ∧ Reads w A n xs := by
  have hl : xs.length = n := by have := h.1; simpa [nums] using this
  rcases Nat.eq_zero_or_pos n with h0 | h0
  · subst h0
    rcases h.2 with ⟨rfl, _⟩ | ⟨g, cap, cur, rfl, _⟩
    · exact ⟨none, 0, rfl, hl, by omega, fun hp => absurd hp (by omega)⟩
    · exact ⟨_, cap, rfl, hl, by omega, fun hp => absurd hp (by omega)⟩
  · obtain ⟨g, cap, rfl, _, _⟩ := h.form h0
    refine ⟨_, cap, rfl, hl, hn, fun _ => ⟨g, 0, rfl, fun j hj => ?_⟩⟩
    have := h.cells (g := g) rfl j (.int .i64 (xs[j]?.getD 0)) (by simp [nums, List.getElem?_map, List.getElem?_eq_getElem (show j < xs.length by omega)])
    simp only [Addr.add] at this
    split at this
    · rename_i hj0; subst hj0; simpa using this
    · simpa using this

/-- What is owned lives on behind a call. -/
theorem own_later {w w1 : World} {base n : Nat} {e : TypeId} {size : Nat} {v : Value} {xs : List Value} (h : w.ownsRow base e size v n xs) (hb : Below w.heap.size w w1) : w1.ownsRow base e size v n xs :=
  h.kept (row := none) ⟨hb.os, hb.tape, hb.output, hb.size, fun i hi _ => hb.block i hi⟩ (by cases v.ownBlock <;> simp)
theorem own_base' {w : World} {base n : Nat} {e : TypeId} {size : Nat} {v : Value} {xs : List Value} (h : w.ownsRow base e size v n xs) (k : Nat) (hk : v.ownBlock = some k) : base ≤ k := by
  rcases h.2 with ⟨rfl, _⟩ | ⟨g, cap, cur, rfl, hb, _⟩
  · simp [Value.ownBlock] at hk
  · have : g = k := by simpa [Value.ownBlock] using hk
    omega
theorem take_snoc (l : List Int) (F : Int → Int) (k : Nat) (h : k < l.length) : nums (outs F l (k + 1)) = nums (outs F l k) ++ [Value.int .i64 (F (l[k]?.getD 0))] := by
  unfold nums outs
  rw [List.take_succ_eq_append_getElem h, List.map_append, List.map_append, List.getElem?_eq_getElem h]
  rfl

/-- The first error of a list. -/
def ferr (ck : Int → Int) : List Int → Int
  | [] => 0
  | x :: r => if ck x = 0 then ferr ck r else ck x

theorem ferr_hit {ck : Int → Int} {l : List Int} {k : Nat} (hk : k < l.length) (h0 : ∀ j, j < k → ck (l[j]?.getD 0) = 0) (h1 : ck (l[k]?.getD 0) ≠ 0) : ferr ck l = ck (l[k]?.getD 0) := by
  induction l generalizing k with
  | nil => simp at hk
  | cons x r ih =>
    cases k with
    | zero => simp only [List.getElem?_cons_zero, Option.getD_some] at h1 ⊢; simp only [ferr]; rw [if_neg h1]
    | succ k =>
      have hx := h0 0 (by omega)
      simp only [List.getElem?_cons_zero, Option.getD_some] at hx
      simp only [ferr]; rw [if_pos hx]
      simp only [List.getElem?_cons_succ] at h1 ⊢
      exact ih (by simpa using hk) (fun j hj => by have := h0 (j + 1) (by omega); simpa using this) h1
theorem ferr_none {ck : Int → Int} {l : List Int} (h0 : ∀ j, j < l.length → ck (l[j]?.getD 0) = 0) : ferr ck l = 0 := by
  induction l with
  | nil => rfl
  | cons x r ih =>
    have hx := h0 0 (by simp)
    simp only [List.getElem?_cons_zero, Option.getD_some] at hx
    simp only [ferr]; rw [if_pos hx]
    exact ih (fun j hj => by have := h0 (j + 1) (by simpa using hj); simpa using this)

/-- What is asked of a bound function over the numbers of a list. -/
def FnOver (g : Nat) (pre : Array Value) (ok : Int → Prop) (F : Int → Int) (w : World) : Prop :=
  ∀ W x, Below w.heap.size w W → ok x → Calls Try.prog g (pre.push (.int .i64 x)) W fun e W' => e = .returned (.int .i64 (F x)) ∧ Below W.heap.size W W'

theorem mapped_many (n c : Nat) (A : Option Addr) (v1 v2 : Value) (w : World) (hn : 100 < n) (hm : n ≤ 17592186044416) : Gives 51 #[.slice A n c, v1, v2] (.tuple #[.slice none 0 0, .int .i64 5]) w := by
  unfold Gives
  go_enter Try.func51, Try.ntmps51
  go_wp2
  go_ret2
  exact ⟨rfl, Below.refl _ _⟩

theorem info3 : (Try.prog.info? 3).map (fun i => (i.zero, i.size, i.bytes)) = some (some (.int .i64 0), 1, 8) := by kernel_rfl

def MapOut (ck F : Int → Int) (l : List Int) (w : World) (e : Ending) (w' : World) : Prop :=
  (∃ A n c xs, e = .returned (.tuple #[.slice A n c, .int .i64 (ferr ck l)]) ∧ xs = (if ferr ck l = 0 then l.map F else []) ∧ Reads w' A n xs) ∧ Below w.heap.size w w'

set_option maxRecDepth 100000 in
theorem mapped_calls (g1 g2 : Nat) (p1 p2 : Array Value) (e1 : ∀ args w, (callFunc g1 args).run Try.prog w = .ok (.enter g1 args) w) (e2 : ∀ args w, (callFunc g2 args).run Try.prog w = .ok (.enter g2 args) w)
    (ck F : Int → Int) (n c : Nat) (A : Option Addr) (l : List Int) (w : World) (hl : Reads w A n l) (hn : n ≤ 100)
    (h1 : FnOver g1 p1 (fun x => x ∈ l) ck w) (h2 : FnOver g2 p2 (fun x => x ∈ l ∧ ck x = 0) F w) :
    Calls Try.prog 51 #[.slice A n c, .func (.func g1) p1 #[], .func (.func g2) p2 #[]] w (MapOut ck F l w) := by
  obtain ⟨i0, hi, hz0, hz1, hz2⟩ := info_parts info3
  have hd : decide ((100 : Int) < (n : Int)) = false := decide_eq_false (by omega)
  have hlen := hl.1
  have HL := Lib.hid hl
  have H1 := Lib.hid h1
  have H2 := Lib.hid h2
  clear hl h1 h2
  go_enter Try.func51, Try.ntmps51
  go_wp2_with fail
  go_loopw [8, 17] (fun v i wr => ∃ k : Nat, k ≤ n ∧ i = .int .i64 k ∧ Aside (wr.ownsRow w.heap.size 3 1 v k (nums (outs F l k))) ∧ Aside (∀ j, j < k → ck (l[j]?.getD 0) = 0) ∧ Aside (Below w.heap.size w wr))
    (fun _ i _ => n - (intOf i).toNat)
  case atStart => exact ⟨0, Nat.zero_le _, rfl, World.ownsRow_nil _ _ _ _, fun j hj => absurd hj (Nat.not_lt_zero _), Below.refl _ _⟩
  case round =>
    obtain ⟨k, hk, rfl, HO, HE, HB⟩ := hrel
    by_cases hlt : k < n
    · have hlt' : (k : Int) < (n : Int) := by omega
      obtain ⟨b, off, rfl, hc⟩ := HL.out.2.2 (by omega)
      have hc1 := (HB.out.cell (p := ⟨b, off + k, none⟩) (World.block_lt_of_cell? w _ (hc k hlt))).trans (hc k hlt)
      clear hc
      have hmem : l[k]?.getD 0 ∈ l := by rw [List.getElem?_eq_getElem (by omega)]; simp
      have call1 := H1.out wr (l[k]?.getD 0) HB.out hmem
      have hs := take_snoc l F k (by omega)
      have hE : ck (l[k]?.getD 0) ≠ 0 → ferr ck l = ck (l[k]?.getD 0) := fun h => ferr_hit (by omega) HE.out h
      have hE' : ck (l[k]?.getD 0) = 0 → ∀ j, j < k + 1 → ck (l[j]?.getD 0) = 0 := fun h j hj => by
        by_cases e : j = k
        · rw [e]; exact h
        · exact HE.out j (by omega)
      generalize l[k]?.getD 0 = x at hc1 hmem call1 hs hE hE'
      have HS := Lib.hid hs
      have HX := Lib.hid hE
      have HX' := Lib.hid hE'
      clear hs hE hE'
      by_cases hz : ck x = 0
      · rw [hz] at call1
        have Z := Lib.hid hz
        clear hz
        go_wp2_with (first
          | (go_at_fn g1; refine call1.mono ?_; rintro e w1 ⟨rfl, hb1⟩; have B1 := Lib.hid hb1; clear hb1))
        have hB1 : Below w.heap.size w w1 := HB.out.trans (B1.out.mono HB.out.size)
        refine (H2.out w1 x hB1 ⟨hmem, Z.out⟩).mono ?_
        rintro e w2 ⟨rfl, hb2⟩
        have hB2 := Lib.hid (hB1.trans (hb2.mono hB1.size))
        have hO2 := own_later (own_later HO.out B1.out) hb2
        have hsz := hB2.out.size
        clear hb2 call1 hmem hB1
        go_wp2_with (first
          | (at_builtin; refine wpList_append_own _ rfl _ _ 32 rfl w.heap.size 3 i0 (.int .i64 0) 1 8 Try.underlying32 hi hz0 hz1 hz2 rfl (by decide) _ _ _ rfl (hO2.alloc _) ⟨w2.heap.size, 0, none⟩ 1 1 [.int .i64 (F x)] rfl rfl (cell_one_new _ _ _) (by intro u hu; simp at hu; subst hu; rfl) ?c3 ?c4 ?c5 ?_))
        case c3 => unfold maxLen; omega
        case c4 => omega
        case c5 => simp; omega
        intro v' w3 hown' hgrow _
        have HO' := Lib.hid hown'
        have HB3 := Lib.hid ((hB2.out.alloc hB2.out.size _).grown hgrow (by simp; omega) (by intro j hj; exact own_base' hO2 j hj))
        clear hown' hgrow hO2
        go_wp2
        go_roundw
        case measure => simp [intOf]; omega
        case rel => exact ⟨k + 1, by omega, by go_num, (show Aside _ from by rw [HS.out]; exact HO'.out), HX'.out Z.out, HB3.out⟩
      · have Z := Lib.hid hz
        have hz0 : (ck x == 0) = false := beq_eq_false_iff_ne.2 hz
        have hz1 : (ck x != 0) = true := bne_iff_ne.2 hz
        clear hz
        go_wp2_with (first
          | (go_at_fn g1; refine call1.mono ?_; rintro e w1 ⟨rfl, hb1⟩; have B1 := Lib.hid hb1; clear hb1))
        go_ret2
        have he := HX.out Z.out
        exact ⟨⟨none, 0, 0, _, by rw [he]; rfl, rfl, by rw [if_neg (by rw [he]; exact Z.out)]; exact ⟨rfl, by omega, fun h => absurd h (by omega)⟩⟩, HB.out.trans (B1.out.mono HB.out.size)⟩
    · obtain rfl : k = n := by omega
      have he := Lib.hid (ferr_none (ck := ck) (l := l) (fun j hj => HE.out j (by omega)))
      have HO2 := HO.out
      rw [show outs F l k = l.map F from by unfold outs; rw [← hlen, List.take_length]] at HO2
      obtain ⟨A', c', rfl, hR⟩ := own_reads HO2 (by omega)
      have HR := Lib.hid hR
      clear hR HO2
      go_wp2
      go_ret2
      exact ⟨⟨A', k, c', _, by rw [he.out]; rfl, rfl, by rw [if_pos he.out]; exact HR.out⟩, HB.out⟩
end Go.Proofs.Ytphbiaagmhhhbaa
