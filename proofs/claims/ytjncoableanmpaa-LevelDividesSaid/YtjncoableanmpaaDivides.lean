/- LevelDivides: the best division has the error that is stated: the call returns true at every coding and number of players. -/
import Derived.Test.YtjncoableanmpaaQT
import Derived.Test.YtjncoableanmpaaQD
import Derived.Test.YtjncoableanmpaaSX
namespace Go.Proofs.Ytjncoableanmpaa
open Go.ChangeShapes Go.WideShapes Go.ChangeAt Go.RowKit Go.Lib Go.Shelf

set_option maxRecDepth 1000000 in
set_option maxHeartbeats 8000000 in
theorem divides_more (A : Option Addr) (n c : Nat) (pl : Int) (w : World) (hn : 40 < n ∨ (10 < n ∧ n ≤ 24)) : Gives 5 #[.slice A n c, .int .i64 pl] (.bool true) w := by
  unfold Gives
  by_cases h40 : 40 < n
  · have h40' : (40 : Int) < (n : Int) := by omega
    go_enter Try.func5, Try.ntmps5
    go_wp2_with (go_at_call 11; (with_reducible refine (Gives.c (works_calls _)).mono ?_); rintro e w1 ⟨rfl, hb⟩)
    go_ret
    exact ⟨rfl, hb⟩
  · have h40' : ¬ (40 : Int) < (n : Int) := by omega
    have h10 : (10 : Int) < (n : Int) := by omega
    have h24 : (n : Int) ≤ 24 := by omega
    go_enter Try.func5, Try.ntmps5
    go_wp2_with (go_at_call 11; (with_reducible refine (Gives.c (works_calls _)).mono ?_); rintro e w1 ⟨rfl, hb⟩)
    go_ret
    exact ⟨rfl, hb⟩

set_option maxRecDepth 1000000 in
set_option maxHeartbeats 8000000 in
theorem divides_bad (A : Option Addr) (n c : Nat) (l : List Cd) (pl e : Int) (w : World) (hn : n ≤ 40 ∧ ¬ (10 < n ∧ n ≤ 24)) (hl : ReadsC w A n l) (he : ¬ e = 0)
    (h21 : ∀ W, ReadsC W A n l → Gives 21 #[.slice A n c, .int .i64 pl] (.tuple #[.slice none 0 0, .agg #[.int .i64 0, .int .i64 0], .int .i64 e]) W)
    (h22 : ∀ A c W, ReadsC W A n l → n ≤ c → Gives 22 #[.slice A n c, .int .i64 pl] (.tuple #[.slice none 0 0, .agg #[.int .i64 0, .int .i64 0], .int .i64 e]) W) :
    Gives 5 #[.slice A n c, .int .i64 pl] (.bool true) w := by
  unfold Gives
  have I : Held w (fun W => Below w.heap.size w W ∧ ReadsC W A n l) := (Held.from (Below.refl _ _) (Nat.le_refl _)).with (.readsC hl)
  have H21 := Lib.hid h21
  have H22 := Lib.hid h22
  have hgt := guard24
  have hst := stood24
  have he1 : (e != 0) = true := by simp [he]
  have h40 : ¬ (40 : Int) < (n : Int) := by omega
  have hn1000 : n ≤ 1000 := by omega
  have HN := Lib.hid hn
  clear hl h21 h22 hn
  go_enter Try.func5, Try.ntmps5
  go_upto_region 1 with fail
  go_cut [26] (fun s wx => s = .bool false ∧ wx = w)
  case first =>
    by_cases h10 : 10 < n
    · have h10' : (10 : Int) < (n : Int) := by omega
      have h24' : ¬ (n : Int) ≤ 24 := by have := HN.out; omega
      go_wp2_with fail
      go_meet
      exact ⟨rfl, rfl⟩
    · have h10' : ¬ (10 : Int) < (n : Int) := by omega
      go_wp2_with fail
      go_meet
      exact ⟨rfl, rfl⟩
  case rest =>
    obtain ⟨rfl, rfl⟩ := hcut
    go_upto_region 6 with (first
      | (go_at_call 12; (with_reducible refine (codes_calls _ _ _ _ _ I.now.2 hn1000).mono ?_); rintro e' w2 ⟨B, c', rfl, ⟨hr, hc'⟩, hb⟩; replace I := (I.next hb).with (.readsC hr); clear hb hr)
      | (go_at_call 21; (with_reducible refine (Gives.c (H21.out _ I.now.1.2)).mono ?_); rintro e' w3 ⟨rfl, hb⟩; replace I := (I.next hb).allocB [.int .i64 0, .int .i64 0] 24; clear hb)
      | (go_at_call 22; (with_reducible refine (Gives.c (H22.out _ _ (World.alloc _ _) I.now.1.2 hc')).mono ?_); rintro e' w4 ⟨rfl, hb⟩; replace I := (I.next hb).allocB [.int .i64 0, .int .i64 0] 24; clear hb; have q6 := I.now.1.2.two; have q8 := I.now.2.two))
    generalize World.alloc _ _ = wz at I q6 q8 ⊢
    go_wp2_with (go_at_call 11; (with_reducible refine (Gives.c (works_calls _)).mono ?_); rintro e' w7 ⟨rfl, hb⟩; replace I := I.next hb; clear hb)
    go_ret
    exact ⟨rfl, I.now.1.1.1.1⟩

set_option maxRecDepth 1000000 in
set_option maxHeartbeats 8000000 in
theorem divides_good (b off n c p : Nat) (l : List Cd) (x : Rat) (s : List Int) (w : World) (hn : n ≤ 10) (hl : ReadsC w (some ⟨b, off, none⟩) n l)
    (h21 : ∀ W, ReadsC W (some ⟨b, off, none⟩) n l → Calls Try.prog 21 #[.slice (some ⟨b, off, none⟩) n c, .int .i64 (p : Int)] W fun e w' => ∃ sb so sc, e = .returned (.tuple #[.slice (some ⟨sb, so, none⟩) p sc, .agg #[.int .i64 x.num, .int .i64 (x.den : Int)], .int .i64 0]) ∧ Reads w' (some ⟨sb, so, none⟩) p s ∧ Below W.heap.size W w')
    (h22 : ∀ A c W, ReadsC W A n l → n ≤ c → Calls Try.prog 22 #[.slice A n c, .int .i64 (p : Int)] W fun e w' => ∃ A' m c', e = .returned (.tuple #[.slice A' m c', .agg #[.int .i64 x.num, .int .i64 (x.den : Int)], .int .i64 0]) ∧ Below W.heap.size W w')
    (h23 : ∀ A c sb so sc W, ReadsC W A n l → n ≤ c → Reads W (some ⟨sb, so, none⟩) p s → Gives 23 #[.slice A n c, .slice (some ⟨sb, so, none⟩) p sc, .int .i64 (p : Int)] (.tuple #[.agg #[.int .i64 x.num, .int .i64 (x.den : Int)], .bool true]) W) :
    Gives 5 #[.slice (some ⟨b, off, none⟩) n c, .int .i64 (p : Int)] (.bool true) w := by
  unfold Gives
  have I : Held w (fun W => Below w.heap.size w W ∧ ReadsC W (some ⟨b, off, none⟩) n l) := (Held.from (Below.refl _ _) (Nat.le_refl _)).with (.readsC hl)
  have H21 := Lib.hid h21
  have H22 := Lib.hid h22
  have H23 := Lib.hid h23
  have hgt := guard24
  have hst := stood24
  have h40 : ¬ (40 : Int) < (n : Int) := by omega
  have h10' : ¬ (10 : Int) < (n : Int) := by omega
  have hn1000 : n ≤ 1000 := by omega
  clear hl h21 h22 h23 hn
  go_enter Try.func5, Try.ntmps5
  go_upto_region 6 with (first
    | (go_at_call 12; (with_reducible refine (codes_calls _ _ _ _ _ I.now.2 hn1000).mono ?_); rintro e' w2 ⟨B, c', rfl, ⟨hr, hc'⟩, hb⟩; replace I := (I.next hb).with (.readsC hr); clear hb hr)
    | (go_at_call 21; (with_reducible refine (H21.out _ I.now.1.2).mono ?_); rintro e' w3 ⟨sb, so, sc, rfl, hr, hb⟩; replace I := ((I.next hb).with (.reads hr)).allocB [.int .i64 x.num, .int .i64 (x.den : Int)] 24; clear hb hr)
    | (go_at_call 22; (with_reducible refine (H22.out _ _ (World.alloc _ _) I.now.1.1.2 hc').mono ?_); rintro e' w4 ⟨A', m, c2, rfl, hb⟩; replace I := (I.next hb).allocB [.int .i64 x.num, .int .i64 (x.den : Int)] 24; clear hb; have q6 := I.now.1.2.two; have q8 := I.now.2.two))
  generalize World.alloc _ _ = wz at I q6 q8 ⊢
  go_upto_region 11 with (go_at_call 23; (with_reducible refine (Gives.c (H23.out _ _ _ _ _ _ I.now.1.1.1.2 hc' I.now.1.1.2)).mono ?_); rintro e' w5 ⟨rfl, hb⟩; replace I := (I.next hb).allocB [.int .i64 x.num, .int .i64 (x.den : Int)] 24; clear hb q6 q8; have q9 := I.now.1.2.two; have q10 := I.now.2.two)
  generalize World.alloc _ _ = wy at I q9 q10 ⊢
  go_wp2_with (go_at_call 11; (with_reducible refine (Gives.c (works_calls _)).mono ?_); rintro e' w7 ⟨rfl, hb⟩; replace I := I.next hb; clear hb)
  go_ret
  exact ⟨rfl, I.now.1.1.1.1.1.1⟩

theorem divides_law (A : Option Addr) (n c : Nat) (l : List Cd) (pl : Int) (w : World) (hcap : n ≤ c) (hl : n ≤ 1000000 → ReadsC w A n l) : Gives 5 #[.slice A n c, .int .i64 pl] (.bool true) w := by
  by_cases hm : 40 < n ∨ (10 < n ∧ n ≤ 24)
  · exact divides_more A n c pl w hm
  · have hn : n ≤ 40 ∧ ¬ (10 < n ∧ n ≤ 24) := by omega
    have hr := hl (by omega)
    by_cases hk : chk l = 0
    · by_cases hp : 1 ≤ pl ∧ pl ≤ (n : Int)
      · have hg := chk_good hk
        have hlen := hr.1
        have hn0 : 0 < n := by have := hg.pos; omega
        have hn10 : n ≤ 10 := by have := hg.few; omega
        obtain ⟨b, off, e, _⟩ := hr.2.2 hn0
        subst e
        obtain ⟨p, rfl⟩ : ∃ p : Nat, pl = (p : Int) := ⟨pl.toNat, by omega⟩
        have hp1 : 1 ≤ p ∧ p ≤ n := by omega
        have hdv : Dv l (p - 1) n (dF l (p - 1) n).2 (dF l (p - 1) n).1 := dF_dv (by omega)
        refine divides_good b off n c p l (dF l (p - 1) n).1 (dF l (p - 1) n).2 w hn10 hr (fun W h => ?_) (fun A c W h hc => ?_) (fun A c sb so sc W h hc hs => ?_)
        · refine (divide_calls (p := p) W h hk hp1 hcap).mono fun e w' ⟨⟨s, he, hrd⟩, hb⟩ => ?_
          have hl := dv_len hdv
          have hsm : s.m = p := by rw [← hrd.1.1, hl]; omega
          refine ⟨s.b, s.o, s.c, ?_, ?_, hb⟩
          · rw [he, ← hsm]
          · rw [← hsm]
            exact hsm ▸ hrd.1
        · obtain ⟨b', o', e, _⟩ := h.2.2 hn0
          subst e
          refine (rdivide_calls (p := p) W h hk hp1 hc).mono fun e w' ⟨⟨A', m, c', he⟩, hb⟩ => ⟨A', m, c', he, hb⟩
        · obtain ⟨b', o', e, _⟩ := h.2.2 hn0
          subst e
          have := rworst_calls (m := p - 1) (sc := sc) W h hg hc (by rw [show p - 1 + 1 = p by omega]; exact hs) hdv
          rw [show p - 1 + 1 = p by omega] at this
          exact this
      · exact divides_bad A n c l pl 3 w hn hr (by decide) (fun W h => divide_rng A n c l pl W h hk hp) (fun A c W h hc => rdivide_rng A n c l pl W h hc hk hp)
    · exact divides_bad A n c l pl (chk l) w hn hr hk (fun W h => divide_chk A n c l pl W h hk) (fun A c W h hc => rdivide_chk A n c l pl W h hc hk)

theorem divides_own : ownKnob Try.prog.godebug = none := by kernel_rfl

set_option maxRecDepth 100000 in
theorem divides_lifted (os : Os) (started : os.Started) (H : Type) (enc : TypeId × Value → H) :
    ReturnsInHanded {} Try.checked os 5 .any (Rows.levelDividesSpec.pre6 enc Try.prog Try.f5 Rows.levelDividesRow.domain false) (Rows.levelDividesSpec.post enc Try.prog Try.f5 false true false false) := by
  refine returnsInHanded_of_change (C := Try.checked) divides_own started (by kernel_rfl) Try.func5
    (ChangeSpec.witness6 (enc := enc) (C := Try.checked) false ⟨#[], #[.slice none 0 0, .int .i64 0], []⟩ 8 (by kernel_rfl) (by kernel_rfl) (by kernel_rfl) (by kernel_rfl)) ?_
  intro W base args ds gs before hval0 hW hcnd _
  have hval : ∀ (j : Nat) t v, Try.f5.params[j]? = some t → args[j]? = some v → Value.okWide Try.prog W .any base t v := hval0
  have hW' := hW
  obtain ⟨p, q, hA, hV, rfl, hfz, hnd⟩ := hW
  rw [Try.params5] at hA hval
  obtain ⟨v1, l1, d1, ds1, p1, q1, e1, rfl, rfl, h1, hA⟩ := trodAll_cons hA
  obtain ⟨v2, l2, d2, ds2, p2, q2, rfl, rfl, rfl, h2, hA⟩ := trodAll_cons hA
  obtain ⟨rfl, rfl, rfl⟩ := trodAll_nil hA
  obtain ⟨rfl, rfl⟩ := trodVars_none hV
  obtain rfl : args = #[v1, v2] := by cases args; simp_all
  obtain ⟨A, n, c, l, rfl, hn, hc, hl⟩ := codes_arg (hval 0 22 v1 rfl rfl) h1
  obtain ⟨pl, rfl⟩ := okWide_int Try.underlying3 (hval 1 3 v2 rfl rfl)
  refine (Gives.c (divides_law A n c l pl W hc hl)).mono fun e W' ⟨he, hb⟩ => ?_
  subst he
  exact ⟨_, rfl, post_true hW' rfl rfl rfl (by decide) hb⟩

theorem divides_over : Rows.levelDividesRow.holds Try.pinned (OpenSpec.ofChange Rows.levelDividesSpec) :=
  OpenClaim.holds_of_wide 5 Try.f5 rfl rfl rfl rfl rfl rfl rfl ⟨rfl, rfl, rfl, rfl, rfl⟩ rfl rfl rfl rfl rfl (by kernel_rfl) Try.func5 (by kernel_rfl)
    (of_decide_eq_true (by kernel_rfl)) (by unfold Func.isWrapper; first | (rw [if_pos (by decide +kernel)]; kernel_rfl) | (rw [if_neg (by decide +kernel)]; exact ⟨rfl, rfl⟩))
    (fun os started H enc _ => divides_lifted os started H enc)

/-- LevelDivides returns true. -/
theorem levelDivides_holds : Rows.LevelDividesSaid := divides_over
#print axioms levelDivides_holds
end Go.Proofs.Ytjncoableanmpaa
