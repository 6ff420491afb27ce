/- enough: all strips are tried. -/
import Derived.Test.YtpnkbjdeiedhlaaLR
import Derived.Sort.CutIn
namespace Go.Proofs.Ytpnkbjdeiedhlaa
open Go.RowKit Go.Lib Go.Shelf
open St
attribute [local go_sem] Oper.semAt_some

/-- What is known of at most n strips is right. -/
def Ok (n : Nat) (f : Kn) : Prop := ∀ s m b, m ≤ n → f s m = some b → b = winB m s
/-- The map B: right up to n strips, and beyond that as f0. -/
def Mp (n B : Nat) (f0 : Kn) (W : World) : Prop := ∃ f, MapD W B f ∧ Ok n f ∧ ∀ s m, n < m → f s m = f0 s m
theorem Mp.kept {n B : Nat} {f0 : Kn} {W X : World} (h : Mp n B f0 W) (hb : X.heap[B]? = W.heap[B]?) : Mp n B f0 X := by
  obtain ⟨f, h1, h2⟩ := h
  exact ⟨f, h1.kept hb, h2⟩
theorem Mp.lt {n B : Nat} {f0 : Kn} {W : World} (h : Mp n B f0 W) : B < W.heap.size := by
  obtain ⟨f, h1, h2⟩ := h
  exact h1.lt
theorem grow_of {w w' : World} (h : Below w.heap.size w w') (row : Option Nat) : w.grownBy w' row := ⟨h.os, h.tape, h.output, h.size, fun k hk _ => h.block k hk⟩
/-- What the rounds find. -/
structure Env (w0 : World) (B N : Nat) (s : St) (Q Bs : Nat) (W : World) : Prop where
  hp : Hp W w0.heap.size [.map (some B)] 97
  hs : Hp W (w0.heap.size + 1) s.cs 80
  hn : Hp W (w0.heap.size + 1 + 1) [.int .i64 (N : Int)] 3
  hq : Hp W Q [.int .i64 (s.a : Int), .int .i64 (s.b : Int), .int .i64 (s.c : Int), .int .i64 (N : Int)] 111
  hb : Hp W Bs s.cs 80
  hne : B < w0.heap.size ∧ w0.heap.size ≤ Q ∧ w0.heap.size ≤ Bs
  hg : w0.grownBy W (some B)
theorem Env.grown {w0 : World} {B N : Nat} {s : St} {Q Bs : Nat} {W X : World} (h : Env w0 B N s Q Bs W) (hg : W.grownBy X (some B)) : Env w0 B N s Q Bs X := by
  have hn := h.hne
  have hk : ∀ k, w0.heap.size ≤ k → some k ≠ some B := fun k hk e => by cases e; omega
  exact ⟨h.hp.kept hg (hk _ (Nat.le_refl _)), h.hs.kept hg (hk _ (by omega)), h.hn.kept hg (hk _ (by omega)), h.hq.kept hg (hk _ hn.2.1), h.hb.kept hg (hk _ hn.2.2), hn, h.hg.trans hg⟩
theorem Env.own {w0 : World} {B N : Nat} {s : St} {Q Bs b : Nat} (hb : w0.heap.size ≤ b) : OwnFrom b (fun (_ : List (Sx s)) W => Env w0 B N s Q Bs W) := by
  intro _ X Y row h hg hr
  have hne : ∀ k cs t, Hp X k cs t → some k ≠ row := fun k cs t hk e => by
    obtain ⟨_, o, ho, hc⟩ := hr k e.symm
    rw [show X.heap[k]? = _ from hk] at ho
    cases ho
    cases hc
  exact ⟨h.hp.kept hg (hne _ _ _ h.hp), h.hs.kept hg (hne _ _ _ h.hs), h.hn.kept hg (hne _ _ _ h.hn), h.hq.kept hg (hne _ _ _ h.hq), h.hb.kept hg (hne _ _ _ h.hb), h.hne,
    ⟨hg.os.trans h.hg.os, hg.tape.trans h.hg.tape, hg.output.trans h.hg.output, Nat.le_trans h.hg.size hg.size, fun k hk hkB => (hg.block k (Nat.lt_of_lt_of_le hk h.hg.size) (fun e => by have := (hr k e.symm).1; omega)).trans (h.hg.block k hk hkB)⟩⟩
theorem Mp.own {s : St} {n B b : Nat} {f0 : Kn} (hB : B < b) : OwnFrom b (fun (_ : List (Sx s)) W => Mp n B f0 W) := by
  intro _ X Y row h hg hr
  exact h.kept (hg.block B h.lt (fun e => by have := (hr B e.symm).1; omega))
/-- Is a strip a good one? -/
def both (m : Nat) (s x : St) : Bool := winB m (s.aft x) && winB m (s.aft (s.rst x))
theorem Mp.close {s : St} {m N B : Nat} {f g F : Kn} {X : World} {b : Bool} (hN : N = m + 1) (hok : Ok N f) (hF : MapD X B F) (h1 : F s N = some b) (hb : b = winB N s) (h2 : ∀ s' k, ¬ (s' = s ∧ k = N) → F s' k = g s' k) (hg : Ok m g) (h3 : ∀ s' k, m < k → g s' k = f.put s N false s' k) : Mp N B f X := by
  refine ⟨F, hF, fun s' k b' hk hb' => ?_, fun s' k hk => ?_⟩
  · by_cases hsk : s' = s ∧ k = N
    · obtain ⟨rfl, rfl⟩ := hsk
      rw [h1] at hb'
      cases hb'
      exact hb
    · rw [h2 s' k hsk] at hb'
      by_cases hkm : k ≤ m
      · exact hg s' k b' hkm hb'
      · rw [h3 s' k (by omega)] at hb'
        unfold Kn.put at hb'
        rw [if_neg hsk] at hb'
        exact hok s' k b' hk hb'
  · rw [h2 s' k (by omega), h3 s' k (by omega)]
    unfold Kn.put
    rw [if_neg (by omega)]
theorem both_true {m N : Nat} {s : St} (hN : N = m + 1) {x : Sx s} (h : both m s x.1 = true) : winB N s = true := by
  subst hN
  unfold both at h
  rw [Bool.and_eq_true] at h
  exact winB_iff.2 (.inr ⟨x.1, x.2, winB_iff.1 h.1, winB_iff.1 h.2⟩)
theorem both_false {m N : Nat} {s : St} (hN : N = m + 1) (h2 : 2 ≤ s.tubes) (h : ∀ x : Sx s, both m s x.1 = false) : winB N s = false := by
  subst hN
  cases hw : winB (m + 1) s with
  | false => rfl
  | true =>
    rcases winB_iff.1 hw with h1 | ⟨x, hx, h3, h4⟩
    · omega
    · have := h ⟨x, hx⟩
      unfold both at this
      rw [winB_iff.2 h3, winB_iff.2 h4] at this
      cases this
theorem grown_put {w W : World} {B D : Nat} (h : w.grownBy W (some B)) (hD : w.heap.size ≤ D) (o : Obj) : w.grownBy (W.putObj D o) (some B) :=
  ⟨h.os, h.tape, h.output, by simpa [World.putObj] using h.size, fun k hk hkB => (World.putObj_heap_other (by omega)).trans (h.block k hk hkB)⟩
theorem stepA {w X : World} (h : Below w.heap.size w X) (o : Obj) : Below w.heap.size w (X.alloc o) := h.alloc h.size o
theorem with_fact {p q : Prop} (h : p) (k : p → q) : q := k h
theorem Blk.kept {w w' : World} {row : Option Nat} {B : Nat} {cs : List Value} (h : Blk w B cs) (hg : w.grownBy w' row) (hne : some B ≠ row) : Blk w' B cs :=
  ⟨Nat.lt_of_lt_of_le h.lt hg.size, fun j v hv => (World.cell?_of_block (a := ⟨B, j, none⟩) (hg.block B h.lt hne)).trans (h.cell j v hv), fun j => (World.frozen?_of_block (a := ⟨B, j, none⟩) (hg.block B h.lt hne)).trans (h.free j)⟩
theorem stepS3 {w X : World} (h : Below w.heap.size w X) {B : Nat} (hB : w.heap.size ≤ B) (x y z : Value) : Below w.heap.size w (((X.setCell ⟨B, 0, none⟩ x).setCell ⟨B, 1, none⟩ y).setCell ⟨B, 2, none⟩ z) :=
  ((h.setCell (p := ⟨B, 0, none⟩) hB _).setCell (p := ⟨B, 1, none⟩) hB _).setCell (p := ⟨B, 2, none⟩) hB _
theorem Blk.other3 {w : World} {B B' : Nat} {cs : List Value} (h : Blk w B cs) (hne : B' ≠ B) (x y z : Value) : Blk (((w.setCell ⟨B', 0, none⟩ x).setCell ⟨B', 1, none⟩ y).setCell ⟨B', 2, none⟩ z) B cs :=
  ((h.other hne 0 x).other hne 1 y).other hne 2 z
/-- What a box holds ahead of its store, and behind. -/
def Holds (W : World) (b : Bool) (t : Value) (y : St) (X : World) : Prop := ∃ B, t = .pointer (some ⟨B, 0, none⟩) ∧ W.heap.size ≤ B ∧ Blk X B (if b = true then y.cs else [.int .i64 0, .int .i64 0, .int .i64 0])
theorem Holds.later {W : World} {b : Bool} {t : Value} {y : St} {X X' : World} (h : Holds W b t y X) (hb : Below X.heap.size X X') : Holds W b t y X' := by
  obtain ⟨B, h1, h2, h3⟩ := h
  exact ⟨B, h1, h2, h3.later hb⟩
/-- Between two operations of region 12. -/
def Inv12 (W : World) (s x z y1 y2 : St) (Fr : Value → Value → Value → Value → Value → Value → Value → Value → Value → Value → Act) (L : Nat → Bool) (a : Act) (X : World) : Prop := ∃ t11 t12 t42 t43 t44 t45 t46 t47 t48 t49 : Value, a = Fr t11 t12 t42 t43 t44 t45 t46 t47 t48 t49 ∧ Below W.heap.size W X ∧
  ((L 0 = true → t42 = s.v) ∧ (L 1 = true → t43 = x.v) ∧ (L 2 = true → t44 = y1.v) ∧ (L 3 = true → t45 = s.v)) ∧ ((L 4 = true → t46 = s.v) ∧ (L 5 = true → t47 = x.v) ∧ (L 6 = true → t48 = z.v) ∧ (L 7 = true → t49 = y2.v)) ∧
  ((L 8 = true → Holds W (L 10) t11 y1 X) ∧ (L 9 = true → Holds W (L 11) t12 y2 X)) ∧ ((L 10 = true → L 8 = true) ∧ (L 11 = true → L 9 = true) ∧ (L 8 = true → L 9 = true → t11 ≠ t12))
/-- Between two operations of region 13. -/
def Inv13 (wc : World) (m N B P2 q1 q2 : Nat) (f1 : Kn) (y1 y2 : St) (c1 c2 c12 r1 c123 r2 c4 : Bool) (Fr : Value → Value → Value → Value → Value → Value → Value → Value → Value → Value → Value → Value → Value → Value → Value → Value → Value → Value → Value → Value → Value → Value → Value → Value → Value → Value → Value → Value → Value → Value → Value → Value → Act) (L : Nat → Bool) (a : Act) (X : World) : Prop := ∃ t50 t51 t52 t53 t54 t55 t56 t57 t58 t59 t60 t61 t62 t63 t64 t65 t66 t67 t68 t69 t70 t71 t72 t73 t74 t75 t76 t77 t78 t79 t80 t81 : Value, a = Fr t50 t51 t52 t53 t54 t55 t56 t57 t58 t59 t60 t61 t62 t63 t64 t65 t66 t67 t68 t69 t70 t71 t72 t73 t74 t75 t76 t77 t78 t79 t80 t81 ∧ (wc.grownBy X (some B) ∧ Mp m B f1 X) ∧ ((L 0 = true → t50 = y1.v) ∧ (L 1 = true → t51 = .int .i64 (N : Int)) ∧ (L 2 = true → t52 = .int .i64 (m : Int)) ∧ (L 3 = true → t53 = .int .i64 (q1 : Int)) ∧ (L 4 = true → t54 = .int .i64 (N : Int)) ∧ (L 5 = true → t55 = .int .i64 (m : Int)) ∧ (L 6 = true → t56 = .int .i64 (P2 : Int)) ∧ (L 7 = true → t57 = .bool c1)) ∧ ((L 8 = true → t58 = .bool c1) ∧ (L 9 = true → c1 = true → t59 = y2.v) ∧ (L 10 = true → c1 = true → t60 = .int .i64 (N : Int)) ∧ (L 11 = true → c1 = true → t61 = .int .i64 (m : Int)) ∧ (L 12 = true → c1 = true → t62 = .int .i64 (q2 : Int)) ∧ (L 13 = true → c1 = true → t63 = .int .i64 (N : Int)) ∧ (L 14 = true → c1 = true → t64 = .int .i64 (m : Int)) ∧ (L 15 = true → c1 = true → t65 = .int .i64 (P2 : Int))) ∧ ((L 16 = true → c1 = true → t66 = .bool c2) ∧ (L 17 = true → t67 = .bool c12) ∧ (L 18 = true → t68 = .bool c12) ∧ (L 19 = true → c12 = true → t69 = pv B) ∧ (L 20 = true → c12 = true → t70 = y1.v) ∧ (L 21 = true → c12 = true → t71 = .int .i64 (N : Int)) ∧ (L 22 = true → c12 = true → t72 = .int .i64 (m : Int)) ∧ (L 23 = true → c12 = true → t73 = .bool r1)) ∧ ((L 24 = true → t74 = .bool c123) ∧ (L 25 = true → t75 = .bool c123) ∧ (L 26 = true → c123 = true → t76 = pv B) ∧ (L 27 = true → c123 = true → t77 = y2.v) ∧ (L 28 = true → c123 = true → t78 = .int .i64 (N : Int)) ∧ (L 29 = true → c123 = true → t79 = .int .i64 (m : Int)) ∧ (L 30 = true → c123 = true → t80 = .bool r2) ∧ (L 31 = true → t81 = .bool c4))
theorem eg83 : ∀ args w, (callFunc 83 args).run Try.prog w = .ok (.enter 83 args) w := enters_of Try.func83 (by kernel_rfl) rfl

set_option maxRecDepth 100000 in
set_option maxHeartbeats 8000000 in
theorem enough_try {s : St} (h2 : 2 ≤ s.tubes ∧ s.tubes ≤ 16) {m N : Nat} (hN : N = m + 1) (hm : N ≤ 49) (hw : ¬ 2 ^ N < s.wt N) (B : Nat) {f : Kn} (hk : f s N = none) (w : World) (hM : MapD w B f) (hok : Ok N f)
    (IH : ∀ s' : St, s'.tubes ≤ 16 → ∀ f0 W, Mp m B f0 W → Calls Try.prog 68 #[pv B, s'.v, .int .i64 (m : Int)] W fun e W' => e = .returned (.bool (winB m s')) ∧ Mp m B f0 W' ∧ W.grownBy W' (some B)) :
    Calls Try.prog 68 #[pv B, s.v, .int .i64 (N : Int)] w fun e w' => e = .returned (.bool (winB N s)) ∧ Mp N B f w' ∧ w.grownBy w' (some B) := by
  have I := bx_start w B N s
  have h79 : ∀ W, Gives 79 #[s.v] (.int .i64 (s.tubes : Int)) W := fun W => tubes_calls (by omega) W
  have h58 : ∀ W, Gives 58 #[s.v, .int .i64 (N : Int)] (.int .i64 (s.wt N : Int)) W := fun W => weight_calls (by omega) (by omega) W
  have hlk : ∀ X, Below w.heap.size w X → (Instr.lookup 95 (.map (some B)) (.agg #[.int .i64 (s.a : Int), .int .i64 (s.b : Int), .int .i64 (s.c : Int), .int .i64 (N : Int)]) true).run Try.prog X = .ok (.tuple #[.bool false, .bool false]) X := fun X hX => by
    have := (hM.later hX).look (s := s) (n := N) (by omega) (by omega) true
    rw [hk] at this
    simpa using this
  have hup : ∀ X, Below w.heap.size w X → ∃ w', (Instr.mapUpdate 95 (.map (some B)) (.agg #[.int .i64 (s.a : Int), .int .i64 (s.b : Int), .int .i64 (s.c : Int), .int .i64 (N : Int)]) (.bool false)).run Try.prog X = .ok () w' ∧ MapD w' B (f.put s N false) ∧ X.grownBy w' (some B) ∧ w'.heap.size = X.heap.size := fun X hX => (hM.later hX).write (by omega) (by omega) false
  have HLK := Lib.hid hlk
  have HUP := Lib.hid hup
  have hBlt := hM.lt
  obtain ⟨P, hP⟩ : ∃ P, P = 2 ^ N := ⟨_, rfl⟩
  have hPk : P ≤ 562949953421312 := by rw [hP]; exact Nat.le_trans (Nat.pow_le_pow_right (by omega) hm) (by decide)
  have wK : IntKind.i64.wrap ((2 : Int) ^ N) = (P : Int) := by
    have e : ((2 : Int) ^ N) = (P : Int) := by rw [hP, Int.natCast_pow]; rfl
    rw [e]
    exact i64_in (by omega) (by omega)
  have HW := Lib.hid hw
  rw [← hP] at hw
  have hn64 : (N : Int) ≤ 64 := by omega
  have H2 := Lib.hid h2
  generalize s.tubes = T at h2 h79
  generalize s.wt N = W at hw h58
  have H79 := Lib.hid h79
  have H58 := Lib.hid h58
  have hT : ¬ (T : Int) < 2 := by omega
  have hgt : ¬ (P : Int) < (W : Int) := by omega
  have HN := Lib.hid hN
  have HM := Lib.hid hM
  have HOK := Lib.hid hok
  have HIH := Lib.hid IH
  have HKN := Lib.hid hk
  clear h79 h58 hP hlk hk hM hup hok IH hN
  refine (callsIn_wide (n := 8)).1 ?_
  refine callsIn_of_wp_marks Try.func68 rfl trivial ?_ rfl
  simp only [Try.ntmps68, List.size_toArray, List.length_cons, List.length_nil, Nat.reduceAdd, Nat.reduceSub, Array.replicate_succ, Array.replicate_zero, List.push_toArray, List.append_toArray, List.nil_append, List.cons_append]
  refine wpIn_wide.2 ?_
  go_wp2_with fail
  generalize World.alloc _ _ = w1 at I ⊢
  have q0 := I.cells
  go_upto_region 3 with (go_at_call 79; (with_reducible refine (Gives.c (H79.out _)).mono ?_); rintro e' w2 ⟨rfl, hb⟩; replace I := I.later hb; clear hb q0)
  have HI := Lib.hid I
  have hS : ∀ X, Below w2.heap.size w2 X → Bx w B N s X := fun X hX => HI.out.later hX
  have HS := Lib.hid hS
  clear hS I
  go_cut [17] from 13 (fun s17 wx => s17 = .bool false ∧ Aside (Below w2.heap.size w2 wx))
  case first =>
    go_region_held3 (fun X => X.cell? ⟨w.heap.size, 0, none⟩ = some (.map (some B)) ∧ (X.cell? ⟨w.heap.size + 1, 0, none⟩ = some (.int .i64 (s.a : Int)) ∧ X.cell? ⟨w.heap.size + 1, 1, none⟩ = some (.int .i64 (s.b : Int)) ∧ X.cell? ⟨w.heap.size + 1, 2, none⟩ = some (.int .i64 (s.c : Int))) ∧ X.cell? ⟨w.heap.size + 1 + 1, 0, none⟩ = some (.int .i64 (N : Int)))
      (first
        | with_reducible exact (HS.out _ (Below.refl _ _).drew).cells
        | with_reducible exact (HS.out _ HBY.out).cells
        | fail)
      (first
        | (go_at_call 58; (with_reducible refine (Gives.c (H58.out _)).mono ?_); rintro e' wy ⟨rfl, hb⟩; have HBY := Lib.hid ((Below.refl w2.heap.size w2).drew.trans hb))
        | fail)
    all_goals
      go_wp2_with fail
      go_meet
      exact ⟨by simp, HBY.out⟩
  case rest =>
    obtain ⟨rfl, HB2⟩ := hcut
    have J := HS.out _ HB2.out
    have q0 := J.cells
    clear HS HI H79 H58
    go_upto_region 6 with fail
    have J2 := J.later ((Below.refl wc.heap.size wc).alloc (Nat.le_refl _) (.cells #[.int .i64 (s.a : Int), .int .i64 (s.b : Int), .int .i64 (s.c : Int), .int .i64 (N : Int)] 111))
    have b7 := Hp.new wc [.int .i64 (s.a : Int), .int .i64 (s.b : Int), .int .i64 (s.c : Int), .int .i64 (N : Int)] 111
    have hq7 : w.heap.size ≤ wc.heap.size := J.1.1.size
    clear q0
    change Bx w B N s (wc.alloc (.cells #[.int .i64 (s.a : Int), .int .i64 (s.b : Int), .int .i64 (s.c : Int), .int .i64 (N : Int)] 111)) at J2
    change Hp (wc.alloc (.cells #[.int .i64 (s.a : Int), .int .i64 (s.b : Int), .int .i64 (s.c : Int), .int .i64 (N : Int)] 111)) _ _ _ at b7
    generalize World.alloc _ _ = w5 at J2 b7 ⊢
    generalize wc.heap.size = Q at b7 hq7 ⊢
    have q0 := J2.cells
    have q7 := b7.blk.four
    have hlk := HLK.out _ J2.1.1
    obtain ⟨w6, hup, hM6, hg6, hs6⟩ := HUP.out _ J2.1.1
    have hE6 : ∀ Bs, Hp w6 Bs s.cs 80 → w.heap.size ≤ Bs → Env w B N s Q Bs w6 := fun Bs hb hB => by
      have hk : ∀ k, w.heap.size ≤ k → some k ≠ some B := fun k hk e => by cases e; omega
      exact ⟨J2.1.2.kept hg6 (hk _ (Nat.le_refl _)), J2.2.1.kept hg6 (hk _ (by omega)), J2.2.2.kept hg6 (hk _ (by omega)), b7.kept hg6 (hk _ hq7), hb, ⟨hBlt, hq7, hB⟩, (grow_of J2.1.1 _).trans hg6⟩
    have q4 := (J2.2.1.kept hg6 (fun e => by cases e; omega)).blk.three
    go_upto_region 10 with fail
    clear q0 q7 hlk hup HLK HUP
    go_cut [40] from 13 (fun s40 wx => s40 = .func (.func 83) #[] #[.pointer (some ⟨w5.heap.size, 0, none⟩)] ∧ wx = w6.alloc (.cells s.cs.toArray 80))
    case first =>
      go_wp2_with (go_at_call 67; (with_reducible refine (strips_calls _ _).mono ?_); rintro e' w7 ⟨rfl, rfl⟩)
      go_meet
      exact ⟨rfl, rfl⟩
    case rest =>
      obtain ⟨rfl, hwc⟩ := hcut
      obtain ⟨W0, hW0⟩ : ∃ W0, W0 = wc := ⟨_, rfl⟩
      rw [← hW0] at hwc ⊢
      have hE0 : Env w B N s Q w5.heap.size W0 := by
        rw [hwc]
        have hg : w6.grownBy (w6.alloc (.cells s.cs.toArray 80)) (some B) := World.grownBy_alloc _ _ _
        have h0 := hE6 
        have hk : ∀ k, w.heap.size ≤ k → some k ≠ some B := fun k hk e => by cases e; omega
        exact ⟨(J2.1.2.kept hg6 (hk _ (Nat.le_refl _))).kept hg (hk _ (Nat.le_refl _)), (J2.2.1.kept hg6 (hk _ (by omega))).kept hg (hk _ (by omega)), (J2.2.2.kept hg6 (hk _ (by omega))).kept hg (hk _ (by omega)), (b7.kept hg6 (hk _ hq7)).kept hg (hk _ hq7), by rw [← hs6]; exact Hp.new w6 s.cs 80, ⟨hBlt, hq7, J2.1.1.size⟩, ((grow_of J2.1.1 _).trans hg6).trans hg⟩
      have hM0 : Mp m B (f.put s N false) W0 := by
        rw [hwc]
        refine ⟨f.put s N false, hM6.later ((Below.refl _ _).alloc (Nat.le_refl _) _), fun s' k b hk hb => ?_, fun _ _ _ => rfl⟩
        unfold Kn.put at hb
        rw [if_neg (fun h => by have := HN.out; omega)] at hb
        exact HOK.out s' k b (by have := HN.out; omega) hb
      have hsz0 : w5.heap.size < W0.heap.size := by rw [hwc]; simp [hs6]
      generalize w5.heap.size = Bs at hE0 hsz0 ⊢
      have hBW : B < W0.heap.size := by have := hE0.hg.size; omega
      have hwW : w.heap.size ≤ W0.heap.size := hE0.hg.size
      clear hE6 hwc hM6 hg6 hs6 b7 J2 J HB2 q4 hW0
      go_wp2_with fail
      refine (wpIn_wide (n := 8)).1 ?_
      refine wpIn_rangeFunc_ownH (α := Sx s) rfl (by decide) (gf := 83) (lb := #[.pointer (some ⟨Bs, 0, none⟩)]) rfl trivial eg83
        (strips_stops 7 (by decide) Bs s H2.out.2 W0 hE0.hb)
        (fun h k => KpS.trans h k) (fun W l o o' h1 _ _ _ => KpS.putObj (w := W0) hsz0 W l o' h1) (Below.refl _ _) (fun _ => rfl)
        (fun pre W => ((∀ x ∈ pre, both m s x.1 = false) ∧ (Mp m B (f.put s N false) W ∧ Env w B N s Q Bs W)) ∧ W0.heap.size ≤ W.heap.size)
        (fun cc pre W => (cc = .exit 1 ∧ ∃ x : Sx s, both m s x.1 = true) ∧ ((∃ g, MapD W B (g.put s N true) ∧ Ok m g ∧ ∀ s' k, m < k → g s' k = f.put s N false s' k) ∧ Env w B N s Q Bs W))
        (OwnFrom.and (OwnFrom.and (fun _ _ _ _ hs _ _ => hs) (OwnFrom.and (Mp.own hBW) (Env.own hwW))) (fun _ _ _ _ hs hg _ => Nat.le_trans hs hg.size))
        (fun cc => OwnFrom.and (fun _ _ _ _ hs _ _ => hs) (OwnFrom.and (fun _ X Y row hs hg hr => by
          obtain ⟨g, h1, h2⟩ := hs
          exact ⟨g, h1.kept (hg.block B h1.lt (fun e => by have := (hr B e.symm).1; omega)), h2⟩) (Env.own hwW)))
        ⟨⟨fun x hx => (by cases hx), hM0, hE0⟩, Nat.le_refl _⟩
        (fun x a' W => ∃ Bx, W0.heap.size ≤ Bx ∧ Hp W Bx x.1.cs 80 ∧ a' = { tmps := #[pv B, s.v, .int .i64 (N : Int), .pointer (some ⟨w.heap.size, 0, none⟩), .pointer (some ⟨w.heap.size + 1, 0, none⟩), .pointer (some ⟨w.heap.size + 1 + 1, 0, none⟩), .bool false, .pointer (some ⟨Q, 0, none⟩), .bool false, .bool false, .pointer (some ⟨Bx, 0, none⟩), undef, undef, u13, u14, u15, u16, u17, u18, u19, u20, u21, u22, u23, u24, u25, u26, u27, u28, u29, u30, u31, u32, u33, u34, u35, u36, u37, u38, u39, .func (.func 83) #[] #[.pointer (some ⟨Bs, 0, none⟩)], x.1.v, u42, u43, u44, u45, u46, u47, u48, u49, u50, u51, u52, u53, u54, u55, u56, u57, u58, u59, u60, u61, u62, u63, u64, u65, u66, u67, u68, u69, u70, u71, u72, u73, u74, u75, u76, u77, u78, u79, u80, u81, u82, u83, u84, u85, u86, u87, u88], defers := [] })
        (fun x a' _ X Y row hs hg hr => by obtain ⟨Bx, h1, h2, h3⟩ := hs; exact ⟨Bx, h1, hp_own Bx 80 (fun (_ : Unit) => x.1.cs) () X Y row h2 hg (fun r e => (hr r e).2), h3⟩)
        ?assign ?body ?done ?stop
      case assign =>
        rintro r pre x W K ⟨⟨h1, h2, h3⟩, h4⟩ hK
        unfold encS
        gi_wp2
        exact hK _ _ ((KeepsOthers.alloc _ _).from _) (Below.heap_alloc W _ _ (Nat.lt_of_lt_of_le hsz0 h4)) ⟨⟨h1, h2.kept (Below.heap_alloc W _ _ (Nat.lt_of_lt_of_le hBW h4)), h3.grown (World.grownBy_alloc _ _ _)⟩, Nat.le_trans h4 (by simp)⟩ ⟨W.heap.size, h4, Hp.new W _ 80, rfl⟩
      case body =>
        rintro l' pre x a' W hr0 _ ⟨⟨hpre, hMp, hE⟩, hsz⟩ ⟨Bx, hBx, bX, rfl⟩ _
        dsimp only
        have hxl := x.2
        have htb := H2.out.2
        have h69a : ∀ X, Gives 69 #[s.v, x.1.v] (s.aft x.1).v X := fun X => after_calls (by omega) hxl X
        have h70 : ∀ X, Gives 70 #[s.v, x.1.v] (s.rst x.1).v X := fun X => rest_calls (by omega) hxl X
        have h69b : ∀ X, Gives 69 #[s.v, (s.rst x.1).v] (s.aft (s.rst x.1)).v X := fun X => after_calls (by omega) (rst_le s x.1) X
        have hbo : both m s x.1 = (winB m (s.aft x.1) && winB m (s.aft (s.rst x.1))) := rfl
        have hat := aft_tubes hxl
        generalize s.aft (s.rst x.1) = y2 at h69b hbo hat
        generalize s.rst x.1 = z at h69b h70
        generalize s.aft x.1 = y1 at h69a hbo hat
        have H69a := Lib.hid h69a
        have H69b := Lib.hid h69b
        have H70 := Lib.hid h70
        have HBO := Lib.hid hbo
        have HE := Lib.hid hE
        have HMp := Lib.hid hMp
        have HPRE := Lib.hid hpre
        have HX := Lib.hid bX
        have q4 := hE.hs.blk.three
        have q10 := bX.blk.three
        have z4 := hE.hs.lt
        have z10 := bX.lt
        clear h69a h69b h70 hbo hE hMp hpre bX hxl htb
        gi_upto_region 12 with fail
        gi_cut [11, 12] from 13 (fun s11 s12 wx => ∃ B11 B12 : Nat, s11 = .pointer (some ⟨B11, 0, none⟩) ∧ s12 = .pointer (some ⟨B12, 0, none⟩) ∧ Aside (Blk wx B11 y1.cs) ∧ Aside (Blk wx B12 y2.cs) ∧ Aside (Below W.heap.size W wx) ∧ (W.heap.size ≤ B11 ∧ W.heap.size ≤ B12))
        case first =>
          refine region_inv (by kernel_rfl) (Inv12 W s x.1 z y1 y2 (fun t11 t12 t42 t43 t44 t45 t46 t47 t48 t49 => ({ tmps := #[pv B, s.v, .int .i64 (N : Int), .pointer (some ⟨w.heap.size, 0, none⟩), .pointer (some ⟨w.heap.size + 1, 0, none⟩), .pointer (some ⟨w.heap.size + 1 + 1, 0, none⟩), .bool false, .pointer (some ⟨Q, 0, none⟩), .bool false, .bool false, .pointer (some ⟨Bx, 0, none⟩), t11, t12, u13, u14, u15, u16, u17, u18, u19, u20, u21, u22, u23, u24, u25, u26, u27, u28, u29, u30, u31, u32, u33, u34, u35, u36, u37, u38, u39, .func (.func 83) #[] #[.pointer (some ⟨Bs, 0, none⟩)], x.1.v, t42, t43, t44, t45, t46, t47, t48, t49, u50, u51, u52, u53, u54, u55, u56, u57, u58, u59, u60, u61, u62, u63, u64, u65, u66, u67, u68, u69, u70, u71, u72, u73, u74, u75, u76, u77, u78, u79, u80, u81, u82, u83, u84, u85, u86, u87, u88], defers := [] } : Act))) (ac_of (by kernel_rfl)) ?stepR ?doneR ?h0R
          case h0R => exact ⟨_, _, _, _, _, _, _, _, _, _, rfl, (Below.refl _ _).drew, ⟨fun h => (by cases h), fun h => (by cases h), fun h => (by cases h), fun h => (by cases h)⟩, ⟨fun h => (by cases h), fun h => (by cases h), fun h => (by cases h), fun h => (by cases h)⟩, ⟨fun h => (by cases h), fun h => (by cases h)⟩, fun h => (by cases h), fun h => (by cases h), fun h => (by cases h)⟩
          case doneR =>
            rintro L a X hL ⟨t11, t12, t42, t43, t44, t45, t46, t47, t48, t49, rfl, hB, -, -, ⟨h8, h9⟩, -, -, -⟩
            dsimp only
            have g8 := h8 (hL 8 (by show 8 < 12; decide))
            have g9 := h9 (hL 9 (by show 9 < 12; decide))
            rw [hL 10 (by show 10 < 12; decide)] at g8
            rw [hL 11 (by show 11 < 12; decide)] at g9
            obtain ⟨B11, e11, m11, b11⟩ := g8
            obtain ⟨B12, e12, m12, b12⟩ := g9
            subst e11
            subst e12
            have HF := Lib.hid (And.intro (show Blk X B11 y1.cs from b11) (And.intro (show Blk X B12 y2.cs from b12) hB))
            clear b11 b12 hB h8 h9 hL q4 q10 z4 z10
            gi_wp2
            gi_meet
            exact ⟨B11, B12, rfl, rfl, HF.out.1, HF.out.2.1, HF.out.2.2, m11, m12⟩
          case stepR =>
            rintro L a X i o ho hdep hLi ⟨t11, t12, t42, t43, t44, t45, t46, t47, t48, t49, rfl, hB, ⟨h0, h1, h2, h3⟩, ⟨h4, h5, h6, h7⟩, ⟨h8, h9⟩, h10, h11, h12⟩ K hK
            have hi := (Array.getElem?_eq_some_iff.1 ho).1
            have hi12 : i < 12 := hi
            dsimp only at hK ⊢
            have HB := Lib.hid hB
            have r4 := (HE.out.grown (grow_of hB _)).hs.blk.three
            have r10 := (HX.out.later hB).blk.three
            clear q4 q10 z4 z10 hB hi
            have hcase : i = 0 ∨ i = 1 ∨ i = 2 ∨ i = 3 ∨ i = 4 ∨ i = 5 ∨ i = 6 ∨ i = 7 ∨ i = 8 ∨ i = 9 ∨ i = 10 ∨ i = 11 := by omega
            rcases hcase with rfl | rfl | rfl | rfl | rfl | rfl | rfl | rfl | rfl | rfl | rfl | rfl
            · simp only [List.getElem?_toArray, List.getElem?_cons_zero, Option.some.injEq] at ho
              subst ho
              rw [if_pos (by rfl)]
              clear hdep
              gi_wp2
              exact ⟨_, _, _, _, _, _, _, _, _, _, rfl, HB.out, ⟨fun _ => rfl, h1, h2, h3⟩, ⟨h4, h5, h6, h7⟩, ⟨h8, h9⟩, h10, h11, h12⟩
            · simp only [List.getElem?_toArray, List.getElem?_cons_zero, List.getElem?_cons_succ, Option.some.injEq] at ho
              subst ho
              rw [if_pos (by rfl)]
              clear hdep
              gi_wp2
              exact ⟨_, _, _, _, _, _, _, _, _, _, rfl, HB.out, ⟨h0, fun _ => rfl, h2, h3⟩, ⟨h4, h5, h6, h7⟩, ⟨h8, h9⟩, h10, h11, h12⟩
            · simp only [List.getElem?_toArray, List.getElem?_cons_zero, List.getElem?_cons_succ, Option.some.injEq] at ho
              subst ho
              rw [if_pos (by rfl)]
              obtain rfl := h0 (hdep ⟨0, Ground.data⟩ (by simp) rfl)
              obtain rfl := h1 (hdep ⟨1, Ground.data⟩ (by simp) rfl)
              clear hdep
              gi_wp2_with (refine ⟨trivial, ?_⟩; gi_at_call 69; (with_reducible refine (CallsIn.inRound l' (callsIn_wide.2 (Gives.c (H69a.out _)))).mono ?_); rintro e1 wa ⟨rfl, hb1⟩; have HB1 := Lib.hid hb1; clear hb1)
              exact ⟨_, _, _, _, _, _, _, _, _, _, rfl, HB.out.trans (HB1.out.mono HB.out.size), ⟨fun _ => rfl, fun _ => rfl, fun _ => rfl, h3⟩, ⟨h4, h5, h6, h7⟩, ⟨fun h => (h8 h).later HB1.out, fun h => (h9 h).later HB1.out⟩, h10, h11, h12⟩
            · simp only [List.getElem?_toArray, List.getElem?_cons_zero, List.getElem?_cons_succ, Option.some.injEq] at ho
              subst ho
              rw [if_pos (by rfl)]
              clear hdep
              gi_wp2
              exact ⟨_, _, _, _, _, _, _, _, _, _, rfl, HB.out, ⟨h0, h1, h2, fun _ => rfl⟩, ⟨h4, h5, h6, h7⟩, ⟨h8, h9⟩, h10, h11, h12⟩
            · simp only [List.getElem?_toArray, List.getElem?_cons_zero, List.getElem?_cons_succ, Option.some.injEq] at ho
              subst ho
              rw [if_pos (by rfl)]
              clear hdep
              gi_wp2
              exact ⟨_, _, _, _, _, _, _, _, _, _, rfl, HB.out, ⟨h0, h1, h2, h3⟩, ⟨fun _ => rfl, h5, h6, h7⟩, ⟨h8, h9⟩, h10, h11, h12⟩
            · simp only [List.getElem?_toArray, List.getElem?_cons_zero, List.getElem?_cons_succ, Option.some.injEq] at ho
              subst ho
              rw [if_pos (by rfl)]
              clear hdep
              gi_wp2
              exact ⟨_, _, _, _, _, _, _, _, _, _, rfl, HB.out, ⟨h0, h1, h2, h3⟩, ⟨h4, fun _ => rfl, h6, h7⟩, ⟨h8, h9⟩, h10, h11, h12⟩
            · simp only [List.getElem?_toArray, List.getElem?_cons_zero, List.getElem?_cons_succ, Option.some.injEq] at ho
              subst ho
              rw [if_pos (by rfl)]
              obtain rfl := h4 (hdep ⟨4, Ground.data⟩ (by simp) rfl)
              obtain rfl := h5 (hdep ⟨5, Ground.data⟩ (by simp) rfl)
              clear hdep
              gi_wp2_with (refine ⟨trivial, ?_⟩; gi_at_call 70; (with_reducible refine (CallsIn.inRound l' (callsIn_wide.2 (Gives.c (H70.out _)))).mono ?_); rintro e1 wa ⟨rfl, hb1⟩; have HB1 := Lib.hid hb1; clear hb1)
              exact ⟨_, _, _, _, _, _, _, _, _, _, rfl, HB.out.trans (HB1.out.mono HB.out.size), ⟨h0, h1, h2, h3⟩, ⟨fun _ => rfl, fun _ => rfl, fun _ => rfl, h7⟩, ⟨fun h => (h8 h).later HB1.out, fun h => (h9 h).later HB1.out⟩, h10, h11, h12⟩
            · simp only [List.getElem?_toArray, List.getElem?_cons_zero, List.getElem?_cons_succ, Option.some.injEq] at ho
              subst ho
              rw [if_pos (by rfl)]
              obtain rfl := h3 (hdep ⟨3, Ground.data⟩ (by simp) rfl)
              obtain rfl := h6 (hdep ⟨6, Ground.data⟩ (by simp) rfl)
              clear hdep
              gi_wp2_with (refine ⟨trivial, ?_⟩; gi_at_call 69; (with_reducible refine (CallsIn.inRound l' (callsIn_wide.2 (Gives.c (H69b.out _)))).mono ?_); rintro e1 wa ⟨rfl, hb1⟩; have HB1 := Lib.hid hb1; clear hb1)
              exact ⟨_, _, _, _, _, _, _, _, _, _, rfl, HB.out.trans (HB1.out.mono HB.out.size), ⟨h0, h1, h2, fun _ => rfl⟩, ⟨h4, h5, fun _ => rfl, fun _ => rfl⟩, ⟨fun h => (h8 h).later HB1.out, fun h => (h9 h).later HB1.out⟩, h10, h11, h12⟩
            · simp only [List.getElem?_toArray, List.getElem?_cons_zero, List.getElem?_cons_succ, Option.some.injEq] at ho
              subst ho
              rw [if_pos (by rfl)]
              clear hdep
              have hf : L 10 = false := by
                cases hb : L 10 with
                | false => rfl
                | true => rw [h10 hb] at hLi; cases hLi
              gi_wp2
              exact ⟨_, _, _, _, _, _, _, _, _, _, rfl, stepA HB.out _, ⟨h0, h1, h2, h3⟩, ⟨h4, h5, h6, h7⟩, ⟨fun _ => (by show Holds W (L 10) _ _ _; rw [hf]; exact ⟨X.heap.size, rfl, HB.out.size, Blk.new X [.int .i64 0, .int .i64 0, .int .i64 0] 80⟩), fun h => (h9 h).later ((Below.refl _ _).alloc (Nat.le_refl _) _)⟩, fun _ => rfl, h11, fun _ h e => (by
                obtain ⟨B2, e2, _, hb⟩ := h9 h
                rw [e2] at e
                have hlt := hb.lt
                simp only [Value.pointer.injEq, Option.some.injEq, Addr.mk.injEq] at e
                omega)⟩
            · simp only [List.getElem?_toArray, List.getElem?_cons_zero, List.getElem?_cons_succ, Option.some.injEq] at ho
              subst ho
              rw [if_pos (by rfl)]
              clear hdep
              have hf : L 11 = false := by
                cases hb : L 11 with
                | false => rfl
                | true => rw [h11 hb] at hLi; cases hLi
              gi_wp2
              exact ⟨_, _, _, _, _, _, _, _, _, _, rfl, stepA HB.out _, ⟨h0, h1, h2, h3⟩, ⟨h4, h5, h6, h7⟩, ⟨fun h => (h8 h).later ((Below.refl _ _).alloc (Nat.le_refl _) _), fun _ => (by show Holds W (L 11) _ _ _; rw [hf]; exact ⟨X.heap.size, rfl, HB.out.size, Blk.new X [.int .i64 0, .int .i64 0, .int .i64 0] 80⟩)⟩, h10, fun _ => rfl, fun h _ e => (by
                obtain ⟨B2, e2, _, hb⟩ := h8 h
                rw [e2] at e
                have hlt := hb.lt
                simp only [Value.pointer.injEq, Option.some.injEq, Addr.mk.injEq] at e
                omega)⟩
            · simp only [List.getElem?_toArray, List.getElem?_cons_zero, List.getElem?_cons_succ, Option.some.injEq] at ho
              subst ho
              rw [if_pos (by rfl)]
              have d8 := (hdep ⟨8, Ground.data⟩ (by simp) rfl)
              obtain rfl := h2 (hdep ⟨2, Ground.data⟩ (by simp) rfl)
              clear hdep
              obtain ⟨B1, e1, hB1, hb1⟩ := h8 d8
              subst e1
              rw [hLi] at hb1
              change Blk X B1 [.int .i64 0, .int .i64 0, .int .i64 0] at hb1
              have qb := hb1.three
              have fb := hb1.free3
              have zb := hb1.lt
              have HB1 := Lib.hid hb1
              have HZ := Lib.hid hB1
              clear hb1 hB1
              gi_wp2
              exact ⟨_, _, _, _, _, _, _, _, _, _, rfl, stepS3 HB.out HZ.out _ _ _, ⟨h0, h1, fun _ => rfl, h3⟩, ⟨h4, h5, h6, h7⟩, ⟨fun _ => ⟨B1, rfl, HZ.out, HB1.out.put3 _ _ _⟩, fun h => (by
                obtain ⟨B2, e2, g1, g2⟩ := h9 h
                exact ⟨B2, e2, g1, g2.other3 (fun e => h12 d8 h (by rw [e2, e])) _ _ _⟩)⟩, fun _ => d8, h11, h12⟩
            · simp only [List.getElem?_toArray, List.getElem?_cons_zero, List.getElem?_cons_succ, Option.some.injEq] at ho
              subst ho
              rw [if_pos (by rfl)]
              have d8 := (hdep ⟨9, Ground.data⟩ (by simp) rfl)
              obtain rfl := h7 (hdep ⟨7, Ground.data⟩ (by simp) rfl)
              clear hdep
              obtain ⟨B1, e1, hB1, hb1⟩ := h9 d8
              subst e1
              rw [hLi] at hb1
              change Blk X B1 [.int .i64 0, .int .i64 0, .int .i64 0] at hb1
              have qb := hb1.three
              have fb := hb1.free3
              have zb := hb1.lt
              have HB1 := Lib.hid hb1
              have HZ := Lib.hid hB1
              clear hb1 hB1
              gi_wp2
              exact ⟨_, _, _, _, _, _, _, _, _, _, rfl, stepS3 HB.out HZ.out _ _ _, ⟨h0, h1, h2, h3⟩, ⟨h4, h5, h6, fun _ => rfl⟩, ⟨fun h => (by
                obtain ⟨B2, e2, g1, g2⟩ := h8 h
                exact ⟨B2, e2, g1, g2.other3 (fun e => h12 h d8 (by rw [e2, e])) _ _ _⟩), fun _ => ⟨B1, rfl, HZ.out, HB1.out.put3 _ _ _⟩⟩, h10, fun _ => d8, h12⟩
        case rest =>
          obtain ⟨B11, B12, rfl, rfl, HY1, HY2, HBc, hm11, hm12⟩ := hcut
          have htb2 := H2.out.2
          have hBW2 : B < W.heap.size := Nat.lt_of_lt_of_le hBW hsz
          have hNm := HN.out
          obtain ⟨P2, hP2⟩ : ∃ P2, P2 = 2 ^ m := ⟨_, rfl⟩
          have hP2k : P2 ≤ 562949953421312 := by rw [hP2]; exact Nat.le_trans (Nat.pow_le_pow_right (by omega) (show m ≤ 49 by omega)) (by decide)
          have wK2 : IntKind.i64.wrap ((2 : Int) ^ m) = (P2 : Int) := by
            have e : ((2 : Int) ^ m) = (P2 : Int) := by rw [hP2, Int.natCast_pow]; rfl
            rw [e]
            exact i64_in (by omega) (by omega)
          have hm64 : (m : Int) ≤ 64 := by omega
          have wN1 : IntKind.i64.wrap ((N : Int) - 1) = (m : Int) := by rw [i64_in (by omega) (by omega)]; omega
          have hw1 : ∀ X, Gives 58 #[y1.v, .int .i64 (m : Int)] (.int .i64 (y1.wt m : Int)) X := fun X => weight_calls (by omega) (by omega) X
          have hw2 : ∀ X, Gives 58 #[y2.v, .int .i64 (m : Int)] (.int .i64 (y2.wt m : Int)) X := fun X => weight_calls (by omega) (by omega) X
          have he1 : ∀ X, Mp m B (f.put s N false) X → Calls Try.prog 68 #[pv B, y1.v, .int .i64 (m : Int)] X fun e W' => e = .returned (.bool (winB m y1)) ∧ Mp m B (f.put s N false) W' ∧ X.grownBy W' (some B) := fun X hX => HIH.out y1 (by omega) _ X hX
          have he2 : ∀ X, Mp m B (f.put s N false) X → Calls Try.prog 68 #[pv B, y2.v, .int .i64 (m : Int)] X fun e W' => e = .returned (.bool (winB m y2)) ∧ Mp m B (f.put s N false) W' ∧ X.grownBy W' (some B) := fun X hX => HIH.out y2 (by omega) _ X hX
          have hbo : both m s x.1 = (((decide (y1.wt m ≤ P2) && decide (y2.wt m ≤ P2)) && winB m y1) && winB m y2) := by
            rw [HBO.out, hP2]
            cases e1 : winB m y1 with
            | false => simp
            | true =>
              cases e2 : winB m y2 with
              | false => simp
              | true =>
                have g1 := win_wt (winB_iff.1 e1)
                have g2 := win_wt (winB_iff.1 e2)
                simp [g1, g2]
          generalize y1.wt m = q1 at hw1 hbo
          generalize y2.wt m = q2 at hw2 hbo
          obtain ⟨c1, hc1⟩ : ∃ c1, decide (q1 ≤ P2) = c1 := ⟨_, rfl⟩
          obtain ⟨c2, hc2⟩ : ∃ c2, decide (q2 ≤ P2) = c2 := ⟨_, rfl⟩
          rw [hc1, hc2] at hbo
          obtain ⟨c12, hc12⟩ : ∃ c12, (c1 && c2) = c12 := ⟨_, rfl⟩
          rw [hc12] at hbo
          generalize winB m y1 = r1 at he1 hbo
          generalize winB m y2 = r2 at he2 hbo
          obtain ⟨c123, hc123⟩ : ∃ c123, (c12 && r1) = c123 := ⟨_, rfl⟩
          rw [hc123] at hbo
          obtain ⟨c4, hc4⟩ : ∃ c4, (c123 && r2) = c4 := ⟨_, rfl⟩
          rw [hc4] at hbo
          have HC1 := Lib.hid hc1
          have HC2 := Lib.hid hc2
          have HW1 := Lib.hid hw1
          have HW2 := Lib.hid hw2
          have HE1 := Lib.hid he1
          have HE2 := Lib.hid he2
          have HBO2 := Lib.hid hbo
          have HCC := Lib.hid (And.intro hc12 (And.intro hc123 hc4))
          have HEc := Lib.hid (HE.out.grown (grow_of HBc.out (some B)))
          have HMc := Lib.hid (HMp.out.kept (HBc.out.block B HMp.out.lt))
          have hne11 : some B11 ≠ some B := fun e => by cases e; omega
          have hne12 : some B12 ≠ some B := fun e => by cases e; omega
          clear hNm hc1 hc2 hc12 hc123 hc4 hw1 hw2 he1 he2 hbo hP2 hP2k HIH HBO H69a H69b H70 q4 q10 z4 z10
          gi_upto_region 13 with fail
          gi_cut [81] from 13 (fun s81 wx => s81 = .bool c4 ∧ Aside (wc.grownBy wx (some B) ∧ Mp m B (f.put s N false) wx))
          case first =>
            refine region_inv (by kernel_rfl) (Inv13 wc m N B P2 q1 q2 (f.put s N false) y1 y2 c1 c2 c12 r1 c123 r2 c4 (fun t50 t51 t52 t53 t54 t55 t56 t57 t58 t59 t60 t61 t62 t63 t64 t65 t66 t67 t68 t69 t70 t71 t72 t73 t74 t75 t76 t77 t78 t79 t80 t81 => ({ tmps := #[pv B, s.v, .int .i64 (N : Int), .pointer (some ⟨w.heap.size, 0, none⟩), .pointer (some ⟨w.heap.size + 1, 0, none⟩), .pointer (some ⟨w.heap.size + 1 + 1, 0, none⟩), .bool false, .pointer (some ⟨Q, 0, none⟩), .bool false, .bool false, .pointer (some ⟨Bx, 0, none⟩), .pointer (some ⟨B11, 0, none⟩), .pointer (some ⟨B12, 0, none⟩), u13, u14, u15, u16, u17, u18, u19, u20, u21, u22, u23, u24, u25, u26, u27, u28, u29, u30, u31, u32, u33, u34, u35, u36, u37, u38, u39, u40, u41, u42, u43, u44, u45, u46, u47, u48, u49, t50, t51, t52, t53, t54, t55, t56, t57, t58, t59, t60, t61, t62, t63, t64, t65, t66, t67, t68, t69, t70, t71, t72, t73, t74, t75, t76, t77, t78, t79, t80, t81, u82, u83, u84, u85, u86, u87, u88], defers := [] } : Act))) (ac_of (by kernel_rfl)) ?stepR ?doneR ?h0R
            case h0R => exact ⟨_, _, _, _, _, _, _, _, _, _, _, _, _, _, _, _, _, _, _, _, _, _, _, _, _, _, _, _, _, _, _, _, rfl, ⟨grow_of (Below.refl _ _).drew _, HMc.out.kept rfl⟩, ⟨fun h => (by cases h), fun h => (by cases h), fun h => (by cases h), fun h => (by cases h), fun h => (by cases h), fun h => (by cases h), fun h => (by cases h), fun h => (by cases h)⟩, ⟨fun h => (by cases h), fun h _ => (by cases h), fun h _ => (by cases h), fun h _ => (by cases h), fun h _ => (by cases h), fun h _ => (by cases h), fun h _ => (by cases h), fun h _ => (by cases h)⟩, ⟨fun h _ => (by cases h), fun h => (by cases h), fun h => (by cases h), fun h _ => (by cases h), fun h _ => (by cases h), fun h _ => (by cases h), fun h _ => (by cases h), fun h _ => (by cases h)⟩, ⟨fun h => (by cases h), fun h => (by cases h), fun h _ => (by cases h), fun h _ => (by cases h), fun h _ => (by cases h), fun h _ => (by cases h), fun h _ => (by cases h), fun h => (by cases h)⟩⟩
            case doneR =>
              rintro L a X hL ⟨t50, t51, t52, t53, t54, t55, t56, t57, t58, t59, t60, t61, t62, t63, t64, t65, t66, t67, t68, t69, t70, t71, t72, t73, t74, t75, t76, t77, t78, t79, t80, t81, rfl, hG, ⟨h0, h1, h2, h3, h4, h5, h6, h7⟩, ⟨h8, h9, h10, h11, h12, h13, h14, h15⟩, ⟨h16, h17, h18, h19, h20, h21, h22, h23⟩, ⟨h24, h25, h26, h27, h28, h29, h30, h31⟩⟩
              dsimp only
              obtain rfl := h31 (hL 31 (by show 31 < 32; decide))
              have HG := Lib.hid hG
              clear hG h0 h1 h2 h3 h4 h5 h6 h7 h8 h9 h10 h11 h12 h13 h14 h15 h16 h17 h18 h19 h20 h21 h22 h23 h24 h25 h26 h27 h28 h29 h30 hL
              gi_wp2
              gi_meet
              exact ⟨rfl, HG.out⟩
            case stepR =>
              rintro L a X i o ho hdep hLi ⟨t50, t51, t52, t53, t54, t55, t56, t57, t58, t59, t60, t61, t62, t63, t64, t65, t66, t67, t68, t69, t70, t71, t72, t73, t74, t75, t76, t77, t78, t79, t80, t81, rfl, ⟨hG, hMq⟩, ⟨h0, h1, h2, h3, h4, h5, h6, h7⟩, ⟨h8, h9, h10, h11, h12, h13, h14, h15⟩, ⟨h16, h17, h18, h19, h20, h21, h22, h23⟩, ⟨h24, h25, h26, h27, h28, h29, h30, h31⟩⟩ K hK
              have hi := (Array.getElem?_eq_some_iff.1 ho).1
              have hiK : i < 32 := hi
              dsimp only at hK ⊢
              have HG := Lib.hid hG
              have HMq := Lib.hid hMq
              have hEX := HEc.out.grown hG
              have r3 := hEX.hp.blk.one
              have r5 := hEX.hn.blk.one
              have r11 := (HY1.out.kept hG hne11).three
              have r12 := (HY2.out.kept hG hne12).three
              have hc12 := Lib.hid HCC.out.1
              have hc123 := Lib.hid HCC.out.2.1
              have hc4 := Lib.hid HCC.out.2.2
              clear hG hMq hEX hi
              have hcase : i = 0 ∨ i = 1 ∨ i = 2 ∨ i = 3 ∨ i = 4 ∨ i = 5 ∨ i = 6 ∨ i = 7 ∨ i = 8 ∨ i = 9 ∨ i = 10 ∨ i = 11 ∨ i = 12 ∨ i = 13 ∨ i = 14 ∨ i = 15 ∨ i = 16 ∨ i = 17 ∨ i = 18 ∨ i = 19 ∨ i = 20 ∨ i = 21 ∨ i = 22 ∨ i = 23 ∨ i = 24 ∨ i = 25 ∨ i = 26 ∨ i = 27 ∨ i = 28 ∨ i = 29 ∨ i = 30 ∨ i = 31 := by omega
              rcases hcase with rfl | rfl | rfl | rfl | rfl | rfl | rfl | rfl | rfl | rfl | rfl | rfl | rfl | rfl | rfl | rfl | rfl | rfl | rfl | rfl | rfl | rfl | rfl | rfl | rfl | rfl | rfl | rfl | rfl | rfl | rfl | rfl
              · simp only [List.getElem?_toArray, List.getElem?_cons_zero, Option.some.injEq] at ho
                subst ho
                clear hdep
                rw [if_pos (by rfl)]
                gi_wp2
                exact ⟨_, _, _, _, _, _, _, _, _, _, _, _, _, _, _, _, _, _, _, _, _, _, _, _, _, _, _, _, _, _, _, _, rfl, ⟨HG.out, HMq.out⟩, ⟨fun _ => rfl, h1, h2, h3, h4, h5, h6, h7⟩, ⟨h8, h9, h10, h11, h12, h13, h14, h15⟩, ⟨h16, h17, h18, h19, h20, h21, h22, h23⟩, ⟨h24, h25, h26, h27, h28, h29, h30, h31⟩⟩
              · simp only [List.getElem?_toArray, List.getElem?_cons_zero, List.getElem?_cons_succ, Option.some.injEq] at ho
                subst ho
                clear hdep
                rw [if_pos (by rfl)]
                gi_wp2
                exact ⟨_, _, _, _, _, _, _, _, _, _, _, _, _, _, _, _, _, _, _, _, _, _, _, _, _, _, _, _, _, _, _, _, rfl, ⟨HG.out, HMq.out⟩, ⟨h0, fun _ => rfl, h2, h3, h4, h5, h6, h7⟩, ⟨h8, h9, h10, h11, h12, h13, h14, h15⟩, ⟨h16, h17, h18, h19, h20, h21, h22, h23⟩, ⟨h24, h25, h26, h27, h28, h29, h30, h31⟩⟩
              · simp only [List.getElem?_toArray, List.getElem?_cons_zero, List.getElem?_cons_succ, Option.some.injEq] at ho
                subst ho
                obtain rfl := h1 (hdep ⟨1, Ground.data⟩ (by simp) rfl)
                clear hdep
                rw [if_pos (by rfl)]
                gi_wp2
                exact ⟨_, _, _, _, _, _, _, _, _, _, _, _, _, _, _, _, _, _, _, _, _, _, _, _, _, _, _, _, _, _, _, _, rfl, ⟨HG.out, HMq.out⟩, ⟨h0, fun _ => rfl, fun _ => rfl, h3, h4, h5, h6, h7⟩, ⟨h8, h9, h10, h11, h12, h13, h14, h15⟩, ⟨h16, h17, h18, h19, h20, h21, h22, h23⟩, ⟨h24, h25, h26, h27, h28, h29, h30, h31⟩⟩
              · simp only [List.getElem?_toArray, List.getElem?_cons_zero, List.getElem?_cons_succ, Option.some.injEq] at ho
                subst ho
                obtain rfl := h0 (hdep ⟨0, Ground.data⟩ (by simp) rfl)
                obtain rfl := h2 (hdep ⟨2, Ground.data⟩ (by simp) rfl)
                clear hdep
                rw [if_pos (by rfl)]
                gi_wp2_with (refine ⟨trivial, ?_⟩; gi_at_call 58; (with_reducible refine (CallsIn.inRound l' (callsIn_wide.2 (Gives.c (HW1.out _)))).mono ?_); rintro e1 wa ⟨rfl, hb1⟩; have HB1 := Lib.hid hb1; clear hb1)
                exact ⟨_, _, _, _, _, _, _, _, _, _, _, _, _, _, _, _, _, _, _, _, _, _, _, _, _, _, _, _, _, _, _, _, rfl, ⟨HG.out.trans (grow_of HB1.out _), HMq.out.kept (HB1.out.block B HMq.out.lt)⟩, ⟨fun _ => rfl, h1, fun _ => rfl, fun _ => rfl, h4, h5, h6, h7⟩, ⟨h8, h9, h10, h11, h12, h13, h14, h15⟩, ⟨h16, h17, h18, h19, h20, h21, h22, h23⟩, ⟨h24, h25, h26, h27, h28, h29, h30, h31⟩⟩
              · simp only [List.getElem?_toArray, List.getElem?_cons_zero, List.getElem?_cons_succ, Option.some.injEq] at ho
                subst ho
                clear hdep
                rw [if_pos (by rfl)]
                gi_wp2
                exact ⟨_, _, _, _, _, _, _, _, _, _, _, _, _, _, _, _, _, _, _, _, _, _, _, _, _, _, _, _, _, _, _, _, rfl, ⟨HG.out, HMq.out⟩, ⟨h0, h1, h2, h3, fun _ => rfl, h5, h6, h7⟩, ⟨h8, h9, h10, h11, h12, h13, h14, h15⟩, ⟨h16, h17, h18, h19, h20, h21, h22, h23⟩, ⟨h24, h25, h26, h27, h28, h29, h30, h31⟩⟩
              · simp only [List.getElem?_toArray, List.getElem?_cons_zero, List.getElem?_cons_succ, Option.some.injEq] at ho
                subst ho
                obtain rfl := h4 (hdep ⟨4, Ground.data⟩ (by simp) rfl)
                clear hdep
                rw [if_pos (by rfl)]
                gi_wp2
                exact ⟨_, _, _, _, _, _, _, _, _, _, _, _, _, _, _, _, _, _, _, _, _, _, _, _, _, _, _, _, _, _, _, _, rfl, ⟨HG.out, HMq.out⟩, ⟨h0, h1, h2, h3, fun _ => rfl, fun _ => rfl, h6, h7⟩, ⟨h8, h9, h10, h11, h12, h13, h14, h15⟩, ⟨h16, h17, h18, h19, h20, h21, h22, h23⟩, ⟨h24, h25, h26, h27, h28, h29, h30, h31⟩⟩
              · simp only [List.getElem?_toArray, List.getElem?_cons_zero, List.getElem?_cons_succ, Option.some.injEq] at ho
                subst ho
                obtain rfl := h5 (hdep ⟨5, Ground.data⟩ (by simp) rfl)
                clear hdep
                rw [if_pos (by rfl)]
                gi_wp2
                exact ⟨_, _, _, _, _, _, _, _, _, _, _, _, _, _, _, _, _, _, _, _, _, _, _, _, _, _, _, _, _, _, _, _, rfl, ⟨HG.out, HMq.out⟩, ⟨h0, h1, h2, h3, h4, fun _ => rfl, fun _ => rfl, h7⟩, ⟨h8, h9, h10, h11, h12, h13, h14, h15⟩, ⟨h16, h17, h18, h19, h20, h21, h22, h23⟩, ⟨h24, h25, h26, h27, h28, h29, h30, h31⟩⟩
              · simp only [List.getElem?_toArray, List.getElem?_cons_zero, List.getElem?_cons_succ, Option.some.injEq] at ho
                subst ho
                obtain rfl := h3 (hdep ⟨3, Ground.data⟩ (by simp) rfl)
                obtain rfl := h6 (hdep ⟨6, Ground.data⟩ (by simp) rfl)
                clear hdep
                rw [if_pos (by rfl)]
                have hv := HC1.out
                gi_wp2
                exact ⟨_, _, _, _, _, _, _, _, _, _, _, _, _, _, _, _, _, _, _, _, _, _, _, _, _, _, _, _, _, _, _, _, rfl, ⟨HG.out, HMq.out⟩, ⟨h0, h1, h2, fun _ => rfl, h4, h5, fun _ => rfl, fun _ => (by first | exact congrArg Value.bool hv | (simp only [← hv]; done) | (simp only [← hv]; simp))⟩, ⟨h8, h9, h10, h11, h12, h13, h14, h15⟩, ⟨h16, h17, h18, h19, h20, h21, h22, h23⟩, ⟨h24, h25, h26, h27, h28, h29, h30, h31⟩⟩
              · simp only [List.getElem?_toArray, List.getElem?_cons_zero, List.getElem?_cons_succ, Option.some.injEq] at ho
                subst ho
                obtain rfl := h7 (hdep ⟨7, Ground.data⟩ (by simp) rfl)
                clear hdep
                rw [if_pos (by rfl)]
                gi_wp2
                exact ⟨_, _, _, _, _, _, _, _, _, _, _, _, _, _, _, _, _, _, _, _, _, _, _, _, _, _, _, _, _, _, _, _, rfl, ⟨HG.out, HMq.out⟩, ⟨h0, h1, h2, h3, h4, h5, h6, fun _ => rfl⟩, ⟨fun _ => rfl, h9, h10, h11, h12, h13, h14, h15⟩, ⟨h16, h17, h18, h19, h20, h21, h22, h23⟩, ⟨h24, h25, h26, h27, h28, h29, h30, h31⟩⟩
              · simp only [List.getElem?_toArray, List.getElem?_cons_zero, List.getElem?_cons_succ, Option.some.injEq] at ho
                subst ho
                obtain rfl := h8 (hdep ⟨8, Ground.guard⟩ (by simp) rfl)
                cases hgd : c1 with
                | false =>
                  subst hgd
                  clear hdep
                  rw [if_neg (by intro h; exact absurd (show false = true from h) Bool.false_ne_true)]
                  refine ⟨fun _ _ => trivial, hK _ _ ?_⟩
                  exact ⟨_, _, _, _, _, _, _, _, _, _, _, _, _, _, _, _, _, _, _, _, _, _, _, _, _, _, _, _, _, _, _, _, rfl, ⟨HG.out, HMq.out⟩, ⟨h0, h1, h2, h3, h4, h5, h6, h7⟩, ⟨fun _ => rfl, fun _ h => (by cases h), h10, h11, h12, h13, h14, h15⟩, ⟨h16, h17, h18, h19, h20, h21, h22, h23⟩, ⟨h24, h25, h26, h27, h28, h29, h30, h31⟩⟩
                | true =>
                  subst hgd
                  clear hdep
                  rw [if_pos (by rfl)]
                  gi_wp2
                  exact ⟨_, _, _, _, _, _, _, _, _, _, _, _, _, _, _, _, _, _, _, _, _, _, _, _, _, _, _, _, _, _, _, _, rfl, ⟨HG.out, HMq.out⟩, ⟨h0, h1, h2, h3, h4, h5, h6, h7⟩, ⟨fun _ => rfl, fun _ _ => rfl, (fun a b => h10 a (by first | exact b | trivial)), (fun a b => h11 a (by first | exact b | trivial)), (fun a b => h12 a (by first | exact b | trivial)), (fun a b => h13 a (by first | exact b | trivial)), (fun a b => h14 a (by first | exact b | trivial)), (fun a b => h15 a (by first | exact b | trivial))⟩, ⟨(fun a b => h16 a (by first | exact b | trivial)), h17, h18, h19, h20, h21, h22, h23⟩, ⟨h24, h25, h26, h27, h28, h29, h30, h31⟩⟩
              · simp only [List.getElem?_toArray, List.getElem?_cons_zero, List.getElem?_cons_succ, Option.some.injEq] at ho
                subst ho
                obtain rfl := h8 (hdep ⟨8, Ground.guard⟩ (by simp) rfl)
                cases hgd : c1 with
                | false =>
                  subst hgd
                  clear hdep
                  rw [if_neg (by intro h; exact absurd (show false = true from h) Bool.false_ne_true)]
                  refine ⟨fun _ _ => trivial, hK _ _ ?_⟩
                  exact ⟨_, _, _, _, _, _, _, _, _, _, _, _, _, _, _, _, _, _, _, _, _, _, _, _, _, _, _, _, _, _, _, _, rfl, ⟨HG.out, HMq.out⟩, ⟨h0, h1, h2, h3, h4, h5, h6, h7⟩, ⟨fun _ => rfl, h9, fun _ h => (by cases h), h11, h12, h13, h14, h15⟩, ⟨h16, h17, h18, h19, h20, h21, h22, h23⟩, ⟨h24, h25, h26, h27, h28, h29, h30, h31⟩⟩
                | true =>
                  subst hgd
                  clear hdep
                  rw [if_pos (by rfl)]
                  gi_wp2
                  exact ⟨_, _, _, _, _, _, _, _, _, _, _, _, _, _, _, _, _, _, _, _, _, _, _, _, _, _, _, _, _, _, _, _, rfl, ⟨HG.out, HMq.out⟩, ⟨h0, h1, h2, h3, h4, h5, h6, h7⟩, ⟨fun _ => rfl, (fun a b => h9 a (by first | exact b | trivial)), fun _ _ => rfl, (fun a b => h11 a (by first | exact b | trivial)), (fun a b => h12 a (by first | exact b | trivial)), (fun a b => h13 a (by first | exact b | trivial)), (fun a b => h14 a (by first | exact b | trivial)), (fun a b => h15 a (by first | exact b | trivial))⟩, ⟨(fun a b => h16 a (by first | exact b | trivial)), h17, h18, h19, h20, h21, h22, h23⟩, ⟨h24, h25, h26, h27, h28, h29, h30, h31⟩⟩
              · simp only [List.getElem?_toArray, List.getElem?_cons_zero, List.getElem?_cons_succ, Option.some.injEq] at ho
                subst ho
                obtain rfl := h8 (hdep ⟨8, Ground.guard⟩ (by simp) rfl)
                cases hgd : c1 with
                | false =>
                  subst hgd
                  clear hdep
                  rw [if_neg (by intro h; exact absurd (show false = true from h) Bool.false_ne_true)]
                  refine ⟨fun _ _ => trivial, hK _ _ ?_⟩
                  exact ⟨_, _, _, _, _, _, _, _, _, _, _, _, _, _, _, _, _, _, _, _, _, _, _, _, _, _, _, _, _, _, _, _, rfl, ⟨HG.out, HMq.out⟩, ⟨h0, h1, h2, h3, h4, h5, h6, h7⟩, ⟨fun _ => rfl, h9, h10, fun _ h => (by cases h), h12, h13, h14, h15⟩, ⟨h16, h17, h18, h19, h20, h21, h22, h23⟩, ⟨h24, h25, h26, h27, h28, h29, h30, h31⟩⟩
                | true =>
                  subst hgd
                  obtain rfl := h10 (hdep ⟨10, Ground.data⟩ (by simp) rfl) rfl
                  clear hdep
                  rw [if_pos (by rfl)]
                  gi_wp2
                  exact ⟨_, _, _, _, _, _, _, _, _, _, _, _, _, _, _, _, _, _, _, _, _, _, _, _, _, _, _, _, _, _, _, _, rfl, ⟨HG.out, HMq.out⟩, ⟨h0, h1, h2, h3, h4, h5, h6, h7⟩, ⟨fun _ => rfl, (fun a b => h9 a (by first | exact b | trivial)), fun _ _ => rfl, fun _ _ => rfl, (fun a b => h12 a (by first | exact b | trivial)), (fun a b => h13 a (by first | exact b | trivial)), (fun a b => h14 a (by first | exact b | trivial)), (fun a b => h15 a (by first | exact b | trivial))⟩, ⟨(fun a b => h16 a (by first | exact b | trivial)), h17, h18, h19, h20, h21, h22, h23⟩, ⟨h24, h25, h26, h27, h28, h29, h30, h31⟩⟩
              · simp only [List.getElem?_toArray, List.getElem?_cons_zero, List.getElem?_cons_succ, Option.some.injEq] at ho
                subst ho
                obtain rfl := h8 (hdep ⟨8, Ground.guard⟩ (by simp) rfl)
                cases hgd : c1 with
                | false =>
                  subst hgd
                  clear hdep
                  rw [if_neg (by intro h; exact absurd (show false = true from h) Bool.false_ne_true)]
                  refine ⟨fun _ _ => trivial, hK _ _ ?_⟩
                  exact ⟨_, _, _, _, _, _, _, _, _, _, _, _, _, _, _, _, _, _, _, _, _, _, _, _, _, _, _, _, _, _, _, _, rfl, ⟨HG.out, HMq.out⟩, ⟨h0, h1, h2, h3, h4, h5, h6, h7⟩, ⟨fun _ => rfl, h9, h10, h11, fun _ h => (by cases h), h13, h14, h15⟩, ⟨h16, h17, h18, h19, h20, h21, h22, h23⟩, ⟨h24, h25, h26, h27, h28, h29, h30, h31⟩⟩
                | true =>
                  subst hgd
                  obtain rfl := h9 (hdep ⟨9, Ground.data⟩ (by simp) rfl) rfl
                  obtain rfl := h11 (hdep ⟨11, Ground.data⟩ (by simp) rfl) rfl
                  clear hdep
                  rw [if_pos (by rfl)]
                  gi_wp2_with (refine ⟨trivial, ?_⟩; gi_at_call 58; (with_reducible refine (CallsIn.inRound l' (callsIn_wide.2 (Gives.c (HW2.out _)))).mono ?_); rintro e1 wa ⟨rfl, hb1⟩; have HB1 := Lib.hid hb1; clear hb1)
                  exact ⟨_, _, _, _, _, _, _, _, _, _, _, _, _, _, _, _, _, _, _, _, _, _, _, _, _, _, _, _, _, _, _, _, rfl, ⟨HG.out.trans (grow_of HB1.out _), HMq.out.kept (HB1.out.block B HMq.out.lt)⟩, ⟨h0, h1, h2, h3, h4, h5, h6, h7⟩, ⟨fun _ => rfl, fun _ _ => rfl, (fun a b => h10 a (by first | exact b | trivial)), fun _ _ => rfl, fun _ _ => rfl, (fun a b => h13 a (by first | exact b | trivial)), (fun a b => h14 a (by first | exact b | trivial)), (fun a b => h15 a (by first | exact b | trivial))⟩, ⟨(fun a b => h16 a (by first | exact b | trivial)), h17, h18, h19, h20, h21, h22, h23⟩, ⟨h24, h25, h26, h27, h28, h29, h30, h31⟩⟩
              · simp only [List.getElem?_toArray, List.getElem?_cons_zero, List.getElem?_cons_succ, Option.some.injEq] at ho
                subst ho
                obtain rfl := h8 (hdep ⟨8, Ground.guard⟩ (by simp) rfl)
                cases hgd : c1 with
                | false =>
                  subst hgd
                  clear hdep
                  rw [if_neg (by intro h; exact absurd (show false = true from h) Bool.false_ne_true)]
                  refine ⟨fun _ _ => trivial, hK _ _ ?_⟩
                  exact ⟨_, _, _, _, _, _, _, _, _, _, _, _, _, _, _, _, _, _, _, _, _, _, _, _, _, _, _, _, _, _, _, _, rfl, ⟨HG.out, HMq.out⟩, ⟨h0, h1, h2, h3, h4, h5, h6, h7⟩, ⟨fun _ => rfl, h9, h10, h11, h12, fun _ h => (by cases h), h14, h15⟩, ⟨h16, h17, h18, h19, h20, h21, h22, h23⟩, ⟨h24, h25, h26, h27, h28, h29, h30, h31⟩⟩
                | true =>
                  subst hgd
                  clear hdep
                  rw [if_pos (by rfl)]
                  gi_wp2
                  exact ⟨_, _, _, _, _, _, _, _, _, _, _, _, _, _, _, _, _, _, _, _, _, _, _, _, _, _, _, _, _, _, _, _, rfl, ⟨HG.out, HMq.out⟩, ⟨h0, h1, h2, h3, h4, h5, h6, h7⟩, ⟨fun _ => rfl, (fun a b => h9 a (by first | exact b | trivial)), (fun a b => h10 a (by first | exact b | trivial)), (fun a b => h11 a (by first | exact b | trivial)), (fun a b => h12 a (by first | exact b | trivial)), fun _ _ => rfl, (fun a b => h14 a (by first | exact b | trivial)), (fun a b => h15 a (by first | exact b | trivial))⟩, ⟨(fun a b => h16 a (by first | exact b | trivial)), h17, h18, h19, h20, h21, h22, h23⟩, ⟨h24, h25, h26, h27, h28, h29, h30, h31⟩⟩
              · simp only [List.getElem?_toArray, List.getElem?_cons_zero, List.getElem?_cons_succ, Option.some.injEq] at ho
                subst ho
                obtain rfl := h8 (hdep ⟨8, Ground.guard⟩ (by simp) rfl)
                cases hgd : c1 with
                | false =>
                  subst hgd
                  clear hdep
                  rw [if_neg (by intro h; exact absurd (show false = true from h) Bool.false_ne_true)]
                  refine ⟨fun _ _ => trivial, hK _ _ ?_⟩
                  exact ⟨_, _, _, _, _, _, _, _, _, _, _, _, _, _, _, _, _, _, _, _, _, _, _, _, _, _, _, _, _, _, _, _, rfl, ⟨HG.out, HMq.out⟩, ⟨h0, h1, h2, h3, h4, h5, h6, h7⟩, ⟨fun _ => rfl, h9, h10, h11, h12, h13, fun _ h => (by cases h), h15⟩, ⟨h16, h17, h18, h19, h20, h21, h22, h23⟩, ⟨h24, h25, h26, h27, h28, h29, h30, h31⟩⟩
                | true =>
                  subst hgd
                  obtain rfl := h13 (hdep ⟨13, Ground.data⟩ (by simp) rfl) rfl
                  clear hdep
                  rw [if_pos (by rfl)]
                  gi_wp2
                  exact ⟨_, _, _, _, _, _, _, _, _, _, _, _, _, _, _, _, _, _, _, _, _, _, _, _, _, _, _, _, _, _, _, _, rfl, ⟨HG.out, HMq.out⟩, ⟨h0, h1, h2, h3, h4, h5, h6, h7⟩, ⟨fun _ => rfl, (fun a b => h9 a (by first | exact b | trivial)), (fun a b => h10 a (by first | exact b | trivial)), (fun a b => h11 a (by first | exact b | trivial)), (fun a b => h12 a (by first | exact b | trivial)), fun _ _ => rfl, fun _ _ => rfl, (fun a b => h15 a (by first | exact b | trivial))⟩, ⟨(fun a b => h16 a (by first | exact b | trivial)), h17, h18, h19, h20, h21, h22, h23⟩, ⟨h24, h25, h26, h27, h28, h29, h30, h31⟩⟩
              · simp only [List.getElem?_toArray, List.getElem?_cons_zero, List.getElem?_cons_succ, Option.some.injEq] at ho
                subst ho
                obtain rfl := h8 (hdep ⟨8, Ground.guard⟩ (by simp) rfl)
                cases hgd : c1 with
                | false =>
                  subst hgd
                  clear hdep
                  rw [if_neg (by intro h; exact absurd (show false = true from h) Bool.false_ne_true)]
                  refine ⟨fun _ _ => trivial, hK _ _ ?_⟩
                  exact ⟨_, _, _, _, _, _, _, _, _, _, _, _, _, _, _, _, _, _, _, _, _, _, _, _, _, _, _, _, _, _, _, _, rfl, ⟨HG.out, HMq.out⟩, ⟨h0, h1, h2, h3, h4, h5, h6, h7⟩, ⟨fun _ => rfl, h9, h10, h11, h12, h13, h14, fun _ h => (by cases h)⟩, ⟨h16, h17, h18, h19, h20, h21, h22, h23⟩, ⟨h24, h25, h26, h27, h28, h29, h30, h31⟩⟩
                | true =>
                  subst hgd
                  obtain rfl := h14 (hdep ⟨14, Ground.data⟩ (by simp) rfl) rfl
                  clear hdep
                  rw [if_pos (by rfl)]
                  gi_wp2
                  exact ⟨_, _, _, _, _, _, _, _, _, _, _, _, _, _, _, _, _, _, _, _, _, _, _, _, _, _, _, _, _, _, _, _, rfl, ⟨HG.out, HMq.out⟩, ⟨h0, h1, h2, h3, h4, h5, h6, h7⟩, ⟨fun _ => rfl, (fun a b => h9 a (by first | exact b | trivial)), (fun a b => h10 a (by first | exact b | trivial)), (fun a b => h11 a (by first | exact b | trivial)), (fun a b => h12 a (by first | exact b | trivial)), (fun a b => h13 a (by first | exact b | trivial)), fun _ _ => rfl, fun _ _ => rfl⟩, ⟨(fun a b => h16 a (by first | exact b | trivial)), h17, h18, h19, h20, h21, h22, h23⟩, ⟨h24, h25, h26, h27, h28, h29, h30, h31⟩⟩
              · simp only [List.getElem?_toArray, List.getElem?_cons_zero, List.getElem?_cons_succ, Option.some.injEq] at ho
                subst ho
                obtain rfl := h8 (hdep ⟨8, Ground.guard⟩ (by simp) rfl)
                cases hgd : c1 with
                | false =>
                  subst hgd
                  clear hdep
                  rw [if_neg (by intro h; exact absurd (show false = true from h) Bool.false_ne_true)]
                  refine ⟨fun _ _ => trivial, hK _ _ ?_⟩
                  exact ⟨_, _, _, _, _, _, _, _, _, _, _, _, _, _, _, _, _, _, _, _, _, _, _, _, _, _, _, _, _, _, _, _, rfl, ⟨HG.out, HMq.out⟩, ⟨h0, h1, h2, h3, h4, h5, h6, h7⟩, ⟨fun _ => rfl, h9, h10, h11, h12, h13, h14, h15⟩, ⟨fun _ h => (by cases h), h17, h18, h19, h20, h21, h22, h23⟩, ⟨h24, h25, h26, h27, h28, h29, h30, h31⟩⟩
                | true =>
                  subst hgd
                  obtain rfl := h12 (hdep ⟨12, Ground.data⟩ (by simp) rfl) rfl
                  obtain rfl := h15 (hdep ⟨15, Ground.data⟩ (by simp) rfl) rfl
                  clear hdep
                  rw [if_pos (by rfl)]
                  have hv := HC2.out
                  gi_wp2
                  exact ⟨_, _, _, _, _, _, _, _, _, _, _, _, _, _, _, _, _, _, _, _, _, _, _, _, _, _, _, _, _, _, _, _, rfl, ⟨HG.out, HMq.out⟩, ⟨h0, h1, h2, h3, h4, h5, h6, h7⟩, ⟨fun _ => rfl, (fun a b => h9 a (by first | exact b | trivial)), (fun a b => h10 a (by first | exact b | trivial)), (fun a b => h11 a (by first | exact b | trivial)), fun _ _ => rfl, (fun a b => h13 a (by first | exact b | trivial)), (fun a b => h14 a (by first | exact b | trivial)), fun _ _ => rfl⟩, ⟨fun _ _ => (by first | exact congrArg Value.bool hv | (simp only [← hv]; done) | (simp only [← hv]; simp)), h17, h18, h19, h20, h21, h22, h23⟩, ⟨h24, h25, h26, h27, h28, h29, h30, h31⟩⟩
              · simp only [List.getElem?_toArray, List.getElem?_cons_zero, List.getElem?_cons_succ, Option.some.injEq] at ho
                subst ho
                obtain rfl := h8 (hdep ⟨8, Ground.data⟩ (by simp) rfl)
                rw [if_pos (by rfl)]
                cases hgd : c1 with
                | false =>
                  subst hgd
                  clear hdep
                  have hv := hc12.out
                  gi_wp2
                  exact ⟨_, _, _, _, _, _, _, _, _, _, _, _, _, _, _, _, _, _, _, _, _, _, _, _, _, _, _, _, _, _, _, _, rfl, ⟨HG.out, HMq.out⟩, ⟨h0, h1, h2, h3, h4, h5, h6, h7⟩, ⟨fun _ => rfl, (fun _ b => (by cases b)), (fun _ b => (by cases b)), (fun _ b => (by cases b)), (fun _ b => (by cases b)), (fun _ b => (by cases b)), (fun _ b => (by cases b)), (fun _ b => (by cases b))⟩, ⟨(fun _ b => (by cases b)), fun _ => (by rw [← hv]; first | done | rfl), h18, h19, h20, h21, h22, h23⟩, ⟨h24, h25, h26, h27, h28, h29, h30, h31⟩⟩
                | true =>
                  subst hgd
                  obtain rfl := h16 (hdep ⟨16, Ground.data⟩ (by simp) rfl) rfl
                  clear hdep
                  have hv := hc12.out
                  gi_wp2
                  exact ⟨_, _, _, _, _, _, _, _, _, _, _, _, _, _, _, _, _, _, _, _, _, _, _, _, _, _, _, _, _, _, _, _, rfl, ⟨HG.out, HMq.out⟩, ⟨h0, h1, h2, h3, h4, h5, h6, h7⟩, ⟨fun _ => rfl, (fun a b => h9 a (by first | exact b | trivial)), (fun a b => h10 a (by first | exact b | trivial)), (fun a b => h11 a (by first | exact b | trivial)), (fun a b => h12 a (by first | exact b | trivial)), (fun a b => h13 a (by first | exact b | trivial)), (fun a b => h14 a (by first | exact b | trivial)), (fun a b => h15 a (by first | exact b | trivial))⟩, ⟨fun _ _ => rfl, fun _ => (by rw [← hv]; first | done | rfl), h18, h19, h20, h21, h22, h23⟩, ⟨h24, h25, h26, h27, h28, h29, h30, h31⟩⟩
              · simp only [List.getElem?_toArray, List.getElem?_cons_zero, List.getElem?_cons_succ, Option.some.injEq] at ho
                subst ho
                obtain rfl := h17 (hdep ⟨17, Ground.data⟩ (by simp) rfl)
                clear hdep
                rw [if_pos (by rfl)]
                gi_wp2
                exact ⟨_, _, _, _, _, _, _, _, _, _, _, _, _, _, _, _, _, _, _, _, _, _, _, _, _, _, _, _, _, _, _, _, rfl, ⟨HG.out, HMq.out⟩, ⟨h0, h1, h2, h3, h4, h5, h6, h7⟩, ⟨h8, h9, h10, h11, h12, h13, h14, h15⟩, ⟨h16, fun _ => rfl, fun _ => rfl, h19, h20, h21, h22, h23⟩, ⟨h24, h25, h26, h27, h28, h29, h30, h31⟩⟩
              · simp only [List.getElem?_toArray, List.getElem?_cons_zero, List.getElem?_cons_succ, Option.some.injEq] at ho
                subst ho
                obtain rfl := h18 (hdep ⟨18, Ground.guard⟩ (by simp) rfl)
                cases hgd : c12 with
                | false =>
                  subst hgd
                  clear hdep
                  rw [if_neg (by intro h; exact absurd (show false = true from h) Bool.false_ne_true)]
                  refine ⟨fun _ _ => trivial, hK _ _ ?_⟩
                  exact ⟨_, _, _, _, _, _, _, _, _, _, _, _, _, _, _, _, _, _, _, _, _, _, _, _, _, _, _, _, _, _, _, _, rfl, ⟨HG.out, HMq.out⟩, ⟨h0, h1, h2, h3, h4, h5, h6, h7⟩, ⟨h8, h9, h10, h11, h12, h13, h14, h15⟩, ⟨h16, h17, fun _ => rfl, fun _ h => (by cases h), h20, h21, h22, h23⟩, ⟨h24, h25, h26, h27, h28, h29, h30, h31⟩⟩
                | true =>
                  subst hgd
                  clear hdep
                  rw [if_pos (by rfl)]
                  gi_wp2
                  exact ⟨_, _, _, _, _, _, _, _, _, _, _, _, _, _, _, _, _, _, _, _, _, _, _, _, _, _, _, _, _, _, _, _, rfl, ⟨HG.out, HMq.out⟩, ⟨h0, h1, h2, h3, h4, h5, h6, h7⟩, ⟨h8, h9, h10, h11, h12, h13, h14, h15⟩, ⟨h16, h17, fun _ => rfl, fun _ _ => rfl, (fun a b => h20 a (by first | exact b | trivial)), (fun a b => h21 a (by first | exact b | trivial)), (fun a b => h22 a (by first | exact b | trivial)), (fun a b => h23 a (by first | exact b | trivial))⟩, ⟨h24, h25, h26, h27, h28, h29, h30, h31⟩⟩
              · simp only [List.getElem?_toArray, List.getElem?_cons_zero, List.getElem?_cons_succ, Option.some.injEq] at ho
                subst ho
                obtain rfl := h18 (hdep ⟨18, Ground.guard⟩ (by simp) rfl)
                cases hgd : c12 with
                | false =>
                  subst hgd
                  clear hdep
                  rw [if_neg (by intro h; exact absurd (show false = true from h) Bool.false_ne_true)]
                  refine ⟨fun _ _ => trivial, hK _ _ ?_⟩
                  exact ⟨_, _, _, _, _, _, _, _, _, _, _, _, _, _, _, _, _, _, _, _, _, _, _, _, _, _, _, _, _, _, _, _, rfl, ⟨HG.out, HMq.out⟩, ⟨h0, h1, h2, h3, h4, h5, h6, h7⟩, ⟨h8, h9, h10, h11, h12, h13, h14, h15⟩, ⟨h16, h17, fun _ => rfl, h19, fun _ h => (by cases h), h21, h22, h23⟩, ⟨h24, h25, h26, h27, h28, h29, h30, h31⟩⟩
                | true =>
                  subst hgd
                  clear hdep
                  rw [if_pos (by rfl)]
                  gi_wp2
                  exact ⟨_, _, _, _, _, _, _, _, _, _, _, _, _, _, _, _, _, _, _, _, _, _, _, _, _, _, _, _, _, _, _, _, rfl, ⟨HG.out, HMq.out⟩, ⟨h0, h1, h2, h3, h4, h5, h6, h7⟩, ⟨h8, h9, h10, h11, h12, h13, h14, h15⟩, ⟨h16, h17, fun _ => rfl, (fun a b => h19 a (by first | exact b | trivial)), fun _ _ => rfl, (fun a b => h21 a (by first | exact b | trivial)), (fun a b => h22 a (by first | exact b | trivial)), (fun a b => h23 a (by first | exact b | trivial))⟩, ⟨h24, h25, h26, h27, h28, h29, h30, h31⟩⟩
              · simp only [List.getElem?_toArray, List.getElem?_cons_zero, List.getElem?_cons_succ, Option.some.injEq] at ho
                subst ho
                obtain rfl := h18 (hdep ⟨18, Ground.guard⟩ (by simp) rfl)
                cases hgd : c12 with
                | false =>
                  subst hgd
                  clear hdep
                  rw [if_neg (by intro h; exact absurd (show false = true from h) Bool.false_ne_true)]
                  refine ⟨fun _ _ => trivial, hK _ _ ?_⟩
                  exact ⟨_, _, _, _, _, _, _, _, _, _, _, _, _, _, _, _, _, _, _, _, _, _, _, _, _, _, _, _, _, _, _, _, rfl, ⟨HG.out, HMq.out⟩, ⟨h0, h1, h2, h3, h4, h5, h6, h7⟩, ⟨h8, h9, h10, h11, h12, h13, h14, h15⟩, ⟨h16, h17, fun _ => rfl, h19, h20, fun _ h => (by cases h), h22, h23⟩, ⟨h24, h25, h26, h27, h28, h29, h30, h31⟩⟩
                | true =>
                  subst hgd
                  clear hdep
                  rw [if_pos (by rfl)]
                  gi_wp2
                  exact ⟨_, _, _, _, _, _, _, _, _, _, _, _, _, _, _, _, _, _, _, _, _, _, _, _, _, _, _, _, _, _, _, _, rfl, ⟨HG.out, HMq.out⟩, ⟨h0, h1, h2, h3, h4, h5, h6, h7⟩, ⟨h8, h9, h10, h11, h12, h13, h14, h15⟩, ⟨h16, h17, fun _ => rfl, (fun a b => h19 a (by first | exact b | trivial)), (fun a b => h20 a (by first | exact b | trivial)), fun _ _ => rfl, (fun a b => h22 a (by first | exact b | trivial)), (fun a b => h23 a (by first | exact b | trivial))⟩, ⟨h24, h25, h26, h27, h28, h29, h30, h31⟩⟩
              · simp only [List.getElem?_toArray, List.getElem?_cons_zero, List.getElem?_cons_succ, Option.some.injEq] at ho
                subst ho
                obtain rfl := h18 (hdep ⟨18, Ground.guard⟩ (by simp) rfl)
                cases hgd : c12 with
                | false =>
                  subst hgd
                  clear hdep
                  rw [if_neg (by intro h; exact absurd (show false = true from h) Bool.false_ne_true)]
                  refine ⟨fun _ _ => trivial, hK _ _ ?_⟩
                  exact ⟨_, _, _, _, _, _, _, _, _, _, _, _, _, _, _, _, _, _, _, _, _, _, _, _, _, _, _, _, _, _, _, _, rfl, ⟨HG.out, HMq.out⟩, ⟨h0, h1, h2, h3, h4, h5, h6, h7⟩, ⟨h8, h9, h10, h11, h12, h13, h14, h15⟩, ⟨h16, h17, fun _ => rfl, h19, h20, h21, fun _ h => (by cases h), h23⟩, ⟨h24, h25, h26, h27, h28, h29, h30, h31⟩⟩
                | true =>
                  subst hgd
                  obtain rfl := h21 (hdep ⟨21, Ground.data⟩ (by simp) rfl) rfl
                  clear hdep
                  rw [if_pos (by rfl)]
                  gi_wp2
                  exact ⟨_, _, _, _, _, _, _, _, _, _, _, _, _, _, _, _, _, _, _, _, _, _, _, _, _, _, _, _, _, _, _, _, rfl, ⟨HG.out, HMq.out⟩, ⟨h0, h1, h2, h3, h4, h5, h6, h7⟩, ⟨h8, h9, h10, h11, h12, h13, h14, h15⟩, ⟨h16, h17, fun _ => rfl, (fun a b => h19 a (by first | exact b | trivial)), (fun a b => h20 a (by first | exact b | trivial)), fun _ _ => rfl, fun _ _ => rfl, (fun a b => h23 a (by first | exact b | trivial))⟩, ⟨h24, h25, h26, h27, h28, h29, h30, h31⟩⟩
              · simp only [List.getElem?_toArray, List.getElem?_cons_zero, List.getElem?_cons_succ, Option.some.injEq] at ho
                subst ho
                obtain rfl := h18 (hdep ⟨18, Ground.guard⟩ (by simp) rfl)
                cases hgd : c12 with
                | false =>
                  subst hgd
                  clear hdep
                  rw [if_neg (by intro h; exact absurd (show false = true from h) Bool.false_ne_true)]
                  refine ⟨fun _ _ => trivial, hK _ _ ?_⟩
                  exact ⟨_, _, _, _, _, _, _, _, _, _, _, _, _, _, _, _, _, _, _, _, _, _, _, _, _, _, _, _, _, _, _, _, rfl, ⟨HG.out, HMq.out⟩, ⟨h0, h1, h2, h3, h4, h5, h6, h7⟩, ⟨h8, h9, h10, h11, h12, h13, h14, h15⟩, ⟨h16, h17, fun _ => rfl, h19, h20, h21, h22, fun _ h => (by cases h)⟩, ⟨h24, h25, h26, h27, h28, h29, h30, h31⟩⟩
                | true =>
                  subst hgd
                  obtain rfl := h19 (hdep ⟨19, Ground.data⟩ (by simp) rfl) rfl
                  obtain rfl := h20 (hdep ⟨20, Ground.data⟩ (by simp) rfl) rfl
                  obtain rfl := h22 (hdep ⟨22, Ground.data⟩ (by simp) rfl) rfl
                  clear hdep
                  rw [if_pos (by rfl)]
                  gi_wp2_with (refine ⟨trivial, ?_⟩; gi_at_call 68; (with_reducible refine (CallsIn.inRound l' (callsIn_wide.2 (HE1.out _ HMq.out))).mono ?_); rintro e1 wa ⟨rfl, hm1, hb1⟩; have HB1 := Lib.hid hb1; have HM1 := Lib.hid hm1; clear hb1 hm1)
                  exact ⟨_, _, _, _, _, _, _, _, _, _, _, _, _, _, _, _, _, _, _, _, _, _, _, _, _, _, _, _, _, _, _, _, rfl, ⟨HG.out.trans HB1.out, HM1.out⟩, ⟨h0, h1, h2, h3, h4, h5, h6, h7⟩, ⟨h8, h9, h10, h11, h12, h13, h14, h15⟩, ⟨h16, h17, fun _ => rfl, fun _ _ => rfl, fun _ _ => rfl, (fun a b => h21 a (by first | exact b | trivial)), fun _ _ => rfl, fun _ _ => rfl⟩, ⟨h24, h25, h26, h27, h28, h29, h30, h31⟩⟩
              · simp only [List.getElem?_toArray, List.getElem?_cons_zero, List.getElem?_cons_succ, Option.some.injEq] at ho
                subst ho
                obtain rfl := h18 (hdep ⟨18, Ground.data⟩ (by simp) rfl)
                rw [if_pos (by rfl)]
                cases hgd : c12 with
                | false =>
                  subst hgd
                  clear hdep
                  have hv := hc123.out
                  gi_wp2
                  exact ⟨_, _, _, _, _, _, _, _, _, _, _, _, _, _, _, _, _, _, _, _, _, _, _, _, _, _, _, _, _, _, _, _, rfl, ⟨HG.out, HMq.out⟩, ⟨h0, h1, h2, h3, h4, h5, h6, h7⟩, ⟨h8, h9, h10, h11, h12, h13, h14, h15⟩, ⟨h16, h17, fun _ => rfl, (fun _ b => (by cases b)), (fun _ b => (by cases b)), (fun _ b => (by cases b)), (fun _ b => (by cases b)), (fun _ b => (by cases b))⟩, ⟨fun _ => (by rw [← hv]; first | done | rfl), h25, h26, h27, h28, h29, h30, h31⟩⟩
                | true =>
                  subst hgd
                  obtain rfl := h23 (hdep ⟨23, Ground.data⟩ (by simp) rfl) rfl
                  clear hdep
                  have hv := hc123.out
                  gi_wp2
                  exact ⟨_, _, _, _, _, _, _, _, _, _, _, _, _, _, _, _, _, _, _, _, _, _, _, _, _, _, _, _, _, _, _, _, rfl, ⟨HG.out, HMq.out⟩, ⟨h0, h1, h2, h3, h4, h5, h6, h7⟩, ⟨h8, h9, h10, h11, h12, h13, h14, h15⟩, ⟨h16, h17, fun _ => rfl, (fun a b => h19 a (by first | exact b | trivial)), (fun a b => h20 a (by first | exact b | trivial)), (fun a b => h21 a (by first | exact b | trivial)), (fun a b => h22 a (by first | exact b | trivial)), fun _ _ => rfl⟩, ⟨fun _ => (by rw [← hv]; first | done | rfl), h25, h26, h27, h28, h29, h30, h31⟩⟩
              · simp only [List.getElem?_toArray, List.getElem?_cons_zero, List.getElem?_cons_succ, Option.some.injEq] at ho
                subst ho
                obtain rfl := h24 (hdep ⟨24, Ground.data⟩ (by simp) rfl)
                clear hdep
                rw [if_pos (by rfl)]
                gi_wp2
                exact ⟨_, _, _, _, _, _, _, _, _, _, _, _, _, _, _, _, _, _, _, _, _, _, _, _, _, _, _, _, _, _, _, _, rfl, ⟨HG.out, HMq.out⟩, ⟨h0, h1, h2, h3, h4, h5, h6, h7⟩, ⟨h8, h9, h10, h11, h12, h13, h14, h15⟩, ⟨h16, h17, h18, h19, h20, h21, h22, h23⟩, ⟨fun _ => rfl, fun _ => rfl, h26, h27, h28, h29, h30, h31⟩⟩
              · simp only [List.getElem?_toArray, List.getElem?_cons_zero, List.getElem?_cons_succ, Option.some.injEq] at ho
                subst ho
                obtain rfl := h25 (hdep ⟨25, Ground.guard⟩ (by simp) rfl)
                cases hgd : c123 with
                | false =>
                  subst hgd
                  clear hdep
                  rw [if_neg (by intro h; exact absurd (show false = true from h) Bool.false_ne_true)]
                  refine ⟨fun _ _ => trivial, hK _ _ ?_⟩
                  exact ⟨_, _, _, _, _, _, _, _, _, _, _, _, _, _, _, _, _, _, _, _, _, _, _, _, _, _, _, _, _, _, _, _, rfl, ⟨HG.out, HMq.out⟩, ⟨h0, h1, h2, h3, h4, h5, h6, h7⟩, ⟨h8, h9, h10, h11, h12, h13, h14, h15⟩, ⟨h16, h17, h18, h19, h20, h21, h22, h23⟩, ⟨h24, fun _ => rfl, fun _ h => (by cases h), h27, h28, h29, h30, h31⟩⟩
                | true =>
                  subst hgd
                  clear hdep
                  rw [if_pos (by rfl)]
                  gi_wp2
                  exact ⟨_, _, _, _, _, _, _, _, _, _, _, _, _, _, _, _, _, _, _, _, _, _, _, _, _, _, _, _, _, _, _, _, rfl, ⟨HG.out, HMq.out⟩, ⟨h0, h1, h2, h3, h4, h5, h6, h7⟩, ⟨h8, h9, h10, h11, h12, h13, h14, h15⟩, ⟨h16, h17, h18, h19, h20, h21, h22, h23⟩, ⟨h24, fun _ => rfl, fun _ _ => rfl, (fun a b => h27 a (by first | exact b | trivial)), (fun a b => h28 a (by first | exact b | trivial)), (fun a b => h29 a (by first | exact b | trivial)), (fun a b => h30 a (by first | exact b | trivial)), h31⟩⟩
              · simp only [List.getElem?_toArray, List.getElem?_cons_zero, List.getElem?_cons_succ, Option.some.injEq] at ho
                subst ho
                obtain rfl := h25 (hdep ⟨25, Ground.guard⟩ (by simp) rfl)
                cases hgd : c123 with
                | false =>
                  subst hgd
                  clear hdep
                  rw [if_neg (by intro h; exact absurd (show false = true from h) Bool.false_ne_true)]
                  refine ⟨fun _ _ => trivial, hK _ _ ?_⟩
                  exact ⟨_, _, _, _, _, _, _, _, _, _, _, _, _, _, _, _, _, _, _, _, _, _, _, _, _, _, _, _, _, _, _, _, rfl, ⟨HG.out, HMq.out⟩, ⟨h0, h1, h2, h3, h4, h5, h6, h7⟩, ⟨h8, h9, h10, h11, h12, h13, h14, h15⟩, ⟨h16, h17, h18, h19, h20, h21, h22, h23⟩, ⟨h24, fun _ => rfl, h26, fun _ h => (by cases h), h28, h29, h30, h31⟩⟩
                | true =>
                  subst hgd
                  clear hdep
                  rw [if_pos (by rfl)]
                  gi_wp2
                  exact ⟨_, _, _, _, _, _, _, _, _, _, _, _, _, _, _, _, _, _, _, _, _, _, _, _, _, _, _, _, _, _, _, _, rfl, ⟨HG.out, HMq.out⟩, ⟨h0, h1, h2, h3, h4, h5, h6, h7⟩, ⟨h8, h9, h10, h11, h12, h13, h14, h15⟩, ⟨h16, h17, h18, h19, h20, h21, h22, h23⟩, ⟨h24, fun _ => rfl, (fun a b => h26 a (by first | exact b | trivial)), fun _ _ => rfl, (fun a b => h28 a (by first | exact b | trivial)), (fun a b => h29 a (by first | exact b | trivial)), (fun a b => h30 a (by first | exact b | trivial)), h31⟩⟩
              · simp only [List.getElem?_toArray, List.getElem?_cons_zero, List.getElem?_cons_succ, Option.some.injEq] at ho
                subst ho
                obtain rfl := h25 (hdep ⟨25, Ground.guard⟩ (by simp) rfl)
                cases hgd : c123 with
                | false =>
                  subst hgd
                  clear hdep
                  rw [if_neg (by intro h; exact absurd (show false = true from h) Bool.false_ne_true)]
                  refine ⟨fun _ _ => trivial, hK _ _ ?_⟩
                  exact ⟨_, _, _, _, _, _, _, _, _, _, _, _, _, _, _, _, _, _, _, _, _, _, _, _, _, _, _, _, _, _, _, _, rfl, ⟨HG.out, HMq.out⟩, ⟨h0, h1, h2, h3, h4, h5, h6, h7⟩, ⟨h8, h9, h10, h11, h12, h13, h14, h15⟩, ⟨h16, h17, h18, h19, h20, h21, h22, h23⟩, ⟨h24, fun _ => rfl, h26, h27, fun _ h => (by cases h), h29, h30, h31⟩⟩
                | true =>
                  subst hgd
                  clear hdep
                  rw [if_pos (by rfl)]
                  gi_wp2
                  exact ⟨_, _, _, _, _, _, _, _, _, _, _, _, _, _, _, _, _, _, _, _, _, _, _, _, _, _, _, _, _, _, _, _, rfl, ⟨HG.out, HMq.out⟩, ⟨h0, h1, h2, h3, h4, h5, h6, h7⟩, ⟨h8, h9, h10, h11, h12, h13, h14, h15⟩, ⟨h16, h17, h18, h19, h20, h21, h22, h23⟩, ⟨h24, fun _ => rfl, (fun a b => h26 a (by first | exact b | trivial)), (fun a b => h27 a (by first | exact b | trivial)), fun _ _ => rfl, (fun a b => h29 a (by first | exact b | trivial)), (fun a b => h30 a (by first | exact b | trivial)), h31⟩⟩
              · simp only [List.getElem?_toArray, List.getElem?_cons_zero, List.getElem?_cons_succ, Option.some.injEq] at ho
                subst ho
                obtain rfl := h25 (hdep ⟨25, Ground.guard⟩ (by simp) rfl)
                cases hgd : c123 with
                | false =>
                  subst hgd
                  clear hdep
                  rw [if_neg (by intro h; exact absurd (show false = true from h) Bool.false_ne_true)]
                  refine ⟨fun _ _ => trivial, hK _ _ ?_⟩
                  exact ⟨_, _, _, _, _, _, _, _, _, _, _, _, _, _, _, _, _, _, _, _, _, _, _, _, _, _, _, _, _, _, _, _, rfl, ⟨HG.out, HMq.out⟩, ⟨h0, h1, h2, h3, h4, h5, h6, h7⟩, ⟨h8, h9, h10, h11, h12, h13, h14, h15⟩, ⟨h16, h17, h18, h19, h20, h21, h22, h23⟩, ⟨h24, fun _ => rfl, h26, h27, h28, fun _ h => (by cases h), h30, h31⟩⟩
                | true =>
                  subst hgd
                  obtain rfl := h28 (hdep ⟨28, Ground.data⟩ (by simp) rfl) rfl
                  clear hdep
                  rw [if_pos (by rfl)]
                  gi_wp2
                  exact ⟨_, _, _, _, _, _, _, _, _, _, _, _, _, _, _, _, _, _, _, _, _, _, _, _, _, _, _, _, _, _, _, _, rfl, ⟨HG.out, HMq.out⟩, ⟨h0, h1, h2, h3, h4, h5, h6, h7⟩, ⟨h8, h9, h10, h11, h12, h13, h14, h15⟩, ⟨h16, h17, h18, h19, h20, h21, h22, h23⟩, ⟨h24, fun _ => rfl, (fun a b => h26 a (by first | exact b | trivial)), (fun a b => h27 a (by first | exact b | trivial)), fun _ _ => rfl, fun _ _ => rfl, (fun a b => h30 a (by first | exact b | trivial)), h31⟩⟩
              · simp only [List.getElem?_toArray, List.getElem?_cons_zero, List.getElem?_cons_succ, Option.some.injEq] at ho
                subst ho
                obtain rfl := h25 (hdep ⟨25, Ground.guard⟩ (by simp) rfl)
                cases hgd : c123 with
                | false =>
                  subst hgd
                  clear hdep
                  rw [if_neg (by intro h; exact absurd (show false = true from h) Bool.false_ne_true)]
                  refine ⟨fun _ _ => trivial, hK _ _ ?_⟩
                  exact ⟨_, _, _, _, _, _, _, _, _, _, _, _, _, _, _, _, _, _, _, _, _, _, _, _, _, _, _, _, _, _, _, _, rfl, ⟨HG.out, HMq.out⟩, ⟨h0, h1, h2, h3, h4, h5, h6, h7⟩, ⟨h8, h9, h10, h11, h12, h13, h14, h15⟩, ⟨h16, h17, h18, h19, h20, h21, h22, h23⟩, ⟨h24, fun _ => rfl, h26, h27, h28, h29, fun _ h => (by cases h), h31⟩⟩
                | true =>
                  subst hgd
                  obtain rfl := h26 (hdep ⟨26, Ground.data⟩ (by simp) rfl) rfl
                  obtain rfl := h27 (hdep ⟨27, Ground.data⟩ (by simp) rfl) rfl
                  obtain rfl := h29 (hdep ⟨29, Ground.data⟩ (by simp) rfl) rfl
                  clear hdep
                  rw [if_pos (by rfl)]
                  gi_wp2_with (refine ⟨trivial, ?_⟩; gi_at_call 68; (with_reducible refine (CallsIn.inRound l' (callsIn_wide.2 (HE2.out _ HMq.out))).mono ?_); rintro e1 wa ⟨rfl, hm1, hb1⟩; have HB1 := Lib.hid hb1; have HM1 := Lib.hid hm1; clear hb1 hm1)
                  exact ⟨_, _, _, _, _, _, _, _, _, _, _, _, _, _, _, _, _, _, _, _, _, _, _, _, _, _, _, _, _, _, _, _, rfl, ⟨HG.out.trans HB1.out, HM1.out⟩, ⟨h0, h1, h2, h3, h4, h5, h6, h7⟩, ⟨h8, h9, h10, h11, h12, h13, h14, h15⟩, ⟨h16, h17, h18, h19, h20, h21, h22, h23⟩, ⟨h24, fun _ => rfl, fun _ _ => rfl, fun _ _ => rfl, (fun a b => h28 a (by first | exact b | trivial)), fun _ _ => rfl, fun _ _ => rfl, h31⟩⟩
              · simp only [List.getElem?_toArray, List.getElem?_cons_zero, List.getElem?_cons_succ, Option.some.injEq] at ho
                subst ho
                obtain rfl := h25 (hdep ⟨25, Ground.data⟩ (by simp) rfl)
                rw [if_pos (by rfl)]
                cases hgd : c123 with
                | false =>
                  subst hgd
                  clear hdep
                  have hv := hc4.out
                  gi_wp2
                  exact ⟨_, _, _, _, _, _, _, _, _, _, _, _, _, _, _, _, _, _, _, _, _, _, _, _, _, _, _, _, _, _, _, _, rfl, ⟨HG.out, HMq.out⟩, ⟨h0, h1, h2, h3, h4, h5, h6, h7⟩, ⟨h8, h9, h10, h11, h12, h13, h14, h15⟩, ⟨h16, h17, h18, h19, h20, h21, h22, h23⟩, ⟨h24, fun _ => rfl, (fun _ b => (by cases b)), (fun _ b => (by cases b)), (fun _ b => (by cases b)), (fun _ b => (by cases b)), (fun _ b => (by cases b)), fun _ => (by rw [← hv]; first | done | rfl)⟩⟩
                | true =>
                  subst hgd
                  obtain rfl := h30 (hdep ⟨30, Ground.data⟩ (by simp) rfl) rfl
                  clear hdep
                  have hv := hc4.out
                  gi_wp2
                  exact ⟨_, _, _, _, _, _, _, _, _, _, _, _, _, _, _, _, _, _, _, _, _, _, _, _, _, _, _, _, _, _, _, _, rfl, ⟨HG.out, HMq.out⟩, ⟨h0, h1, h2, h3, h4, h5, h6, h7⟩, ⟨h8, h9, h10, h11, h12, h13, h14, h15⟩, ⟨h16, h17, h18, h19, h20, h21, h22, h23⟩, ⟨h24, fun _ => rfl, (fun a b => h26 a (by first | exact b | trivial)), (fun a b => h27 a (by first | exact b | trivial)), (fun a b => h28 a (by first | exact b | trivial)), (fun a b => h29 a (by first | exact b | trivial)), fun _ _ => rfl, fun _ => (by rw [← hv]; first | done | rfl)⟩⟩
          case rest =>
            obtain ⟨rfl, hG⟩ := hcut
            have hgW : W.grownBy wc (some B) := (grow_of HBc.out (some B)).trans hG.out.1
            have hEF := HE.out.grown hgW
            have hkf : KeepsFrom W0.heap.size W wc := KeepsFrom.of_grownBy hgW (fun j e => by cases e; exact hBW)
            have hks : KpS Bs W wc := hgW.block Bs (by omega) (fun e => by have := HE.out.hne; cases e; omega)
            have hszF := hgW.size
            cases c4 with
            | false =>
              have HF := Lib.hid (And.intro hkf (And.intro hks (And.intro hEF hG.out.2)))
              clear hgW hEF hkf hks
              gi_wp2
              exact ⟨HF.out.1, HF.out.2.1, ⟨fun y hy => (by
                rw [List.mem_append, List.mem_singleton] at hy
                rcases hy with hy | hy
                · exact HPRE.out y hy
                · rw [hy]; exact HBO2.out), HF.out.2.2.2, HF.out.2.2.1⟩, Nat.le_trans hsz hszF⟩
            | true =>
              obtain ⟨g, hMg, hOg, hag⟩ := hG.out.2
              obtain ⟨wu, hup, hMu, hgu, _⟩ := hMg.write (s := s) (n := N) (by omega) (by omega) true
              have q3 := hEF.hp.blk.one
              have q7 := hEF.hq.blk.four
              have hku : KeepsFrom W0.heap.size W wu := KeepsFrom.of_grownBy (hgW.trans hgu) (fun j e => by cases e; exact hBW)
              have HF := Lib.hid (And.intro hku (And.intro (hEF.grown hgu) (And.intro hMu (And.intro hOg hag))))
              clear hgW hEF hkf hks hMg hOg hag hMu hgu hku
              gi_wp2
              exact ⟨HF.out.1, ⟨rfl, x, HBO2.out⟩, ⟨g, HF.out.2.2.1, HF.out.2.2.2.1, HF.out.2.2.2.2⟩, HF.out.2.1⟩
      case done =>
        rintro D ys W hD hS ⟨⟨hpre, hMp, hE⟩, hsz⟩ hK
        obtain ⟨g, hMg, hOg, hag⟩ := hMp
        have hgs : g s N = some false := by
          rw [hag s N (by have := HN.out; omega)]
          exact if_pos ⟨rfl, rfl⟩
        have hwin : winB N s = false := both_false HN.out H2.out.1 (fun x => hpre x (hS x))
        have hfin : Mp N B f (W.putObj D (.deferred none)) := Mp.close HN.out HOK.out (hMg.kept (World.putObj_heap_other (by omega))) hgs hwin.symm (fun _ _ _ => rfl) hOg hag
        have hgf := grown_put hE.hg (Nat.le_trans hwW hD) (.deferred none)
        have hlk : (Instr.lookup 95 (.map (some B)) (.agg #[.int .i64 (s.a : Int), .int .i64 (s.b : Int), .int .i64 (s.c : Int), .int .i64 (N : Int)]) false).run Try.prog W = .ok (.bool false) W := by
          have := hMg.look (s := s) (n := N) (by have := H2.out; omega) (by omega) false
          rw [hgs] at this
          simpa using this
        have q3 := hE.hp.blk.one
        have q7 := hE.hq.blk.four
        have HF := Lib.hid (And.intro hfin (And.intro hgf hwin))
        have HK := Lib.hid hK
        clear hMg hOg hag hgs hwin hfin hgf hpre hS hE hK
        go_wp2_with fail
        refine ⟨by simp, .inl ⟨_, _, rfl, run_takeDeferred HK.out, ?_⟩⟩
        exact ⟨.bool false, by simp [results, Try.f68, go_sem], by rw [HF.out.2.2], HF.out.1, HF.out.2.1⟩
      case stop =>
        rintro D cc pre W hD _ ⟨⟨rfl, x, hx⟩, ⟨g, hMg, hOg, hag⟩, hE⟩ hK
        have hwin : winB N s = true := both_true HN.out hx
        have hps : (g.put s N true) s N = some true := if_pos ⟨rfl, rfl⟩
        have hfin : Mp N B f (W.putObj D (.deferred none)) := Mp.close HN.out HOK.out (hMg.kept (World.putObj_heap_other (by omega))) hps hwin.symm (fun s' k h => if_neg h) hOg hag
        have hgf := grown_put hE.hg (Nat.le_trans hwW hD) (.deferred none)
        have hlk : (Instr.lookup 95 (.map (some B)) (.agg #[.int .i64 (s.a : Int), .int .i64 (s.b : Int), .int .i64 (s.c : Int), .int .i64 (N : Int)]) false).run Try.prog W = .ok (.bool true) W := by
          have := hMg.look (s := s) (n := N) (by have := H2.out; omega) (by omega) false
          rw [hps] at this
          simpa using this
        have q3 := hE.hp.blk.one
        have q7 := hE.hq.blk.four
        have HF := Lib.hid (And.intro hfin (And.intro hgf hwin))
        have HK := Lib.hid hK
        clear hMg hOg hag hps hwin hfin hgf hE hK
        refine wpIn_wide.2 ?_
        go_wp2_with fail
        refine ⟨by simp, .inl ⟨_, _, rfl, run_takeDeferred HK.out, ?_⟩⟩
        exact ⟨.bool true, by simp [results, Try.f68, go_sem], by rw [HF.out.2.2], HF.out.1, HF.out.2.1⟩
end Go.Proofs.Ytpnkbjdeiedhlaa
