/- StripBound: without lies the needed strips are the bound, with one lie at most one more: the call returns true for every input. -/
import Derived.Test.YtpnkbjdeiedhlaaAR
import Derived.Test.YtpnkbjdeiedhlaaPC
namespace Go.Proofs.Ytpnkbjdeiedhlaa
open Go.ChangeShapes Go.WideShapes Go.ChangeAt Go.RowKit Go.Lib Go.Shelf
open St

theorem ask1 {v : St → Nat} {n : Nat} (h : n ≤ 16) : askF v [(n : Int)] = (v ⟨0, 0, n⟩ : Int) ∧ gchk [(n : Int)] = 0 := by
  have g : gchk [(n : Int)] = 0 := by
    unfold gchk
    rw [if_pos (by simp)]
    unfold gl
    rw [if_pos (by omega)]
    unfold gl
    rw [if_neg (by omega)]
  refine ⟨?_, g⟩
  unfold askF
  rw [if_pos g]
  show ((v ⟨0, 0, ((n : Int)).toNat⟩ : Nat) : Int) = _
  rw [Int.toNat_natCast]
theorem ask2 {v : St → Nat} {n m : Nat} (h : n + m ≤ 16) : askF v [(n : Int), (m : Int)] = (v ⟨0, n, m⟩ : Int) ∧ gchk [(n : Int), (m : Int)] = 0 := by
  have g : gchk [(n : Int), (m : Int)] = 0 := by
    unfold gchk
    rw [if_pos (by simp)]
    unfold gl
    rw [if_pos (by omega)]
    unfold gl
    rw [if_pos (by omega)]
    unfold gl
    rw [if_neg (by omega)]
  refine ⟨?_, g⟩
  unfold askF
  rw [if_pos g]
  show ((v ⟨0, ((n : Int)).toNat, ((m : Int)).toNat⟩ : Nat) : Int) = _
  rw [Int.toNat_natCast, Int.toNat_natCast]
theorem ask3 {v : St → Nat} {n m k : Nat} (h : n + m + k ≤ 16) : askF v [(n : Int), (m : Int), (k : Int)] = (v ⟨n, m, k⟩ : Int) ∧ gchk [(n : Int), (m : Int), (k : Int)] = 0 := by
  have g : gchk [(n : Int), (m : Int), (k : Int)] = 0 := by
    unfold gchk
    rw [if_pos (by simp)]
    unfold gl
    rw [if_pos (by omega)]
    unfold gl
    rw [if_pos (by omega)]
    unfold gl
    rw [if_pos (by omega)]
    unfold gl
    rw [if_neg (by omega)]
  refine ⟨?_, g⟩
  unfold askF
  rw [if_pos g]
  show ((v ⟨((n : Int)).toNat, ((m : Int)).toNat, ((k : Int)).toNat⟩ : Nat) : Int) = _
  rw [Int.toNat_natCast, Int.toNat_natCast, Int.toNat_natCast]
theorem nd1 {n : Nat} (h : n ≤ 16) (W : World) : Gives 28 #[.slice (some ⟨W.heap.size, 0, none⟩) 1 1] (.tuple #[.int .i64 (ndF ⟨0, 0, n⟩ : Int), .int .i64 0]) (W.alloc (.cells #[.int .i64 (n : Int)] 3)) := by
  have := Needed_calls _ 1 1 _ _ (readsK1 W (n : Int) 3)
  rwa [(ask1 h).1, (ask1 (v := ndF) h).2] at this
theorem nd2 {n : Nat} (h : n ≤ 16) (W : World) : Gives 28 #[.slice (some ⟨W.heap.size, 0, none⟩) 2 2] (.tuple #[.int .i64 (ndF ⟨0, n, 0⟩ : Int), .int .i64 0]) (W.alloc (.cells #[.int .i64 (n : Int), .int .i64 0] 3)) := by
  have := Needed_calls _ 2 2 _ _ (readsK2 W (n : Int) ((0 : Nat) : Int) 3)
  rwa [(ask2 (n := n) (m := 0) h).1, (ask2 (v := ndF) (n := n) (m := 0) h).2] at this
theorem bd2 {n : Nat} (h : n ≤ 16) (W : World) : Gives 26 #[.slice (some ⟨W.heap.size, 0, none⟩) 2 2] (.tuple #[.int .i64 (bndF ⟨0, n, 0⟩ : Int), .int .i64 0]) (W.alloc (.cells #[.int .i64 (n : Int), .int .i64 0] 3)) := by
  have := Bound_calls _ 2 2 _ _ (readsK2 W (n : Int) ((0 : Nat) : Int) 3)
  rwa [(ask2 (n := n) (m := 0) h).1, (ask2 (v := bndF) (n := n) (m := 0) h).2] at this
theorem nd3 {a b c B : Nat} (h : a + b + c ≤ 16) {W : World} (k : Blk W B [.int .i64 (a : Int), .int .i64 (b : Int), .int .i64 (c : Int)]) : Gives 28 #[.slice (some ⟨B, 0, none⟩) 3 3] (.tuple #[.int .i64 (ndF ⟨a, b, c⟩ : Int), .int .i64 0]) W := by
  have hr : Reads W (some ⟨B, 0, none⟩) 3 [(a : Int), (b : Int), (c : Int)] := by
    refine ⟨rfl, by omega, fun _ => ⟨_, 0, rfl, fun j hj => ?_⟩⟩
    have : j = 0 ∨ j = 1 ∨ j = 2 := by omega
    rcases this with rfl | rfl | rfl
    · exact k.cell 0 _ rfl
    · exact k.cell 1 _ rfl
    · exact k.cell 2 _ rfl
  have := Needed_calls _ 3 3 _ _ hr
  rwa [(ask3 h).1, (ask3 (v := ndF) h).2] at this
theorem oneS_dom {L n m : Nat} (h : n ≤ m) : Dom (oneS L n) (oneS L m) := by
  unfold oneS Dom
  split
  · dsimp only; omega
  · split <;> (dsimp only; omega)
theorem tab_ge {L n : Nat} (h : n ≤ 16) : n ≤ tabF L (ndF (oneS L n)) := by
  obtain ⟨h1, h2, h3, h4⟩ := tabF_spec L (ndF (oneS L n))
  rcases Nat.lt_or_ge (tabF L (ndF (oneS L n))) n with hlt | hle
  · exfalso
    unfold tOk at h1
    rw [decide_eq_false (by omega), Bool.false_or, decide_eq_true_eq] at h1
    have := ndF_dom (oneS_dom (L := L) (show tabF L (ndF (oneS L n)) + 1 ≤ n by omega))
    omega
  · exact hle
theorem tab_lt {L n : Nat} (h0 : 0 < ndF (oneS L n)) : tabF L (ndF (oneS L n) - 1) < n := by
  obtain ⟨h1, h2, h3, h4⟩ := tabF_spec L (ndF (oneS L n) - 1)
  rcases Nat.lt_or_ge (tabF L (ndF (oneS L n) - 1)) n with hlt | hle
  · exact hlt
  · exfalso
    have hn : 2 ≤ n := by
      rcases Nat.lt_or_ge n 2 with h | h
      · exfalso
        have : win 0 (oneS L n) := by
          show (oneS L n).tubes ≤ 1
          rw [oneS_tubes]
          omega
        have := ndF_le this
        omega
      · exact h
    have h5 := h2 (n - 1) (by omega) (by omega)
    unfold tOk at h5
    rw [Bool.or_eq_false_iff, decide_eq_false_iff_not, decide_eq_false_iff_not, show n - 1 + 1 = n by omega] at h5
    omega
/-- How many halvings. -/
theorem log_ex : ∀ n, n < 17 → 1 ≤ n → ∃ p, p < 5 ∧ (n ≤ 2 ^ p ∧ ∀ m, m < p → 2 ^ m < n) := by decide +kernel
theorem one_bd : ∀ n, n < 17 → bndF ⟨0, n, 0⟩ ≤ 11 := by decide +kernel

set_option maxRecDepth 1000000 in
set_option maxHeartbeats 8000000 in
theorem bound_law {T a b c M : Nat} (hT : T ≤ 255) (ha : a ≤ 255) (hb : b ≤ 255) (hc : c ≤ 255) (hM : M ≤ 255) (w : World) : Gives 11 #[.int .u8 (T : Int), .agg #[.int .u8 (a : Int), .int .u8 (b : Int), .int .u8 (c : Int)], .int .u8 (M : Int)] (.bool true) w := by
  unfold Gives
  have I := (Held.from (w0 := w) (Below.refl w.heap.size w) (Nat.le_refl _)).allocB [Value.int .u8 (a : Int), .int .u8 (b : Int), .int .u8 (c : Int)] 69
  obtain ⟨m, hm⟩ : ∃ m, T % 16 = m := ⟨_, rfl⟩
  obtain ⟨n, hn⟩ : ∃ n, 1 + m = n := ⟨_, rfl⟩
  have wT : IntKind.i64.wrap (T : Int) = (T : Int) := i64_in (by omega) (by omega)
  have mT : (T : Int).tmod 16 = (m : Int) := by rw [Int.tmod_eq_emod_of_nonneg (by omega)]; omega
  have wn : IntKind.i64.wrap (1 + (m : Int)) = (n : Int) := by rw [i64_in (by omega) (by omega)]; omega
  have hn16 : 1 ≤ n ∧ n ≤ 16 := by omega
  obtain ⟨p, hp, hp1, hp2⟩ := log_ex n (by omega) hn16.1
  have e1 : ndF ⟨0, 0, n⟩ = p := ndF_plain hp1 hp2
  have hd1 : ∀ W : World, Gives 28 #[.slice (some ⟨W.heap.size, 0, none⟩) 1 1] (.tuple #[.int .i64 (p : Int), .int .i64 0]) (W.alloc (.cells #[.int .i64 (n : Int)] 3)) := fun W => by
    have := nd1 hn16.2 W
    rwa [e1] at this
  have hd2 := fun W => nd2 hn16.2 W
  have hb2 := fun W => bd2 hn16.2 W
  obtain ⟨o1, o2⟩ := one_lie hn16.2
  have o3 := one_bd n (by omega)
  have t0 := tab_ge (L := 0) hn16.2
  have t1 := tab_ge (L := 1) hn16.2
  have u0 : 0 < ndF (oneS 0 n) → _ := tab_lt (L := 0) (n := n)
  have u1 : 0 < ndF (oneS 1 n) → _ := tab_lt (L := 1) (n := n)
  rw [show oneS 0 n = ⟨0, 0, n⟩ from rfl, e1] at t0 u0
  rw [show oneS 1 n = ⟨0, n, 0⟩ from rfl] at t1 u1
  generalize ndF ⟨0, n, 0⟩ = nb at hd2 o1 o2 t1 u1
  generalize bndF ⟨0, n, 0⟩ = bb at hb2 o1 o2 o3
  have HD1 := Lib.hid hd1
  have HD2 := Lib.hid hd2
  have HB2 := Lib.hid hb2
  have HP := Lib.hid hp2
  have HP1 := Lib.hid hp1
  have HMN := Lib.hid (And.intro hm hn)
  clear hd1 hd2 hb2 hp2 hp1 e1 hm hn
  have T0 := Lib.hid t0
  have T1 := Lib.hid t1
  have U0 := Lib.hid u0
  have U1 := Lib.hid u1
  clear t0 t1 u0 u1
  go_enter Try.func11, Try.ntmps11
  go_upto_region 1 with fail
  change Held (w.alloc (.cells #[.int .u8 (a : Int), .int .u8 (b : Int), .int .u8 (c : Int)] 69)) _ at I
  generalize World.alloc _ _ = w0 at I ⊢
  go_upto_region 3 with (first
    | (go_at_call 28; (with_reducible refine (Gives.c (HD1.out _)).mono ?_); rintro e w1 ⟨rfl, hb⟩; replace I := (I.alloc _).next hb; clear hb))
  clear wT mT wn
  go_wp2_with fail
  go_loop [10] (fun s10 => ∃ k : Nat, k ≤ p ∧ s10 = .int .i64 k) (fun s10 => p - (intOf s10).toNat)
  case atStart => exact ⟨0, Nat.zero_le _, rfl⟩
  case round =>
    obtain ⟨k, hk, rfl⟩ := hrel
    obtain ⟨P, hP⟩ : ∃ P, P = 2 ^ k := ⟨_, rfl⟩
    have hPk : P ≤ 2048 := by rw [hP]; exact Nat.le_trans (Nat.pow_le_pow_right (by omega) (show k ≤ 11 by omega)) (by decide)
    have wK : IntKind.i64.wrap ((2 : Int) ^ k) = (P : Int) := by
      have e : ((2 : Int) ^ k) = (P : Int) := by rw [hP, Int.natCast_pow]; rfl
      rw [e]
      exact i64_in (by omega) (by omega)
    have hn64 : (k : Int) ≤ 64 := by omega
    have hw1 : IntKind.i64.wrap ((k : Int) + 1) = (k : Int) + 1 := i64_in (by omega) (by omega)
    by_cases hlt : k < p
    · have hlt2 : (P : Int) < (n : Int) := by have := HP.out k hlt; rw [← hP] at this; omega
      clear hP
      go_wp2_with fail
      go_round
      case measure => simp [intOf]; omega
      case rel => exact ⟨k + 1, by omega, by go_num⟩
    · obtain rfl : k = p := by omega
      have hlt2 : ¬ (P : Int) < (n : Int) := by have := HP1.out; rw [← hP] at this; omega
      clear hP
      have g1 : decide (nb < bb) = false := decide_eq_false (by omega)
      have g2 : decide ((bb : Int) + 1 < (nb : Int)) = false := decide_eq_false (by omega)
      have wb : IntKind.i64.wrap ((bb : Int) + 1) = (bb : Int) + 1 := i64_in (by omega) (by omega)
      have hk0 : ((k : Int) != k) = false := by simp
      go_upto_region 10 with (first
        | (go_at_call 28; (with_reducible refine (Gives.c (HD2.out _)).mono ?_); rintro e w2 ⟨rfl, hb⟩; replace I := (I.alloc _).next hb; clear hb)
        | (go_at_call 26; (with_reducible refine (Gives.c (HB2.out _)).mono ?_); rintro e w3 ⟨rfl, hb⟩; replace I := (I.alloc _).next hb; clear hb))
      clear g1 g2 wb hk0 hw1 wK hn64 hlt hlt2 hPk HD1 HD2 HB2 HP HP1 HMN
      replace I := I.allocB [.int .i64 (k : Int), .int .i64 (nb : Int)] 3
      go_wp2_with fail
      change Held (w3.alloc (.cells #[.int .i64 (k : Int), .int .i64 (nb : Int)] 3)) _ at I
      generalize World.alloc _ _ = w4 at I ⊢
      have hw3 : w.heap.size ≤ w4.heap.size := I.now.1.1.size
      go_loopw [83] (fun s83 wr => ∃ j : Nat, j ≤ 2 ∧ s83 = .int .i64 j ∧ Aside (Below w4.heap.size w4 wr)) (fun s83 _ => 2 - (intOf s83).toNat)
      case atStart => exact ⟨0, Nat.zero_le _, rfl, Below.refl _ _⟩
      case round =>
        obtain ⟨j, hj, rfl, HB⟩ := hrel
        have J0 := I.next HB.out
        have hj3 : j = 0 ∨ j = 1 ∨ j = 2 := by omega
        have J := ((Held.from (w0 := w) (b := w.heap.size) (J0.now.1.1) J0.now.1.1.size).with (Held.from (b := w4.heap.size) HB.out HB.out.size)).with (.blk J0.now.2)
        rcases hj3 with h0 | h1 | h2
        · subst h0
          obtain ⟨t, ht⟩ : ∃ t, tabF 0 k = t := ⟨_, rfl⟩
          have h34 : ∀ W, Gives 34 #[.int .i64 0, .int .i64 (k : Int)] (.tuple #[.int .i64 (t : Int), .int .i64 0]) W := fun W => by
            have := Table_calls (L := 0) (S := k) (by omega) (by omega) W
            rwa [ht] at this
          have hge := T0.out
          rw [ht] at hge
          have g1 : decide (t < n) = false := decide_eq_false (by omega)
          have H34 := Lib.hid h34
          
          by_cases hS : 0 < k
          · obtain ⟨q, hq⟩ : ∃ q, q = k - 1 := ⟨_, rfl⟩
            obtain ⟨u, hu⟩ : ∃ u, tabF 0 (k - 1) = u := ⟨_, rfl⟩
            have hlt := U0.out hS
            rw [hu] at hlt
            have h34' : ∀ W, Gives 34 #[.int .i64 0, .int .i64 (q : Int)] (.tuple #[.int .i64 (u : Int), .int .i64 0]) W := fun W => by
              have := Table_calls (L := 0) (S := q) (by omega) (by omega) W
              rw [hq, hu] at this
              rw [hq]
              exact this
            have H34' := Lib.hid h34'
            have wq : IntKind.i64.wrap ((k : Int) - 1) = (q : Int) := by rw [i64_in (by omega) (by omega)]; omega
            have g2 : (0 : Int) < (k : Int) := by omega
            have g3 : decide (n ≤ u) = false := decide_eq_false (by omega)
            have q3 := J.now.2.two
            clear ht hu hq h34 h34' hge hlt hS
            go_wp2_with (first
              | (go_at_call 34; (with_reducible refine (Gives.c (H34.out _)).mono ?_); rintro e w5 ⟨rfl, hb⟩; replace J := J.next hb; clear hb)
              | (go_at_call 34; (with_reducible refine (Gives.c (H34'.out _)).mono ?_); rintro e w6 ⟨rfl, hb⟩; replace J := J.next hb; clear hb))
            go_roundw
            case measure => simp [intOf]
            case rel => exact ⟨1, by omega, rfl, J.now.1.2⟩
          · have g2 : ¬ (0 : Int) < (k : Int) := by omega
            have q3 := J.now.2.two
            clear ht h34 hge hS
            go_wp2_with (go_at_call 34; (with_reducible refine (Gives.c (H34.out _)).mono ?_); rintro e w5 ⟨rfl, hb⟩; replace J := J.next hb; clear hb)
            go_roundw
            case measure => simp [intOf]
            case rel => exact ⟨1, by omega, rfl, J.now.1.2⟩
        · subst h1
          obtain ⟨t, ht⟩ : ∃ t, tabF 1 nb = t := ⟨_, rfl⟩
          have h34 : ∀ W, Gives 34 #[.int .i64 1, .int .i64 (nb : Int)] (.tuple #[.int .i64 (t : Int), .int .i64 0]) W := fun W => by
            have := Table_calls (L := 1) (S := nb) (by omega) (by omega) W
            rwa [ht] at this
          have hge := T1.out
          rw [ht] at hge
          have g1 : decide (t < n) = false := decide_eq_false (by omega)
          have H34 := Lib.hid h34
          
          by_cases hS : 0 < nb
          · obtain ⟨q, hq⟩ : ∃ q, q = nb - 1 := ⟨_, rfl⟩
            obtain ⟨u, hu⟩ : ∃ u, tabF 1 (nb - 1) = u := ⟨_, rfl⟩
            have hlt := U1.out hS
            rw [hu] at hlt
            have h34' : ∀ W, Gives 34 #[.int .i64 1, .int .i64 (q : Int)] (.tuple #[.int .i64 (u : Int), .int .i64 0]) W := fun W => by
              have := Table_calls (L := 1) (S := q) (by omega) (by omega) W
              rw [hq, hu] at this
              rw [hq]
              exact this
            have H34' := Lib.hid h34'
            have wq : IntKind.i64.wrap ((nb : Int) - 1) = (q : Int) := by rw [i64_in (by omega) (by omega)]; omega
            have g2 : (0 : Int) < (nb : Int) := by omega
            have g3 : decide (n ≤ u) = false := decide_eq_false (by omega)
            have q3 := J.now.2.two
            clear ht hu hq h34 h34' hge hlt hS
            go_wp2_with (first
              | (go_at_call 34; (with_reducible refine (Gives.c (H34.out _)).mono ?_); rintro e w5 ⟨rfl, hb⟩; replace J := J.next hb; clear hb)
              | (go_at_call 34; (with_reducible refine (Gives.c (H34'.out _)).mono ?_); rintro e w6 ⟨rfl, hb⟩; replace J := J.next hb; clear hb))
            go_roundw
            case measure => simp [intOf]
            case rel => exact ⟨2, by omega, rfl, J.now.1.2⟩
          · have g2 : ¬ (0 : Int) < (nb : Int) := by omega
            have q3 := J.now.2.two
            clear ht h34 hge hS
            go_wp2_with (go_at_call 34; (with_reducible refine (Gives.c (H34.out _)).mono ?_); rintro e w5 ⟨rfl, hb⟩; replace J := J.next hb; clear hb)
            go_roundw
            case measure => simp [intOf]
            case rel => exact ⟨2, by omega, rfl, J.now.1.2⟩
        · subst h2
          have J := (Held.from (w0 := w) (b := w.heap.size) (J0.now.1.1) J0.now.1.1.size).with (.blk J0.now.1.2)
          have hw7 : w.heap.size ≤ wr.heap.size := J.now.1.size
          obtain ⟨w7, hw7e⟩ : ∃ x, x = wr := ⟨_, rfl⟩
          subst hw7e
          obtain ⟨x, hx⟩ : ∃ x, x = a % 4 := ⟨_, rfl⟩
          obtain ⟨y, hy⟩ : ∃ y, y = b % 4 := ⟨_, rfl⟩
          obtain ⟨z, hz⟩ : ∃ z, z = c % 5 := ⟨_, rfl⟩
          obtain ⟨x1, hx1⟩ : ∃ x1, x1 = x + 1 := ⟨_, rfl⟩
          obtain ⟨y1, hy1⟩ : ∃ y1, y1 = y + 1 := ⟨_, rfl⟩
          obtain ⟨z1, hz1⟩ : ∃ z1, z1 = z + 1 := ⟨_, rfl⟩
          have wa : IntKind.i64.wrap (a : Int) = (a : Int) := i64_in (by omega) (by omega)
          have wb' : IntKind.i64.wrap (b : Int) = (b : Int) := i64_in (by omega) (by omega)
          have wc : IntKind.i64.wrap (c : Int) = (c : Int) := i64_in (by omega) (by omega)
          have ma : (a : Int).tmod 4 = (x : Int) := by rw [Int.tmod_eq_emod_of_nonneg (by omega)]; omega
          have mb : (b : Int).tmod 4 = (y : Int) := by rw [Int.tmod_eq_emod_of_nonneg (by omega)]; omega
          have mc : (c : Int).tmod 5 = (z : Int) := by rw [Int.tmod_eq_emod_of_nonneg (by omega)]; omega
          have hxyz : x + y + z ≤ 10 := by omega
          have hd3 : ∀ B W, Blk W B [.int .i64 (x : Int), .int .i64 (y : Int), .int .i64 (z : Int)] → Gives 28 #[.slice (some ⟨B, 0, none⟩) 3 3] (.tuple #[.int .i64 (ndF ⟨x, y, z⟩ : Int), .int .i64 0]) W := fun B W k => nd3 (by omega) k
          obtain ⟨ka, kb, kc⟩ := J.now.2.three
          have hm3 : M % 3 = 0 ∨ M % 3 = 1 ∨ M % 3 = 2 := by omega
          clear hx hy hz I J0 HB T0 T1 U0 U1
          rcases hm3 with hm3 | hm3 | hm3
          · have hd4 : ∀ B W, Blk W B [.int .i64 (x1 : Int), .int .i64 (y : Int), .int .i64 (z : Int)] → Gives 28 #[.slice (some ⟨B, 0, none⟩) 3 3] (.tuple #[.int .i64 (ndF ⟨x1, y, z⟩ : Int), .int .i64 0]) W := fun B W k => nd3 (by omega) k
            have hdom : ndF ⟨x, y, z⟩ ≤ ndF ⟨x1, y, z⟩ := ndF_dom (by simp only [Dom]; omega)
            obtain ⟨Y, hY⟩ : ∃ Y, Y = ndF ⟨x1, y, z⟩ := ⟨_, rfl⟩
            rw [← hY] at hd4 hdom
            generalize ndF ⟨x, y, z⟩ = X at hd3 hdom
            have HD3 := Lib.hid hd3
            have HD4 := Lib.hid hd4
            have g4 : decide (Y < X) = false := decide_eq_false (by omega)
            have gm : ((M : Int).tmod 3) = 0 := by rw [Int.tmod_eq_emod_of_nonneg (by omega)]; omega
            have wM : IntKind.i64.wrap (M : Int) = (M : Int) := i64_in (by omega) (by omega)
            have EU := Lib.hid (show ((x : Int) + 1) = (x1 : Int) by omega)
            
            have bx : x ≤ 1000 ∧ y ≤ 1000 ∧ z ≤ 1000 := by omega
            clear hd3 hd4 hdom hY hm3 hxyz hx1 hy1 hz1
            go_upto_region 22 with fail
            replace J := J.allocB [.int .i64 (x : Int), .int .i64 (y : Int), .int .i64 (z : Int)] 3
            change Held (w7.alloc (.cells #[.int .i64 (x : Int), .int .i64 (y : Int), .int .i64 (z : Int)] 3)) _ at J
            generalize World.alloc _ _ = w8 at J ⊢
            go_upto_region 24 with (go_at_call 28; (with_reducible refine (Gives.c (HD3.out _ _ J.now.2)).mono ?_); rintro e w9 ⟨rfl, hb⟩; replace J := J.next hb; clear hb)
            clear ka kb kc wa wb' wc ma mb mc wM gm
            have q8 := J.now.2.three
            have f8 := J.now.2.free 0
            have z8 := J.now.2.lt
            have hw8 := J.now.1.1
            go_upto_region 25 with fail
            have K0 := hw8.setCell (p := ⟨w7.heap.size, 0, none⟩) (by have := hw7; show w.heap.size ≤ w7.heap.size; omega) (.int .i64 ((x : Int) + 1))
            have K1 : Blk (w9.setCell ⟨w7.heap.size, 0, none⟩ (.int .i64 ((x : Int) + 1))) w7.heap.size [.int .i64 (x1 : Int), .int .i64 (y : Int), .int .i64 (z : Int)] := by rw [EU.out]; exact J.now.2.set 0 (by simp) _
            clear J q8 f8 z8 hw8
            generalize World.setCell _ _ _ = w10 at K0 K1 ⊢
            have J := (Held.from K0 K0.size).with (.blk K1)
            clear K0 K1
            go_wp2_with (first
              | (go_at_call 28; (with_reducible refine (Gives.c (HD4.out _ _ J.now.2)).mono ?_); rintro e w11 ⟨rfl, hb⟩; replace J := J.next hb; clear hb)
              | (go_at_call 15; (with_reducible refine (Gives.c (works_calls _)).mono ?_); rintro e w12 ⟨rfl, hb⟩; replace J := J.next hb; clear hb))
            go_ret
            exact ⟨rfl, J.now.1⟩
          · have hd4 : ∀ B W, Blk W B [.int .i64 (x : Int), .int .i64 (y1 : Int), .int .i64 (z : Int)] → Gives 28 #[.slice (some ⟨B, 0, none⟩) 3 3] (.tuple #[.int .i64 (ndF ⟨x, y1, z⟩ : Int), .int .i64 0]) W := fun B W k => nd3 (by omega) k
            have hdom : ndF ⟨x, y, z⟩ ≤ ndF ⟨x, y1, z⟩ := ndF_dom (by simp only [Dom]; omega)
            have hd5 : ∀ B W, Blk W B [.int .i64 (x1 : Int), .int .i64 (y : Int), .int .i64 (z : Int)] → Gives 28 #[.slice (some ⟨B, 0, none⟩) 3 3] (.tuple #[.int .i64 (ndF ⟨x1, y, z⟩ : Int), .int .i64 0]) W := fun B W k => nd3 (by omega) k
            have hdom2 : ndF ⟨x, y1, z⟩ ≤ ndF ⟨x1, y, z⟩ := ndF_dom (by simp only [Dom]; omega)
            obtain ⟨Y, hY⟩ : ∃ Y, Y = ndF ⟨x, y1, z⟩ := ⟨_, rfl⟩
            rw [← hY] at hd4 hdom hdom2
            generalize ndF ⟨x1, y, z⟩ = Z at hd5 hdom2
            have HD5 := Lib.hid hd5
            have g5 : decide (Y ≤ Z) = true := decide_eq_true (by omega)
            clear hd5 hdom2
            generalize ndF ⟨x, y, z⟩ = X at hd3 hdom
            have HD3 := Lib.hid hd3
            have HD4 := Lib.hid hd4
            have g4 : decide (Y < X) = false := decide_eq_false (by omega)
            have gm : ((M : Int).tmod 3) = 1 := by rw [Int.tmod_eq_emod_of_nonneg (by omega)]; omega
            have wM : IntKind.i64.wrap (M : Int) = (M : Int) := i64_in (by omega) (by omega)
            have EU := Lib.hid (show ((y : Int) + 1) = (y1 : Int) by omega)
            have ED := Lib.hid (show ((y1 : Int) - 1) = (y : Int) by omega)
            have EE := Lib.hid (show ((x : Int) + 1) = (x1 : Int) by omega)
            have by1 : y1 ≤ 1000 := by omega
            have bx : x ≤ 1000 ∧ y ≤ 1000 ∧ z ≤ 1000 := by omega
            clear hd3 hd4 hdom hY hm3 hxyz hx1 hy1 hz1
            go_upto_region 22 with fail
            replace J := J.allocB [.int .i64 (x : Int), .int .i64 (y : Int), .int .i64 (z : Int)] 3
            change Held (w7.alloc (.cells #[.int .i64 (x : Int), .int .i64 (y : Int), .int .i64 (z : Int)] 3)) _ at J
            generalize World.alloc _ _ = w8 at J ⊢
            go_upto_region 24 with (go_at_call 28; (with_reducible refine (Gives.c (HD3.out _ _ J.now.2)).mono ?_); rintro e w9 ⟨rfl, hb⟩; replace J := J.next hb; clear hb)
            clear ka kb kc wa wb' wc ma mb mc wM gm
            have q8 := J.now.2.three
            have f8 := J.now.2.free 1
            have z8 := J.now.2.lt
            have hw8 := J.now.1.1
            go_upto_region 25 with fail
            have K0 := hw8.setCell (p := ⟨w7.heap.size, 1, none⟩) (by have := hw7; show w.heap.size ≤ w7.heap.size; omega) (.int .i64 ((y : Int) + 1))
            have K1 : Blk (w9.setCell ⟨w7.heap.size, 1, none⟩ (.int .i64 ((y : Int) + 1))) w7.heap.size [.int .i64 (x : Int), .int .i64 (y1 : Int), .int .i64 (z : Int)] := by rw [EU.out]; exact J.now.2.set 1 (by simp) _
            clear J q8 f8 z8 hw8
            generalize World.setCell _ _ _ = w10 at K0 K1 ⊢
            have J := (Held.from K0 K0.size).with (.blk K1)
            clear K0 K1
            go_upto_region 29 with (go_at_call 28; (with_reducible refine (Gives.c (HD4.out _ _ J.now.2)).mono ?_); rintro e w11 ⟨rfl, hb⟩; replace J := J.next hb; clear hb)
            have q8 := J.now.2.three
            have f8 := J.now.2.free3
            have z8 := J.now.2.lt
            have hw8 := J.now.1
            go_upto_region 30 with fail
            have K0 := hw8.setCell (p := ⟨w7.heap.size, 1, none⟩) (by have := hw7; show w.heap.size ≤ w7.heap.size; omega) (.int .i64 ((y1 : Int) - 1))
            have K1 : Blk (w11.setCell ⟨w7.heap.size, 1, none⟩ (.int .i64 ((y1 : Int) - 1))) w7.heap.size [.int .i64 (x : Int), .int .i64 (y : Int), .int .i64 (z : Int)] := by rw [ED.out]; exact J.now.2.set 1 (by simp) _
            clear J q8 f8 z8 hw8
            generalize World.setCell _ _ _ = w12 at K0 K1 ⊢
            have q8 := K1.three
            have f8 := K1.free3
            have z8 := K1.lt
            go_upto_region 31 with fail
            have K2 := K0.setCell (p := ⟨w7.heap.size, 0, none⟩) (by have := hw7; show w.heap.size ≤ w7.heap.size; omega) (.int .i64 ((x : Int) + 1))
            have K3 : Blk (w12.setCell ⟨w7.heap.size, 0, none⟩ (.int .i64 ((x : Int) + 1))) w7.heap.size [.int .i64 (x1 : Int), .int .i64 (y : Int), .int .i64 (z : Int)] := by rw [EE.out]; exact K1.set 0 (by simp) _
            clear K0 K1 q8 f8 z8
            generalize World.setCell _ _ _ = w13 at K2 K3 ⊢
            have J := (Held.from K2 K2.size).with (.blk K3)
            clear K2 K3
            go_wp2_with (first
              | (go_at_call 28; (with_reducible refine (Gives.c (HD5.out _ _ J.now.2)).mono ?_); rintro e w14 ⟨rfl, hb⟩; replace J := J.next hb; clear hb)
              | (go_at_call 15; (with_reducible refine (Gives.c (works_calls _)).mono ?_); rintro e w15 ⟨rfl, hb⟩; replace J := J.next hb; clear hb))
            go_ret
            exact ⟨rfl, J.now.1⟩
          · have hd4 : ∀ B W, Blk W B [.int .i64 (x : Int), .int .i64 (y : Int), .int .i64 (z1 : Int)] → Gives 28 #[.slice (some ⟨B, 0, none⟩) 3 3] (.tuple #[.int .i64 (ndF ⟨x, y, z1⟩ : Int), .int .i64 0]) W := fun B W k => nd3 (by omega) k
            have hdom : ndF ⟨x, y, z⟩ ≤ ndF ⟨x, y, z1⟩ := ndF_dom (by simp only [Dom]; omega)
            have hd5 : ∀ B W, Blk W B [.int .i64 (x : Int), .int .i64 (y1 : Int), .int .i64 (z : Int)] → Gives 28 #[.slice (some ⟨B, 0, none⟩) 3 3] (.tuple #[.int .i64 (ndF ⟨x, y1, z⟩ : Int), .int .i64 0]) W := fun B W k => nd3 (by omega) k
            have hdom2 : ndF ⟨x, y, z1⟩ ≤ ndF ⟨x, y1, z⟩ := ndF_dom (by simp only [Dom]; omega)
            obtain ⟨Y, hY⟩ : ∃ Y, Y = ndF ⟨x, y, z1⟩ := ⟨_, rfl⟩
            rw [← hY] at hd4 hdom hdom2
            generalize ndF ⟨x, y1, z⟩ = Z at hd5 hdom2
            have HD5 := Lib.hid hd5
            have g5 : decide (Y ≤ Z) = true := decide_eq_true (by omega)
            clear hd5 hdom2
            generalize ndF ⟨x, y, z⟩ = X at hd3 hdom
            have HD3 := Lib.hid hd3
            have HD4 := Lib.hid hd4
            have g4 : decide (Y < X) = false := decide_eq_false (by omega)
            have gm : ((M : Int).tmod 3) = 2 := by rw [Int.tmod_eq_emod_of_nonneg (by omega)]; omega
            have wM : IntKind.i64.wrap (M : Int) = (M : Int) := i64_in (by omega) (by omega)
            have EU := Lib.hid (show ((z : Int) + 1) = (z1 : Int) by omega)
            have ED := Lib.hid (show ((z1 : Int) - 1) = (z : Int) by omega)
            have EE := Lib.hid (show ((y : Int) + 1) = (y1 : Int) by omega)
            have by1 : z1 ≤ 1000 := by omega
            have bx : x ≤ 1000 ∧ y ≤ 1000 ∧ z ≤ 1000 := by omega
            clear hd3 hd4 hdom hY hm3 hxyz hx1 hy1 hz1
            go_upto_region 22 with fail
            replace J := J.allocB [.int .i64 (x : Int), .int .i64 (y : Int), .int .i64 (z : Int)] 3
            change Held (w7.alloc (.cells #[.int .i64 (x : Int), .int .i64 (y : Int), .int .i64 (z : Int)] 3)) _ at J
            generalize World.alloc _ _ = w8 at J ⊢
            go_upto_region 24 with (go_at_call 28; (with_reducible refine (Gives.c (HD3.out _ _ J.now.2)).mono ?_); rintro e w9 ⟨rfl, hb⟩; replace J := J.next hb; clear hb)
            clear ka kb kc wa wb' wc ma mb mc wM gm
            have q8 := J.now.2.three
            have f8 := J.now.2.free 2
            have z8 := J.now.2.lt
            have hw8 := J.now.1.1
            go_upto_region 25 with fail
            have K0 := hw8.setCell (p := ⟨w7.heap.size, 2, none⟩) (by have := hw7; show w.heap.size ≤ w7.heap.size; omega) (.int .i64 ((z : Int) + 1))
            have K1 : Blk (w9.setCell ⟨w7.heap.size, 2, none⟩ (.int .i64 ((z : Int) + 1))) w7.heap.size [.int .i64 (x : Int), .int .i64 (y : Int), .int .i64 (z1 : Int)] := by rw [EU.out]; exact J.now.2.set 2 (by simp) _
            clear J q8 f8 z8 hw8
            generalize World.setCell _ _ _ = w10 at K0 K1 ⊢
            have J := (Held.from K0 K0.size).with (.blk K1)
            clear K0 K1
            go_upto_region 29 with (go_at_call 28; (with_reducible refine (Gives.c (HD4.out _ _ J.now.2)).mono ?_); rintro e w11 ⟨rfl, hb⟩; replace J := J.next hb; clear hb)
            have q8 := J.now.2.three
            have f8 := J.now.2.free3
            have z8 := J.now.2.lt
            have hw8 := J.now.1
            go_upto_region 30 with fail
            have K0 := hw8.setCell (p := ⟨w7.heap.size, 2, none⟩) (by have := hw7; show w.heap.size ≤ w7.heap.size; omega) (.int .i64 ((z1 : Int) - 1))
            have K1 : Blk (w11.setCell ⟨w7.heap.size, 2, none⟩ (.int .i64 ((z1 : Int) - 1))) w7.heap.size [.int .i64 (x : Int), .int .i64 (y : Int), .int .i64 (z : Int)] := by rw [ED.out]; exact J.now.2.set 2 (by simp) _
            clear J q8 f8 z8 hw8
            generalize World.setCell _ _ _ = w12 at K0 K1 ⊢
            have q8 := K1.three
            have f8 := K1.free3
            have z8 := K1.lt
            go_upto_region 31 with fail
            have K2 := K0.setCell (p := ⟨w7.heap.size, 1, none⟩) (by have := hw7; show w.heap.size ≤ w7.heap.size; omega) (.int .i64 ((y : Int) + 1))
            have K3 : Blk (w12.setCell ⟨w7.heap.size, 1, none⟩ (.int .i64 ((y : Int) + 1))) w7.heap.size [.int .i64 (x : Int), .int .i64 (y1 : Int), .int .i64 (z : Int)] := by rw [EE.out]; exact K1.set 1 (by simp) _
            clear K0 K1 q8 f8 z8
            generalize World.setCell _ _ _ = w13 at K2 K3 ⊢
            have J := (Held.from K2 K2.size).with (.blk K3)
            clear K2 K3
            go_wp2_with (first
              | (go_at_call 28; (with_reducible refine (Gives.c (HD5.out _ _ J.now.2)).mono ?_); rintro e w14 ⟨rfl, hb⟩; replace J := J.next hb; clear hb)
              | (go_at_call 15; (with_reducible refine (Gives.c (works_calls _)).mono ?_); rintro e w15 ⟨rfl, hb⟩; replace J := J.next hb; clear hb))
            go_ret
            exact ⟨rfl, J.now.1⟩

theorem stripBound_own : ownKnob Try.prog.godebug = none := by kernel_rfl

set_option maxRecDepth 100000 in
theorem stripBound_lifted (os : Os) (started : os.Started) (H : Type) (enc : TypeId × Value → H) :
    ReturnsInHanded {} Try.checked os 11 .any (Rows.stripBoundSpec.pre6 enc Try.prog Try.f11 Rows.stripBoundRow.domain false) (Rows.stripBoundSpec.post enc Try.prog Try.f11 false true false false) := by
  refine returnsInHanded_of_change (C := Try.checked) stripBound_own started (by kernel_rfl) Try.func11
    (ChangeSpec.witness6 (enc := enc) (C := Try.checked) false ⟨#[], #[.int .u8 0, .agg #[.int .u8 0, .int .u8 0, .int .u8 0], .int .u8 0], []⟩ 8 (by kernel_rfl) (by kernel_rfl) (by kernel_rfl) (by kernel_rfl)) ?_
  intro W base args ds gs before hval0 hW hcnd _
  have hval : ∀ (j : Nat) t v, Try.f11.params[j]? = some t → args[j]? = some v → Value.okWide Try.prog W .any base t v := hval0
  have hW' := hW
  obtain ⟨p, q, hA, hV, rfl, hfz, hnd⟩ := hW
  rw [Try.params11] at hA hval
  obtain ⟨v1, l1_, d1, ds1, p1, q1, e1, rfl, rfl, h1, hA⟩ := trodAll_cons hA
  obtain ⟨v2, l2_, d2, ds2, p2, q2, rfl, rfl, rfl, h2, hA⟩ := trodAll_cons hA
  obtain ⟨v3, l3_, d3, ds3, p3, q3, rfl, rfl, rfl, h3, hA⟩ := trodAll_cons hA
  obtain ⟨rfl, rfl, rfl⟩ := trodAll_nil hA
  obtain ⟨rfl, rfl⟩ := trodVars_none hV
  obtain rfl : args = #[v1, v2, v3] := by cases args; simp_all
  obtain ⟨b0, rfl, hb0⟩ := byte_arg (hval 0 5 v1 rfl rfl) h1
  obtain ⟨x1, y1, z1, rfl, hx1, hy1, hz1⟩ := bytes3_arg (hval 1 69 v2 rfl rfl) h2
  obtain ⟨b2, rfl, hb2⟩ := byte_arg (hval 2 5 v3 rfl rfl) h3
  refine (Gives.c (bound_law hb0 hx1 hy1 hz1 hb2 W)).mono fun e W' ⟨he, hb⟩ => ?_
  subst he
  exact ⟨_, rfl, post_true hW' rfl rfl rfl (by decide) hb⟩

theorem stripBound_over : Rows.stripBoundRow.holds Try.pinned (OpenSpec.ofChange Rows.stripBoundSpec) :=
  OpenClaim.holds_of_wide 11 Try.f11 rfl rfl rfl rfl rfl rfl rfl ⟨rfl, rfl, rfl, rfl, rfl⟩ rfl rfl rfl rfl rfl (by kernel_rfl) Try.func11 (by kernel_rfl)
    (of_decide_eq_true (by kernel_rfl)) (by unfold Func.isWrapper; first | (rw [if_pos (by decide +kernel)]; kernel_rfl) | (rw [if_neg (by decide +kernel)]; exact ⟨rfl, rfl⟩))
    (fun os started H enc _ => stripBound_lifted os started H enc)

/-- StripBound returns true. -/
theorem stripBound_holds : Rows.StripBoundSaid := stripBound_over
#print axioms stripBound_holds
end Go.Proofs.Ytpnkbjdeiedhlaa
