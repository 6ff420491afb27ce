/- enough; the search; how many strips are needed. -/
import Derived.Test.YtpnkbjdeiedhlaaLK
namespace Go.Proofs.Ytpnkbjdeiedhlaa
open Go.RowKit Go.Lib Go.Shelf
open St

theorem Mp.base {n B : Nat} {f0 f1 : Kn} {W : World} (h : Mp n B f1 W) (hf : ∀ s m, n < m → f1 s m = f0 s m) : Mp n B f0 W := by
  obtain ⟨f, h1, h2, h3⟩ := h
  exact ⟨f, h1, h2, fun s m hm => (h3 s m hm).trans (hf s m hm)⟩
/-- enough: whether so many strips suffice. -/
theorem enough_calls (B : Nat) : ∀ (n : Nat), n ≤ 49 → ∀ s : St, s.tubes ≤ 16 → ∀ (f0 : Kn) (W : World), Mp n B f0 W →
    Calls Try.prog 68 #[pv B, s.v, .int .i64 (n : Int)] W fun e W' => e = .returned (.bool (winB n s)) ∧ Mp n B f0 W' ∧ W.grownBy W' (some B) := by
  intro n
  induction n with
  | zero =>
    intro _ s hs f0 W hM
    by_cases h2 : s.tubes < 2
    · refine (enough_few h2 0 B W).mono ?_
      rintro e W' ⟨rfl, hb⟩
      exact ⟨by rw [winB_few h2], hM.kept (hb.block B hM.lt), grow_of hb _⟩
    · have hw : 2 ^ 0 < s.wt 0 := by
        have : s.wt 0 = s.tubes := by simp [wt, tubes, tri]
        rw [this]
        show 1 < s.tubes
        omega
      refine (enough_heavy (s := s) ⟨by omega, hs⟩ (by omega) hw B W).mono ?_
      rintro e W' ⟨rfl, hb⟩
      exact ⟨by rw [winB_heavy hw], hM.kept (hb.block B hM.lt), grow_of hb _⟩
  | succ m ih =>
    intro hm s hs f0 W hM
    by_cases h2 : s.tubes < 2
    · refine (enough_few h2 (m + 1) B W).mono ?_
      rintro e W' ⟨rfl, hb⟩
      exact ⟨by rw [winB_few h2], hM.kept (hb.block B hM.lt), grow_of hb _⟩
    · by_cases hw : 2 ^ (m + 1) < s.wt (m + 1)
      · refine (enough_heavy (s := s) ⟨by omega, hs⟩ hm hw B W).mono ?_
        rintro e W' ⟨rfl, hb⟩
        exact ⟨by rw [winB_heavy hw], hM.kept (hb.block B hM.lt), grow_of hb _⟩
      · obtain ⟨f, h1, hok, h3⟩ := hM
        cases hk : f s (m + 1) with
        | some b =>
          have hb' := hok s (m + 1) b (Nat.le_refl _) hk
          refine (enough_known (s := s) ⟨by omega, hs⟩ hm hw B hk W h1).mono ?_
          rintro e W' ⟨rfl, hb⟩
          exact ⟨by rw [hb'], ⟨f, h1.later hb, hok, h3⟩, grow_of hb _⟩
        | none =>
          refine (enough_try (s := s) ⟨by omega, hs⟩ (m := m) (N := m + 1) rfl hm hw B hk W h1 hok (fun s' hs' f0 W h => ih (by omega) s' hs' f0 W h)).mono ?_
          rintro e W' ⟨rfl, hM', hg⟩
          exact ⟨rfl, hM'.base h3, hg⟩

theorem eg81 : ∀ args w, (callFunc 81 args).run Try.prog w = .ok (.enter 81 args) w := enters_of Try.func81 (by kernel_rfl) rfl
/-- Nothing is known of more than n strips. -/
abbrev Mq (n B : Nat) (W : World) : Prop := Mp n B (fun _ _ => none) W
theorem Mq.next {n B : Nat} {W : World} (h : Mq n B W) : Mq (n + 1) B W := by
  obtain ⟨f, h1, h2, h3⟩ := h
  refine ⟨f, h1, fun s m b hm hf => ?_, fun s m hm => h3 s m (by omega)⟩
  by_cases hmn : m ≤ n
  · exact h2 s m b hmn hf
  · rw [h3 s m (by omega)] at hf
    cases hf
theorem Mq.up {n m B : Nat} {W : World} (h : Mq n B W) (hm : n ≤ m) : Mq m B W := by
  obtain ⟨d, rfl⟩ := Nat.exists_eq_add_of_le hm
  induction d with
  | zero => exact h
  | succ d ih => exact (ih (by omega)).next
/-- The boxes of the search. -/
structure Sr (B Bp Bs Bc : Nat) (s : St) (W : World) : Prop where
  hp : Hp W Bp [.map (some B)] 97
  hs : Hp W Bs s.cs 80
  hc : Hp W Bc [.func (.func 81) #[] #[.pointer (some ⟨Bp, 0, none⟩), .pointer (some ⟨Bs, 0, none⟩), .pointer (some ⟨Bc, 0, none⟩)]] 73
  hne : B ≠ Bp ∧ B ≠ Bs ∧ B ≠ Bc
theorem Sr.grown {B Bp Bs Bc : Nat} {s : St} {W X : World} (h : Sr B Bp Bs Bc s W) (hg : W.grownBy X (some B)) : Sr B Bp Bs Bc s X :=
  ⟨h.hp.kept hg (fun e => h.hne.1 (by cases e; rfl)), h.hs.kept hg (fun e => h.hne.2.1 (by cases e; rfl)), h.hc.kept hg (fun e => h.hne.2.2 (by cases e; rfl)), h.hne⟩

set_option maxRecDepth 100000 in
set_option maxHeartbeats 2000000 in
theorem search_calls {s : St} (hs : s.tubes ≤ 16) (B Bp Bs Bc : Nat) : ∀ (d n : Nat), n + d = ndF s → ∀ W : World, Mq n B W → Sr B Bp Bs Bc s W →
    Calls Try.prog 81 #[.int .i64 (n : Int), .pointer (some ⟨Bp, 0, none⟩), .pointer (some ⟨Bs, 0, none⟩), .pointer (some ⟨Bc, 0, none⟩)] W fun e W' => e = .returned (.int .i64 (ndF s : Int)) ∧ W.grownBy W' (some B) := by
  have hpot : ndF s ≤ 48 := by
    have h1 := ndF_pot s
    unfold pot at h1
    unfold tubes at hs
    omega
  intro d
  induction d with
  | zero =>
    intro n hn W hM hS
    obtain rfl : n = ndF s := by omega
    have hwin : winB (ndF s) s = true := winB_iff.2 (ndF_spec s).1
    generalize ndF s = n at hM hwin hpot ⊢
    have h68 := enough_calls B n (by omega) s hs _ W hM
    rw [hwin] at h68
    have H68 := Lib.hid h68
    have qp := hS.hp.blk.one
    have qs := hS.hs.blk.three
    clear h68 hM hwin
    go_enter Try.func81, Try.ntmps81
    go_wp2_with (go_at_call 68; (with_reducible refine H68.out.mono ?_); rintro e' w2 ⟨rfl, _, hg⟩; have HG := Lib.hid hg; clear hg)
    go_ret
    exact ⟨rfl, HG.out⟩
  | succ d ih =>
    intro n hn W hM hS
    have hwin : winB n s = false := by
      cases hb : winB n s with
      | false => rfl
      | true => exact absurd (winB_iff.1 hb) ((ndF_spec s).2 n (by omega))
    have h68 := enough_calls B n (by omega) s hs _ W hM
    rw [hwin] at h68
    have ih' := ih (n + 1) (by omega)
    have hnb : n ≤ 48 := by omega
    generalize ndF s = nd at ih' ⊢
    have hw1 : IntKind.i64.wrap ((n : Int) + 1) = ((n + 1 : Nat) : Int) := by rw [i64_in (by omega) (by omega)]; omega
    obtain ⟨k, hk⟩ : ∃ k, k = n + 1 := ⟨_, rfl⟩
    rw [← hk] at hw1 ih'
    have H68 := Lib.hid h68
    have IH := Lib.hid ih'
    have HS := Lib.hid hS
    have HK := Lib.hid hk
    have qp := hS.hp.blk.one
    have qs := hS.hs.blk.three
    have eg := eg81
    clear h68 hM hwin ih ih' hn hS hk
    go_enter Try.func81, Try.ntmps81
    go_wp2_with (first
      | (go_at_call 68; (with_reducible refine H68.out.mono ?_); rintro e' w2 ⟨rfl, hm2, hg⟩; have HG := Lib.hid hg; have HM2 := Lib.hid hm2; have qc := (HS.out.grown hg).hc.blk.one; clear hg hm2 qp qs)
      | (go_at_fn 81; (with_reducible refine (IH.out _ (by rw [HK.out]; exact Mq.next HM2.out) (HS.out.grown HG.out)).mono ?_); rintro e' w3 ⟨rfl, hg3⟩; have HG3 := Lib.hid hg3; clear hg3))
    go_ret
    exact ⟨rfl, HG.out.trans HG3.out⟩
end Go.Proofs.Ytpnkbjdeiedhlaa
