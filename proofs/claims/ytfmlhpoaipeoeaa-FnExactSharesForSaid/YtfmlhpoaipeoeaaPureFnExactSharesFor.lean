/- WHAT THIS TEXT PROVES: the pure statement of the law FnExactSharesFor, over plain functions on numbers and lists. No condition beyond the statement's own. -/
import Derived.Test.YtfmlhpoaipeoeaaSFnExactSharesFor
import Derived.Laws.BitsLemmas
import Derived.IntWalk
namespace Go.Proofs.Ytfmlhpoaipeoeaa.Pure
open Go.RowKit Go.Proofs.Ytfmlhpoaipeoeaa.QFnExactSharesFor Go.Proofs.YtfmlhpoaipeoeaaW.PrintWords Go.Proofs.YtfmlhpoaipeoeaaW.PrintLast Go.Proofs.YtfmlhpoaipeoeaaW.PrintMore Go.Proofs.Ytfmlhpoaipeoeaa.SFnExactSharesFor
set_option linter.unusedVariables false
set_option linter.unusedSimpArgs false
theorem w64 {n : Int} (h0 : -9223372036854775808 ≤ n) (h1 : n ≤ 9223372036854775807) : wrap64 n = n := by unfold wrap64; omega
theorem w64n (i : Nat) (h : i < 9223372036854775807) : wrap64 ((i : Int) + 1) = ((i + 1 : Nat) : Int) := by
  rw [w64 (by omega) (by omega)]; omega
theorem rd_nat (xs : List Int) (i : Nat) : rd xs (i : Int) = xs.getD i 0 := by simp [rd]
theorem at_succ {k d : Nat} (h : d < k) : ∃ m, k = m + 1 := ⟨k - 1, by omega⟩
theorem drop_cons (xs : List Int) (i : Nat) (h : i < xs.length) : xs.drop i = xs.getD i 0 :: xs.drop (i + 1) := by
  rw [List.drop_eq_getElem_cons h]; simp [List.getD, h]
theorem set_take (x0 x3 : List Int) (i : Nat) (hl : x3.length = x0.length) (hi : i < x0.length) (ht : x3.take i = x0.take i) :
    (x3.set i (x0.getD i 0)).take (i + 1) = x0.take (i + 1) := by
  apply List.ext_getElem?
  intro j
  by_cases hj : j < i
  · have h1 := congrArg (fun l : List Int => l[j]?) ht
    simp only [List.getElem?_take, hj, if_true] at h1
    simp only [List.getElem?_take, show j < i + 1 by omega, if_true]
    rw [List.getElem?_set_ne (by omega)]; exact h1
  · by_cases e : j = i
    · subst e
      simp only [List.getElem?_take, show j < j + 1 by omega, if_true]
      rw [List.getElem?_set_self (by omega)]
      simp [List.getD, hi]
    · simp only [List.getElem?_take, show ¬ j < i + 1 by omega, if_false]
theorem bind_s {α β : Type} (a : α) (f : α → Option β) : (some a).bind f = f a := Eq.trans (Option.bind_some a f) (Eq.refl _)
theorem toInt64S_l0 (x0 : List Int) (hn : x0.length ≤ 1048576) : ∀ (d k i : Nat) (x3 : List Int), x3.length = x0.length → i + d = x0.length → d < k → x3.take i = x0.take i → laws_toInt64S.l0 k x0 x3 (i : Int) = some x0 := by
  intro d
  induction d with
  | zero =>
    intro k i x3 hl hi hk ht
    obtain ⟨k, rfl⟩ := at_succ hk
    simp only [laws_toInt64S.l0]
    rw [if_neg (by omega)]
    have : x3 = x0 := by
      rw [List.take_of_length_le (by omega), List.take_of_length_le (by omega)] at ht; exact ht
    rw [this]
  | succ d ih =>
    intro k i x3 hl hi hk ht
    obtain ⟨k, rfl⟩ := at_succ hk
    simp only [laws_toInt64S.l0]
    rw [if_pos (by omega), if_pos (by omega), if_pos (by omega), w64n i (by omega), rd_nat, Int.toNat_natCast]
    exact ih k (i + 1) _ (by simp [hl]) (by omega) (by omega) (set_take x0 x3 i hl (by omega) ht)
theorem toInt64S_self (l : List Int) (hn : l.length ≤ 1048576) (k : Nat) (hk : l.length < k) : laws_toInt64S.f k l = some l := by
  unfold laws_toInt64S.f
  rw [if_pos (by omega), if_pos (by omega)]
  exact toInt64S_l0 l hn l.length k 0 _ (by simp) (by omega) hk (by simp)
theorem eqInt64S_l0 (x0 : List Int) (hn : x0.length ≤ 1048576) : ∀ (d k i : Nat), i + d = x0.length → d < k → laws_eqInt64S.l0 k x0 x0 (i : Int) = some true := by
  intro d
  induction d with
  | zero =>
    intro k i hi hk
    obtain ⟨k, rfl⟩ := at_succ hk
    simp only [laws_eqInt64S.l0]
    rw [if_neg (by omega)]
  | succ d ih =>
    intro k i hi hk
    obtain ⟨k, rfl⟩ := at_succ hk
    simp only [laws_eqInt64S.l0]
    rw [if_pos (by omega), if_pos (by omega), if_pos (by omega), w64n i (by omega)]
    simp only [if_true]
    exact ih k (i + 1) (by omega) (by omega)
theorem eqInt64S_self (l : List Int) (hn : l.length ≤ 1048576) (k : Nat) (hk : l.length < k) : laws_eqInt64S.f k l l = some true := by
  unfold laws_eqInt64S.f
  rw [if_pos rfl]
  exact eqInt64S_l0 l hn l.length k 0 (by omega) hk
theorem drop_consG {α : Type} (xs : List α) (d : α) (i : Nat) (h : i < xs.length) : xs.drop i = xs.getD i d :: xs.drop (i + 1) := by
  rw [List.drop_eq_getElem_cons h]; simp [List.getD, h]
theorem set_snocG {α : Type} (x : List α) (i : Nat) (v : α) (h : i < x.length) : (x.set i v).take (i + 1) = x.take i ++ [v] := by
  apply List.ext_getElem?
  intro j
  by_cases hj : j < i
  · rw [List.getElem?_append_left (by rw [List.length_take]; omega)]
    simp only [List.getElem?_take, hj, show j < i + 1 by omega, if_true]
    rw [List.getElem?_set_ne (by omega)]
  · by_cases e : j = i
    · subst e
      rw [List.getElem?_append_right (by rw [List.length_take]; omega)]
      simp only [List.getElem?_take, show j < j + 1 by omega, if_true, List.length_take]
      rw [List.getElem?_set_self h, show j - min j x.length = 0 by omega]; rfl
    · simp only [List.getElem?_take, show ¬ j < i + 1 by omega, if_false]
      rw [List.getElem?_eq_none (by rw [List.length_append, List.length_take, List.length_singleton]; omega)]
theorem take_snocG {α : Type} (x : List α) (d : α) (i : Nat) (h : i < x.length) : x.take (i + 1) = x.take i ++ [x.getD i d] := by
  rw [List.take_succ_eq_append_getElem h]; simp [List.getD, h]
def cvB (x : S134) : S36 := ⟨x.f0, x.f1, x.f2, x.f3, x.f4⟩
def cvV (x : S131) : S64 := ⟨x.f0, x.f1, x.f2, x.f3⟩
theorem rdB_nat (xs : List S36) (i : Nat) : rd_T36 xs (i : Int) = xs.getD i z36 := by simp [rd_T36]
theorem rdBl_nat (xs : List S134) (i : Nat) : rd_T134 xs (i : Int) = xs.getD i z134 := by simp [rd_T134]
theorem rdV_nat (xs : List S64) (i : Nat) : rd_T64 xs (i : Int) = xs.getD i z64 := by simp [rd_T64]
theorem rdVl_nat (xs : List S131) (i : Nat) : rd_T131 xs (i : Int) = xs.getD i z131 := by simp [rd_T131]
theorem getD_mem {α : Type} (xs : List α) (d : α) (i : Nat) (h : i < xs.length) : xs.getD i d ∈ xs := by
  have : xs.getD i d = xs[i] := by simp [List.getD, h]
  rw [this]; exact List.getElem_mem h
theorem szVipS_l0 (x : List S131) (hn : x.length ≤ 1048576) (hm : ∀ y ∈ x, y.f3.length ≤ maxLen) : ∀ (d k i : Nat) (left : Int), i + d = x.length → d < k → 0 ≤ left → left ≤ 1048576 →
    ∃ v, laws_szVipS.l0 k x left (i : Int) = some v ∧ v ≤ 1048576 ∧ (v < 0 ∨ (0 ≤ v ∧ ∀ j, i ≤ j → j < x.length → (x.getD j z131).f3.length ≤ 1048576)) := by
  intro d
  induction d with
  | zero =>
    intro k i left hi hk h0 h1
    obtain ⟨k, rfl⟩ := at_succ hk
    simp only [laws_szVipS.l0]
    rw [if_neg (by omega)]
    exact ⟨left, rfl, h1, .inr ⟨h0, fun j a b => by omega⟩⟩
  | succ d ih =>
    intro k i left hi hk h0 h1
    obtain ⟨k, rfl⟩ := at_succ hk
    have hl := hm _ (getD_mem x z131 i (by omega))
    simp only [maxLen] at hl
    simp only [laws_szVipS.l0]
    rw [if_pos (by omega), if_pos (by omega), rdVl_nat]
    unfold laws_szVip.f laws_szInt64S.f
    rw [w64 (n := left - _) (by omega) (by omega), w64n i (by omega)]
    by_cases c : left - (((x.getD i z131).f3.length : Nat) : Int) < 0
    · rw [if_pos c, bind_s, if_pos (by decide), bind_s, if_pos (by decide)]
      exact ⟨-1, rfl, by omega, .inl (by omega)⟩
    · rw [if_neg c, bind_s, if_neg c, bind_s, if_neg c]
      obtain ⟨v, e, hv, hc⟩ := ih k (i + 1) (left - (((x.getD i z131).f3.length : Nat) : Int)) (by omega) (by omega) (by omega) (by omega)
      refine ⟨v, e, hv, ?_⟩
      rcases hc with hc | ⟨hc, ha⟩
      · exact .inl hc
      · refine .inr ⟨hc, fun j a b => ?_⟩
        by_cases e : j = i
        · subst e; omega
        · exact ha j (by omega) b
theorem szConfig_is (a : Int) (l1 : List S134) (l2 : List S131) (left : Int) (h0 : 0 ≤ left) (h1 : left ≤ 1048576) (m1 : l1.length ≤ maxLen) (m2 : l2.length ≤ maxLen) (hm : ∀ y ∈ l2, y.f3.length ≤ maxLen) (k : Nat) (hk : 1048577 ≤ k) :
    ∃ v, laws_szConfig.f k a l1 l2 left = some v ∧ v ≤ 1048576 ∧ (v < 0 ∨ (0 ≤ v ∧ l1.length ≤ 1048576 ∧ l2.length ≤ 1048576 ∧ ∀ y ∈ l2, y.f3.length ≤ 1048576)) := by
  simp only [maxLen] at m1 m2
  unfold laws_szConfig.f laws_szBackendS.f laws_szVipS.f
  rw [w64 (n := left - _) (by omega) (by omega)]
  by_cases c1 : left - ((l1.length : Nat) : Int) < 0
  · rw [if_pos c1, bind_s, if_pos (by decide)]; exact ⟨-1, rfl, by omega, .inl (by omega)⟩
  · rw [if_neg c1, bind_s, if_neg c1, w64 (n := left - _ - _) (by omega) (by omega)]
    by_cases c2 : left - ((l1.length : Nat) : Int) - ((l2.length : Nat) : Int) < 0
    · rw [if_pos c2, bind_s, if_pos (by decide)]; exact ⟨-1, rfl, by omega, .inl (by omega)⟩
    · rw [if_neg c2]
      obtain ⟨v, e, hv, hc⟩ := szVipS_l0 l2 (by omega) hm l2.length k 0 (left - ((l1.length : Nat) : Int) - ((l2.length : Nat) : Int)) (by omega) (by omega) (by omega) (by omega)
      have e' : laws_szVipS.l0 k l2 (left - ((l1.length : Nat) : Int) - ((l2.length : Nat) : Int)) 0 = some v := e
      rw [e', bind_s]
      rcases hc with hc | ⟨hc, ha⟩
      · rw [if_pos hc]; exact ⟨-1, rfl, by omega, .inl (by omega)⟩
      · rw [if_neg (by omega)]
        refine ⟨v, rfl, hv, .inr ⟨hc, by omega, by omega, fun y hy => ?_⟩⟩
        obtain ⟨j, hj, e2⟩ := List.getElem_of_mem hy
        have := ha j (by omega) hj
        have e3 : l2.getD j z131 = y := by rw [← e2]; simp [List.getD, hj]
        rw [e3] at this; exact this
theorem toBackendS_l0 (x0 : List S134) (hn : x0.length ≤ 1048576) : ∀ (d k i : Nat) (x3 : List S36), x3.length = x0.length → i + d = x0.length → d < k → x3.take i = (x0.take i).map cvB → laws_toBackendS.l0 k x0 x3 (i : Int) = some (x0.map cvB) := by
  intro d
  induction d with
  | zero =>
    intro k i x3 hl hi hk ht
    obtain ⟨k, rfl⟩ := at_succ hk
    simp only [laws_toBackendS.l0]
    rw [if_neg (by omega)]
    rw [List.take_of_length_le (by omega), List.take_of_length_le (by omega)] at ht
    rw [ht]
  | succ d ih =>
    intro k i x3 hl hi hk ht
    obtain ⟨k, rfl⟩ := at_succ hk
    simp only [laws_toBackendS.l0, laws_toBackend.f, bind_s]
    rw [if_pos (by omega), if_pos (by omega), if_pos (by omega), w64n i (by omega), rdBl_nat, Int.toNat_natCast]
    refine ih k (i + 1) _ (by simp [hl]) (by omega) (by omega) ?_
    rw [set_snocG x3 i _ (by omega), take_snocG x0 z134 i (by omega), List.map_append, ht]; rfl
theorem toVipS_l0 (x0 : List S131) (hn : x0.length ≤ 1048576) (hm : ∀ y ∈ x0, y.f3.length ≤ 1048576) : ∀ (d k i : Nat) (x3 : List S64), x3.length = x0.length → i + d = x0.length → d + 1048577 < k → x3.take i = (x0.take i).map cvV → laws_toVipS.l0 k x0 x3 (i : Int) = some (x0.map cvV) := by
  intro d
  induction d with
  | zero =>
    intro k i x3 hl hi hk ht
    obtain ⟨k, rfl⟩ := at_succ hk
    simp only [laws_toVipS.l0]
    rw [if_neg (by omega)]
    rw [List.take_of_length_le (by omega), List.take_of_length_le (by omega)] at ht
    rw [ht]
  | succ d ih =>
    intro k i x3 hl hi hk ht
    obtain ⟨k, rfl⟩ := at_succ hk
    have hl3 := hm _ (getD_mem x0 z131 i (by omega))
    simp only [laws_toVipS.l0, laws_toVip.f]
    rw [if_pos (by omega), if_pos (by omega), rdVl_nat, toInt64S_self _ hl3 k (by omega)]
    simp only [bind_s]
    rw [if_pos (by omega), w64n i (by omega), Int.toNat_natCast]
    refine ih k (i + 1) _ (by simp [hl]) (by omega) (by omega) ?_
    rw [set_snocG x3 i _ (by omega), take_snocG x0 z131 i (by omega), List.map_append, ht]; rfl
theorem toConfig_is (a : Int) (l1 : List S134) (l2 : List S131) (h1 : l1.length ≤ 1048576) (h2 : l2.length ≤ 1048576) (hm : ∀ y ∈ l2, y.f3.length ≤ 1048576) (k : Nat) (hk : 2097160 ≤ k) : laws_toConfig.f k a l1 l2 = some (a, l1.map cvB, l2.map cvV) := by
  unfold laws_toConfig.f laws_toBackendS.f laws_toVipS.f
  rw [if_pos (by omega), if_pos (by omega), if_pos (by omega), if_pos (by omega)]
  have e1 := toBackendS_l0 l1 h1 l1.length k 0 (List.replicate ((l1.length : Int) : Int).toNat z36) (by simp) (by omega) (by omega) (by simp)
  have e2 := toVipS_l0 l2 h2 hm l2.length k 0 (List.replicate ((l2.length : Int) : Int).toNat z64) (by simp) (by omega) (by omega) (by simp)
  have e1' : laws_toBackendS.l0 k l1 (List.replicate ((l1.length : Int) : Int).toNat z36) 0 = _ := e1
  have e2' : laws_toVipS.l0 k l2 (List.replicate ((l2.length : Int) : Int).toNat z64) 0 = _ := e2
  rw [e1', bind_s, e2', bind_s]
theorem eqBackendS_l0 (x0 : List S36) (hn : x0.length ≤ 1048576) : ∀ (d k i : Nat), i + d = x0.length → d < k → laws_eqBackendS.l0 k x0 x0 (i : Int) = some true := by
  intro d
  induction d with
  | zero =>
    intro k i hi hk
    obtain ⟨k, rfl⟩ := at_succ hk
    simp only [laws_eqBackendS.l0]
    rw [if_neg (by omega)]
  | succ d ih =>
    intro k i hi hk
    obtain ⟨k, rfl⟩ := at_succ hk
    simp only [laws_eqBackendS.l0, laws_eqBackend.f]
    rw [if_pos (by omega), if_pos (by omega), if_pos (by omega)]
    simp only [if_true, bne_self_eq_false, Bool.false_eq_true, if_false, bind_s]
    rw [w64n i (by omega)]
    exact ih k (i + 1) (by omega) (by omega)
theorem eqVipS_l0 (x0 : List S64) (hn : x0.length ≤ 1048576) (hm : ∀ y ∈ x0, y.f3.length ≤ 1048576) : ∀ (d k i : Nat), i + d = x0.length → d + 1048577 < k → laws_eqVipS.l0 k x0 x0 (i : Int) = some true := by
  intro d
  induction d with
  | zero =>
    intro k i hi hk
    obtain ⟨k, rfl⟩ := at_succ hk
    simp only [laws_eqVipS.l0]
    rw [if_neg (by omega)]
  | succ d ih =>
    intro k i hi hk
    obtain ⟨k, rfl⟩ := at_succ hk
    have hl3 := hm _ (getD_mem x0 z64 i (by omega))
    simp only [laws_eqVipS.l0, laws_eqVip.f]
    rw [if_pos (by omega), if_pos (by omega), if_pos (by omega), rdV_nat, eqInt64S_self _ hl3 k (by omega)]
    simp only [if_true, bind_s]
    rw [w64n i (by omega)]
    exact ih k (i + 1) (by omega) (by omega)
theorem eqConfig_self (a : Int) (l1 : List S36) (l2 : List S64) (h1 : l1.length ≤ 1048576) (h2 : l2.length ≤ 1048576) (hm : ∀ y ∈ l2, y.f3.length ≤ 1048576) (k : Nat) (hk : 2097160 ≤ k) : laws_eqConfig.f k a l1 l2 a l1 l2 = some true := by
  unfold laws_eqConfig.f laws_eqBackendS.f laws_eqVipS.f
  have e1 : laws_eqBackendS.l0 k l1 l1 0 = some true := eqBackendS_l0 l1 h1 l1.length k 0 (by omega) (by omega)
  have e2 : laws_eqVipS.l0 k l2 l2 0 = some true := eqVipS_l0 l2 h2 hm l2.length k 0 (by omega) (by omega)
  rw [if_pos rfl, if_pos rfl, e1, bind_s, if_pos rfl, if_pos rfl, e2, bind_s, if_pos rfl]
theorem cvV_len {l : List S131} (h : ∀ y ∈ l, y.f3.length ≤ 1048576) : ∀ y ∈ l.map cvV, y.f3.length ≤ 1048576 := fun y hy => by
  obtain ⟨x, hx, rfl⟩ := List.mem_map.1 hy
  exact h x hx
theorem rdI_nat (xs : List S67) (i : Nat) : rd_T67 xs (i : Int) = xs.getD i z67 := by simp [rd_T67]
theorem eqShareS_l0 (x0 : List S67) (hn : x0.length ≤ 1048576) : ∀ (d k i : Nat), i + d = x0.length → d < k → laws_eqShareS.l0 k x0 x0 (i : Int) = some true := by
  intro d
  induction d with
  | zero =>
    intro k i hi hk
    obtain ⟨k, rfl⟩ := at_succ hk
    simp only [laws_eqShareS.l0]
    rw [if_neg (by omega)]
  | succ d ih =>
    intro k i hi hk
    obtain ⟨k, rfl⟩ := at_succ hk
    simp only [laws_eqShareS.l0, laws_eqShare.f]
    rw [if_pos (by omega), if_pos (by omega), if_pos (by omega), if_pos trivial, if_pos trivial, bind_s, if_pos rfl, w64n i (by omega)]
    exact ih k (i + 1) (by omega) (by omega)
theorem eqShareS_self (l : List S67) (hn : l.length ≤ 1048576) (k : Nat) (hk : l.length < k) : laws_eqShareS.f k l l = some true := by
  unfold laws_eqShareS.f
  rw [if_pos rfl]
  exact eqShareS_l0 l hn l.length k 0 (by omega) hk
def markedS (v : Int) : List S67 → List S67
  | [] => []
  | _ :: l => ⟨v, v + 1⟩ :: markedS (v + 2) l
theorem markedS_length : ∀ (l : List S67) (v : Int), (markedS v l).length = l.length
  | [], _ => rfl
  | _ :: l, v => by simp [markedS, markedS_length l]
theorem markShareS_l0 : ∀ (d k i : Nat) (x : List S67) (v : Int), x.length ≤ 1048576 → i + d = x.length → d < k → 0 ≤ v → v + 2 * d ≤ 1000000000 → laws_markShareS.l0 k x v (i : Int) = some (v + 2 * d, x.take i ++ markedS v (x.drop i)) := by
  intro d
  induction d with
  | zero =>
    intro k i x v hn hi hk h0 h1
    obtain ⟨k, rfl⟩ := at_succ hk
    simp only [laws_markShareS.l0]
    rw [if_neg (by omega), List.take_of_length_le (by omega), List.drop_of_length_le (by omega)]
    simp [markedS]
  | succ d ih =>
    intro k i x v hn hi hk h0 h1
    obtain ⟨k, rfl⟩ := at_succ hk
    simp only [laws_markShareS.l0]
    rw [if_pos (by omega), if_pos (by omega), bind_s, w64n i (by omega), w64 (n := v + 1) (by omega) (by omega), w64 (n := v + 1 + 1) (by omega) (by omega), Int.toNat_natCast]
    have e1 : (rd_T67 (x.set i (⟨v, (rd_T67 x (i : Int)).f1⟩ : S67)) (i : Int)).f0 = v := by
      rw [rdI_nat, List.getD_eq_getElem?_getD, List.getElem?_set_self (by omega)]; rfl
    rw [e1, List.set_set, ih k (i + 1) (x.set i ⟨v, v + 1⟩) (v + 1 + 1) (by simp; omega) (by simp; omega) (by omega) (by omega) (by omega)]
    rw [set_snocG x i _ (by omega), List.drop_set_of_lt (by omega), drop_consG x z67 i (by omega), markedS, List.append_assoc, show v + 1 + 1 = v + 2 by omega, show v + 2 + 2 * (d : Int) = v + 2 * ((d + 1 : Nat) : Int) by omega]
    rfl
theorem markShareS_is (l : List S67) (hn : l.length ≤ 1048576) (k : Nat) (hk : l.length < k) : laws_markShareS.f k l 1 = some (1 + 2 * (l.length : Int), markedS 1 l) := by
  unfold laws_markShareS.f
  exact markShareS_l0 l.length k 0 l 1 hn (by omega) hk (by omega) (by omega)
theorem heldShareS_l0 : ∀ (d k i : Nat) (x y : List S67) (v : Int), x.length ≤ 1048576 → i + d = x.length → d < k → 0 ≤ v → v + 2 * d ≤ 1000000000 → x.drop i = markedS v y → laws_heldShareS.l0 k x v (i : Int) = some (v + 2 * d) := by
  intro d
  induction d with
  | zero =>
    intro k i x y v hn hi hk h0 h1 hx
    obtain ⟨k, rfl⟩ := at_succ hk
    simp only [laws_heldShareS.l0]
    rw [if_neg (by omega)]; simp
  | succ d ih =>
    intro k i x y v hn hi hk h0 h1 hx
    obtain ⟨k, rfl⟩ := at_succ hk
    cases y with
    | nil =>
      have := congrArg List.length hx
      rw [List.length_drop] at this
      simp [markedS] at this; omega
    | cons b y =>
      have hc := drop_consG x z67 i (by omega)
      rw [hc, markedS] at hx
      obtain ⟨e1, e2⟩ := List.cons.inj hx
      simp only [laws_heldShareS.l0]
      rw [if_pos (by omega), if_pos (by omega), rdI_nat, e1, w64n i (by omega), w64 (n := v + 1) (by omega) (by omega), w64 (n := v + 1 + 1) (by omega) (by omega), if_pos rfl, if_pos rfl]
      rw [show v + 1 + 1 = v + 2 by omega, ih k (i + 1) x y (v + 2) hn (by omega) (by omega) (by omega) (by omega) e2, show v + 2 + 2 * (d : Int) = v + 2 * ((d + 1 : Nat) : Int) by omega]
theorem heldShareS_is (l : List S67) (hn : l.length ≤ 1048576) (k : Nat) (hk : l.length < k) : laws_heldShareS.f k (markedS 1 l) 1 = some (1 + 2 * (l.length : Int)) := by
  unfold laws_heldShareS.f
  have h := heldShareS_l0 l.length k 0 (markedS 1 l) l 1 (by rw [markedS_length]; exact hn) (by rw [markedS_length]; omega) hk (by omega) (by omega) rfl
  exact h
theorem eqSharesResult_self (c : Int) (l : List S67) (hn : l.length ≤ 1048576) (k : Nat) (hk : l.length < k) : laws_eqSharesResult.f k c l c l = some true := by
  unfold laws_eqSharesResult.f
  rw [if_pos rfl, eqShareS_self l hn k hk, bind_s, if_pos rfl]
theorem markSharesResult_is (c : Int) (l : List S67) (hn : l.length ≤ 1048576) (k : Nat) (hk : l.length < k) : laws_markSharesResult.f k c l 1 = some (1 + 2 * (l.length : Int), markedS 1 l) := by
  unfold laws_markSharesResult.f
  rw [markShareS_is l hn k hk, bind_s]
theorem heldSharesResult_is (c : Int) (l : List S67) (hn : l.length ≤ 1048576) (k : Nat) (hk : l.length < k) : laws_heldSharesResult.f k c (markedS 1 l) 1 = some (1 + 2 * (l.length : Int)) := by
  unfold laws_heldSharesResult.f
  rw [heldShareS_is l hn k hk, bind_s, if_neg (by omega)]
theorem sval_len (a : Int) (l1 : List S36) (l2 : List S64) (vip : Int) (h : ∀ y ∈ l2, y.f3.length ≤ 1048576) : (Cf.sval a l1 l2 vip).length ≤ 1048576 := by
  unfold Cf.sval
  split
  · simp
  · split
    · simp
    · refine Nat.le_trans (Cf.shr_len _ _) ?_
      by_cases c : vip.toNat < l2.length
      · have e : rd_T64 l2 vip = l2[vip.toNat] := by simp [rd_T64, List.getD, c]
        rw [e]
        exact h _ (List.getElem_mem c)
      · have e : rd_T64 l2 vip = z64 := by simp [rd_T64, List.getD, Nat.le_of_not_lt c]
        rw [e]
        decide
theorem FnExactSharesFor : SFnExactSharesFor.Pure := by
  intro a l1 l2 vip _ hl1 _ hl2 hq2 _
  obtain ⟨K, hK⟩ : ∃ K : Nat, 5000000 ≤ K := ⟨_, Nat.le_refl _⟩
  refine ⟨K + 1, ?_⟩
  unfold laws_FnExactSharesFor.f
  obtain ⟨v, e1, v1, hv⟩ := szConfig_is a l1 l2 1048576 (by omega) (by omega) hl1 hl2 (fun y hy => (hq2 y hy).2.2.2.1) (K + 1) (by omega)
  rw [e1, bind_s]
  rcases hv with hv | ⟨hv, n1, n2, n3⟩
  · rw [if_pos hv]
  · rw [if_neg (by omega), toConfig_is a l1 l2 n1 n2 n3 (K + 1) (by omega), bind_s]
    have n4 := cvV_len n3
    have m1 : (l1.map cvB).length ≤ 1048576 := by rw [List.length_map]; exact n1
    have m2 : (l2.map cvV).length ≤ 1048576 := by rw [List.length_map]; exact n2
    have hb := Cf.vl_bound (l2.map cvV) n4 (l2.map cvV).length (Nat.le_refl _)
    have sl := sval_len a (l1.map cvB) (l2.map cvV) vip n4
    obtain ⟨S, hS⟩ : ∃ S, S = Cf.sval a (l1.map cvB) (l2.map cvV) vip := ⟨_, rfl⟩
    obtain ⟨C, hC⟩ : ∃ C, C = Cf.scd a (l1.map cvB) (l2.map cvV) vip := ⟨_, rfl⟩
    have es : spec_SharesFor.f a (l1.map cvB) (l2.map cvV) vip = some (C, S) := by unfold spec_SharesFor.f; rw [if_pos n4, hC, hS]
    have ei : impl_SharesFor.f a (l1.map cvB) (l2.map cvV) vip = some (C, S) := by unfold impl_SharesFor.f; rw [if_pos n4, hC, hS]
    have em : laws_markConfig.f a (l1.map cvB) (l2.map cvV) 1 = some (1 + 5 * (l1.map cvB).length + Cf.vl (l2.map cvV) (l2.map cvV).length) := by unfold laws_markConfig.f; rw [if_pos ⟨m1, m2, n4, by omega, by omega⟩]
    rw [← hS] at sl
    rw [es, bind_s]
    simp only [bind_s]
    rw [ei]
    simp only [bind_s]
    rw [eqSharesResult_self C S sl (K + 1) (by omega)]
    simp only [bind_s, if_true]
    rw [eqConfig_self _ _ _ m1 m2 n4 (K + 1) (by omega)]
    simp only [bind_s, if_true]
    rw [em]
    simp only [bind_s]
    rw [if_neg (by omega), laws_FnExactSharesFor.j0.eq_2]
    rw [if_neg (by decide), markSharesResult_is C S sl K (by omega)]
    simp only [bind_s]
    rw [heldSharesResult_is C S sl K (by omega)]
    simp only [bind_s, if_true]
    rw [if_neg (by omega), toConfig_is a l1 l2 n1 n2 n3 K (by omega)]
    simp only [bind_s]
    rw [ei]
    simp only [bind_s]
    rw [eqSharesResult_self C S sl K (by omega)]
    simp only [bind_s, if_true]
    rw [if_neg (by omega)]
end Go.Proofs.Ytfmlhpoaipeoeaa.Pure
