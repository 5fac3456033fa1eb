/- WHAT THIS TEXT PROVES: the pure statement of the law FnExactSameConfigs, over plain functions on numbers and lists. No condition beyond the statement's own. -/
import Derived.Test.YtfmlhpoaipeoeaaSFnExactSameConfigs
import Derived.Laws.BitsLemmas
import Derived.IntWalk
namespace Go.Proofs.Ytfmlhpoaipeoeaa.Pure
open Go.RowKit Go.Proofs.Ytfmlhpoaipeoeaa.QFnExactSameConfigs Go.Proofs.YtfmlhpoaipeoeaaW.PrintWords Go.Proofs.YtfmlhpoaipeoeaaW.PrintLast Go.Proofs.YtfmlhpoaipeoeaaW.PrintMore Go.Proofs.Ytfmlhpoaipeoeaa.SFnExactSameConfigs
set_option linter.unusedVariables false
set_option linter.unusedSimpArgs false
theorem w64 {n : Int} (h0 : -9223372036854775808 ≤ n) (h1 : n ≤ 9223372036854775807) : wrap64 n = n := by unfold wrap64; omega
theorem w64n (i : Nat) (h : i < 9223372036854775807) : wrap64 ((i : Int) + 1) = ((i + 1 : Nat) : Int) := by
  rw [w64 (by omega) (by omega)]; omega
theorem rd_nat (xs : List Int) (i : Nat) : rd xs (i : Int) = xs.getD i 0 := by simp [rd]
theorem at_succ {k d : Nat} (h : d < k) : ∃ m, k = m + 1 := ⟨k - 1, by omega⟩
theorem drop_cons (xs : List Int) (i : Nat) (h : i < xs.length) : xs.drop i = xs.getD i 0 :: xs.drop (i + 1) := by
  rw [List.drop_eq_getElem_cons h]; simp [List.getD, h]
theorem set_take (x0 x3 : List Int) (i : Nat) (hl : x3.length = x0.length) (hi : i < x0.length) (ht : x3.take i = x0.take i) :
    (x3.set i (x0.getD i 0)).take (i + 1) = x0.take (i + 1) := by
  apply List.ext_getElem?
  intro j
  by_cases hj : j < i
  · have h1 := congrArg (fun l : List Int => l[j]?) ht
    simp only [List.getElem?_take, hj, if_true] at h1
    simp only [List.getElem?_take, show j < i + 1 by omega, if_true]
    rw [List.getElem?_set_ne (by omega)]; exact h1
  · by_cases e : j = i
    · subst e
      simp only [List.getElem?_take, show j < j + 1 by omega, if_true]
      rw [List.getElem?_set_self (by omega)]
      simp [List.getD, hi]
    · simp only [List.getElem?_take, show ¬ j < i + 1 by omega, if_false]
theorem bind_s {α β : Type} (a : α) (f : α → Option β) : (some a).bind f = f a := Eq.trans (Option.bind_some a f) (Eq.refl _)
theorem toInt64S_l0 (x0 : List Int) (hn : x0.length ≤ 1048576) : ∀ (d k i : Nat) (x3 : List Int), x3.length = x0.length → i + d = x0.length → d < k → x3.take i = x0.take i → laws_toInt64S.l0 k x0 x3 (i : Int) = some x0 := by
  intro d
  induction d with
  | zero =>
    intro k i x3 hl hi hk ht
    obtain ⟨k, rfl⟩ := at_succ hk
    simp only [laws_toInt64S.l0]
    rw [if_neg (by omega)]
    have : x3 = x0 := by
      rw [List.take_of_length_le (by omega), List.take_of_length_le (by omega)] at ht; exact ht
    rw [this]
  | succ d ih =>
    intro k i x3 hl hi hk ht
    obtain ⟨k, rfl⟩ := at_succ hk
    simp only [laws_toInt64S.l0]
    rw [if_pos (by omega), if_pos (by omega), if_pos (by omega), w64n i (by omega), rd_nat, Int.toNat_natCast]
    exact ih k (i + 1) _ (by simp [hl]) (by omega) (by omega) (set_take x0 x3 i hl (by omega) ht)
theorem toInt64S_self (l : List Int) (hn : l.length ≤ 1048576) (k : Nat) (hk : l.length < k) : laws_toInt64S.f k l = some l := by
  unfold laws_toInt64S.f
  rw [if_pos (by omega), if_pos (by omega)]
  exact toInt64S_l0 l hn l.length k 0 _ (by simp) (by omega) hk (by simp)
theorem eqInt64S_l0 (x0 : List Int) (hn : x0.length ≤ 1048576) : ∀ (d k i : Nat), i + d = x0.length → d < k → laws_eqInt64S.l0 k x0 x0 (i : Int) = some true := by
  intro d
  induction d with
  | zero =>
    intro k i hi hk
    obtain ⟨k, rfl⟩ := at_succ hk
    simp only [laws_eqInt64S.l0]
    rw [if_neg (by omega)]
  | succ d ih =>
    intro k i hi hk
    obtain ⟨k, rfl⟩ := at_succ hk
    simp only [laws_eqInt64S.l0]
    rw [if_pos (by omega), if_pos (by omega), if_pos (by omega), w64n i (by omega)]
    simp only [if_true]
    exact ih k (i + 1) (by omega) (by omega)
theorem eqInt64S_self (l : List Int) (hn : l.length ≤ 1048576) (k : Nat) (hk : l.length < k) : laws_eqInt64S.f k l l = some true := by
  unfold laws_eqInt64S.f
  rw [if_pos rfl]
  exact eqInt64S_l0 l hn l.length k 0 (by omega) hk
theorem drop_consG {α : Type} (xs : List α) (d : α) (i : Nat) (h : i < xs.length) : xs.drop i = xs.getD i d :: xs.drop (i + 1) := by
  rw [List.drop_eq_getElem_cons h]; simp [List.getD, h]
theorem set_snocG {α : Type} (x : List α) (i : Nat) (v : α) (h : i < x.length) : (x.set i v).take (i + 1) = x.take i ++ [v] := by
  apply List.ext_getElem?
  intro j
  by_cases hj : j < i
  · rw [List.getElem?_append_left (by rw [List.length_take]; omega)]
    simp only [List.getElem?_take, hj, show j < i + 1 by omega, if_true]
    rw [List.getElem?_set_ne (by omega)]
  · by_cases e : j = i
    · subst e
      rw [List.getElem?_append_right (by rw [List.length_take]; omega)]
      simp only [List.getElem?_take, show j < j + 1 by omega, if_true, List.length_take]
      rw [List.getElem?_set_self h, show j - min j x.length = 0 by omega]; rfl
    · simp only [List.getElem?_take, show ¬ j < i + 1 by omega, if_false]
      rw [List.getElem?_eq_none (by rw [List.length_append, List.length_take, List.length_singleton]; omega)]
theorem take_snocG {α : Type} (x : List α) (d : α) (i : Nat) (h : i < x.length) : x.take (i + 1) = x.take i ++ [x.getD i d] := by
  rw [List.take_succ_eq_append_getElem h]; simp [List.getD, h]
def cvB (x : S134) : S36 := ⟨x.f0, x.f1, x.f2, x.f3, x.f4⟩
def cvV (x : S131) : S64 := ⟨x.f0, x.f1, x.f2, x.f3⟩
theorem rdB_nat (xs : List S36) (i : Nat) : rd_T36 xs (i : Int) = xs.getD i z36 := by simp [rd_T36]
theorem rdBl_nat (xs : List S134) (i : Nat) : rd_T134 xs (i : Int) = xs.getD i z134 := by simp [rd_T134]
theorem rdV_nat (xs : List S64) (i : Nat) : rd_T64 xs (i : Int) = xs.getD i z64 := by simp [rd_T64]
theorem rdVl_nat (xs : List S131) (i : Nat) : rd_T131 xs (i : Int) = xs.getD i z131 := by simp [rd_T131]
theorem getD_mem {α : Type} (xs : List α) (d : α) (i : Nat) (h : i < xs.length) : xs.getD i d ∈ xs := by
  have : xs.getD i d = xs[i] := by simp [List.getD, h]
  rw [this]; exact List.getElem_mem h
theorem szVipS_l0 (x : List S131) (hn : x.length ≤ 1048576) (hm : ∀ y ∈ x, y.f3.length ≤ maxLen) : ∀ (d k i : Nat) (left : Int), i + d = x.length → d < k → 0 ≤ left → left ≤ 1048576 →
    ∃ v, laws_szVipS.l0 k x left (i : Int) = some v ∧ v ≤ 1048576 ∧ (v < 0 ∨ (0 ≤ v ∧ ∀ j, i ≤ j → j < x.length → (x.getD j z131).f3.length ≤ 1048576)) := by
  intro d
  induction d with
  | zero =>
    intro k i left hi hk h0 h1
    obtain ⟨k, rfl⟩ := at_succ hk
    simp only [laws_szVipS.l0]
    rw [if_neg (by omega)]
    exact ⟨left, rfl, h1, .inr ⟨h0, fun j a b => by omega⟩⟩
  | succ d ih =>
    intro k i left hi hk h0 h1
    obtain ⟨k, rfl⟩ := at_succ hk
    have hl := hm _ (getD_mem x z131 i (by omega))
    simp only [maxLen] at hl
    simp only [laws_szVipS.l0]
    rw [if_pos (by omega), if_pos (by omega), rdVl_nat]
    unfold laws_szVip.f laws_szInt64S.f
    rw [w64 (n := left - _) (by omega) (by omega), w64n i (by omega)]
    by_cases c : left - (((x.getD i z131).f3.length : Nat) : Int) < 0
    · rw [if_pos c, bind_s, if_pos (by decide), bind_s, if_pos (by decide)]
      exact ⟨-1, rfl, by omega, .inl (by omega)⟩
    · rw [if_neg c, bind_s, if_neg c, bind_s, if_neg c]
      obtain ⟨v, e, hv, hc⟩ := ih k (i + 1) (left - (((x.getD i z131).f3.length : Nat) : Int)) (by omega) (by omega) (by omega) (by omega)
      refine ⟨v, e, hv, ?_⟩
      rcases hc with hc | ⟨hc, ha⟩
      · exact .inl hc
      · refine .inr ⟨hc, fun j a b => ?_⟩
        by_cases e : j = i
        · subst e; omega
        · exact ha j (by omega) b
theorem szConfig_is (a : Int) (l1 : List S134) (l2 : List S131) (left : Int) (h0 : 0 ≤ left) (h1 : left ≤ 1048576) (m1 : l1.length ≤ maxLen) (m2 : l2.length ≤ maxLen) (hm : ∀ y ∈ l2, y.f3.length ≤ maxLen) (k : Nat) (hk : 1048577 ≤ k) :
    ∃ v, laws_szConfig.f k a l1 l2 left = some v ∧ v ≤ 1048576 ∧ (v < 0 ∨ (0 ≤ v ∧ l1.length ≤ 1048576 ∧ l2.length ≤ 1048576 ∧ ∀ y ∈ l2, y.f3.length ≤ 1048576)) := by
  simp only [maxLen] at m1 m2
  unfold laws_szConfig.f laws_szBackendS.f laws_szVipS.f
  rw [w64 (n := left - _) (by omega) (by omega)]
  by_cases c1 : left - ((l1.length : Nat) : Int) < 0
  · rw [if_pos c1, bind_s, if_pos (by decide)]; exact ⟨-1, rfl, by omega, .inl (by omega)⟩
  · rw [if_neg c1, bind_s, if_neg c1, w64 (n := left - _ - _) (by omega) (by omega)]
    by_cases c2 : left - ((l1.length : Nat) : Int) - ((l2.length : Nat) : Int) < 0
    · rw [if_pos c2, bind_s, if_pos (by decide)]; exact ⟨-1, rfl, by omega, .inl (by omega)⟩
    · rw [if_neg c2]
      obtain ⟨v, e, hv, hc⟩ := szVipS_l0 l2 (by omega) hm l2.length k 0 (left - ((l1.length : Nat) : Int) - ((l2.length : Nat) : Int)) (by omega) (by omega) (by omega) (by omega)
      have e' : laws_szVipS.l0 k l2 (left - ((l1.length : Nat) : Int) - ((l2.length : Nat) : Int)) 0 = some v := e
      rw [e', bind_s]
      rcases hc with hc | ⟨hc, ha⟩
      · rw [if_pos hc]; exact ⟨-1, rfl, by omega, .inl (by omega)⟩
      · rw [if_neg (by omega)]
        refine ⟨v, rfl, hv, .inr ⟨hc, by omega, by omega, fun y hy => ?_⟩⟩
        obtain ⟨j, hj, e2⟩ := List.getElem_of_mem hy
        have := ha j (by omega) hj
        have e3 : l2.getD j z131 = y := by rw [← e2]; simp [List.getD, hj]
        rw [e3] at this; exact this
theorem toBackendS_l0 (x0 : List S134) (hn : x0.length ≤ 1048576) : ∀ (d k i : Nat) (x3 : List S36), x3.length = x0.length → i + d = x0.length → d < k → x3.take i = (x0.take i).map cvB → laws_toBackendS.l0 k x0 x3 (i : Int) = some (x0.map cvB) := by
  intro d
  induction d with
  | zero =>
    intro k i x3 hl hi hk ht
    obtain ⟨k, rfl⟩ := at_succ hk
    simp only [laws_toBackendS.l0]
    rw [if_neg (by omega)]
    rw [List.take_of_length_le (by omega), List.take_of_length_le (by omega)] at ht
    rw [ht]
  | succ d ih =>
    intro k i x3 hl hi hk ht
    obtain ⟨k, rfl⟩ := at_succ hk
    simp only [laws_toBackendS.l0, laws_toBackend.f, bind_s]
    rw [if_pos (by omega), if_pos (by omega), if_pos (by omega), w64n i (by omega), rdBl_nat, Int.toNat_natCast]
    refine ih k (i + 1) _ (by simp [hl]) (by omega) (by omega) ?_
    rw [set_snocG x3 i _ (by omega), take_snocG x0 z134 i (by omega), List.map_append, ht]; rfl
theorem toVipS_l0 (x0 : List S131) (hn : x0.length ≤ 1048576) (hm : ∀ y ∈ x0, y.f3.length ≤ 1048576) : ∀ (d k i : Nat) (x3 : List S64), x3.length = x0.length → i + d = x0.length → d + 1048577 < k → x3.take i = (x0.take i).map cvV → laws_toVipS.l0 k x0 x3 (i : Int) = some (x0.map cvV) := by
  intro d
  induction d with
  | zero =>
    intro k i x3 hl hi hk ht
    obtain ⟨k, rfl⟩ := at_succ hk
    simp only [laws_toVipS.l0]
    rw [if_neg (by omega)]
    rw [List.take_of_length_le (by omega), List.take_of_length_le (by omega)] at ht
    rw [ht]
  | succ d ih =>
    intro k i x3 hl hi hk ht
    obtain ⟨k, rfl⟩ := at_succ hk
    have hl3 := hm _ (getD_mem x0 z131 i (by omega))
    simp only [laws_toVipS.l0, laws_toVip.f]
    rw [if_pos (by omega), if_pos (by omega), rdVl_nat, toInt64S_self _ hl3 k (by omega)]
    simp only [bind_s]
    rw [if_pos (by omega), w64n i (by omega), Int.toNat_natCast]
    refine ih k (i + 1) _ (by simp [hl]) (by omega) (by omega) ?_
    rw [set_snocG x3 i _ (by omega), take_snocG x0 z131 i (by omega), List.map_append, ht]; rfl
theorem toConfig_is (a : Int) (l1 : List S134) (l2 : List S131) (h1 : l1.length ≤ 1048576) (h2 : l2.length ≤ 1048576) (hm : ∀ y ∈ l2, y.f3.length ≤ 1048576) (k : Nat) (hk : 2097160 ≤ k) : laws_toConfig.f k a l1 l2 = some (a, l1.map cvB, l2.map cvV) := by
  unfold laws_toConfig.f laws_toBackendS.f laws_toVipS.f
  rw [if_pos (by omega), if_pos (by omega), if_pos (by omega), if_pos (by omega)]
  have e1 := toBackendS_l0 l1 h1 l1.length k 0 (List.replicate ((l1.length : Int) : Int).toNat z36) (by simp) (by omega) (by omega) (by simp)
  have e2 := toVipS_l0 l2 h2 hm l2.length k 0 (List.replicate ((l2.length : Int) : Int).toNat z64) (by simp) (by omega) (by omega) (by simp)
  have e1' : laws_toBackendS.l0 k l1 (List.replicate ((l1.length : Int) : Int).toNat z36) 0 = _ := e1
  have e2' : laws_toVipS.l0 k l2 (List.replicate ((l2.length : Int) : Int).toNat z64) 0 = _ := e2
  rw [e1', bind_s, e2', bind_s]
theorem eqBackendS_l0 (x0 : List S36) (hn : x0.length ≤ 1048576) : ∀ (d k i : Nat), i + d = x0.length → d < k → laws_eqBackendS.l0 k x0 x0 (i : Int) = some true := by
  intro d
  induction d with
  | zero =>
    intro k i hi hk
    obtain ⟨k, rfl⟩ := at_succ hk
    simp only [laws_eqBackendS.l0]
    rw [if_neg (by omega)]
  | succ d ih =>
    intro k i hi hk
    obtain ⟨k, rfl⟩ := at_succ hk
    simp only [laws_eqBackendS.l0, laws_eqBackend.f]
    rw [if_pos (by omega), if_pos (by omega), if_pos (by omega)]
    simp only [if_true, bne_self_eq_false, Bool.false_eq_true, if_false, bind_s]
    rw [w64n i (by omega)]
    exact ih k (i + 1) (by omega) (by omega)
theorem eqVipS_l0 (x0 : List S64) (hn : x0.length ≤ 1048576) (hm : ∀ y ∈ x0, y.f3.length ≤ 1048576) : ∀ (d k i : Nat), i + d = x0.length → d + 1048577 < k → laws_eqVipS.l0 k x0 x0 (i : Int) = some true := by
  intro d
  induction d with
  | zero =>
    intro k i hi hk
    obtain ⟨k, rfl⟩ := at_succ hk
    simp only [laws_eqVipS.l0]
    rw [if_neg (by omega)]
  | succ d ih =>
    intro k i hi hk
    obtain ⟨k, rfl⟩ := at_succ hk
    have hl3 := hm _ (getD_mem x0 z64 i (by omega))
    simp only [laws_eqVipS.l0, laws_eqVip.f]
    rw [if_pos (by omega), if_pos (by omega), if_pos (by omega), rdV_nat, eqInt64S_self _ hl3 k (by omega)]
    simp only [if_true, bind_s]
    rw [w64n i (by omega)]
    exact ih k (i + 1) (by omega) (by omega)
theorem eqConfig_self (a : Int) (l1 : List S36) (l2 : List S64) (h1 : l1.length ≤ 1048576) (h2 : l2.length ≤ 1048576) (hm : ∀ y ∈ l2, y.f3.length ≤ 1048576) (k : Nat) (hk : 2097160 ≤ k) : laws_eqConfig.f k a l1 l2 a l1 l2 = some true := by
  unfold laws_eqConfig.f laws_eqBackendS.f laws_eqVipS.f
  have e1 : laws_eqBackendS.l0 k l1 l1 0 = some true := eqBackendS_l0 l1 h1 l1.length k 0 (by omega) (by omega)
  have e2 : laws_eqVipS.l0 k l2 l2 0 = some true := eqVipS_l0 l2 h2 hm l2.length k 0 (by omega) (by omega)
  rw [if_pos rfl, if_pos rfl, e1, bind_s, if_pos rfl, if_pos rfl, e2, bind_s, if_pos rfl]
def neB (x y : S36) : Bool := (!(x.f0 == y.f0) || (!(x.f1 == y.f1) || (!(x.f2 == y.f2) || (!(x.f3 == y.f3) || (!(x.f4 == y.f4))))))
def sameBs : List S36 → List S36 → Bool
  | x :: xs, y :: ys => if neB x y = true then false else sameBs xs ys
  | _, _ => true
def numsL : List Int → List Int → Bool
  | x :: xs, y :: ys => if x = y then numsL xs ys else false
  | _, _ => true
def numsE (a b : List Int) : Bool := if a.length = b.length then numsL a b else false
def eqV (x y : S64) : Bool := if x.f0 = y.f0 then (if x.f1 = y.f1 then (if x.f2 = y.f2 then numsE x.f3 y.f3 else false) else false) else false
def sameVs : List S64 → List S64 → Bool
  | x :: xs, y :: ys => if eqV x y = true then sameVs xs ys else false
  | _, _ => true
def sameC (a : Int) (l1 : List S36) (l2 : List S64) (b : Int) (m1 : List S36) (m2 : List S64) : Bool :=
  if a = b then (if l1.length = m1.length then (if l2.length = m2.length then (sameBs l1 m1 && sameVs l2 m2) else false) else false) else false
theorem l5Nums_l0 (x y : List Int) (hn : x.length ≤ 1048576) (hl : x.length = y.length) : ∀ (d k i : Nat), i + d = x.length → d < k → spec_l5Nums.l0 k x y (i : Int) = some (numsL (x.drop i) (y.drop i)) := by
  intro d
  induction d with
  | zero =>
    intro k i hi hk
    obtain ⟨k, rfl⟩ := at_succ hk
    simp only [spec_l5Nums.l0]
    rw [if_neg (by omega), List.drop_of_length_le (by omega)]; rfl
  | succ d ih =>
    intro k i hi hk
    obtain ⟨k, rfl⟩ := at_succ hk
    simp only [spec_l5Nums.l0]
    rw [if_pos (by omega), if_pos (by omega), if_pos (by omega), rd_nat, rd_nat, w64n i (by omega), drop_cons x i (by omega), drop_cons y i (by omega), numsL]
    by_cases e : x.getD i 0 = y.getD i 0
    · rw [if_pos e, if_pos e]; exact ih k (i + 1) (by omega) (by omega)
    · rw [if_neg e, if_neg e]
theorem l5Nums_is (x y : List Int) (hn : x.length ≤ 1048576) (k : Nat) (hk : 1048577 ≤ k) : spec_l5Nums.f k x y = some (numsE x y) := by
  unfold spec_l5Nums.f numsE
  by_cases h : x.length = y.length
  · rw [if_pos (by omega), if_pos h]
    exact l5Nums_l0 x y hn h x.length k 0 (by omega) (by omega)
  · rw [if_neg (by omega), if_neg h]
theorem sEqual_l0 (x y : List Int) (hn : x.length ≤ 1048576) (hl : x.length = y.length) : ∀ (d k i : Nat), i + d = x.length → d < k → slices_Equal_int64_int64.l0 k x y (x.length : Int) (i : Int) = some (numsL (x.drop i) (y.drop i)) := by
  intro d
  induction d with
  | zero =>
    intro k i hi hk
    obtain ⟨k, rfl⟩ := at_succ hk
    simp only [slices_Equal_int64_int64.l0]
    rw [if_neg (by omega), List.drop_of_length_le (by omega)]; rfl
  | succ d ih =>
    intro k i hi hk
    obtain ⟨k, rfl⟩ := at_succ hk
    simp only [slices_Equal_int64_int64.l0]
    rw [if_pos (by omega), if_pos (by omega), if_pos (by omega), if_pos (by omega), rd_nat, rd_nat, w64n i (by omega), drop_cons x i (by omega), drop_cons y i (by omega), numsL]
    by_cases e : x.getD i 0 = y.getD i 0
    · rw [if_pos e, if_pos e]; exact ih k (i + 1) (by omega) (by omega)
    · rw [if_neg e, if_neg e]
theorem sEqual_is (x y : List Int) (hn : x.length ≤ 1048576) (k : Nat) (hk : 1048577 ≤ k) : slices_Equal_int64_int64.f k x y = some (numsE x y) := by
  unfold slices_Equal_int64_int64.f numsE
  by_cases h : x.length = y.length
  · rw [if_pos (by omega), if_pos h]
    exact sEqual_l0 x y hn h x.length k 0 (by omega) (by omega)
  · rw [if_neg (by omega), if_neg h]
theorem spec_Same_l1 (a b : Int) (l1 m1 : List S36) (x y : List S64) (hn : x.length ≤ 1048576) (hl : x.length = y.length) (hm : ∀ v ∈ x, v.f3.length ≤ 1048576) : ∀ (d k i : Nat), i + d = x.length → d + 1048577 < k →
    spec_SameConfigs.l1 k (i : Int) a l1 x b m1 y = some (sameVs (x.drop i) (y.drop i)) := by
  intro d
  induction d with
  | zero =>
    intro k i hi hk
    obtain ⟨k, rfl⟩ := at_succ hk
    simp only [spec_SameConfigs.l1]
    rw [if_neg (by omega), List.drop_of_length_le (by omega)]; rfl
  | succ d ih =>
    intro k i hi hk
    obtain ⟨k, rfl⟩ := at_succ hk
    have hl3 := hm _ (getD_mem x z64 i (by omega))
    simp only [spec_SameConfigs.l1]
    rw [if_pos (by omega), if_pos (by omega), if_pos (by omega), rdV_nat, rdV_nat, l5Nums_is _ _ hl3 k (by omega), bind_s, w64n i (by omega), drop_consG x z64 i (by omega), drop_consG y z64 i (by omega), sameVs]
    unfold eqV
    by_cases e0 : (x.getD i z64).f0 = (y.getD i z64).f0
    · by_cases e1 : (x.getD i z64).f1 = (y.getD i z64).f1
      · by_cases e2 : (x.getD i z64).f2 = (y.getD i z64).f2
        · rw [if_pos e0, if_pos e1, if_pos e2, if_pos e0, if_pos e1, if_pos e2]
          by_cases e3 : numsE (x.getD i z64).f3 (y.getD i z64).f3 = true
          · rw [if_pos e3, if_pos e3]; exact ih k (i + 1) (by omega) (by omega)
          · rw [if_neg e3, if_neg e3]
        · rw [if_pos e0, if_pos e1, if_neg e2, if_pos e0, if_pos e1, if_neg e2, if_neg (by decide)]
      · rw [if_pos e0, if_neg e1, if_pos e0, if_neg e1, if_neg (by decide)]
    · rw [if_neg e0, if_neg e0, if_neg (by decide)]
theorem spec_Same_l0 (a b : Int) (x y : List S36) (l2 m2 : List S64) (hn : x.length ≤ 1048576) (hl : x.length = y.length) (hn2 : l2.length ≤ 1048576) (hl2 : l2.length = m2.length) (hm : ∀ v ∈ l2, v.f3.length ≤ 1048576) : ∀ (d k i : Nat), i + d = x.length → d + 2097160 < k →
    spec_SameConfigs.l0 k (i : Int) a x l2 b y m2 = some (sameBs (x.drop i) (y.drop i) && sameVs l2 m2) := by
  intro d
  induction d with
  | zero =>
    intro k i hi hk
    obtain ⟨k, rfl⟩ := at_succ hk
    simp only [spec_SameConfigs.l0]
    rw [if_neg (by omega), List.drop_of_length_le (by omega)]
    have := spec_Same_l1 a b x y l2 m2 hn2 hl2 hm l2.length k 0 (by omega) (by omega)
    rw [List.drop_zero, List.drop_zero] at this
    exact this
  | succ d ih =>
    intro k i hi hk
    obtain ⟨k, rfl⟩ := at_succ hk
    simp only [spec_SameConfigs.l0]
    rw [if_pos (by omega), if_pos (by omega), if_pos (by omega), rdB_nat, rdB_nat, w64n i (by omega), drop_consG x z36 i (by omega), drop_consG y z36 i (by omega), sameBs]
    by_cases e : neB (x.getD i z36) (y.getD i z36) = true
    · rw [if_pos e, if_pos (by exact e)]; rfl
    · rw [if_neg e, if_neg (by exact e)]; exact ih k (i + 1) (by omega) (by omega)
theorem spec_SameConfigs_is (a : Int) (l1 : List S36) (l2 : List S64) (b : Int) (m1 : List S36) (m2 : List S64) (h1 : l1.length ≤ 1048576) (h2 : l2.length ≤ 1048576) (hm : ∀ y ∈ l2, y.f3.length ≤ 1048576) (k : Nat) (hk : 4000000 ≤ k) :
    spec_SameConfigs.f k a l1 l2 b m1 m2 = some (sameC a l1 l2 b m1 m2) := by
  have ht : ∀ k, 0 < k → spec_SameConfigs.j0 k true a l1 l2 b m1 m2 = some false := fun k hk => by
    obtain ⟨k, rfl⟩ := at_succ hk
    simp only [spec_SameConfigs.j0, if_true]
  unfold spec_SameConfigs.f sameC
  by_cases c0 : a = b
  · by_cases c1 : l1.length = m1.length
    · rw [if_pos c0, if_pos (by omega), if_pos c0, if_pos c1]
      by_cases c2 : l2.length = m2.length
      · have e : ((l2.length : Int) != (m2.length : Int)) = false := by rw [c2]; exact bne_self_eq_false _
        obtain ⟨k, rfl⟩ : ∃ m, k = m + 1 := ⟨k - 1, by omega⟩
        rw [e, if_pos c2, spec_SameConfigs.j0.eq_2, if_neg (by decide)]
        have := spec_Same_l0 a b l1 m1 l2 m2 h1 c1 h2 c2 hm l1.length k 0 (by omega) (by omega)
        rw [List.drop_zero, List.drop_zero] at this
        exact this
      · have e : ((l2.length : Int) != (m2.length : Int)) = true := bne_iff_ne.2 (by omega)
        rw [e, if_neg c2, ht k (by omega)]
    · rw [if_pos c0, if_neg (by omega), if_pos c0, if_neg c1, ht k (by omega)]
  · rw [if_neg c0, if_neg c0, ht k (by omega)]
theorem Compare_is (a b : Int) : cmp_Compare_int64.f a b = some (if a < b then -1 else if a > b then 1 else 0) := by
  unfold cmp_Compare_int64.f cmp_isNaN_int64.f
  rw [bind_s, bind_s, bne_self_eq_false, bne_self_eq_false, if_neg (by decide), if_neg (by decide)]
  by_cases h : a < b
  · rw [if_pos h, if_pos h]
  · rw [if_neg h, if_neg h]
    by_cases h2 : a > b
    · rw [if_pos h2, if_pos h2]
    · rw [if_neg h2, if_neg h2]
theorem Or_is (a b c : Int) (k : Nat) (hk : 4 ≤ k) : cmp_Or_int.f k [a, b, c] = some (if a = 0 then (if b = 0 then c else b) else a) := by
  obtain ⟨k, rfl⟩ : ∃ m, k = m + 1 + 1 + 1 + 1 := ⟨k - 4, by omega⟩
  have w0 : wrap64 ((0 : Int) + 1) = 1 := w64 (by omega) (by omega)
  have w1 : wrap64 ((1 : Int) + 1) = 2 := w64 (by omega) (by omega)
  have w2 : wrap64 ((2 : Int) + 1) = 3 := w64 (by omega) (by omega)
  have r0 : rd [a, b, c] 0 = a := rfl
  have r1 : rd [a, b, c] 1 = b := rfl
  have r2 : rd [a, b, c] 2 = c := rfl
  unfold cmp_Or_int.f
  rw [cmp_Or_int.l0.eq_2, if_pos (by simp), if_pos (by omega), if_pos (by simp), r0, w0]
  by_cases h0 : a = 0
  · rw [if_pos h0, if_pos h0, cmp_Or_int.l0.eq_2, if_pos (by simp), if_pos (by omega), if_pos (by simp), r1, w1]
    by_cases h1 : b = 0
    · rw [if_pos h1, if_pos h1, cmp_Or_int.l0.eq_2, if_pos (by simp), if_pos (by omega), if_pos (by simp), r2, w2]
      by_cases h2 : c = 0
      · rw [if_pos h2, cmp_Or_int.l0.eq_2, if_neg (by simp), h2]
      · rw [if_neg h2]
    · rw [if_neg h1, if_neg h1]
  · rw [if_neg h0, if_neg h0]
theorem sameVip_is (x y : S64) (hl : x.f3.length ≤ 1048576) (k : Nat) (hk : 1048577 ≤ k) : impl_sameVip.f k x.f0 x.f1 x.f2 x.f3 y.f0 y.f1 y.f2 y.f3 = some (eqV x y) := by
  unfold impl_sameVip.f impl_compareVip.f eqV
  rw [Compare_is, bind_s, Compare_is, bind_s, Compare_is, bind_s, Or_is _ _ _ k (by omega), bind_s, bind_s, sEqual_is _ _ hl k hk, bind_s]
  by_cases e0 : x.f0 = y.f0
  · rw [if_pos e0, if_neg (show ¬ x.f0 < y.f0 by omega), if_neg (show ¬ x.f0 > y.f0 by omega), if_pos (show (0 : Int) = 0 from rfl)]
    by_cases e1 : x.f1 = y.f1
    · rw [if_pos e1, if_neg (show ¬ x.f1 < y.f1 by omega), if_neg (show ¬ x.f1 > y.f1 by omega), if_pos (show (0 : Int) = 0 from rfl)]
      by_cases e2 : x.f2 = y.f2
      · rw [if_pos e2, if_neg (show ¬ x.f2 < y.f2 by omega), if_neg (show ¬ x.f2 > y.f2 by omega), if_pos rfl]
      · rw [if_neg e2, if_neg]
        split <;> (try split) <;> omega
    · rw [if_neg e1, if_neg]
      split <;> (try split) <;> (try split) <;> omega
  · rw [if_neg e0, if_neg]
    split <;> (try split) <;> (try split) <;> omega
theorem impl_Backend_l0 (x y : List S36) (hn : x.length ≤ 1048576) (hl : x.length = y.length) : ∀ (d k i : Nat), i + d = x.length → d < k → impl_Backend.l0 k x y (x.length : Int) (i : Int) = some (sameBs (x.drop i) (y.drop i)) := by
  intro d
  induction d with
  | zero =>
    intro k i hi hk
    obtain ⟨k, rfl⟩ := at_succ hk
    simp only [impl_Backend.l0]
    rw [if_neg (by omega), List.drop_of_length_le (by omega)]; rfl
  | succ d ih =>
    intro k i hi hk
    obtain ⟨k, rfl⟩ := at_succ hk
    simp only [impl_Backend.l0]
    rw [if_pos (by omega), if_pos (by omega), if_pos (by omega), if_pos (by omega), rdB_nat, rdB_nat, w64n i (by omega), drop_consG x z36 i (by omega), drop_consG y z36 i (by omega), sameBs]
    by_cases e : neB (x.getD i z36) (y.getD i z36) = true
    · rw [if_pos e, if_pos (by exact e)]
    · rw [if_neg e, if_neg (by exact e)]; exact ih k (i + 1) (by omega) (by omega)
theorem impl_Vip_l0 (x y : List S64) (hn : x.length ≤ 1048576) (hl : x.length = y.length) (hm : ∀ v ∈ x, v.f3.length ≤ 1048576) : ∀ (d k i : Nat), i + d = x.length → d + 1048577 < k → impl_Vip.l0 k y x (x.length : Int) (i : Int) = some (sameVs (x.drop i) (y.drop i)) := by
  intro d
  induction d with
  | zero =>
    intro k i hi hk
    obtain ⟨k, rfl⟩ := at_succ hk
    simp only [impl_Vip.l0]
    rw [if_neg (by omega), List.drop_of_length_le (by omega)]; rfl
  | succ d ih =>
    intro k i hi hk
    obtain ⟨k, rfl⟩ := at_succ hk
    have hl3 := hm _ (getD_mem x z64 i (by omega))
    simp only [impl_Vip.l0]
    rw [if_pos (by omega), if_pos (by omega), if_pos (by omega), if_pos (by omega), rdV_nat, rdV_nat, sameVip_is _ _ hl3 k (by omega), bind_s, w64n i (by omega), drop_consG x z64 i (by omega), drop_consG y z64 i (by omega), sameVs]
    by_cases e : eqV (x.getD i z64) (y.getD i z64) = true
    · rw [if_pos e, if_pos e]; exact ih k (i + 1) (by omega) (by omega)
    · rw [if_neg e, if_neg e]
theorem impl_SameConfigs_is (a : Int) (l1 : List S36) (l2 : List S64) (b : Int) (m1 : List S36) (m2 : List S64) (h1 : l1.length ≤ 1048576) (h2 : l2.length ≤ 1048576) (hm : ∀ y ∈ l2, y.f3.length ≤ 1048576) (k : Nat) (hk : 4000000 ≤ k) :
    impl_SameConfigs.f k a l1 l2 b m1 m2 = some (sameC a l1 l2 b m1 m2) := by
  unfold impl_SameConfigs.f impl_sameConfigs.f sameC impl_Backend.f impl_Vip.f
  by_cases c0 : a = b
  · rw [if_pos c0, if_pos c0]
    by_cases c1 : l1.length = m1.length
    · have e1 : impl_Backend.l0 k l1 m1 (l1.length : Int) 0 = some (sameBs l1 m1) := by
        have := impl_Backend_l0 l1 m1 h1 c1 l1.length k 0 (by omega) (by omega)
        rw [List.drop_zero, List.drop_zero] at this
        exact this
      rw [if_pos (by omega), if_pos c1, e1, bind_s]
      by_cases hs : sameBs l1 m1 = true
      · rw [if_pos hs, hs]
        by_cases c2 : l2.length = m2.length
        · have e2 : impl_Vip.l0 k m2 l2 (l2.length : Int) 0 = some (sameVs l2 m2) := by
            have := impl_Vip_l0 l2 m2 h2 c2 hm l2.length k 0 (by omega) (by omega)
            rw [List.drop_zero, List.drop_zero] at this
            exact this
          rw [if_pos (by omega), if_pos c2, e2, bind_s, bind_s, Bool.true_and]
        · rw [if_neg (by omega), if_neg c2]; rfl
      · have hf : sameBs l1 m1 = false := by simpa using hs
        rw [if_neg hs, hf, bind_s, Bool.false_and]
        split <;> rfl
    · rw [if_neg (by omega), if_neg c1]; rfl
  · rw [if_neg c0, if_neg c0]; rfl
theorem cvV_len {l : List S131} (h : ∀ y ∈ l, y.f3.length ≤ 1048576) : ∀ y ∈ l.map cvV, y.f3.length ≤ 1048576 := fun y hy => by
  obtain ⟨x, hx, rfl⟩ := List.mem_map.1 hy
  exact h x hx
theorem FnExactSameConfigs : SFnExactSameConfigs.Pure := by
  intro a l1 l2 b m1 m2 _ hl1 _ hl2 hq2 _ hm1 _ hm2 hr2
  obtain ⟨K, hK⟩ : ∃ K : Nat, 5000000 ≤ K := ⟨_, Nat.le_refl _⟩
  refine ⟨K, ?_⟩
  unfold laws_FnExactSameConfigs.f
  obtain ⟨v, e1, v1, hv⟩ := szConfig_is a l1 l2 1048576 (by omega) (by omega) hl1 hl2 (fun y hy => (hq2 y hy).2.2.2.1) K (by omega)
  rw [e1, bind_s]
  rcases hv with hv | ⟨hv, n1, n2, n3⟩
  · rw [if_pos hv]
  · rw [if_neg (by omega)]
    obtain ⟨u, e2, u1, hu⟩ := szConfig_is b m1 m2 v hv v1 hm1 hm2 (fun y hy => (hr2 y hy).2.2.2.1) K (by omega)
    rw [e2, bind_s]
    rcases hu with hu | ⟨hu, p1, p2, p3⟩
    · rw [if_pos hu]
    · rw [if_neg (by omega), toConfig_is a l1 l2 n1 n2 n3 K (by omega), bind_s, toConfig_is b m1 m2 p1 p2 p3 K (by omega), bind_s]
      simp only []
      rw [spec_SameConfigs_is _ _ _ _ _ _ (by rw [List.length_map]; exact n1) (by rw [List.length_map]; exact n2) (cvV_len n3) K (by omega), bind_s]
      simp only [bind_s]
      rw [impl_SameConfigs_is _ _ _ _ _ _ (by rw [List.length_map]; exact n1) (by rw [List.length_map]; exact n2) (cvV_len n3) K (by omega), bind_s]
      simp only [bne_self_eq_false, Bool.false_eq_true, if_false]
      rw [eqConfig_self _ _ _ (by rw [List.length_map]; exact n1) (by rw [List.length_map]; exact n2) (cvV_len n3) K (by omega), bind_s, if_pos rfl]
      rw [eqConfig_self _ _ _ (by rw [List.length_map]; exact p1) (by rw [List.length_map]; exact p2) (cvV_len p3) K (by omega), bind_s, if_pos rfl]
end Go.Proofs.Ytfmlhpoaipeoeaa.Pure
