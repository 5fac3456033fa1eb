/- WHAT THIS TEXT PROVES: the pure statement of the law FnExactDeltaOf, over plain functions on numbers and lists. No condition beyond the statement's own. -/
import Derived.Test.YtfmlhpoaipeoeaaSFnExactDeltaOf
import Derived.Laws.BitsLemmas
import Derived.IntWalk
namespace Go.Proofs.Ytfmlhpoaipeoeaa.Pure
open Go.RowKit Go.Proofs.Ytfmlhpoaipeoeaa.QFnExactDeltaOf Go.Proofs.YtfmlhpoaipeoeaaW.PrintWords Go.Proofs.YtfmlhpoaipeoeaaW.PrintLast Go.Proofs.YtfmlhpoaipeoeaaW.PrintMore Go.Proofs.Ytfmlhpoaipeoeaa.SFnExactDeltaOf
set_option linter.unusedVariables false
set_option linter.unusedSimpArgs false
theorem w64 {n : Int} (h0 : -9223372036854775808 ≤ n) (h1 : n ≤ 9223372036854775807) : wrap64 n = n := by unfold wrap64; omega
theorem w64n (i : Nat) (h : i < 9223372036854775807) : wrap64 ((i : Int) + 1) = ((i + 1 : Nat) : Int) := by
  rw [w64 (by omega) (by omega)]; omega
theorem rd_nat (xs : List Int) (i : Nat) : rd xs (i : Int) = xs.getD i 0 := by simp [rd]
theorem at_succ {k d : Nat} (h : d < k) : ∃ m, k = m + 1 := ⟨k - 1, by omega⟩
theorem drop_cons (xs : List Int) (i : Nat) (h : i < xs.length) : xs.drop i = xs.getD i 0 :: xs.drop (i + 1) := by
  rw [List.drop_eq_getElem_cons h]; simp [List.getD, h]
theorem set_take (x0 x3 : List Int) (i : Nat) (hl : x3.length = x0.length) (hi : i < x0.length) (ht : x3.take i = x0.take i) :
    (x3.set i (x0.getD i 0)).take (i + 1) = x0.take (i + 1) := by
  apply List.ext_getElem?
  intro j
  by_cases hj : j < i
  · have h1 := congrArg (fun l : List Int => l[j]?) ht
    simp only [List.getElem?_take, hj, if_true] at h1
    simp only [List.getElem?_take, show j < i + 1 by omega, if_true]
    rw [List.getElem?_set_ne (by omega)]; exact h1
  · by_cases e : j = i
    · subst e
      simp only [List.getElem?_take, show j < j + 1 by omega, if_true]
      rw [List.getElem?_set_self (by omega)]
      simp [List.getD, hi]
    · simp only [List.getElem?_take, show ¬ j < i + 1 by omega, if_false]
theorem bind_s {α β : Type} (a : α) (f : α → Option β) : (some a).bind f = f a := Eq.trans (Option.bind_some a f) (Eq.refl _)
theorem toInt64S_l0 (x0 : List Int) (hn : x0.length ≤ 1048576) : ∀ (d k i : Nat) (x3 : List Int), x3.length = x0.length → i + d = x0.length → d < k → x3.take i = x0.take i → laws_toInt64S.l0 k x0 x3 (i : Int) = some x0 := by
  intro d
  induction d with
  | zero =>
    intro k i x3 hl hi hk ht
    obtain ⟨k, rfl⟩ := at_succ hk
    simp only [laws_toInt64S.l0]
    rw [if_neg (by omega)]
    have : x3 = x0 := by
      rw [List.take_of_length_le (by omega), List.take_of_length_le (by omega)] at ht; exact ht
    rw [this]
  | succ d ih =>
    intro k i x3 hl hi hk ht
    obtain ⟨k, rfl⟩ := at_succ hk
    simp only [laws_toInt64S.l0]
    rw [if_pos (by omega), if_pos (by omega), if_pos (by omega), w64n i (by omega), rd_nat, Int.toNat_natCast]
    exact ih k (i + 1) _ (by simp [hl]) (by omega) (by omega) (set_take x0 x3 i hl (by omega) ht)
theorem toInt64S_self (l : List Int) (hn : l.length ≤ 1048576) (k : Nat) (hk : l.length < k) : laws_toInt64S.f k l = some l := by
  unfold laws_toInt64S.f
  rw [if_pos (by omega), if_pos (by omega)]
  exact toInt64S_l0 l hn l.length k 0 _ (by simp) (by omega) hk (by simp)
theorem eqInt64S_l0 (x0 : List Int) (hn : x0.length ≤ 1048576) : ∀ (d k i : Nat), i + d = x0.length → d < k → laws_eqInt64S.l0 k x0 x0 (i : Int) = some true := by
  intro d
  induction d with
  | zero =>
    intro k i hi hk
    obtain ⟨k, rfl⟩ := at_succ hk
    simp only [laws_eqInt64S.l0]
    rw [if_neg (by omega)]
  | succ d ih =>
    intro k i hi hk
    obtain ⟨k, rfl⟩ := at_succ hk
    simp only [laws_eqInt64S.l0]
    rw [if_pos (by omega), if_pos (by omega), if_pos (by omega), w64n i (by omega)]
    simp only [if_true]
    exact ih k (i + 1) (by omega) (by omega)
theorem eqInt64S_self (l : List Int) (hn : l.length ≤ 1048576) (k : Nat) (hk : l.length < k) : laws_eqInt64S.f k l l = some true := by
  unfold laws_eqInt64S.f
  rw [if_pos rfl]
  exact eqInt64S_l0 l hn l.length k 0 (by omega) hk
theorem drop_consG {α : Type} (xs : List α) (d : α) (i : Nat) (h : i < xs.length) : xs.drop i = xs.getD i d :: xs.drop (i + 1) := by
  rw [List.drop_eq_getElem_cons h]; simp [List.getD, h]
theorem set_snocG {α : Type} (x : List α) (i : Nat) (v : α) (h : i < x.length) : (x.set i v).take (i + 1) = x.take i ++ [v] := by
  apply List.ext_getElem?
  intro j
  by_cases hj : j < i
  · rw [List.getElem?_append_left (by rw [List.length_take]; omega)]
    simp only [List.getElem?_take, hj, show j < i + 1 by omega, if_true]
    rw [List.getElem?_set_ne (by omega)]
  · by_cases e : j = i
    · subst e
      rw [List.getElem?_append_right (by rw [List.length_take]; omega)]
      simp only [List.getElem?_take, show j < j + 1 by omega, if_true, List.length_take]
      rw [List.getElem?_set_self h, show j - min j x.length = 0 by omega]; rfl
    · simp only [List.getElem?_take, show ¬ j < i + 1 by omega, if_false]
      rw [List.getElem?_eq_none (by rw [List.length_append, List.length_take, List.length_singleton]; omega)]
theorem take_snocG {α : Type} (x : List α) (d : α) (i : Nat) (h : i < x.length) : x.take (i + 1) = x.take i ++ [x.getD i d] := by
  rw [List.take_succ_eq_append_getElem h]; simp [List.getD, h]
def cvB (x : S134) : S36 := ⟨x.f0, x.f1, x.f2, x.f3, x.f4⟩
def cvV (x : S131) : S64 := ⟨x.f0, x.f1, x.f2, x.f3⟩
theorem rdB_nat (xs : List S36) (i : Nat) : rd_T36 xs (i : Int) = xs.getD i z36 := by simp [rd_T36]
theorem rdBl_nat (xs : List S134) (i : Nat) : rd_T134 xs (i : Int) = xs.getD i z134 := by simp [rd_T134]
theorem rdV_nat (xs : List S64) (i : Nat) : rd_T64 xs (i : Int) = xs.getD i z64 := by simp [rd_T64]
theorem rdVl_nat (xs : List S131) (i : Nat) : rd_T131 xs (i : Int) = xs.getD i z131 := by simp [rd_T131]
theorem getD_mem {α : Type} (xs : List α) (d : α) (i : Nat) (h : i < xs.length) : xs.getD i d ∈ xs := by
  have : xs.getD i d = xs[i] := by simp [List.getD, h]
  rw [this]; exact List.getElem_mem h
theorem szVipS_l0 (x : List S131) (hn : x.length ≤ 1048576) (hm : ∀ y ∈ x, y.f3.length ≤ maxLen) : ∀ (d k i : Nat) (left : Int), i + d = x.length → d < k → 0 ≤ left → left ≤ 1048576 →
    ∃ v, laws_szVipS.l0 k x left (i : Int) = some v ∧ v ≤ 1048576 ∧ (v < 0 ∨ (0 ≤ v ∧ ∀ j, i ≤ j → j < x.length → (x.getD j z131).f3.length ≤ 1048576)) := by
  intro d
  induction d with
  | zero =>
    intro k i left hi hk h0 h1
    obtain ⟨k, rfl⟩ := at_succ hk
    simp only [laws_szVipS.l0]
    rw [if_neg (by omega)]
    exact ⟨left, rfl, h1, .inr ⟨h0, fun j a b => by omega⟩⟩
  | succ d ih =>
    intro k i left hi hk h0 h1
    obtain ⟨k, rfl⟩ := at_succ hk
    have hl := hm _ (getD_mem x z131 i (by omega))
    simp only [maxLen] at hl
    simp only [laws_szVipS.l0]
    rw [if_pos (by omega), if_pos (by omega), rdVl_nat]
    unfold laws_szVip.f laws_szInt64S.f
    rw [w64 (n := left - _) (by omega) (by omega), w64n i (by omega)]
    by_cases c : left - (((x.getD i z131).f3.length : Nat) : Int) < 0
    · rw [if_pos c, bind_s, if_pos (by decide), bind_s, if_pos (by decide)]
      exact ⟨-1, rfl, by omega, .inl (by omega)⟩
    · rw [if_neg c, bind_s, if_neg c, bind_s, if_neg c]
      obtain ⟨v, e, hv, hc⟩ := ih k (i + 1) (left - (((x.getD i z131).f3.length : Nat) : Int)) (by omega) (by omega) (by omega) (by omega)
      refine ⟨v, e, hv, ?_⟩
      rcases hc with hc | ⟨hc, ha⟩
      · exact .inl hc
      · refine .inr ⟨hc, fun j a b => ?_⟩
        by_cases e : j = i
        · subst e; omega
        · exact ha j (by omega) b
theorem szConfig_is (a : Int) (l1 : List S134) (l2 : List S131) (left : Int) (h0 : 0 ≤ left) (h1 : left ≤ 1048576) (m1 : l1.length ≤ maxLen) (m2 : l2.length ≤ maxLen) (hm : ∀ y ∈ l2, y.f3.length ≤ maxLen) (k : Nat) (hk : 1048577 ≤ k) :
    ∃ v, laws_szConfig.f k a l1 l2 left = some v ∧ v ≤ 1048576 ∧ (v < 0 ∨ (0 ≤ v ∧ l1.length ≤ 1048576 ∧ l2.length ≤ 1048576 ∧ ∀ y ∈ l2, y.f3.length ≤ 1048576)) := by
  simp only [maxLen] at m1 m2
  unfold laws_szConfig.f laws_szBackendS.f laws_szVipS.f
  rw [w64 (n := left - _) (by omega) (by omega)]
  by_cases c1 : left - ((l1.length : Nat) : Int) < 0
  · rw [if_pos c1, bind_s, if_pos (by decide)]; exact ⟨-1, rfl, by omega, .inl (by omega)⟩
  · rw [if_neg c1, bind_s, if_neg c1, w64 (n := left - _ - _) (by omega) (by omega)]
    by_cases c2 : left - ((l1.length : Nat) : Int) - ((l2.length : Nat) : Int) < 0
    · rw [if_pos c2, bind_s, if_pos (by decide)]; exact ⟨-1, rfl, by omega, .inl (by omega)⟩
    · rw [if_neg c2]
      obtain ⟨v, e, hv, hc⟩ := szVipS_l0 l2 (by omega) hm l2.length k 0 (left - ((l1.length : Nat) : Int) - ((l2.length : Nat) : Int)) (by omega) (by omega) (by omega) (by omega)
      have e' : laws_szVipS.l0 k l2 (left - ((l1.length : Nat) : Int) - ((l2.length : Nat) : Int)) 0 = some v := e
      rw [e', bind_s]
      rcases hc with hc | ⟨hc, ha⟩
      · rw [if_pos hc]; exact ⟨-1, rfl, by omega, .inl (by omega)⟩
      · rw [if_neg (by omega)]
        refine ⟨v, rfl, hv, .inr ⟨hc, by omega, by omega, fun y hy => ?_⟩⟩
        obtain ⟨j, hj, e2⟩ := List.getElem_of_mem hy
        have := ha j (by omega) hj
        have e3 : l2.getD j z131 = y := by rw [← e2]; simp [List.getD, hj]
        rw [e3] at this; exact this
theorem toBackendS_l0 (x0 : List S134) (hn : x0.length ≤ 1048576) : ∀ (d k i : Nat) (x3 : List S36), x3.length = x0.length → i + d = x0.length → d < k → x3.take i = (x0.take i).map cvB → laws_toBackendS.l0 k x0 x3 (i : Int) = some (x0.map cvB) := by
  intro d
  induction d with
  | zero =>
    intro k i x3 hl hi hk ht
    obtain ⟨k, rfl⟩ := at_succ hk
    simp only [laws_toBackendS.l0]
    rw [if_neg (by omega)]
    rw [List.take_of_length_le (by omega), List.take_of_length_le (by omega)] at ht
    rw [ht]
  | succ d ih =>
    intro k i x3 hl hi hk ht
    obtain ⟨k, rfl⟩ := at_succ hk
    simp only [laws_toBackendS.l0, laws_toBackend.f, bind_s]
    rw [if_pos (by omega), if_pos (by omega), if_pos (by omega), w64n i (by omega), rdBl_nat, Int.toNat_natCast]
    refine ih k (i + 1) _ (by simp [hl]) (by omega) (by omega) ?_
    rw [set_snocG x3 i _ (by omega), take_snocG x0 z134 i (by omega), List.map_append, ht]; rfl
theorem toVipS_l0 (x0 : List S131) (hn : x0.length ≤ 1048576) (hm : ∀ y ∈ x0, y.f3.length ≤ 1048576) : ∀ (d k i : Nat) (x3 : List S64), x3.length = x0.length → i + d = x0.length → d + 1048577 < k → x3.take i = (x0.take i).map cvV → laws_toVipS.l0 k x0 x3 (i : Int) = some (x0.map cvV) := by
  intro d
  induction d with
  | zero =>
    intro k i x3 hl hi hk ht
    obtain ⟨k, rfl⟩ := at_succ hk
    simp only [laws_toVipS.l0]
    rw [if_neg (by omega)]
    rw [List.take_of_length_le (by omega), List.take_of_length_le (by omega)] at ht
    rw [ht]
  | succ d ih =>
    intro k i x3 hl hi hk ht
    obtain ⟨k, rfl⟩ := at_succ hk
    have hl3 := hm _ (getD_mem x0 z131 i (by omega))
    simp only [laws_toVipS.l0, laws_toVip.f]
    rw [if_pos (by omega), if_pos (by omega), rdVl_nat, toInt64S_self _ hl3 k (by omega)]
    simp only [bind_s]
    rw [if_pos (by omega), w64n i (by omega), Int.toNat_natCast]
    refine ih k (i + 1) _ (by simp [hl]) (by omega) (by omega) ?_
    rw [set_snocG x3 i _ (by omega), take_snocG x0 z131 i (by omega), List.map_append, ht]; rfl
theorem toConfig_is (a : Int) (l1 : List S134) (l2 : List S131) (h1 : l1.length ≤ 1048576) (h2 : l2.length ≤ 1048576) (hm : ∀ y ∈ l2, y.f3.length ≤ 1048576) (k : Nat) (hk : 2097160 ≤ k) : laws_toConfig.f k a l1 l2 = some (a, l1.map cvB, l2.map cvV) := by
  unfold laws_toConfig.f laws_toBackendS.f laws_toVipS.f
  rw [if_pos (by omega), if_pos (by omega), if_pos (by omega), if_pos (by omega)]
  have e1 := toBackendS_l0 l1 h1 l1.length k 0 (List.replicate ((l1.length : Int) : Int).toNat z36) (by simp) (by omega) (by omega) (by simp)
  have e2 := toVipS_l0 l2 h2 hm l2.length k 0 (List.replicate ((l2.length : Int) : Int).toNat z64) (by simp) (by omega) (by omega) (by simp)
  have e1' : laws_toBackendS.l0 k l1 (List.replicate ((l1.length : Int) : Int).toNat z36) 0 = _ := e1
  have e2' : laws_toVipS.l0 k l2 (List.replicate ((l2.length : Int) : Int).toNat z64) 0 = _ := e2
  rw [e1', bind_s, e2', bind_s]
theorem eqBackendS_l0 (x0 : List S36) (hn : x0.length ≤ 1048576) : ∀ (d k i : Nat), i + d = x0.length → d < k → laws_eqBackendS.l0 k x0 x0 (i : Int) = some true := by
  intro d
  induction d with
  | zero =>
    intro k i hi hk
    obtain ⟨k, rfl⟩ := at_succ hk
    simp only [laws_eqBackendS.l0]
    rw [if_neg (by omega)]
  | succ d ih =>
    intro k i hi hk
    obtain ⟨k, rfl⟩ := at_succ hk
    simp only [laws_eqBackendS.l0, laws_eqBackend.f]
    rw [if_pos (by omega), if_pos (by omega), if_pos (by omega)]
    simp only [if_true, bne_self_eq_false, Bool.false_eq_true, if_false, bind_s]
    rw [w64n i (by omega)]
    exact ih k (i + 1) (by omega) (by omega)
theorem eqVipS_l0 (x0 : List S64) (hn : x0.length ≤ 1048576) (hm : ∀ y ∈ x0, y.f3.length ≤ 1048576) : ∀ (d k i : Nat), i + d = x0.length → d + 1048577 < k → laws_eqVipS.l0 k x0 x0 (i : Int) = some true := by
  intro d
  induction d with
  | zero =>
    intro k i hi hk
    obtain ⟨k, rfl⟩ := at_succ hk
    simp only [laws_eqVipS.l0]
    rw [if_neg (by omega)]
  | succ d ih =>
    intro k i hi hk
    obtain ⟨k, rfl⟩ := at_succ hk
    have hl3 := hm _ (getD_mem x0 z64 i (by omega))
    simp only [laws_eqVipS.l0, laws_eqVip.f]
    rw [if_pos (by omega), if_pos (by omega), if_pos (by omega), rdV_nat, eqInt64S_self _ hl3 k (by omega)]
    simp only [if_true, bind_s]
    rw [w64n i (by omega)]
    exact ih k (i + 1) (by omega) (by omega)
theorem eqConfig_self (a : Int) (l1 : List S36) (l2 : List S64) (h1 : l1.length ≤ 1048576) (h2 : l2.length ≤ 1048576) (hm : ∀ y ∈ l2, y.f3.length ≤ 1048576) (k : Nat) (hk : 2097160 ≤ k) : laws_eqConfig.f k a l1 l2 a l1 l2 = some true := by
  unfold laws_eqConfig.f laws_eqBackendS.f laws_eqVipS.f
  have e1 : laws_eqBackendS.l0 k l1 l1 0 = some true := eqBackendS_l0 l1 h1 l1.length k 0 (by omega) (by omega)
  have e2 : laws_eqVipS.l0 k l2 l2 0 = some true := eqVipS_l0 l2 h2 hm l2.length k 0 (by omega) (by omega)
  rw [if_pos rfl, if_pos rfl, e1, bind_s, if_pos rfl, if_pos rfl, e2, bind_s, if_pos rfl]
theorem cvV_len {l : List S131} (h : ∀ y ∈ l, y.f3.length ≤ 1048576) : ∀ y ∈ l.map cvV, y.f3.length ≤ 1048576 := fun y hy => by
  obtain ⟨x, hx, rfl⟩ := List.mem_map.1 hy
  exact h x hx
theorem set_snocInt64S (x : List Int) (i : Nat) (v : Int) (h : i < x.length) : (x.set i v).take (i + 1) = x.take i ++ [v] := by
  apply List.ext_getElem?
  intro j
  by_cases hj : j < i
  · rw [List.getElem?_append_left (by rw [List.length_take]; omega)]
    simp only [List.getElem?_take, hj, show j < i + 1 by omega, if_true]
    rw [List.getElem?_set_ne (by omega)]
  · by_cases e : j = i
    · subst e
      rw [List.getElem?_append_right (by rw [List.length_take]; omega)]
      simp only [List.getElem?_take, show j < j + 1 by omega, if_true, List.length_take]
      rw [List.getElem?_set_self h, show j - min j x.length = 0 by omega]; rfl
    · simp only [List.getElem?_take, show ¬ j < i + 1 by omega, if_false]
      rw [List.getElem?_eq_none (by rw [List.length_append, List.length_take, List.length_singleton]; omega)]
def markedInt64S (a n : Nat) : List Int := (List.range n).map fun (j : Nat) => ((a + j : Nat) : Int)
theorem markedInt64S_succ (a n : Nat) : markedInt64S a (n + 1) = markedInt64S a n ++ [(fun (j : Nat) => ((a + j : Nat) : Int)) n] := by simp [markedInt64S, List.range_succ]
theorem markedInt64S_length (a n : Nat) : (markedInt64S a n).length = n := by simp [markedInt64S]
theorem markedInt64S_at (a n i : Nat) (h : i < n) : (markedInt64S a n).getD i 0 = (fun (j : Nat) => ((a + j : Nat) : Int)) i := by simp [markedInt64S, List.getD, h]
theorem markInt64S_l0 (n a : Nat) (hn : n ≤ 4194304) (ha : a ≤ 2000000000) : ∀ (d k i : Nat) (x : List Int), x.length = n → i + d = n → d < k → x.take i = markedInt64S a i → laws_markInt64S.l0 k x ((a + i : Nat) : Int) (i : Int) = some (((a + n : Nat) : Int), markedInt64S a n) := by
  intro d
  induction d with
  | zero =>
    intro k i x hl hi hk ht
    obtain ⟨k, rfl⟩ := at_succ hk
    simp only [laws_markInt64S.l0]
    rw [if_neg (by omega)]
    obtain rfl : i = n := by omega
    rw [List.take_of_length_le (by omega)] at ht
    rw [ht]
  | succ d ih =>
    intro k i x hl hi hk ht
    obtain ⟨k, rfl⟩ := at_succ hk
    simp only [laws_markInt64S.l0]
    rw [if_pos (by omega), if_pos (by omega), w64n i (by omega), w64n (a + i) (by omega), Int.toNat_natCast, show a + i + 1 = a + (i + 1) by omega]
    exact ih k (i + 1) _ (by simp [hl]) (by omega) (by omega) (by rw [set_snocInt64S x i _ (by omega), ht, markedInt64S_succ])
theorem markInt64S_is (l : List Int) (a : Nat) (hn : l.length ≤ 4194304) (ha : a ≤ 2000000000) (k : Nat) (hk : l.length < k) : laws_markInt64S.f k l (a : Int) = some (((a + l.length : Nat) : Int), markedInt64S a l.length) := by
  unfold laws_markInt64S.f
  exact markInt64S_l0 l.length a hn ha l.length k 0 l rfl (by omega) hk (by simp [markedInt64S])
theorem heldInt64S_l0 (n a : Nat) (hn : n ≤ 4194304) (ha : a ≤ 2000000000) : ∀ (d k i : Nat), i + d = n → d < k → laws_heldInt64S.l0 k (markedInt64S a n) ((a + i : Nat) : Int) (i : Int) = some ((a + n : Nat) : Int) := by
  intro d
  induction d with
  | zero =>
    intro k i hi hk
    obtain ⟨k, rfl⟩ := at_succ hk
    simp only [laws_heldInt64S.l0]
    rw [if_neg (by rw [markedInt64S_length]; omega), show i = n by omega]
  | succ d ih =>
    intro k i hi hk
    obtain ⟨k, rfl⟩ := at_succ hk
    simp only [laws_heldInt64S.l0]
    rw [if_pos (by rw [markedInt64S_length]; omega), if_pos (by omega), rd_nat, markedInt64S_at a n i (by omega)]
    rw [if_pos rfl, w64n i (by omega), w64n (a + i) (by omega), show a + i + 1 = a + (i + 1) by omega]
    exact ih k (i + 1) (by omega) (by omega)
theorem heldInt64S_is (n a : Nat) (hn : n ≤ 4194304) (ha : a ≤ 2000000000) (k : Nat) (hk : n < k) : laws_heldInt64S.f k (markedInt64S a n) (a : Int) = some ((a + n : Nat) : Int) := by
  unfold laws_heldInt64S.f
  exact heldInt64S_l0 n a hn ha n k 0 (by omega) hk
theorem eqIntsResult_self (c : Int) (l : List Int) (hn : l.length ≤ 1048576) (k : Nat) (hk : l.length < k) : laws_eqIntsResult.f k c l c l = some true := by
  unfold laws_eqIntsResult.f
  rw [if_pos rfl, eqInt64S_self l hn k hk]; rfl
theorem markIntsResult_is (c : Int) (l : List Int) (hn : l.length ≤ 1048576) (k : Nat) (hk : l.length < k) : laws_markIntsResult.f k c l 1 = some (((1 + l.length : Nat) : Int), markedInt64S 1 l.length) := by
  unfold laws_markIntsResult.f
  rw [show (1 : Int) = ((1 : Nat) : Int) from rfl, markInt64S_is l 1 (by omega) (by omega) k hk]; rfl
theorem heldIntsResult_is (c : Int) (n : Nat) (hn : n ≤ 1048576) (k : Nat) (hk : n < k) : laws_heldIntsResult.f k c (markedInt64S 1 n) 1 = some ((1 + n : Nat) : Int) := by
  unfold laws_heldIntsResult.f
  rw [show (1 : Int) = ((1 : Nat) : Int) from rfl, heldInt64S_is n 1 (by omega) (by omega) k hk]
  simp only [Option.bind_some]
  rw [if_neg (by omega)]
theorem dfirst_zero (g : Nat → Int) : ∀ (m i : Nat), Cf.first g i m = 0 → ∀ j, j < m → g (i + j) = 0
  | 0, _, _, j, hj => absurd hj (Nat.not_lt_zero _)
  | m + 1, i, h, j, hj => by
    simp only [Cf.first] at h
    by_cases h0 : g i = 0
    · rw [if_pos h0] at h
      match j with
      | 0 => exact h0
      | j + 1 =>
        have := dfirst_zero g m (i + 1) h j (by omega)
        rwa [show i + 1 + j = i + (j + 1) by omega] at this
    · rw [if_neg h0] at h; exact absurd h h0
theorem dplace_name (l : List S36) (n : Int) (h : ¬ Cf.place l n < 0) : (rd_T36 l (Cf.place l n)).f0 = n := by
  have key : ∀ (l : List S36) (i : Int), 0 ≤ i → ∀ q, q = Go.Proofs.Ytfmlhpoaipeoeaa.Ix.ixFrom (Cf.named n) l i → ¬ q < 0 → i ≤ q ∧ (l.getD (q - i).toNat z36).f0 = n := by
    intro l
    induction l with
    | nil => intro i hi q hq hn; rw [hq] at hn; exact absurd (show Go.Proofs.Ytfmlhpoaipeoeaa.Ix.ixFrom (Cf.named n) [] i < 0 from by simp [Go.Proofs.Ytfmlhpoaipeoeaa.Ix.ixFrom]) hn
    | cons x l ih =>
      intro i hi q hq hn
      by_cases hx : Cf.named n x = true
      · have e : q = i := hq.trans (if_pos hx)
        subst e
        refine ⟨Int.le_refl _, ?_⟩
        rw [show (q - q).toNat = 0 by omega]
        simpa [Cf.named] using hx
      · have e : q = Go.Proofs.Ytfmlhpoaipeoeaa.Ix.ixFrom (Cf.named n) l (i + 1) := hq.trans (if_neg hx)
        obtain ⟨h1, h2⟩ := ih (i + 1) (by omega) q e hn
        refine ⟨by omega, ?_⟩
        rw [show (q - i).toNat = (q - (i + 1)).toNat + 1 by omega]
        simpa using h2
  obtain ⟨_, h2⟩ := key l 0 (Int.le_refl _) _ rfl h
  have h3 : (l.getD (Cf.place l n - 0).toNat z36).f0 = n := h2
  rw [Int.sub_zero] at h3
  exact h3

theorem asc_ext : ∀ (l1 l2 : List Int), l1.Pairwise (· < ·) → l2.Pairwise (· < ·) → (∀ x, x ∈ l1 ↔ x ∈ l2) → l1 = l2
  | [], [], _, _, _ => rfl
  | [], y :: l2, _, _, h => absurd ((h y).2 (List.mem_cons_self ..)) (by simp)
  | x :: l1, [], _, _, h => absurd ((h x).1 (List.mem_cons_self ..)) (by simp)
  | x :: l1, y :: l2, h1, h2, h => by
    rw [List.pairwise_cons] at h1 h2
    have hxy : x = y := by
      have a := (h x).1 (List.mem_cons_self ..)
      have b := (h y).2 (List.mem_cons_self ..)
      rw [List.mem_cons] at a b
      rcases a with a | a
      · exact a
      · rcases b with b | b
        · exact b.symm
        · have := h1.1 y b
          have := h2.1 x a
          omega
    subst hxy
    rw [asc_ext l1 l2 h1.2 h2.2 (fun z => ?_)]
    have hz := h z
    rw [List.mem_cons, List.mem_cons] at hz
    constructor
    · intro a
      rcases hz.1 (.inr a) with e | e
      · have := h1.1 z a
        omega
      · exact e
    · intro a
      rcases hz.2 (.inr a) with e | e
      · have := h2.1 z a
        omega
      · exact e
theorem rise_lt {n x : Int} (l : List Int) (h : x < n) : Dl.rise n (x :: l) = x :: Dl.rise n l := by
  have e : Dl.rk n (x :: l) = Dl.rk n l + 1 := by rw [Dl.rk, if_pos h]
  unfold Dl.rise
  rw [e, List.getElem?_cons_succ, List.take_succ_cons, List.drop_succ_cons]
  split <;> rfl
theorem rise_ge {n x : Int} (l : List Int) (h : ¬ x < n) : Dl.rise n (x :: l) = if x = n then x :: l else n :: x :: l := by
  have e : Dl.rk n (x :: l) = 0 := by rw [Dl.rk, if_neg h]
  unfold Dl.rise
  rw [e]
  simp
theorem mem_rise (n m : Int) : ∀ l, m ∈ Dl.rise n l ↔ m = n ∨ m ∈ l
  | [] => by simp [Dl.rise, Dl.rk]
  | x :: l => by
    by_cases h : x < n
    · rw [rise_lt l h, List.mem_cons, mem_rise n m l, List.mem_cons]
      constructor
      · rintro (h | h | h) <;> simp [h]
      · rintro (h | h | h) <;> simp [h]
    · rw [rise_ge l h]
      by_cases e : x = n
      · rw [if_pos e]
        subst e
        simp
      · rw [if_neg e, List.mem_cons]
theorem asc_rise (n : Int) : ∀ l : List Int, l.Pairwise (· < ·) → (Dl.rise n l).Pairwise (· < ·)
  | [], _ => by simp [Dl.rise, Dl.rk]
  | x :: l, h => by
    have h' := h
    rw [List.pairwise_cons] at h
    by_cases c : x < n
    · rw [rise_lt l c, List.pairwise_cons]
      refine ⟨fun y hy => ?_, asc_rise n l h.2⟩
      rcases (mem_rise n y l).1 hy with e | e
      · omega
      · exact h.1 y e
    · rw [rise_ge l c]
      by_cases e : x = n
      · rw [if_pos e]; exact h'
      · rw [if_neg e, List.pairwise_cons]
        refine ⟨fun y hy => ?_, h'⟩
        rw [List.mem_cons] at hy
        rcases hy with e2 | e2
        · omega
        · have := h.1 y e2
          omega
theorem fold_asc (p : S36 → Bool) : ∀ (l : List S36) (out : List Int), out.Pairwise (· < ·) → (l.foldl (Dl.add p) out).Pairwise (· < ·)
  | [], _, h => h
  | x :: l, out, h => by
    rw [List.foldl_cons]
    refine fold_asc p l _ ?_
    unfold Dl.add
    split
    · exact asc_rise _ _ h
    · exact h
theorem fold_mem (p : S36 → Bool) (m : Int) : ∀ (l : List S36) (out : List Int), m ∈ l.foldl (Dl.add p) out ↔ m ∈ out ∨ ∃ x, x ∈ l ∧ p x = true ∧ x.f0 = m
  | [], _ => by simp
  | x :: l, out => by
    rw [List.foldl_cons, fold_mem p m l]
    have hm : m ∈ Dl.add p out x ↔ m ∈ out ∨ (p x = true ∧ x.f0 = m) := by
      unfold Dl.add
      by_cases c : p x = true
      · rw [if_pos c, mem_rise]
        constructor
        · rintro (h | h)
          · exact .inr ⟨c, h.symm⟩
          · exact .inl h
        · rintro (h | h)
          · exact .inr h
          · exact .inl h.2.symm
      · rw [if_neg c]
        exact ⟨.inl, fun h => h.elim id (fun h => absurd h.1 c)⟩
    rw [hm]
    constructor
    · rintro ((h | h) | ⟨y, hy, h⟩)
      · exact .inl h
      · exact .inr ⟨x, List.mem_cons_self .., h⟩
      · exact .inr ⟨y, List.mem_cons_of_mem _ hy, h⟩
    · rintro (h | ⟨y, hy, h⟩)
      · exact .inl (.inl h)
      · rw [List.mem_cons] at hy
        rcases hy with e | hy
        · subst e; exact .inl (.inr h)
        · exact .inr ⟨y, hy, h⟩
theorem get_toArray (l : List Int) (i : Nat) (h : i < l.length) : l.toArray[i]! = l[i] := by simp [getElem!_pos, h]
theorem compact_mem (l : List Int) (m : Int) : m ∈ Lib.compact l ↔ m ∈ l := by
  unfold Lib.compact Lib.compactUpTo
  simp only [List.mem_map, List.mem_filter, List.mem_range]
  constructor
  · rintro ⟨j, ⟨hj, _⟩, e⟩
    rw [get_toArray l j hj] at e
    rw [← e]
    exact List.getElem_mem hj
  · intro h
    obtain ⟨j, hj, e⟩ := List.getElem_of_mem h
    rw [← get_toArray l j hj] at e
    clear h
    induction j with
    | zero => exact ⟨0, ⟨hj, Lib.keeps_lt_one _ 0 (by omega)⟩, e⟩
    | succ j ih =>
      by_cases c : l.toArray[j + 1]! = l.toArray[j]!
      · exact ih (by omega) (by rw [← c]; exact e)
      · exact ⟨j + 1, ⟨hj, Lib.keeps_pos (by simpa using c)⟩, e⟩
theorem compact_asc (l : List Int) (h : l.Pairwise (· ≤ ·)) : (Lib.compact l).Pairwise (· < ·) := by
  unfold Lib.compact Lib.compactUpTo
  rw [List.pairwise_map, List.pairwise_filter]
  refine List.Pairwise.imp_of_mem ?_ (List.pairwise_lt_range (n := l.length))
  intro i j hi hj hij _ hk
  rw [List.mem_range] at hi hj
  rw [List.pairwise_iff_getElem] at h
  simp only [Lib.keeps, decide_eq_true_eq] at hk
  rcases hk with hk | hk
  · omega
  · rw [get_toArray l j hj, get_toArray l (j - 1) (by omega)] at hk
    rw [get_toArray l i hi, get_toArray l j hj]
    have h1 : l[i] ≤ l[j - 1]'(by omega) := by
      by_cases e : i = j - 1
      · subst e; omega
      · exact h i (j - 1) _ _ (by omega)
    have h2 := h (j - 1) j (by omega) hj (by omega)
    omega
theorem srt_asc (l : List Int) : (Dl.srt l).Pairwise (· ≤ ·) := by
  have h := List.pairwise_mergeSort (le := fun x y : Int => decide (x ≤ y)) (fun a b c h1 h2 => by simp at *; omega) (fun a b => by simp; omega) l
  unfold Dl.srt
  exact h.imp (fun h => of_decide_eq_true h)
theorem code_asc {v : Int} {l1 : List S36} {l2 : List S64} (h : Cf.code v l1 l2 = 0) : l1.Pairwise (fun x y => x.f0 < y.f0) := by
  have hz : Cf.first (Cf.bcode l1) 0 l1.length = 0 := by
    unfold Cf.code at h
    split at h
    · cases h
    · split at h
      · cases h
      · split at h
        · assumption
        · exact h
  have hb : ∀ j, j + 1 < l1.length → (l1.getD j z36).f0 < (l1.getD (j + 1) z36).f0 := by
    intro j hj
    have hv := dfirst_zero _ _ _ hz (j + 1) hj
    rw [Nat.zero_add] at hv
    unfold Cf.bcode at hv
    split at hv
    · cases hv
    · split at hv
      · cases hv
      · rename_i hg
        simp only [Nat.zero_lt_succ, decide_true, Bool.true_and, decide_eq_true_eq, Nat.add_sub_cancel] at hg
        omega
  have ha : ∀ (d i : Nat), i + (d + 1) < l1.length → (l1.getD i z36).f0 < (l1.getD (i + (d + 1)) z36).f0 := by
    intro d
    induction d with
    | zero => intro i hi; exact hb i hi
    | succ d ih =>
      intro i hi
      have h1 := ih i (by omega)
      have h2 := hb (i + (d + 1)) (by omega)
      rw [show i + (d + 1 + 1) = i + (d + 1) + 1 by omega]
      omega
  rw [List.pairwise_iff_getElem]
  intro i j hi hj hij
  have h1 := ha (j - i - 1) i (by omega)
  rw [show i + (j - i - 1 + 1) = j by omega] at h1
  have e1 : l1.getD i z36 = l1[i] := by simp [List.getD, hi]
  have e2 : l1.getD j z36 = l1[j] := by simp [List.getD, hj]
  rw [e1, e2] at h1
  exact h1
theorem uniq {l : List S36} (h : l.Pairwise (fun x y => x.f0 < y.f0)) {x y : S36} (hx : x ∈ l) (hy : y ∈ l) (e : x.f0 = y.f0) : x = y := by
  rw [List.pairwise_iff_getElem] at h
  obtain ⟨i, hi, rfl⟩ := List.getElem_of_mem hx
  obtain ⟨j, hj, rfl⟩ := List.getElem_of_mem hy
  by_cases c : i = j
  · subst c; rfl
  · exfalso
    by_cases c2 : i < j
    · have := h i j hi hj c2
      omega
    · have := h j i hj hi (by omega)
      omega
theorem place_neg (l : List S36) (n : Int) : Cf.place l n < 0 ↔ ∀ x, x ∈ l → x.f0 ≠ n := by
  have h := Go.Proofs.Ytfmlhpoaipeoeaa.Ix.ixFrom_ge (Cf.named n) l 0 (by omega)
  unfold Cf.place
  constructor
  · intro hn x hx e
    have h2 : decide (0 ≤ Go.Proofs.Ytfmlhpoaipeoeaa.Ix.ixFrom (Cf.named n) l 0) = true := by
      rw [h, List.any_eq_true]
      exact ⟨x, hx, by simp [Cf.named, e]⟩
    have := of_decide_eq_true h2
    omega
  · intro hn
    have h2 : decide (0 ≤ Go.Proofs.Ytfmlhpoaipeoeaa.Ix.ixFrom (Cf.named n) l 0) = false := by
      rw [h]
      cases hc : l.any (Cf.named n) with
      | false => rfl
      | true =>
        rw [List.any_eq_true] at hc
        obtain ⟨x, hx, e⟩ := hc
        exact absurd (by simpa [Cf.named] using e) (hn x hx)
    have := of_decide_eq_false h2
    omega
theorem same_is (x y : S36) : Dl.same x y = true ↔ x = y := by
  cases x; cases y
  simp [Dl.same]
theorem has_mem (l : List S36) (x : S36) : Dl.has l x = true ↔ x ∈ l := by
  unfold Dl.has
  rw [List.any_eq_true]
  constructor
  · rintro ⟨y, hy, e⟩
    rw [(same_is x y).1 e]; exact hy
  · intro h
    exact ⟨x, h, (same_is x x).2 rfl⟩
theorem s1_is (l : List S36) (h : l.Pairwise (fun x y => x.f0 < y.f0)) (x : S36) : Dl.s1 l x = true ↔ ¬ x ∈ l := by
  unfold Dl.s1
  by_cases c : Cf.place l x.f0 < 0
  · simp only [c, decide_true, Bool.true_or, true_iff]
    exact fun hx => (place_neg l x.f0).1 c x hx rfl
  · have hn := dplace_name l x.f0 c
    have hl := Cf.place_lt l x.f0 c
    have hm : rd_T36 l (Cf.place l x.f0) ∈ l := by
      have e : rd_T36 l (Cf.place l x.f0) = l[(Cf.place l x.f0).toNat]'(by omega) := by simp [rd_T36, List.getD, show (Cf.place l x.f0).toNat < l.length by omega]
      rw [e]
      exact List.getElem_mem _
    simp only [c, decide_false, Bool.false_or, Bool.not_eq_true']
    rw [← Bool.not_eq_true, same_is]
    constructor
    · intro hne hx
      exact hne (uniq h hm hx hn)
    · intro hx e
      exact hx (e ▸ hm)
theorem mem_left (l o : List S36) (m : Int) : m ∈ Dl.left l o ↔ ∃ x, x ∈ l ∧ ¬ x ∈ o ∧ x.f0 = m := by
  unfold Dl.left
  simp only [List.mem_map, List.mem_filter, Bool.not_eq_true', ← Bool.not_eq_true, has_mem]
  constructor
  · rintro ⟨x, ⟨a, b⟩, c⟩; exact ⟨x, a, b, c⟩
  · rintro ⟨x, a, b, c⟩; exact ⟨x, ⟨a, b⟩, c⟩
theorem dsp_dim (va : Int) (la : List S36) (la2 : List S64) (vb : Int) (lb : List S36) (lb2 : List S64) : Dl.dsp va la la2 vb lb lb2 = Dl.dim va la la2 vb lb lb2 := by
  unfold Dl.dsp Dl.dim
  by_cases c : Dl.dcd va la la2 vb lb lb2 ≠ 0
  · rw [if_pos c, if_pos c]
  · rw [if_neg c, if_neg c]
    have ha : Cf.code va la la2 = 0 := by
      unfold Dl.dcd at c
      split at c
      · exact absurd ‹_› c
      · rename_i h; simpa using h
    have hb : Cf.code vb lb lb2 = 0 := by
      unfold Dl.dcd at c
      rw [if_neg (by simpa using ha)] at c
      simpa using c
    have ua := code_asc ha
    have ub := code_asc hb
    refine asc_ext _ _ (fold_asc _ _ _ (fold_asc _ _ _ List.Pairwise.nil)) (compact_asc _ (srt_asc _)) (fun m => ?_)
    rw [fold_mem, fold_mem, compact_mem]
    unfold Dl.srt
    rw [List.mem_mergeSort, List.mem_append, mem_left, mem_left]
    have e2 : ∀ y, Dl.s2 la y = true ↔ ∀ x, x ∈ la → x.f0 ≠ y.f0 := fun y => by
      unfold Dl.s2
      rw [decide_eq_true_eq, place_neg]
    constructor
    · rintro ((h | ⟨x, hx, h, e⟩) | ⟨y, hy, h, e⟩)
      · cases h
      · exact .inl ⟨x, hx, (s1_is lb ub x).1 h, e⟩
      · exact .inr ⟨y, hy, fun h2 => (e2 y).1 h y h2 rfl, e⟩
    · rintro (⟨x, hx, h, e⟩ | ⟨y, hy, h, e⟩)
      · exact .inl (.inr ⟨x, hx, (s1_is lb ub x).2 h, e⟩)
      · by_cases hq : ∀ x, x ∈ la → x.f0 ≠ y.f0
        · exact .inr ⟨y, hy, (e2 y).2 hq, e⟩
        · simp only [Classical.not_forall, Classical.not_not] at hq
          obtain ⟨x, hx, hxy⟩ := hq
          refine .inl (.inr ⟨x, hx, (s1_is lb ub x).2 (fun hx2 => ?_), by omega⟩)
          exact h (uniq ub hx2 hy hxy ▸ hx)
theorem dim_len (va : Int) (la : List S36) (la2 : List S64) (vb : Int) (lb : List S36) (lb2 : List S64) : (Dl.dim va la la2 vb lb lb2).length ≤ la.length + lb.length := by
  unfold Dl.dim
  split
  · simp
  · refine Nat.le_trans (Dl.compact_len _) ?_
    rw [Dl.srt_len, List.length_append]
    have := Dl.left_len la lb
    have := Dl.left_len lb la
    omega
theorem FnExactDeltaOf : SFnExactDeltaOf.Pure := by
  intro a l1 l2 b m1 m2 _ hl1 _ hl2 hq2 _ hm1 _ hm2 hr2
  obtain ⟨K, hK⟩ : ∃ K : Nat, 5000000 ≤ K := ⟨_, Nat.le_refl _⟩
  refine ⟨K, ?_⟩
  unfold laws_FnExactDeltaOf.f
  obtain ⟨v, e1, v1, hv⟩ := szConfig_is a l1 l2 1048576 (by omega) (by omega) hl1 hl2 (fun y hy => (hq2 y hy).2.2.2.1) K (by omega)
  rw [e1, bind_s]
  rcases hv with hv | ⟨hv, n1, n2, n3⟩
  · rw [if_pos hv]
  rw [if_neg (by omega)]
  obtain ⟨v', e2, v2, hv'⟩ := szConfig_is b m1 m2 v hv v1 hm1 hm2 (fun y hy => (hr2 y hy).2.2.2.1) K (by omega)
  rw [e2, bind_s]
  rcases hv' with hv' | ⟨hv', p1, p2, p3⟩
  · rw [if_pos hv']
  rw [if_neg (by omega), if_pos]
  have n4 := cvV_len n3
  have p4 := cvV_len p3
  have q1 : (l1.map cvB).length ≤ 1048576 := by rw [List.length_map]; exact n1
  have q2 : (l2.map cvV).length ≤ 1048576 := by rw [List.length_map]; exact n2
  have r1 : (m1.map cvB).length ≤ 1048576 := by rw [List.length_map]; exact p1
  have r2 : (m2.map cvV).length ≤ 1048576 := by rw [List.length_map]; exact p2
  have hb := Cf.vl_bound (l2.map cvV) n4 (l2.map cvV).length (Nat.le_refl _)
  have hc := Cf.vl_bound (m2.map cvV) p4 (m2.map cvV).length (Nat.le_refl _)
  have hd := dim_len a (l1.map cvB) (l2.map cvV) b (m1.map cvB) (m2.map cvV)
  have hsp := dsp_dim a (l1.map cvB) (l2.map cvV) b (m1.map cvB) (m2.map cvV)
  have hlen : (Dl.dim a (l1.map cvB) (l2.map cvV) b (m1.map cvB) (m2.map cvV)).length ≤ 1048576 := by
    by_cases c : Dl.dcd a (l1.map cvB) (l2.map cvV) b (m1.map cvB) (m2.map cvV) ≠ 0
    · unfold Dl.dim; rw [if_pos c]; simp
    · have ha : Cf.code a (l1.map cvB) (l2.map cvV) = 0 := by
        unfold Dl.dcd at c
        split at c
        · exact absurd ‹_› c
        · rename_i h; simpa using h
      have hb : Cf.code b (m1.map cvB) (m2.map cvV) = 0 := by
        unfold Dl.dcd at c
        rw [if_neg (by simpa using ha)] at c
        simpa using c
      have := Dl.code_len ha
      have := Dl.code_len hb
      omega
  refine ⟨l1.map cvB, l2.map cvV, m1.map cvB, m2.map cvV, _, Dl.dim a (l1.map cvB) (l2.map cvV) b (m1.map cvB) (m2.map cvV), markedInt64S 1 (Dl.dim a (l1.map cvB) (l2.map cvV) b (m1.map cvB) (m2.map cvV)).length, _, _, _, toConfig_is a l1 l2 n1 n2 n3 K (by omega), toConfig_is b m1 m2 p1 p2 p3 K (by omega), rfl, hsp, rfl, eqConfig_self _ _ _ q1 q2 n4 K (by omega), eqConfig_self _ _ _ r1 r2 p4 K (by omega), eqIntsResult_self _ _ hlen K (by omega), (show laws_markConfig.f a (l1.map cvB) (l2.map cvV) 1 = some (1 + 5 * (l1.map cvB).length + Cf.vl (l2.map cvV) (l2.map cvV).length) by unfold laws_markConfig.f; rw [if_pos ⟨q1, q2, n4, by omega, by omega⟩]), (by unfold laws_markConfig.f; rw [if_pos ⟨r1, r2, p4, by omega, by omega⟩]), by omega, markIntsResult_is _ _ hlen K (by omega), by rw [markedInt64S_length], heldIntsResult_is _ _ hlen K (by omega), by omega⟩
end Go.Proofs.Ytfmlhpoaipeoeaa.Pure
