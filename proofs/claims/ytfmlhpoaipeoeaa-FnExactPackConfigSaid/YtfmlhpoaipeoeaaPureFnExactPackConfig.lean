/- WHAT THIS TEXT PROVES: the pure statement of the law FnExactPackConfig, over plain functions on numbers and lists. No condition beyond the statement's own. -/
import Derived.Test.YtfmlhpoaipeoeaaSFnExactPackConfig
import Derived.Laws.BitsLemmas
import Derived.IntWalk
namespace Go.Proofs.Ytfmlhpoaipeoeaa.Pure
open Go.RowKit Go.Proofs.Ytfmlhpoaipeoeaa.QFnExactPackConfig Go.Proofs.YtfmlhpoaipeoeaaW.PrintWords Go.Proofs.YtfmlhpoaipeoeaaW.PrintLast Go.Proofs.YtfmlhpoaipeoeaaW.PrintMore Go.Proofs.Ytfmlhpoaipeoeaa.SFnExactPackConfig
set_option linter.unusedVariables false
set_option linter.unusedSimpArgs false
theorem w64 {n : Int} (h0 : -9223372036854775808 ≤ n) (h1 : n ≤ 9223372036854775807) : wrap64 n = n := by unfold wrap64; omega
theorem w64n (i : Nat) (h : i < 9223372036854775807) : wrap64 ((i : Int) + 1) = ((i + 1 : Nat) : Int) := by
  rw [w64 (by omega) (by omega)]; omega
theorem rd_nat (xs : List Int) (i : Nat) : rd xs (i : Int) = xs.getD i 0 := by simp [rd]
theorem at_succ {k d : Nat} (h : d < k) : ∃ m, k = m + 1 := ⟨k - 1, by omega⟩
theorem drop_cons (xs : List Int) (i : Nat) (h : i < xs.length) : xs.drop i = xs.getD i 0 :: xs.drop (i + 1) := by
  rw [List.drop_eq_getElem_cons h]; simp [List.getD, h]
theorem set_take (x0 x3 : List Int) (i : Nat) (hl : x3.length = x0.length) (hi : i < x0.length) (ht : x3.take i = x0.take i) :
    (x3.set i (x0.getD i 0)).take (i + 1) = x0.take (i + 1) := by
  apply List.ext_getElem?
  intro j
  by_cases hj : j < i
  · have h1 := congrArg (fun l : List Int => l[j]?) ht
    simp only [List.getElem?_take, hj, if_true] at h1
    simp only [List.getElem?_take, show j < i + 1 by omega, if_true]
    rw [List.getElem?_set_ne (by omega)]; exact h1
  · by_cases e : j = i
    · subst e
      simp only [List.getElem?_take, show j < j + 1 by omega, if_true]
      rw [List.getElem?_set_self (by omega)]
      simp [List.getD, hi]
    · simp only [List.getElem?_take, show ¬ j < i + 1 by omega, if_false]
theorem bind_s {α β : Type} (a : α) (f : α → Option β) : (some a).bind f = f a := Eq.trans (Option.bind_some a f) (Eq.refl _)
theorem toInt64S_l0 (x0 : List Int) (hn : x0.length ≤ 1048576) : ∀ (d k i : Nat) (x3 : List Int), x3.length = x0.length → i + d = x0.length → d < k → x3.take i = x0.take i → laws_toInt64S.l0 k x0 x3 (i : Int) = some x0 := by
  intro d
  induction d with
  | zero =>
    intro k i x3 hl hi hk ht
    obtain ⟨k, rfl⟩ := at_succ hk
    simp only [laws_toInt64S.l0]
    rw [if_neg (by omega)]
    have : x3 = x0 := by
      rw [List.take_of_length_le (by omega), List.take_of_length_le (by omega)] at ht; exact ht
    rw [this]
  | succ d ih =>
    intro k i x3 hl hi hk ht
    obtain ⟨k, rfl⟩ := at_succ hk
    simp only [laws_toInt64S.l0]
    rw [if_pos (by omega), if_pos (by omega), if_pos (by omega), w64n i (by omega), rd_nat, Int.toNat_natCast]
    exact ih k (i + 1) _ (by simp [hl]) (by omega) (by omega) (set_take x0 x3 i hl (by omega) ht)
theorem toInt64S_self (l : List Int) (hn : l.length ≤ 1048576) (k : Nat) (hk : l.length < k) : laws_toInt64S.f k l = some l := by
  unfold laws_toInt64S.f
  rw [if_pos (by omega), if_pos (by omega)]
  exact toInt64S_l0 l hn l.length k 0 _ (by simp) (by omega) hk (by simp)
theorem eqInt64S_l0 (x0 : List Int) (hn : x0.length ≤ 1048576) : ∀ (d k i : Nat), i + d = x0.length → d < k → laws_eqInt64S.l0 k x0 x0 (i : Int) = some true := by
  intro d
  induction d with
  | zero =>
    intro k i hi hk
    obtain ⟨k, rfl⟩ := at_succ hk
    simp only [laws_eqInt64S.l0]
    rw [if_neg (by omega)]
  | succ d ih =>
    intro k i hi hk
    obtain ⟨k, rfl⟩ := at_succ hk
    simp only [laws_eqInt64S.l0]
    rw [if_pos (by omega), if_pos (by omega), if_pos (by omega), w64n i (by omega)]
    simp only [if_true]
    exact ih k (i + 1) (by omega) (by omega)
theorem eqInt64S_self (l : List Int) (hn : l.length ≤ 1048576) (k : Nat) (hk : l.length < k) : laws_eqInt64S.f k l l = some true := by
  unfold laws_eqInt64S.f
  rw [if_pos rfl]
  exact eqInt64S_l0 l hn l.length k 0 (by omega) hk
theorem drop_consG {α : Type} (xs : List α) (d : α) (i : Nat) (h : i < xs.length) : xs.drop i = xs.getD i d :: xs.drop (i + 1) := by
  rw [List.drop_eq_getElem_cons h]; simp [List.getD, h]
theorem set_snocG {α : Type} (x : List α) (i : Nat) (v : α) (h : i < x.length) : (x.set i v).take (i + 1) = x.take i ++ [v] := by
  apply List.ext_getElem?
  intro j
  by_cases hj : j < i
  · rw [List.getElem?_append_left (by rw [List.length_take]; omega)]
    simp only [List.getElem?_take, hj, show j < i + 1 by omega, if_true]
    rw [List.getElem?_set_ne (by omega)]
  · by_cases e : j = i
    · subst e
      rw [List.getElem?_append_right (by rw [List.length_take]; omega)]
      simp only [List.getElem?_take, show j < j + 1 by omega, if_true, List.length_take]
      rw [List.getElem?_set_self h, show j - min j x.length = 0 by omega]; rfl
    · simp only [List.getElem?_take, show ¬ j < i + 1 by omega, if_false]
      rw [List.getElem?_eq_none (by rw [List.length_append, List.length_take, List.length_singleton]; omega)]
theorem take_snocG {α : Type} (x : List α) (d : α) (i : Nat) (h : i < x.length) : x.take (i + 1) = x.take i ++ [x.getD i d] := by
  rw [List.take_succ_eq_append_getElem h]; simp [List.getD, h]
def cvB (x : S134) : S36 := ⟨x.f0, x.f1, x.f2, x.f3, x.f4⟩
def cvV (x : S131) : S64 := ⟨x.f0, x.f1, x.f2, x.f3⟩
theorem rdB_nat (xs : List S36) (i : Nat) : rd_T36 xs (i : Int) = xs.getD i z36 := by simp [rd_T36]
theorem rdBl_nat (xs : List S134) (i : Nat) : rd_T134 xs (i : Int) = xs.getD i z134 := by simp [rd_T134]
theorem rdV_nat (xs : List S64) (i : Nat) : rd_T64 xs (i : Int) = xs.getD i z64 := by simp [rd_T64]
theorem rdVl_nat (xs : List S131) (i : Nat) : rd_T131 xs (i : Int) = xs.getD i z131 := by simp [rd_T131]
theorem getD_mem {α : Type} (xs : List α) (d : α) (i : Nat) (h : i < xs.length) : xs.getD i d ∈ xs := by
  have : xs.getD i d = xs[i] := by simp [List.getD, h]
  rw [this]; exact List.getElem_mem h
theorem szVipS_l0 (x : List S131) (hn : x.length ≤ 1048576) (hm : ∀ y ∈ x, y.f3.length ≤ maxLen) : ∀ (d k i : Nat) (left : Int), i + d = x.length → d < k → 0 ≤ left → left ≤ 1048576 →
    ∃ v, laws_szVipS.l0 k x left (i : Int) = some v ∧ v ≤ 1048576 ∧ (v < 0 ∨ (0 ≤ v ∧ ∀ j, i ≤ j → j < x.length → (x.getD j z131).f3.length ≤ 1048576)) := by
  intro d
  induction d with
  | zero =>
    intro k i left hi hk h0 h1
    obtain ⟨k, rfl⟩ := at_succ hk
    simp only [laws_szVipS.l0]
    rw [if_neg (by omega)]
    exact ⟨left, rfl, h1, .inr ⟨h0, fun j a b => by omega⟩⟩
  | succ d ih =>
    intro k i left hi hk h0 h1
    obtain ⟨k, rfl⟩ := at_succ hk
    have hl := hm _ (getD_mem x z131 i (by omega))
    simp only [maxLen] at hl
    simp only [laws_szVipS.l0]
    rw [if_pos (by omega), if_pos (by omega), rdVl_nat]
    unfold laws_szVip.f laws_szInt64S.f
    rw [w64 (n := left - _) (by omega) (by omega), w64n i (by omega)]
    by_cases c : left - (((x.getD i z131).f3.length : Nat) : Int) < 0
    · rw [if_pos c, bind_s, if_pos (by decide), bind_s, if_pos (by decide)]
      exact ⟨-1, rfl, by omega, .inl (by omega)⟩
    · rw [if_neg c, bind_s, if_neg c, bind_s, if_neg c]
      obtain ⟨v, e, hv, hc⟩ := ih k (i + 1) (left - (((x.getD i z131).f3.length : Nat) : Int)) (by omega) (by omega) (by omega) (by omega)
      refine ⟨v, e, hv, ?_⟩
      rcases hc with hc | ⟨hc, ha⟩
      · exact .inl hc
      · refine .inr ⟨hc, fun j a b => ?_⟩
        by_cases e : j = i
        · subst e; omega
        · exact ha j (by omega) b
theorem szConfig_is (a : Int) (l1 : List S134) (l2 : List S131) (left : Int) (h0 : 0 ≤ left) (h1 : left ≤ 1048576) (m1 : l1.length ≤ maxLen) (m2 : l2.length ≤ maxLen) (hm : ∀ y ∈ l2, y.f3.length ≤ maxLen) (k : Nat) (hk : 1048577 ≤ k) :
    ∃ v, laws_szConfig.f k a l1 l2 left = some v ∧ v ≤ 1048576 ∧ (v < 0 ∨ (0 ≤ v ∧ l1.length ≤ 1048576 ∧ l2.length ≤ 1048576 ∧ ∀ y ∈ l2, y.f3.length ≤ 1048576)) := by
  simp only [maxLen] at m1 m2
  unfold laws_szConfig.f laws_szBackendS.f laws_szVipS.f
  rw [w64 (n := left - _) (by omega) (by omega)]
  by_cases c1 : left - ((l1.length : Nat) : Int) < 0
  · rw [if_pos c1, bind_s, if_pos (by decide)]; exact ⟨-1, rfl, by omega, .inl (by omega)⟩
  · rw [if_neg c1, bind_s, if_neg c1, w64 (n := left - _ - _) (by omega) (by omega)]
    by_cases c2 : left - ((l1.length : Nat) : Int) - ((l2.length : Nat) : Int) < 0
    · rw [if_pos c2, bind_s, if_pos (by decide)]; exact ⟨-1, rfl, by omega, .inl (by omega)⟩
    · rw [if_neg c2]
      obtain ⟨v, e, hv, hc⟩ := szVipS_l0 l2 (by omega) hm l2.length k 0 (left - ((l1.length : Nat) : Int) - ((l2.length : Nat) : Int)) (by omega) (by omega) (by omega) (by omega)
      have e' : laws_szVipS.l0 k l2 (left - ((l1.length : Nat) : Int) - ((l2.length : Nat) : Int)) 0 = some v := e
      rw [e', bind_s]
      rcases hc with hc | ⟨hc, ha⟩
      · rw [if_pos hc]; exact ⟨-1, rfl, by omega, .inl (by omega)⟩
      · rw [if_neg (by omega)]
        refine ⟨v, rfl, hv, .inr ⟨hc, by omega, by omega, fun y hy => ?_⟩⟩
        obtain ⟨j, hj, e2⟩ := List.getElem_of_mem hy
        have := ha j (by omega) hj
        have e3 : l2.getD j z131 = y := by rw [← e2]; simp [List.getD, hj]
        rw [e3] at this; exact this
theorem toBackendS_l0 (x0 : List S134) (hn : x0.length ≤ 1048576) : ∀ (d k i : Nat) (x3 : List S36), x3.length = x0.length → i + d = x0.length → d < k → x3.take i = (x0.take i).map cvB → laws_toBackendS.l0 k x0 x3 (i : Int) = some (x0.map cvB) := by
  intro d
  induction d with
  | zero =>
    intro k i x3 hl hi hk ht
    obtain ⟨k, rfl⟩ := at_succ hk
    simp only [laws_toBackendS.l0]
    rw [if_neg (by omega)]
    rw [List.take_of_length_le (by omega), List.take_of_length_le (by omega)] at ht
    rw [ht]
  | succ d ih =>
    intro k i x3 hl hi hk ht
    obtain ⟨k, rfl⟩ := at_succ hk
    simp only [laws_toBackendS.l0, laws_toBackend.f, bind_s]
    rw [if_pos (by omega), if_pos (by omega), if_pos (by omega), w64n i (by omega), rdBl_nat, Int.toNat_natCast]
    refine ih k (i + 1) _ (by simp [hl]) (by omega) (by omega) ?_
    rw [set_snocG x3 i _ (by omega), take_snocG x0 z134 i (by omega), List.map_append, ht]; rfl
theorem toVipS_l0 (x0 : List S131) (hn : x0.length ≤ 1048576) (hm : ∀ y ∈ x0, y.f3.length ≤ 1048576) : ∀ (d k i : Nat) (x3 : List S64), x3.length = x0.length → i + d = x0.length → d + 1048577 < k → x3.take i = (x0.take i).map cvV → laws_toVipS.l0 k x0 x3 (i : Int) = some (x0.map cvV) := by
  intro d
  induction d with
  | zero =>
    intro k i x3 hl hi hk ht
    obtain ⟨k, rfl⟩ := at_succ hk
    simp only [laws_toVipS.l0]
    rw [if_neg (by omega)]
    rw [List.take_of_length_le (by omega), List.take_of_length_le (by omega)] at ht
    rw [ht]
  | succ d ih =>
    intro k i x3 hl hi hk ht
    obtain ⟨k, rfl⟩ := at_succ hk
    have hl3 := hm _ (getD_mem x0 z131 i (by omega))
    simp only [laws_toVipS.l0, laws_toVip.f]
    rw [if_pos (by omega), if_pos (by omega), rdVl_nat, toInt64S_self _ hl3 k (by omega)]
    simp only [bind_s]
    rw [if_pos (by omega), w64n i (by omega), Int.toNat_natCast]
    refine ih k (i + 1) _ (by simp [hl]) (by omega) (by omega) ?_
    rw [set_snocG x3 i _ (by omega), take_snocG x0 z131 i (by omega), List.map_append, ht]; rfl
theorem toConfig_is (a : Int) (l1 : List S134) (l2 : List S131) (h1 : l1.length ≤ 1048576) (h2 : l2.length ≤ 1048576) (hm : ∀ y ∈ l2, y.f3.length ≤ 1048576) (k : Nat) (hk : 2097160 ≤ k) : laws_toConfig.f k a l1 l2 = some (a, l1.map cvB, l2.map cvV) := by
  unfold laws_toConfig.f laws_toBackendS.f laws_toVipS.f
  rw [if_pos (by omega), if_pos (by omega), if_pos (by omega), if_pos (by omega)]
  have e1 := toBackendS_l0 l1 h1 l1.length k 0 (List.replicate ((l1.length : Int) : Int).toNat z36) (by simp) (by omega) (by omega) (by simp)
  have e2 := toVipS_l0 l2 h2 hm l2.length k 0 (List.replicate ((l2.length : Int) : Int).toNat z64) (by simp) (by omega) (by omega) (by simp)
  have e1' : laws_toBackendS.l0 k l1 (List.replicate ((l1.length : Int) : Int).toNat z36) 0 = _ := e1
  have e2' : laws_toVipS.l0 k l2 (List.replicate ((l2.length : Int) : Int).toNat z64) 0 = _ := e2
  rw [e1', bind_s, e2', bind_s]
theorem eqBackendS_l0 (x0 : List S36) (hn : x0.length ≤ 1048576) : ∀ (d k i : Nat), i + d = x0.length → d < k → laws_eqBackendS.l0 k x0 x0 (i : Int) = some true := by
  intro d
  induction d with
  | zero =>
    intro k i hi hk
    obtain ⟨k, rfl⟩ := at_succ hk
    simp only [laws_eqBackendS.l0]
    rw [if_neg (by omega)]
  | succ d ih =>
    intro k i hi hk
    obtain ⟨k, rfl⟩ := at_succ hk
    simp only [laws_eqBackendS.l0, laws_eqBackend.f]
    rw [if_pos (by omega), if_pos (by omega), if_pos (by omega)]
    simp only [if_true, bne_self_eq_false, Bool.false_eq_true, if_false, bind_s]
    rw [w64n i (by omega)]
    exact ih k (i + 1) (by omega) (by omega)
theorem eqVipS_l0 (x0 : List S64) (hn : x0.length ≤ 1048576) (hm : ∀ y ∈ x0, y.f3.length ≤ 1048576) : ∀ (d k i : Nat), i + d = x0.length → d + 1048577 < k → laws_eqVipS.l0 k x0 x0 (i : Int) = some true := by
  intro d
  induction d with
  | zero =>
    intro k i hi hk
    obtain ⟨k, rfl⟩ := at_succ hk
    simp only [laws_eqVipS.l0]
    rw [if_neg (by omega)]
  | succ d ih =>
    intro k i hi hk
    obtain ⟨k, rfl⟩ := at_succ hk
    have hl3 := hm _ (getD_mem x0 z64 i (by omega))
    simp only [laws_eqVipS.l0, laws_eqVip.f]
    rw [if_pos (by omega), if_pos (by omega), if_pos (by omega), rdV_nat, eqInt64S_self _ hl3 k (by omega)]
    simp only [if_true, bind_s]
    rw [w64n i (by omega)]
    exact ih k (i + 1) (by omega) (by omega)
theorem eqConfig_self (a : Int) (l1 : List S36) (l2 : List S64) (h1 : l1.length ≤ 1048576) (h2 : l2.length ≤ 1048576) (hm : ∀ y ∈ l2, y.f3.length ≤ 1048576) (k : Nat) (hk : 2097160 ≤ k) : laws_eqConfig.f k a l1 l2 a l1 l2 = some true := by
  unfold laws_eqConfig.f laws_eqBackendS.f laws_eqVipS.f
  have e1 : laws_eqBackendS.l0 k l1 l1 0 = some true := eqBackendS_l0 l1 h1 l1.length k 0 (by omega) (by omega)
  have e2 : laws_eqVipS.l0 k l2 l2 0 = some true := eqVipS_l0 l2 h2 hm l2.length k 0 (by omega) (by omega)
  rw [if_pos rfl, if_pos rfl, e1, bind_s, if_pos rfl, if_pos rfl, e2, bind_s, if_pos rfl]
theorem cvV_len {l : List S131} (h : ∀ y ∈ l, y.f3.length ≤ 1048576) : ∀ y ∈ l.map cvV, y.f3.length ≤ 1048576 := fun y hy => by
  obtain ⟨x, hx, rfl⟩ := List.mem_map.1 hy
  exact h x hx
theorem eqByteS_l0 (x0 : List Int) (hn : x0.length ≤ 16777216) : ∀ (d k i : Nat), i + d = x0.length → d < k → laws_eqByteS.l0 k x0 x0 (i : Int) = some true := by
  intro d
  induction d with
  | zero =>
    intro k i hi hk
    obtain ⟨k, rfl⟩ := at_succ hk
    simp only [laws_eqByteS.l0]
    rw [if_neg (by omega)]
  | succ d ih =>
    intro k i hi hk
    obtain ⟨k, rfl⟩ := at_succ hk
    simp only [laws_eqByteS.l0]
    rw [if_pos (by omega), if_pos (by omega), if_pos (by omega), w64n i (by omega)]
    simp only [if_true]
    exact ih k (i + 1) (by omega) (by omega)
theorem eqByteS_self (l : List Int) (hn : l.length ≤ 16777216) (k : Nat) (hk : l.length < k) : laws_eqByteS.f k l l = some true := by
  unfold laws_eqByteS.f
  rw [if_pos rfl]
  exact eqByteS_l0 l hn l.length k 0 (by omega) hk
theorem set_snocByteS (x : List Int) (i : Nat) (v : Int) (h : i < x.length) : (x.set i v).take (i + 1) = x.take i ++ [v] := by
  apply List.ext_getElem?
  intro j
  by_cases hj : j < i
  · rw [List.getElem?_append_left (by rw [List.length_take]; omega)]
    simp only [List.getElem?_take, hj, show j < i + 1 by omega, if_true]
    rw [List.getElem?_set_ne (by omega)]
  · by_cases e : j = i
    · subst e
      rw [List.getElem?_append_right (by rw [List.length_take]; omega)]
      simp only [List.getElem?_take, show j < j + 1 by omega, if_true, List.length_take]
      rw [List.getElem?_set_self h, show j - min j x.length = 0 by omega]; rfl
    · simp only [List.getElem?_take, show ¬ j < i + 1 by omega, if_false]
      rw [List.getElem?_eq_none (by rw [List.length_append, List.length_take, List.length_singleton]; omega)]
def markedByteS (a n : Nat) : List Int := (List.range n).map fun (j : Nat) => ((a + j : Nat) : Int) % 256
theorem markedByteS_succ (a n : Nat) : markedByteS a (n + 1) = markedByteS a n ++ [(fun (j : Nat) => ((a + j : Nat) : Int) % 256) n] := by simp [markedByteS, List.range_succ]
theorem markedByteS_length (a n : Nat) : (markedByteS a n).length = n := by simp [markedByteS]
theorem markedByteS_at (a n i : Nat) (h : i < n) : (markedByteS a n).getD i 0 = (fun (j : Nat) => ((a + j : Nat) : Int) % 256) i := by simp [markedByteS, List.getD, h]
theorem markByteS_l0 (n a : Nat) (hn : n ≤ 16777216) (ha : a ≤ 2000000000) : ∀ (d k i : Nat) (x : List Int), x.length = n → i + d = n → d < k → x.take i = markedByteS a i → laws_markByteS.l0 k x ((a + i : Nat) : Int) (i : Int) = some (((a + n : Nat) : Int), markedByteS a n) := by
  intro d
  induction d with
  | zero =>
    intro k i x hl hi hk ht
    obtain ⟨k, rfl⟩ := at_succ hk
    simp only [laws_markByteS.l0]
    rw [if_neg (by omega)]
    obtain rfl : i = n := by omega
    rw [List.take_of_length_le (by omega)] at ht
    rw [ht]
  | succ d ih =>
    intro k i x hl hi hk ht
    obtain ⟨k, rfl⟩ := at_succ hk
    simp only [laws_markByteS.l0]
    rw [if_pos (by omega), if_pos (by omega), w64n i (by omega), w64n (a + i) (by omega), Int.toNat_natCast, show a + i + 1 = a + (i + 1) by omega]
    exact ih k (i + 1) _ (by simp [hl]) (by omega) (by omega) (by rw [set_snocByteS x i _ (by omega), ht, markedByteS_succ])
theorem markByteS_is (l : List Int) (a : Nat) (hn : l.length ≤ 16777216) (ha : a ≤ 2000000000) (k : Nat) (hk : l.length < k) : laws_markByteS.f k l (a : Int) = some (((a + l.length : Nat) : Int), markedByteS a l.length) := by
  unfold laws_markByteS.f
  exact markByteS_l0 l.length a hn ha l.length k 0 l rfl (by omega) hk (by simp [markedByteS])
theorem heldByteS_l0 (n a : Nat) (hn : n ≤ 16777216) (ha : a ≤ 2000000000) : ∀ (d k i : Nat), i + d = n → d < k → laws_heldByteS.l0 k (markedByteS a n) ((a + i : Nat) : Int) (i : Int) = some ((a + n : Nat) : Int) := by
  intro d
  induction d with
  | zero =>
    intro k i hi hk
    obtain ⟨k, rfl⟩ := at_succ hk
    simp only [laws_heldByteS.l0]
    rw [if_neg (by rw [markedByteS_length]; omega), show i = n by omega]
  | succ d ih =>
    intro k i hi hk
    obtain ⟨k, rfl⟩ := at_succ hk
    simp only [laws_heldByteS.l0]
    rw [if_pos (by rw [markedByteS_length]; omega), if_pos (by omega), rd_nat, markedByteS_at a n i (by omega)]
    rw [if_pos rfl, w64n i (by omega), w64n (a + i) (by omega), show a + i + 1 = a + (i + 1) by omega]
    exact ih k (i + 1) (by omega) (by omega)
theorem heldByteS_is (n a : Nat) (hn : n ≤ 16777216) (ha : a ≤ 2000000000) (k : Nat) (hk : n < k) : laws_heldByteS.f k (markedByteS a n) (a : Int) = some ((a + n : Nat) : Int) := by
  unfold laws_heldByteS.f
  exact heldByteS_l0 n a hn ha n k 0 (by omega) hk
theorem eqBytesResult_self (c : Int) (l : List Int) (hn : l.length ≤ 16777216) (k : Nat) (hk : l.length < k) : laws_eqBytesResult.f k c l c l = some true := by
  unfold laws_eqBytesResult.f
  rw [if_pos rfl, eqByteS_self l hn k hk]; rfl
theorem markBytesResult_is (c : Int) (l : List Int) (hn : l.length ≤ 16777216) (k : Nat) (hk : l.length < k) : laws_markBytesResult.f k c l 1 = some (((1 + l.length : Nat) : Int), markedByteS 1 l.length) := by
  unfold laws_markBytesResult.f
  rw [show (1 : Int) = ((1 : Nat) : Int) from rfl, markByteS_is l 1 (by omega) (by omega) k hk]; rfl
theorem heldBytesResult_is (c : Int) (n : Nat) (hn : n ≤ 16777216) (k : Nat) (hk : n < k) : laws_heldBytesResult.f k c (markedByteS 1 n) 1 = some ((1 + n : Nat) : Int) := by
  unfold laws_heldBytesResult.f
  rw [show (1 : Int) = ((1 : Nat) : Int) from rfl, heldByteS_is n 1 (by omega) (by omega) k hk]
  simp only [Option.bind_some]
  rw [if_neg (by omega)]
theorem shr8 (n : Int) (s : Nat) (hs : s ≤ 7) : shr .i64 n ((8 * s : Nat) : Int) = n / 2 ^ (8 * s) := by
  unfold shr
  rw [Int.toNat_natCast, Nat.min_eq_left (by simp only [IntKind.bits]; omega)]
/-- The s lowest bytes of a number, the highest first. -/
def be (n : Int) : Nat → List Int
  | 0 => []
  | s + 1 => (n / 2 ^ (8 * s)) % 256 :: be n s
theorem be_length (n : Int) : ∀ s, (be n s).length = s
  | 0 => rfl
  | s + 1 => by simp [be, be_length n s]
theorem be_bytes (n : Int) : ∀ s, ∀ x ∈ be n s, 0 ≤ x ∧ x ≤ 255
  | 0 => fun x hx => by cases hx
  | s + 1 => fun x hx => by
    rcases List.mem_cons.1 hx with rfl | hx
    · omega
    · exact be_bytes n s x hx
theorem eight (s : Nat) (hs : s ≤ 7) : wrap64 (8 * (s : Int)) = ((8 * s : Nat) : Int) := by rw [w64 (by omega) (by omega)]; omega
theorem eightU (s : Nat) (hs : s ≤ 7) : IntKind.u64.wrap (wrap64 (8 * (s : Int))) = ((8 * s : Nat) : Int) := by
  rw [eight s hs, Go.IntKind.wrap_u64]; omega
theorem impl_put_l0 (n : Int) : ∀ (s k : Nat) (out : List Int), s ≤ 7 → s < k → out.length + s ≤ 1000000000 → impl_put.l0 k out n ((s : Int) - 1) = some (out ++ be n s) := by
  intro s
  induction s with
  | zero =>
    intro k out hs hk ho
    obtain ⟨k, rfl⟩ := at_succ hk
    simp only [impl_put.l0]
    rw [if_neg (by omega)]; simp [be]
  | succ s ih =>
    intro k out hs hk ho
    obtain ⟨k, rfl⟩ := at_succ hk
    simp only [impl_put.l0]
    rw [show ((s + 1 : Nat) : Int) - 1 = (s : Int) by omega, if_pos (by omega), eight s (by omega), if_pos (by omega), if_pos (by omega), shr8 n s (by omega), w64 (by omega) (by omega)]
    rw [ih k _ (by omega) (by omega) (by simp; omega)]; simp [be]
theorem impl_put_is (out : List Int) (n : Int) (s : Nat) (hs : s ≤ 7) (k : Nat) (hk : s < k) (ho : out.length + s ≤ 1000000000) : impl_put.f k out n (s : Int) = some (out ++ be n s) := by
  unfold impl_put.f
  rw [w64 (by omega) (by omega)]
  exact impl_put_l0 n s k out hs hk ho
theorem spec_l1Bytes_l0 (n : Int) : ∀ (s k : Nat) (out : List Int), s ≤ 7 → s < k → out.length + s ≤ 1000000000 → spec_l1Bytes.l0 k n out ((s : Int) - 1) = some (out ++ be n s) := by
  intro s
  induction s with
  | zero =>
    intro k out hs hk ho
    obtain ⟨k, rfl⟩ := at_succ hk
    simp only [spec_l1Bytes.l0]
    rw [if_neg (by omega)]; simp [be]
  | succ s ih =>
    intro k out hs hk ho
    obtain ⟨k, rfl⟩ := at_succ hk
    simp only [spec_l1Bytes.l0]
    rw [show ((s + 1 : Nat) : Int) - 1 = (s : Int) by omega, if_pos (by omega), eightU s (by omega), if_pos (by omega), if_pos (by omega), shr8 n s (by omega), w64 (by omega) (by omega)]
    rw [ih k _ (by omega) (by omega) (by simp; omega)]; simp [be]
theorem spec_l1Bytes_is (n : Int) (s : Nat) (hs : s ≤ 7) (k : Nat) (hk : s < k) : spec_l1Bytes.f k n (s : Int) = some (be n s) := by
  unfold spec_l1Bytes.f
  rw [w64 (by omega) (by omega)]
  have := spec_l1Bytes_l0 n s k [] hs hk (by simp; omega)
  simpa using this
def cfB (b : S36) : List Int := be b.f0 2 ++ be b.f1 4 ++ [Cf.l6n b % 256]
def cfN (l : List Int) : List Int := l.flatMap (fun n => be n 2)
def cfV (v : S64) : List Int := be v.f0 4 ++ be v.f1 2 ++ [v.f2 % 256, (v.f3.length : Int) % 256] ++ cfN v.f3
def cfL (a : Int) (l1 : List S36) (l2 : List S64) : List Int := be a 4 ++ [(l1.length : Int) % 256] ++ l1.flatMap cfB ++ [(l2.length : Int) % 256] ++ l2.flatMap cfV
theorem cfB_length (b : S36) : (cfB b).length = 7 := by simp [cfB, be_length]
theorem cfN_length : ∀ l : List Int, (cfN l).length = 2 * l.length
  | [] => rfl
  | a :: l => by
    have := cfN_length l
    simp only [cfN, List.flatMap_cons, List.length_append, be_length, List.length_cons] at this ⊢
    omega
theorem cfV_length (v : S64) : (cfV v).length = 8 + 2 * v.f3.length := by
  simp only [cfV, List.length_append, be_length, cfN_length, List.length_cons, List.length_nil]
theorem cfBs_length : ∀ l : List S36, (l.flatMap cfB).length = 7 * l.length
  | [] => rfl
  | a :: l => by
    have := cfBs_length l
    simp only [List.flatMap_cons, List.length_append, cfB_length, List.length_cons] at this ⊢
    omega
theorem cfVs_length : ∀ l : List S64, (∀ y ∈ l, y.f3.length ≤ 1048576) → (l.flatMap cfV).length ≤ 2097160 * l.length
  | [], _ => Nat.le_refl _
  | a :: l, h => by
    have := cfVs_length l (fun y hy => h y (List.mem_cons_of_mem _ hy))
    have h3 := h a (List.mem_cons_self ..)
    simp only [List.flatMap_cons, List.length_append, cfV_length, List.length_cons] at this ⊢
    omega
def cfNeed : List S64 → Nat
  | [] => 10
  | v :: l => v.f3.length + cfNeed l + 2
theorem cfNeed_ge : ∀ l : List S64, 10 ≤ cfNeed l
  | [] => Nat.le_refl _
  | v :: l => by have := cfNeed_ge l; simp only [cfNeed]; omega
theorem cfNeed_le : ∀ l : List S64, (∀ y ∈ l, y.f3.length ≤ 1048576) → cfNeed l ≤ 10 + 1048578 * l.length
  | [], _ => Nat.le_refl _
  | v :: l, h => by
    have h1 := cfNeed_le l (fun y hy => h y (List.mem_cons_of_mem _ hy))
    have h3 := h v (List.mem_cons_self ..)
    simp only [cfNeed, List.length_cons]
    omega
theorem specCfg_l2 (ns : List Int) (hn : ns.length ≤ 1048576) (x7 a : Int) (l1 : List S36) (l2 : List S64) (f0 f1 f2 : Int) : ∀ (d i m : Nat) (out : List Int), i + d = ns.length → 8 ≤ m → out.length + 2 * d ≤ 900000000 →
    spec_l6Config.l2 (m + d + 1) out x7 (i : Int) a l1 l2 f0 f1 f2 ns = spec_l6Config.l1 m (out ++ cfN (ns.drop i)) (wrap64 (x7 + 1)) a l1 l2 := by
  intro d
  induction d with
  | zero =>
    intro i m out hi hm ho
    rw [show m + 0 + 1 = m + 1 from rfl]
    simp only [spec_l6Config.l2]
    rw [if_neg (by omega), List.drop_of_length_le (by omega)]
    simp [cfN]
  | succ d ih =>
    intro i m out hi hm ho
    obtain ⟨M, hM⟩ : ∃ M, M = m + d + 1 := ⟨_, rfl⟩
    rw [show m + (d + 1) + 1 = M + 1 by omega]
    simp only [spec_l6Config.l2]
    have e2 : ((2 : Nat) : Int) = 2 := rfl
    rw [if_pos (by omega), if_pos (by omega), rd_nat, ← e2, spec_l1Bytes_is _ 2 (by omega) M (by omega), bind_s, if_pos (by rw [be_length]; omega), w64n i (by omega), hM, ih (i + 1) m _ (by omega) hm (by rw [List.length_append, be_length]; omega)]
    rw [drop_cons ns i (by omega)]
    simp [cfN, List.append_assoc]
theorem specCfg_l1 (a : Int) (l1 : List S36) (l2 : List S64) (h2 : l2.length ≤ 4) (hm : ∀ y ∈ l2, y.f3.length ≤ 1048576) : ∀ (d i k : Nat) (out : List Int), i + d = l2.length → cfNeed (l2.drop i) ≤ k → out.length + 2097160 * d ≤ 900000000 →
    spec_l6Config.l1 k out (i : Int) a l1 l2 = some (out ++ (l2.drop i).flatMap cfV) := by
  intro d
  induction d with
  | zero =>
    intro i k out hi hk ho
    have := cfNeed_ge (l2.drop i)
    obtain ⟨k, rfl⟩ : ∃ j, k = j + 1 := ⟨k - 1, by omega⟩
    simp only [spec_l6Config.l1]
    rw [if_neg (by omega), List.drop_of_length_le (by omega)]
    simp
  | succ d ih =>
    intro i k out hi hk ho
    have hl3 := hm _ (getD_mem l2 z64 i (by omega))
    rw [drop_consG l2 z64 i (by omega)] at hk
    simp only [cfNeed] at hk
    have hk3 := cfNeed_ge (l2.drop (i + 1))
    obtain ⟨m, rfl⟩ : ∃ m, k = (m + (l2.getD i z64).f3.length + 1) + 1 := ⟨k - 2 - (l2.getD i z64).f3.length, by omega⟩
    have hk2 : cfNeed (l2.drop (i + 1)) ≤ m := by omega
    replace hk3 : 10 ≤ m := by omega
    clear hk
    simp only [spec_l6Config.l1]
    have e2 : ((2 : Nat) : Int) = 2 := rfl
    have e4 : ((4 : Nat) : Int) = 4 := rfl
    rw [if_pos (by omega), if_pos (by omega), rdV_nat, ← e2, ← e4, spec_l1Bytes_is _ 4 (by omega) _ (by omega), bind_s, if_pos (by rw [be_length]; omega), bind_s, spec_l1Bytes_is _ 2 (by omega) _ (by omega), bind_s, if_pos (by simp only [List.length_append, be_length]; omega), bind_s, bind_s, if_pos (by simp only [List.length_append, be_length, List.length_cons, List.length_nil]; omega)]
    have h := specCfg_l2 (l2.getD i z64).f3 hl3 (i : Int) a l1 l2 (l2.getD i z64).f0 (l2.getD i z64).f1 (l2.getD i z64).f2 (l2.getD i z64).f3.length 0 m (out ++ be (l2.getD i z64).f0 4 ++ be (l2.getD i z64).f1 2 ++ [(l2.getD i z64).f2 % 256, ((l2.getD i z64).f3.length : Int) % 256]) (by omega) (by omega) (by simp only [List.length_append, be_length, List.length_cons, List.length_nil]; omega)
    refine Eq.trans h ?_
    rw [w64n i (by omega), ih (i + 1) m _ (by omega) hk2 (by simp only [List.length_append, be_length, List.length_cons, List.length_nil, List.drop_zero, cfN_length]; omega)]
    rw [drop_consG l2 z64 i (by omega)]
    simp only [List.flatMap_cons, cfV, List.append_assoc, List.drop_zero]
theorem specCfg_l0 (a : Int) (l1 : List S36) (l2 : List S64) (h1 : l1.length ≤ 8) (h2 : l2.length ≤ 4) (hm : ∀ y ∈ l2, y.f3.length ≤ 1048576) : ∀ (d i k : Nat) (out : List Int), i + d = l1.length → 5000000 + d ≤ k → out.length + 7 * d ≤ 10000000 →
    spec_l6Config.l0 k out (i : Int) a l1 l2 = some (out ++ (l1.drop i).flatMap cfB ++ [(l2.length : Int) % 256] ++ l2.flatMap cfV) := by
  intro d
  induction d with
  | zero =>
    intro i k out hi hk ho
    obtain ⟨k, rfl⟩ : ∃ j, k = j + 1 := ⟨k - 1, by omega⟩
    simp only [spec_l6Config.l0]
    rw [if_neg (by omega), bind_s, if_pos (by simp only [List.length_cons, List.length_nil]; omega), List.drop_of_length_le (by omega)]
    have h := specCfg_l1 a l1 l2 h2 hm l2.length 0 k (out ++ [(l2.length : Int) % 256]) (by omega) (by have := cfNeed_le l2 hm; rw [List.drop_zero]; omega) (by simp only [List.length_append, List.length_cons, List.length_nil]; omega)
    refine Eq.trans h ?_
    simp
  | succ d ih =>
    intro i k out hi hk ho
    obtain ⟨k, rfl⟩ : ∃ j, k = j + 1 := ⟨k - 1, by omega⟩
    simp only [spec_l6Config.l0]
    have e2 : ((2 : Nat) : Int) = 2 := rfl
    have e4 : ((4 : Nat) : Int) = 4 := rfl
    rw [if_pos (by omega), if_pos (by omega), rdB_nat, ← e2, ← e4, spec_l1Bytes_is _ 2 (by omega) _ (by omega), bind_s, if_pos (by rw [be_length]; omega), bind_s, spec_l1Bytes_is _ 4 (by omega) _ (by omega), bind_s, if_pos (by simp only [List.length_append, be_length]; omega), bind_s, bind_s, if_pos (by simp only [List.length_append, be_length, List.length_cons, List.length_nil]; omega), w64n i (by omega), ih (i + 1) k _ (by omega) (by omega) (by simp only [List.length_append, be_length, List.length_cons, List.length_nil]; omega)]
    rw [drop_consG l1 z36 i (by omega)]
    simp only [List.flatMap_cons, cfB, List.append_assoc]
theorem spec_l6Config_is (a : Int) (l1 : List S36) (l2 : List S64) (h1 : l1.length ≤ 8) (h2 : l2.length ≤ 4) (hm : ∀ y ∈ l2, y.f3.length ≤ 1048576) (k : Nat) (hk : 5000010 ≤ k) : spec_l6Config.f k a l1 l2 = some (cfL a l1 l2) := by
  unfold spec_l6Config.f
  have e4 : ((4 : Nat) : Int) = 4 := rfl
  rw [← e4, spec_l1Bytes_is _ 4 (by omega) _ (by omega), bind_s, bind_s, if_pos (by simp [be_length])]
  have h := specCfg_l0 a l1 l2 h1 h2 hm l1.length 0 k (be a 4 ++ [(l1.length : Int) % 256]) (by omega) (by omega) (by simp only [List.length_append, be_length, List.length_cons, List.length_nil]; omega)
  refine Eq.trans h ?_
  simp [cfL]
theorem implCfg_l2 (ns : List Int) (hn : ns.length ≤ 1048576) (l2 : List S64) (x59 x60 : Int) : ∀ (d i m : Nat) (out : List Int), i + d = ns.length → 8 ≤ m → out.length + 2 * d ≤ 900000000 →
    impl_packConfig.l2 (m + d + 1) out l2 x59 x60 ns (ns.length : Int) (i : Int) = impl_packConfig.l1 m (out ++ cfN (ns.drop i)) l2 x59 (wrap64 (x60 + 1)) := by
  intro d
  induction d with
  | zero =>
    intro i m out hi hm ho
    rw [show m + 0 + 1 = m + 1 from rfl]
    simp only [impl_packConfig.l2]
    rw [if_neg (by omega), List.drop_of_length_le (by omega)]
    simp [cfN]
  | succ d ih =>
    intro i m out hi hm ho
    obtain ⟨M, hM⟩ : ∃ M, M = m + d + 1 := ⟨_, rfl⟩
    rw [show m + (d + 1) + 1 = M + 1 by omega]
    simp only [impl_packConfig.l2]
    have e2 : ((2 : Nat) : Int) = 2 := rfl
    rw [if_pos (by omega), if_pos (by omega), if_pos (by omega), rd_nat, ← e2, impl_put_is out _ 2 (by omega) M (by omega) (by omega), bind_s, w64n i (by omega), hM, ih (i + 1) m _ (by omega) hm (by rw [List.length_append, be_length]; omega)]
    rw [drop_cons ns i (by omega)]
    simp [cfN, List.append_assoc]
theorem implCfg_l1 (l2 : List S64) (h2 : l2.length ≤ 4) (hm : ∀ y ∈ l2, y.f3.length ≤ 1048576) : ∀ (d i k : Nat) (out : List Int), i + d = l2.length → cfNeed (l2.drop i) ≤ k → out.length + 2097160 * d ≤ 900000000 →
    impl_packConfig.l1 k out l2 (l2.length : Int) (i : Int) = some (out ++ (l2.drop i).flatMap cfV) := by
  intro d
  induction d with
  | zero =>
    intro i k out hi hk ho
    have := cfNeed_ge (l2.drop i)
    obtain ⟨k, rfl⟩ : ∃ j, k = j + 1 := ⟨k - 1, by omega⟩
    simp only [impl_packConfig.l1]
    rw [if_neg (by omega), List.drop_of_length_le (by omega)]
    simp
  | succ d ih =>
    intro i k out hi hk ho
    have hl3 := hm _ (getD_mem l2 z64 i (by omega))
    rw [drop_consG l2 z64 i (by omega)] at hk
    simp only [cfNeed] at hk
    have hk3 := cfNeed_ge (l2.drop (i + 1))
    obtain ⟨m, rfl⟩ : ∃ m, k = (m + (l2.getD i z64).f3.length + 1) + 1 := ⟨k - 2 - (l2.getD i z64).f3.length, by omega⟩
    have hk2 : cfNeed (l2.drop (i + 1)) ≤ m := by omega
    replace hk3 : 10 ≤ m := by omega
    clear hk
    simp only [impl_packConfig.l1]
    have e2 : ((2 : Nat) : Int) = 2 := rfl
    have e4 : ((4 : Nat) : Int) = 4 := rfl
    rw [if_pos (by omega), if_pos (by omega), if_pos (by omega), rdV_nat, ← e2, ← e4, impl_put_is out _ 4 (by omega) _ (by omega) (by omega), bind_s, impl_put_is _ _ 2 (by omega) _ (by omega) (by rw [List.length_append, be_length]; omega), bind_s, bind_s, if_pos (by simp only [List.length_append, be_length, List.length_cons, List.length_nil]; omega)]
    have h := implCfg_l2 (l2.getD i z64).f3 hl3 l2 (l2.length : Int) (i : Int) (l2.getD i z64).f3.length 0 m (out ++ be (l2.getD i z64).f0 4 ++ be (l2.getD i z64).f1 2 ++ [(l2.getD i z64).f2 % 256, ((l2.getD i z64).f3.length : Int) % 256]) (by omega) (by omega) (by simp only [List.length_append, be_length, List.length_cons, List.length_nil]; omega)
    refine Eq.trans h ?_
    rw [w64n i (by omega), ih (i + 1) m _ (by omega) hk2 (by simp only [List.length_append, be_length, List.length_cons, List.length_nil, List.drop_zero, cfN_length]; omega)]
    rw [drop_consG l2 z64 i (by omega)]
    simp only [List.flatMap_cons, cfV, List.append_assoc, List.drop_zero]
theorem implCfg_l0 (a : Int) (l1 : List S36) (l2 : List S64) (h1 : l1.length ≤ 8) (h2 : l2.length ≤ 4) (hm : ∀ y ∈ l2, y.f3.length ≤ 1048576) : ∀ (d i k : Nat) (out : List Int), i + d = l1.length → 5000000 + d ≤ k → out.length + 7 * d ≤ 10000000 →
    impl_packConfig.l0 k out l1 (l1.length : Int) (i : Int) a l1 l2 = some (out ++ (l1.drop i).flatMap cfB ++ [(l2.length : Int) % 256] ++ l2.flatMap cfV) := by
  intro d
  induction d with
  | zero =>
    intro i k out hi hk ho
    obtain ⟨k, rfl⟩ : ∃ j, k = j + 1 := ⟨k - 1, by omega⟩
    simp only [impl_packConfig.l0]
    rw [if_neg (by omega), bind_s, if_pos (by simp only [List.length_cons, List.length_nil]; omega), List.drop_of_length_le (by omega)]
    have h := implCfg_l1 l2 h2 hm l2.length 0 k (out ++ [(l2.length : Int) % 256]) (by omega) (by have := cfNeed_le l2 hm; rw [List.drop_zero]; omega) (by simp only [List.length_append, List.length_cons, List.length_nil]; omega)
    refine Eq.trans h ?_
    simp
  | succ d ih =>
    intro i k out hi hk ho
    obtain ⟨k, rfl⟩ : ∃ j, k = j + 1 := ⟨k - 1, by omega⟩
    simp only [impl_packConfig.l0]
    have e2 : ((2 : Nat) : Int) = 2 := rfl
    have e4 : ((4 : Nat) : Int) = 4 := rfl
    rw [if_pos (by omega), if_pos (by omega), if_pos (by omega), rdB_nat]
    obtain ⟨b, hb⟩ : ∃ b, b = l1.getD i z36 := ⟨_, rfl⟩
    rw [drop_consG l1 z36 i (by omega), ← hb]
    have c1 : b.f2 * 8 = 8 * b.f2 := Int.mul_comm _ _
    have c2 : b.f3 * 2 = 2 * b.f3 := Int.mul_comm _ _
    have fin : impl_packConfig.l0 k (out ++ be b.f0 2 ++ be b.f1 4 ++ [Cf.l6n b % 256]) l1 (l1.length : Int) (wrap64 ((i : Int) + 1)) a l1 l2 = some (out ++ (b :: l1.drop (i + 1)).flatMap cfB ++ [(l2.length : Int) % 256] ++ l2.flatMap cfV) := by
      rw [w64n i (by omega), ih (i + 1) k _ (by omega) (by omega) (by simp only [List.length_append, be_length, List.length_cons, List.length_nil]; omega)]
      simp only [List.flatMap_cons, cfB, List.append_assoc]
    by_cases c : b.f4 = true
    · rw [if_pos c, ← e2, ← e4, impl_put_is out _ 2 (by omega) _ (by omega) (by omega), bind_s, impl_put_is _ _ 4 (by omega) _ (by omega) (by rw [List.length_append, be_length]; omega), bind_s, bind_s, if_pos (by simp only [List.length_append, be_length, List.length_cons, List.length_nil]; omega)]
      unfold Cf.l6n at fin
      rw [if_pos c] at fin
      rw [e2, c1, c2]
      exact fin
    · rw [if_neg c, ← e2, ← e4, impl_put_is out _ 2 (by omega) _ (by omega) (by omega), bind_s, impl_put_is _ _ 4 (by omega) _ (by omega) (by rw [List.length_append, be_length]; omega), bind_s, bind_s, if_pos (by simp only [List.length_append, be_length, List.length_cons, List.length_nil]; omega)]
      unfold Cf.l6n at fin
      rw [if_neg c] at fin
      rw [e2, c1, c2]
      exact fin
theorem impl_packConfig_is (a : Int) (l1 : List S36) (l2 : List S64) (h1 : l1.length ≤ 8) (h2 : l2.length ≤ 4) (hm : ∀ y ∈ l2, y.f3.length ≤ 1048576) (k : Nat) (hk : 5000010 ≤ k) : impl_packConfig.f k a l1 l2 = some (cfL a l1 l2) := by
  unfold impl_packConfig.f
  have e4 : ((4 : Nat) : Int) = 4 := rfl
  rw [← e4, impl_put_is [] _ 4 (by omega) _ (by omega) (by simp), bind_s, bind_s, if_pos (by simp [be_length])]
  have h := implCfg_l0 a l1 l2 h1 h2 hm l1.length 0 k ([] ++ be a 4 ++ [(l1.length : Int) % 256]) (by omega) (by omega) (by simp only [List.length_append, be_length, List.length_cons, List.length_nil]; omega)
  refine Eq.trans h ?_
  simp [cfL]
theorem code_small {a : Int} {l1 : List S36} {l2 : List S64} (h : Cf.code a l1 l2 = 0) : l1.length ≤ 8 ∧ l2.length ≤ 4 := by
  unfold Cf.code at h
  split at h
  · omega
  · split at h
    · omega
    · rename_i c
      simp only [Bool.or_eq_true, decide_eq_true_eq, not_or] at c
      omega
theorem PackConfig_both (a : Int) (l1 : List S36) (l2 : List S64) (hm : ∀ y ∈ l2, y.f3.length ≤ 1048576) : ∃ x l, (∀ k, 5000010 ≤ k → impl_PackConfig.f k a l1 l2 = some (x, l)) ∧ (∀ k, 5000010 ≤ k → spec_PackConfig.f k a l1 l2 = some (x, l)) ∧ l.length ≤ 16777216 := by
  by_cases c : Cf.code a l1 l2 = 0
  · obtain ⟨h1, h2⟩ := code_small c
    refine ⟨0, cfL a l1 l2, fun k hk => ?_, fun k hk => ?_, ?_⟩
    · unfold impl_PackConfig.f impl_ConfigFault.f
      rw [bind_s, if_pos c, impl_packConfig_is a l1 l2 h1 h2 hm k hk, bind_s]
    · unfold spec_PackConfig.f impl_ConfigFault.f
      rw [bind_s, if_pos c, spec_l6Config_is a l1 l2 h1 h2 hm k hk, bind_s]
    · have := cfBs_length l1
      have := cfVs_length l2 hm
      simp only [cfL, List.length_append, be_length, List.length_cons, List.length_nil]
      omega
  · refine ⟨Cf.code a l1 l2, [], fun k hk => ?_, fun k hk => ?_, by simp⟩
    · unfold impl_PackConfig.f impl_ConfigFault.f
      rw [bind_s, if_neg c]
    · unfold spec_PackConfig.f impl_ConfigFault.f
      rw [bind_s, if_neg c]
theorem FnExactPackConfig : SFnExactPackConfig.Pure := by
  intro a l1 l2 _ hl1 _ hl2 hq2
  obtain ⟨K, hK⟩ : ∃ K : Nat, 20000000 ≤ K := ⟨_, Nat.le_refl _⟩
  refine ⟨K + 1, ?_⟩
  unfold laws_FnExactPackConfig.f
  obtain ⟨v, e1, v1, hv⟩ := szConfig_is a l1 l2 1048576 (by omega) (by omega) hl1 hl2 (fun y hy => (hq2 y hy).2.2.2.1) (K + 1) (by omega)
  rw [e1, bind_s]
  rcases hv with hv | ⟨hv, n1, n2, n3⟩
  · rw [if_pos hv]
  · rw [if_neg (by omega), toConfig_is a l1 l2 n1 n2 n3 (K + 1) (by omega), bind_s]
    have n4 := cvV_len n3
    have m1 : (l1.map cvB).length ≤ 1048576 := by rw [List.length_map]; exact n1
    have m2 : (l2.map cvV).length ≤ 1048576 := by rw [List.length_map]; exact n2
    have hb := Cf.vl_bound (l2.map cvV) n4 (l2.map cvV).length (Nat.le_refl _)
    obtain ⟨C, S, ei, es, sl⟩ := PackConfig_both a (l1.map cvB) (l2.map cvV) n4
    have em : laws_markConfig.f a (l1.map cvB) (l2.map cvV) 1 = some (1 + 5 * (l1.map cvB).length + Cf.vl (l2.map cvV) (l2.map cvV).length) := by unfold laws_markConfig.f; rw [if_pos ⟨m1, m2, n4, by omega, by omega⟩]
    rw [es (K + 1) (by omega), bind_s]
    simp only [bind_s]
    rw [ei (K + 1) (by omega)]
    simp only [bind_s]
    rw [eqBytesResult_self C S sl (K + 1) (by omega)]
    simp only [bind_s, if_true]
    rw [eqConfig_self _ _ _ m1 m2 n4 (K + 1) (by omega)]
    simp only [bind_s, if_true]
    rw [em]
    simp only [bind_s]
    rw [if_neg (by omega), laws_FnExactPackConfig.j0.eq_2]
    rw [if_neg (by decide), markBytesResult_is C S sl K (by omega)]
    simp only [bind_s]
    rw [heldBytesResult_is C _ sl K (by omega)]
    simp only [bind_s, if_true]
    rw [if_neg (by omega), toConfig_is a l1 l2 n1 n2 n3 K (by omega)]
    simp only [bind_s]
    rw [ei K (by omega)]
    simp only [bind_s]
    rw [eqBytesResult_self C S sl K (by omega)]
    simp only [bind_s, if_true]
    rw [if_neg (by omega)]
end Go.Proofs.Ytfmlhpoaipeoeaa.Pure
