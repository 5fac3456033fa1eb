/- WHAT THIS TEXT PROVES: the pure statement of the law FnExactCountOf, over plain functions on numbers and lists. No condition beyond the statement's own. -/
import Derived.Test.YtbnbbcmjgeaidaaPFnExactCountOfx1
import Derived.Laws.BitsLemmas
import Derived.IntWalk
namespace Go.Proofs.Ytbnbbcmjgeaidaa.Pure
open Go.RowKit Go.Proofs.Ytbnbbcmjgeaidaa.PFnExactCountOf Go.Proofs.YtbnbbcmjgeaidaaW.PrintWords Go.Proofs.YtbnbbcmjgeaidaaW.PrintLast
set_option linter.unusedVariables false
set_option linter.unusedSimpArgs false
theorem w64 {n : Int} (h0 : -9223372036854775808 ≤ n) (h1 : n ≤ 9223372036854775807) : wrap64 n = n := by unfold wrap64; omega
theorem w64n (i : Nat) (h : i < 9223372036854775807) : wrap64 ((i : Int) + 1) = ((i + 1 : Nat) : Int) := by
  rw [w64 (by omega) (by omega)]; omega
theorem rd_nat (xs : List Int) (i : Nat) : rd xs (i : Int) = xs.getD i 0 := by simp [rd]
theorem at_succ {k d : Nat} (h : d < k) : ∃ m, k = m + 1 := ⟨k - 1, by omega⟩
theorem drop_cons (xs : List Int) (i : Nat) (h : i < xs.length) : xs.drop i = xs.getD i 0 :: xs.drop (i + 1) := by
  rw [List.drop_eq_getElem_cons h]; simp [List.getD, h]
theorem set_take (x0 x3 : List Int) (i : Nat) (hl : x3.length = x0.length) (hi : i < x0.length) (ht : x3.take i = x0.take i) :
    (x3.set i (x0.getD i 0)).take (i + 1) = x0.take (i + 1) := by
  apply List.ext_getElem?
  intro j
  by_cases hj : j < i
  · have h1 := congrArg (fun l : List Int => l[j]?) ht
    simp only [List.getElem?_take, hj, if_true] at h1
    simp only [List.getElem?_take, show j < i + 1 by omega, if_true]
    rw [List.getElem?_set_ne (by omega)]; exact h1
  · by_cases e : j = i
    · subst e
      simp only [List.getElem?_take, show j < j + 1 by omega, if_true]
      rw [List.getElem?_set_self (by omega)]
      simp [List.getD, hi]
    · simp only [List.getElem?_take, show ¬ j < i + 1 by omega, if_false]
theorem toInt64S_l0 (x0 : List Int) (hn : x0.length ≤ 1048576) : ∀ (d k i : Nat) (x3 : List Int), x3.length = x0.length → i + d = x0.length → d < k → x3.take i = x0.take i → laws_toInt64S.l0 k x0 x3 (i : Int) = some x0 := by
  intro d
  induction d with
  | zero =>
    intro k i x3 hl hi hk ht
    obtain ⟨k, rfl⟩ := at_succ hk
    simp only [laws_toInt64S.l0]
    rw [if_neg (by omega)]
    have : x3 = x0 := by
      rw [List.take_of_length_le (by omega), List.take_of_length_le (by omega)] at ht; exact ht
    rw [this]
  | succ d ih =>
    intro k i x3 hl hi hk ht
    obtain ⟨k, rfl⟩ := at_succ hk
    simp only [laws_toInt64S.l0]
    rw [if_pos (by omega), if_pos (by omega), if_pos (by omega), w64n i (by omega), rd_nat, Int.toNat_natCast]
    exact ih k (i + 1) _ (by simp [hl]) (by omega) (by omega) (set_take x0 x3 i hl (by omega) ht)
theorem toInt64S_self (l : List Int) (hn : l.length ≤ 1048576) (k : Nat) (hk : l.length < k) : laws_toInt64S.f k l = some l := by
  unfold laws_toInt64S.f
  rw [if_pos (by omega), if_pos (by omega)]
  exact toInt64S_l0 l hn l.length k 0 _ (by simp) (by omega) hk (by simp)
theorem eqInt64S_l0 (x0 : List Int) (hn : x0.length ≤ 1048576) : ∀ (d k i : Nat), i + d = x0.length → d < k → laws_eqInt64S.l0 k x0 x0 (i : Int) = some true := by
  intro d
  induction d with
  | zero =>
    intro k i hi hk
    obtain ⟨k, rfl⟩ := at_succ hk
    simp only [laws_eqInt64S.l0]
    rw [if_neg (by omega)]
  | succ d ih =>
    intro k i hi hk
    obtain ⟨k, rfl⟩ := at_succ hk
    simp only [laws_eqInt64S.l0]
    rw [if_pos (by omega), if_pos (by omega), if_pos (by omega), w64n i (by omega)]
    simp only [if_true]
    exact ih k (i + 1) (by omega) (by omega)
theorem eqInt64S_self (l : List Int) (hn : l.length ≤ 1048576) (k : Nat) (hk : l.length < k) : laws_eqInt64S.f k l l = some true := by
  unfold laws_eqInt64S.f
  rw [if_pos rfl]
  exact eqInt64S_l0 l hn l.length k 0 (by omega) hk
theorem count_step (l : List Int) (i : Nat) (a : Int) (h : i < l.length) : ((l.drop i).count a : Int) = (if l.getD i 0 = a then 1 else 0) + ((l.drop (i + 1)).count a : Int) := by
  rw [drop_cons l i h, List.count_cons]
  simp only [beq_iff_eq]
  split <;> omega
theorem spec_CountOf_l0 (x0 : List Int) (a : Int) (hn : x0.length ≤ 1048576) : ∀ (d k i : Nat) (c : Int), i + d = x0.length → d < k → 0 ≤ c → c ≤ i →
    spec_CountOf.l0 k x0 a c (i : Int) = some (c + ((x0.drop i).count a : Int)) := by
  intro d
  induction d with
  | zero =>
    intro k i c hi hk h0 h1
    obtain ⟨k, rfl⟩ := at_succ hk
    simp only [spec_CountOf.l0]
    rw [if_neg (by omega), List.drop_of_length_le (by omega)]
    simp
  | succ d ih =>
    intro k i c hi hk h0 h1
    obtain ⟨k, rfl⟩ := at_succ hk
    simp only [spec_CountOf.l0]
    rw [if_pos (by omega), if_pos (by omega), w64n i (by omega), rd_nat, count_step x0 i a (by omega)]
    by_cases e : x0.getD i 0 = a
    · rw [if_pos e, if_pos e, w64 (by omega) (by omega), ih k (i + 1) (c + 1) (by omega) (by omega) (by omega) (by omega)]
      congr 1; omega
    · rw [if_neg e, if_neg e, ih k (i + 1) c (by omega) (by omega) (by omega) (by omega)]
      congr 1; omega
theorem impl_CountOf_l0 (x0 : List Int) (a : Int) (hn : x0.length ≤ 1048576) : ∀ (d k i : Nat) (c : Int), i + d = x0.length → d < k → 0 ≤ c → c ≤ i →
    impl_CountOf.l0 k a c x0 (x0.length : Int) (i : Int) = some (c + ((x0.drop i).count a : Int)) := by
  intro d
  induction d with
  | zero =>
    intro k i c hi hk h0 h1
    obtain ⟨k, rfl⟩ := at_succ hk
    simp only [impl_CountOf.l0]
    rw [if_neg (by omega), List.drop_of_length_le (by omega)]
    simp
  | succ d ih =>
    intro k i c hi hk h0 h1
    obtain ⟨k, rfl⟩ := at_succ hk
    simp only [impl_CountOf.l0]
    rw [if_pos (by omega), if_pos (by omega), if_pos (by omega), w64n i (by omega), rd_nat, count_step x0 i a (by omega)]
    by_cases e : x0.getD i 0 = a
    · rw [if_pos e, if_pos e, w64 (by omega) (by omega), ih k (i + 1) (c + 1) (by omega) (by omega) (by omega) (by omega)]
      congr 1; omega
    · rw [if_neg e, if_neg e, ih k (i + 1) c (by omega) (by omega) (by omega) (by omega)]
      congr 1; omega
theorem spec_CountOf_is (l : List Int) (a : Int) (hn : l.length ≤ 1048576) (k : Nat) (hk : l.length < k) : spec_CountOf.f k l a = some (l.count a : Int) := by
  unfold spec_CountOf.f
  rw [show (0 : Int) = ((0 : Nat) : Int) from rfl, spec_CountOf_l0 l a hn l.length k 0 _ (by omega) hk (by omega) (by omega)]
  simp
theorem impl_CountOf_is (l : List Int) (a : Int) (hn : l.length ≤ 1048576) (k : Nat) (hk : l.length < k) : impl_CountOf.f k l a = some (l.count a : Int) := by
  unfold impl_CountOf.f
  rw [show (0 : Int) = ((0 : Nat) : Int) from rfl, impl_CountOf_l0 l a hn l.length k 0 _ (by omega) hk (by omega) (by omega)]
  simp
theorem FnExactCountOf : laws_FnExactCountOf.Pure := by
  intro l a _ _ _ _
  refine ⟨l.length + 1, ?_⟩
  unfold laws_FnExactCountOf.f
  by_cases h : (l.length : Int) > 1048576
  · rw [if_pos h]
  · have hn : l.length ≤ 1048576 := by omega
    rw [if_neg h, toInt64S_self l hn _ (by omega)]
    simp only [Option.bind_some]
    rw [spec_CountOf_is l a hn _ (by omega), impl_CountOf_is l a hn _ (by omega)]
    simp only [Option.bind_some, if_true]
    rw [eqInt64S_self l hn _ (by omega)]
    simp only [Option.bind_some, if_true]
end Go.Proofs.Ytbnbbcmjgeaidaa.Pure
