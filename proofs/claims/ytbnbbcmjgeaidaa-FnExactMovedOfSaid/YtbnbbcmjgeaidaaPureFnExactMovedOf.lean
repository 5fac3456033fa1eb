/- WHAT THIS TEXT PROVES: the pure statement of the law FnExactMovedOf, over plain functions on numbers and lists. No condition beyond the statement's own. -/
import Derived.Test.YtbnbbcmjgeaidaaPFnExactMovedOfx2
import Derived.Laws.BitsLemmas
import Derived.IntWalk
namespace Go.Proofs.Ytbnbbcmjgeaidaa.Pure
open Go.RowKit Go.Proofs.Ytbnbbcmjgeaidaa.PFnExactMovedOf Go.Proofs.YtbnbbcmjgeaidaaW.PrintWords Go.Proofs.YtbnbbcmjgeaidaaW.PrintLast
set_option linter.unusedVariables false
set_option linter.unusedSimpArgs false
theorem w64 {n : Int} (h0 : -9223372036854775808 ≤ n) (h1 : n ≤ 9223372036854775807) : wrap64 n = n := by unfold wrap64; omega
theorem w64n (i : Nat) (h : i < 9223372036854775807) : wrap64 ((i : Int) + 1) = ((i + 1 : Nat) : Int) := by
  rw [w64 (by omega) (by omega)]; omega
theorem rd_nat (xs : List Int) (i : Nat) : rd xs (i : Int) = xs.getD i 0 := by simp [rd]
theorem at_succ {k d : Nat} (h : d < k) : ∃ m, k = m + 1 := ⟨k - 1, by omega⟩
theorem drop_cons (xs : List Int) (i : Nat) (h : i < xs.length) : xs.drop i = xs.getD i 0 :: xs.drop (i + 1) := by
  rw [List.drop_eq_getElem_cons h]; simp [List.getD, h]
theorem set_take (x0 x3 : List Int) (i : Nat) (hl : x3.length = x0.length) (hi : i < x0.length) (ht : x3.take i = x0.take i) :
    (x3.set i (x0.getD i 0)).take (i + 1) = x0.take (i + 1) := by
  apply List.ext_getElem?
  intro j
  by_cases hj : j < i
  · have h1 := congrArg (fun l : List Int => l[j]?) ht
    simp only [List.getElem?_take, hj, if_true] at h1
    simp only [List.getElem?_take, show j < i + 1 by omega, if_true]
    rw [List.getElem?_set_ne (by omega)]; exact h1
  · by_cases e : j = i
    · subst e
      simp only [List.getElem?_take, show j < j + 1 by omega, if_true]
      rw [List.getElem?_set_self (by omega)]
      simp [List.getD, hi]
    · simp only [List.getElem?_take, show ¬ j < i + 1 by omega, if_false]
theorem toInt64S_l0 (x0 : List Int) (hn : x0.length ≤ 1048576) : ∀ (d k i : Nat) (x3 : List Int), x3.length = x0.length → i + d = x0.length → d < k → x3.take i = x0.take i → laws_toInt64S.l0 k x0 x3 (i : Int) = some x0 := by
  intro d
  induction d with
  | zero =>
    intro k i x3 hl hi hk ht
    obtain ⟨k, rfl⟩ := at_succ hk
    simp only [laws_toInt64S.l0]
    rw [if_neg (by omega)]
    have : x3 = x0 := by
      rw [List.take_of_length_le (by omega), List.take_of_length_le (by omega)] at ht; exact ht
    rw [this]
  | succ d ih =>
    intro k i x3 hl hi hk ht
    obtain ⟨k, rfl⟩ := at_succ hk
    simp only [laws_toInt64S.l0]
    rw [if_pos (by omega), if_pos (by omega), if_pos (by omega), w64n i (by omega), rd_nat, Int.toNat_natCast]
    exact ih k (i + 1) _ (by simp [hl]) (by omega) (by omega) (set_take x0 x3 i hl (by omega) ht)
theorem toInt64S_self (l : List Int) (hn : l.length ≤ 1048576) (k : Nat) (hk : l.length < k) : laws_toInt64S.f k l = some l := by
  unfold laws_toInt64S.f
  rw [if_pos (by omega), if_pos (by omega)]
  exact toInt64S_l0 l hn l.length k 0 _ (by simp) (by omega) hk (by simp)
theorem eqInt64S_l0 (x0 : List Int) (hn : x0.length ≤ 1048576) : ∀ (d k i : Nat), i + d = x0.length → d < k → laws_eqInt64S.l0 k x0 x0 (i : Int) = some true := by
  intro d
  induction d with
  | zero =>
    intro k i hi hk
    obtain ⟨k, rfl⟩ := at_succ hk
    simp only [laws_eqInt64S.l0]
    rw [if_neg (by omega)]
  | succ d ih =>
    intro k i hi hk
    obtain ⟨k, rfl⟩ := at_succ hk
    simp only [laws_eqInt64S.l0]
    rw [if_pos (by omega), if_pos (by omega), if_pos (by omega), w64n i (by omega)]
    simp only [if_true]
    exact ih k (i + 1) (by omega) (by omega)
theorem eqInt64S_self (l : List Int) (hn : l.length ≤ 1048576) (k : Nat) (hk : l.length < k) : laws_eqInt64S.f k l l = some true := by
  unfold laws_eqInt64S.f
  rw [if_pos rfl]
  exact eqInt64S_l0 l hn l.length k 0 (by omega) hk
def moved : List Int → List Int → Int
  | x :: xs, y :: ys => (if x = y then 0 else 1) + moved xs ys
  | _, _ => 0
theorem moved_nil (b : List Int) : moved [] b = 0 := by unfold moved; rfl
theorem moved_bounds : ∀ a b : List Int, 0 ≤ moved a b ∧ moved a b ≤ a.length
  | [], b => by rw [moved_nil]; simp
  | x :: xs, [] => by simp only [moved]; simp; omega
  | x :: xs, y :: ys => by
    have h := moved_bounds xs ys
    simp only [moved, List.length_cons]
    split <;> omega
theorem moved_step (a b : List Int) (i : Nat) (h : i < a.length) (h' : i < b.length) : moved (a.drop i) (b.drop i) = (if a.getD i 0 = b.getD i 0 then 0 else 1) + moved (a.drop (i + 1)) (b.drop (i + 1)) := by
  rw [drop_cons a i h, drop_cons b i h']; rfl
theorem spec_MovedOf_l0 (a b : List Int) (hn : a.length ≤ 1048576) (hb : b.length = a.length) : ∀ (d k i : Nat) (c : Int), i + d = a.length → d < k → 0 ≤ c → c ≤ i →
    spec_MovedOf.l0 k a b c (i : Int) = some (0, c + moved (a.drop i) (b.drop i)) := by
  intro d
  induction d with
  | zero =>
    intro k i c hi hk h0 h1
    obtain ⟨k, rfl⟩ := at_succ hk
    simp only [spec_MovedOf.l0]
    rw [if_neg (by omega), List.drop_of_length_le (by omega), moved_nil]
    simp
  | succ d ih =>
    intro k i c hi hk h0 h1
    obtain ⟨k, rfl⟩ := at_succ hk
    simp only [spec_MovedOf.l0]
    rw [if_pos (by omega), if_pos (by omega), if_pos (by omega), w64n i (by omega), rd_nat, rd_nat, moved_step a b i (by omega) (by omega)]
    by_cases e : a.getD i 0 = b.getD i 0
    · rw [if_pos e, if_pos e, ih k (i + 1) c (by omega) (by omega) (by omega) (by omega), Int.zero_add]
    · rw [if_neg e, if_neg e, w64 (by omega) (by omega), ih k (i + 1) (c + 1) (by omega) (by omega) (by omega) (by omega), Int.add_assoc]
theorem impl_MovedOf_l0 (a b : List Int) (hn : a.length ≤ 1048576) (hb : b.length = a.length) : ∀ (d k i : Nat) (c : Int), i + d = a.length → d < k → 0 ≤ c → c ≤ i →
    impl_MovedOf.l0 k b c a (a.length : Int) (i : Int) = some (0, c + moved (a.drop i) (b.drop i)) := by
  intro d
  induction d with
  | zero =>
    intro k i c hi hk h0 h1
    obtain ⟨k, rfl⟩ := at_succ hk
    simp only [impl_MovedOf.l0]
    rw [if_neg (by omega), List.drop_of_length_le (by omega), moved_nil]
    simp
  | succ d ih =>
    intro k i c hi hk h0 h1
    obtain ⟨k, rfl⟩ := at_succ hk
    simp only [impl_MovedOf.l0]
    rw [if_pos (by omega), if_pos (by omega), if_pos (by omega), if_pos (by omega), w64n i (by omega), rd_nat, rd_nat, moved_step a b i (by omega) (by omega)]
    by_cases e : a.getD i 0 = b.getD i 0
    · rw [if_pos e, if_pos e, ih k (i + 1) c (by omega) (by omega) (by omega) (by omega), Int.zero_add]
    · rw [if_neg e, if_neg e, w64 (by omega) (by omega), ih k (i + 1) (c + 1) (by omega) (by omega) (by omega) (by omega), Int.add_assoc]
def movedR (a b : List Int) : Int × Int := if a.length = 31 ∧ b.length = 31 then (0, moved a b) else (1, 0)
theorem spec_MovedOf_is (a b : List Int) (k : Nat) (hk : 40 ≤ k) : spec_MovedOf.f k a b = some (movedR a b) := by
  unfold spec_MovedOf.f movedR
  obtain ⟨k, rfl⟩ : ∃ m, k = m + 1 := ⟨k - 1, by omega⟩
  by_cases h : (a.length : Int) = 31
  · rw [if_pos h]
    simp only [spec_MovedOf.j0]
    by_cases h2 : b.length = 31
    · rw [if_neg (by simp; omega), if_pos ⟨by omega, h2⟩, show (0 : Int) = ((0 : Nat) : Int) from rfl, spec_MovedOf_l0 a b (by omega) (by omega) 31 k 0 _ (by omega) (by omega) (by omega) (by omega)]
      simp
    · rw [if_pos (by simp; omega), if_neg (by omega)]
  · rw [if_neg h]
    simp only [spec_MovedOf.j0]
    rw [if_pos trivial, if_neg (by omega)]
theorem impl_MovedOf_is (a b : List Int) (k : Nat) (hk : 40 ≤ k) : impl_MovedOf.f k a b = some (movedR a b) := by
  unfold impl_MovedOf.f movedR
  obtain ⟨k, rfl⟩ : ∃ m, k = m + 1 := ⟨k - 1, by omega⟩
  by_cases h : (a.length : Int) = 31
  · rw [if_pos h]
    simp only [impl_MovedOf.j0]
    by_cases h2 : b.length = 31
    · rw [if_neg (by simp; omega), if_pos ⟨by omega, h2⟩, show (0 : Int) = ((0 : Nat) : Int) from rfl, impl_MovedOf_l0 a b (by omega) (by omega) 31 k 0 _ (by omega) (by omega) (by omega) (by omega)]
      simp
    · rw [if_pos (by simp; omega), if_neg (by omega)]
  · rw [if_neg h]
    simp only [impl_MovedOf.j0]
    rw [if_pos trivial, if_neg (by omega)]
theorem FnExactMovedOf : laws_FnExactMovedOf.Pure := by
  intro a b _ _ _ _ _ _
  refine ⟨a.length + b.length + 40, ?_⟩
  unfold laws_FnExactMovedOf.f
  by_cases h : (a.length : Int) > 1048576
  · rw [if_pos h]
  · rw [if_neg h]
    by_cases h2 : (b.length : Int) > 1048576
    · rw [if_pos h2]
    · have hn : a.length ≤ 1048576 := by omega
      have hm : b.length ≤ 1048576 := by omega
      rw [if_neg h2, toInt64S_self a hn _ (by omega), toInt64S_self b hm _ (by omega)]
      simp only [Option.bind_some]
      rw [spec_MovedOf_is a b _ (by omega), impl_MovedOf_is a b _ (by omega)]
      simp only [Option.bind_some, laws_eqIntResult.f, if_true]
      rw [eqInt64S_self a hn _ (by omega), eqInt64S_self b hm _ (by omega)]
      simp only [Option.bind_some, if_true]
end Go.Proofs.Ytbnbbcmjgeaidaa.Pure
