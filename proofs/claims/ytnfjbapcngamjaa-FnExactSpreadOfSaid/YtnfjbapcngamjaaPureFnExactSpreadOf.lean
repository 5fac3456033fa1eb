/- WHAT THIS TEXT PROVES: the pure statement of the law FnExactSpreadOf, over plain functions on numbers and lists. No condition beyond the statement's own. -/
import Derived.Test.YtnfjbapcngamjaaSFnExactSpreadOf
import Derived.Laws.BitsLemmas
import Derived.IntWalk
namespace Go.Proofs.Ytnfjbapcngamjaa.Pure
open Go.RowKit Go.Proofs.Ytnfjbapcngamjaa.QFnExactSpreadOf Go.Proofs.YtnfjbapcngamjaaW.PrintWords Go.Proofs.YtnfjbapcngamjaaW.PrintLast Go.Proofs.YtnfjbapcngamjaaW.PrintMore Go.Proofs.Ytnfjbapcngamjaa.SFnExactSpreadOf
set_option linter.unusedVariables false
set_option linter.unusedSimpArgs false
theorem w64 {n : Int} (h0 : -9223372036854775808 ≤ n) (h1 : n ≤ 9223372036854775807) : wrap64 n = n := by unfold wrap64; omega
theorem w64n (i : Nat) (h : i < 9223372036854775807) : wrap64 ((i : Int) + 1) = ((i + 1 : Nat) : Int) := by
  rw [w64 (by omega) (by omega)]; omega
theorem rd_nat (xs : List Int) (i : Nat) : rd xs (i : Int) = xs.getD i 0 := by simp [rd]
theorem at_succ {k d : Nat} (h : d < k) : ∃ m, k = m + 1 := ⟨k - 1, by omega⟩
theorem drop_cons (xs : List Int) (i : Nat) (h : i < xs.length) : xs.drop i = xs.getD i 0 :: xs.drop (i + 1) := by
  rw [List.drop_eq_getElem_cons h]; simp [List.getD, h]
theorem set_take (x0 x3 : List Int) (i : Nat) (hl : x3.length = x0.length) (hi : i < x0.length) (ht : x3.take i = x0.take i) :
    (x3.set i (x0.getD i 0)).take (i + 1) = x0.take (i + 1) := by
  apply List.ext_getElem?
  intro j
  by_cases hj : j < i
  · have h1 := congrArg (fun l : List Int => l[j]?) ht
    simp only [List.getElem?_take, hj, if_true] at h1
    simp only [List.getElem?_take, show j < i + 1 by omega, if_true]
    rw [List.getElem?_set_ne (by omega)]; exact h1
  · by_cases e : j = i
    · subst e
      simp only [List.getElem?_take, show j < j + 1 by omega, if_true]
      rw [List.getElem?_set_self (by omega)]
      simp [List.getD, hi]
    · simp only [List.getElem?_take, show ¬ j < i + 1 by omega, if_false]
theorem bind_s {α β : Type} (a : α) (f : α → Option β) : (some a).bind f = f a := Eq.trans (Option.bind_some a f) (Eq.refl _)
theorem toInt64S_l0 (x0 : List Int) (hn : x0.length ≤ 1048576) : ∀ (d k i : Nat) (x3 : List Int), x3.length = x0.length → i + d = x0.length → d < k → x3.take i = x0.take i → laws_toInt64S.l0 k x0 x3 (i : Int) = some x0 := by
  intro d
  induction d with
  | zero =>
    intro k i x3 hl hi hk ht
    obtain ⟨k, rfl⟩ := at_succ hk
    simp only [laws_toInt64S.l0]
    rw [if_neg (by omega)]
    have : x3 = x0 := by
      rw [List.take_of_length_le (by omega), List.take_of_length_le (by omega)] at ht; exact ht
    rw [this]
  | succ d ih =>
    intro k i x3 hl hi hk ht
    obtain ⟨k, rfl⟩ := at_succ hk
    simp only [laws_toInt64S.l0]
    rw [if_pos (by omega), if_pos (by omega), if_pos (by omega), w64n i (by omega), rd_nat, Int.toNat_natCast]
    exact ih k (i + 1) _ (by simp [hl]) (by omega) (by omega) (set_take x0 x3 i hl (by omega) ht)
theorem toInt64S_self (l : List Int) (hn : l.length ≤ 1048576) (k : Nat) (hk : l.length < k) : laws_toInt64S.f k l = some l := by
  unfold laws_toInt64S.f
  rw [if_pos (by omega), if_pos (by omega)]
  exact toInt64S_l0 l hn l.length k 0 _ (by simp) (by omega) hk (by simp)
theorem eqInt64S_l0 (x0 : List Int) (hn : x0.length ≤ 1048576) : ∀ (d k i : Nat), i + d = x0.length → d < k → laws_eqInt64S.l0 k x0 x0 (i : Int) = some true := by
  intro d
  induction d with
  | zero =>
    intro k i hi hk
    obtain ⟨k, rfl⟩ := at_succ hk
    simp only [laws_eqInt64S.l0]
    rw [if_neg (by omega)]
  | succ d ih =>
    intro k i hi hk
    obtain ⟨k, rfl⟩ := at_succ hk
    simp only [laws_eqInt64S.l0]
    rw [if_pos (by omega), if_pos (by omega), if_pos (by omega), w64n i (by omega)]
    simp only [if_true]
    exact ih k (i + 1) (by omega) (by omega)
theorem eqInt64S_self (l : List Int) (hn : l.length ≤ 1048576) (k : Nat) (hk : l.length < k) : laws_eqInt64S.f k l l = some true := by
  unfold laws_eqInt64S.f
  rw [if_pos rfl]
  exact eqInt64S_l0 l hn l.length k 0 (by omega) hk
theorem count_step (l : List Int) (i : Nat) (a : Int) (h : i < l.length) : ((l.drop i).count a : Int) = (if l.getD i 0 = a then 1 else 0) + ((l.drop (i + 1)).count a : Int) := by
  rw [drop_cons l i h, List.count_cons]
  simp only [beq_iff_eq]
  split <;> omega
theorem spec_CountOf_l0 (x0 : List Int) (a : Int) (hn : x0.length ≤ 1048576) : ∀ (d k i : Nat) (c : Int), i + d = x0.length → d < k → 0 ≤ c → c ≤ i →
    spec_CountOf.l0 k x0 a c (i : Int) = some (c + ((x0.drop i).count a : Int)) := by
  intro d
  induction d with
  | zero =>
    intro k i c hi hk h0 h1
    obtain ⟨k, rfl⟩ := at_succ hk
    simp only [spec_CountOf.l0]
    rw [if_neg (by omega), List.drop_of_length_le (by omega)]
    simp
  | succ d ih =>
    intro k i c hi hk h0 h1
    obtain ⟨k, rfl⟩ := at_succ hk
    simp only [spec_CountOf.l0]
    rw [if_pos (by omega), if_pos (by omega), w64n i (by omega), rd_nat, count_step x0 i a (by omega)]
    by_cases e : x0.getD i 0 = a
    · rw [if_pos e, if_pos e, w64 (by omega) (by omega), ih k (i + 1) (c + 1) (by omega) (by omega) (by omega) (by omega)]
      congr 1; omega
    · rw [if_neg e, if_neg e, ih k (i + 1) c (by omega) (by omega) (by omega) (by omega)]
      congr 1; omega
theorem impl_CountOf_l0 (x0 : List Int) (a : Int) (hn : x0.length ≤ 1048576) : ∀ (d k i : Nat) (c : Int), i + d = x0.length → d < k → 0 ≤ c → c ≤ i →
    impl_CountOf.l0 k a c x0 (x0.length : Int) (i : Int) = some (c + ((x0.drop i).count a : Int)) := by
  intro d
  induction d with
  | zero =>
    intro k i c hi hk h0 h1
    obtain ⟨k, rfl⟩ := at_succ hk
    simp only [impl_CountOf.l0]
    rw [if_neg (by omega), List.drop_of_length_le (by omega)]
    simp
  | succ d ih =>
    intro k i c hi hk h0 h1
    obtain ⟨k, rfl⟩ := at_succ hk
    simp only [impl_CountOf.l0]
    rw [if_pos (by omega), if_pos (by omega), if_pos (by omega), w64n i (by omega), rd_nat, count_step x0 i a (by omega)]
    by_cases e : x0.getD i 0 = a
    · rw [if_pos e, if_pos e, w64 (by omega) (by omega), ih k (i + 1) (c + 1) (by omega) (by omega) (by omega) (by omega)]
      congr 1; omega
    · rw [if_neg e, if_neg e, ih k (i + 1) c (by omega) (by omega) (by omega) (by omega)]
      congr 1; omega
theorem spec_CountOf_is (l : List Int) (a : Int) (hn : l.length ≤ 1048576) (k : Nat) (hk : l.length < k) : spec_CountOf.f k l a = some (l.count a : Int) := by
  unfold spec_CountOf.f
  rw [show (0 : Int) = ((0 : Nat) : Int) from rfl, spec_CountOf_l0 l a hn l.length k 0 _ (by omega) hk (by omega) (by omega)]
  simp
theorem impl_CountOf_is (l : List Int) (a : Int) (hn : l.length ≤ 1048576) (k : Nat) (hk : l.length < k) : impl_CountOf.f k l a = some (l.count a : Int) := by
  unfold impl_CountOf.f
  rw [show (0 : Int) = ((0 : Nat) : Int) from rfl, impl_CountOf_l0 l a hn l.length k 0 _ (by omega) hk (by omega) (by omega)]
  simp
theorem drop_consG {α : Type} (xs : List α) (d : α) (i : Nat) (h : i < xs.length) : xs.drop i = xs.getD i d :: xs.drop (i + 1) := by
  rw [List.drop_eq_getElem_cons h]; simp [List.getD, h]
theorem set_snocG {α : Type} (x : List α) (i : Nat) (v : α) (h : i < x.length) : (x.set i v).take (i + 1) = x.take i ++ [v] := by
  apply List.ext_getElem?
  intro j
  by_cases hj : j < i
  · rw [List.getElem?_append_left (by rw [List.length_take]; omega)]
    simp only [List.getElem?_take, hj, show j < i + 1 by omega, if_true]
    rw [List.getElem?_set_ne (by omega)]
  · by_cases e : j = i
    · subst e
      rw [List.getElem?_append_right (by rw [List.length_take]; omega)]
      simp only [List.getElem?_take, show j < j + 1 by omega, if_true, List.length_take]
      rw [List.getElem?_set_self h, show j - min j x.length = 0 by omega]; rfl
    · simp only [List.getElem?_take, show ¬ j < i + 1 by omega, if_false]
      rw [List.getElem?_eq_none (by rw [List.length_append, List.length_take, List.length_singleton]; omega)]
theorem take_snocG {α : Type} (x : List α) (d : α) (i : Nat) (h : i < x.length) : x.take (i + 1) = x.take i ++ [x.getD i d] := by
  rw [List.take_succ_eq_append_getElem h]; simp [List.getD, h]
def inB (a lo hi : Int) : Bool := decide (a ≥ lo) && decide (a ≤ hi)
def protoB (a : Int) : Bool := decide (a = 6) || decide (a = 17)
theorem impl_in_is (a lo hi : Int) : impl_in.f a lo hi = some (inB a lo hi) := by
  unfold impl_in.f inB
  by_cases h : a ≥ lo <;> simp [h]
theorem spec_l1In_is (a lo hi : Int) : spec_l1In.f a lo hi = some (inB a lo hi) := by
  unfold spec_l1In.f inB
  by_cases h : a ≥ lo <;> simp [h]
theorem rdI_nat (xs : List S53) (i : Nat) : rd_T53 xs (i : Int) = xs.getD i z53 := by simp [rd_T53]
theorem rdL_nat (xs : List S64) (i : Nat) : rd_T64 xs (i : Int) = xs.getD i z64 := by simp [rd_T64]
def cvShare (x : S64) : S53 := ⟨x.f0, x.f1⟩
theorem szShareS_is (l : List S64) (left : Int) (h0 : 0 ≤ left) (h1 : left ≤ 1048576) (hm : l.length ≤ maxLen) : laws_szShareS.f l left = some (if left - (l.length : Int) < 0 then -1 else left - (l.length : Int)) := by
  unfold laws_szShareS.f
  simp only [maxLen] at hm
  rw [w64 (by omega) (by omega)]
  by_cases h : left - (l.length : Int) < 0
  · rw [if_pos h, if_pos h]
  · rw [if_neg h, if_neg h]
theorem toShareS_l0 (x0 : List S64) (hn : x0.length ≤ 1048576) : ∀ (d k i : Nat) (x3 : List S53), x3.length = x0.length → i + d = x0.length → d < k → x3.take i = (x0.take i).map cvShare → laws_toShareS.l0 k x0 x3 (i : Int) = some (x0.map cvShare) := by
  intro d
  induction d with
  | zero =>
    intro k i x3 hl hi hk ht
    obtain ⟨k, rfl⟩ := at_succ hk
    simp only [laws_toShareS.l0]
    rw [if_neg (by omega)]
    rw [List.take_of_length_le (by omega), List.take_of_length_le (by omega)] at ht
    rw [ht]
  | succ d ih =>
    intro k i x3 hl hi hk ht
    obtain ⟨k, rfl⟩ := at_succ hk
    simp only [laws_toShareS.l0, laws_toShare.f, bind_s]
    rw [if_pos (by omega), if_pos (by omega), if_pos (by omega), w64n i (by omega), rdL_nat, Int.toNat_natCast]
    refine ih k (i + 1) _ (by simp [hl]) (by omega) (by omega) ?_
    rw [set_snocG x3 i _ (by omega), take_snocG x0 z64 i (by omega), List.map_append, ht]; rfl
theorem toShareS_is (l : List S64) (hn : l.length ≤ 1048576) (k : Nat) (hk : l.length < k) : laws_toShareS.f k l = some (l.map cvShare) := by
  unfold laws_toShareS.f
  rw [if_pos (by omega), if_pos (by omega)]
  exact toShareS_l0 l hn l.length k 0 _ (by simp) (by omega) hk (by simp)
theorem eqShareS_l0 (x0 : List S53) (hn : x0.length ≤ 1048576) : ∀ (d k i : Nat), i + d = x0.length → d < k → laws_eqShareS.l0 k x0 x0 (i : Int) = some true := by
  intro d
  induction d with
  | zero =>
    intro k i hi hk
    obtain ⟨k, rfl⟩ := at_succ hk
    simp only [laws_eqShareS.l0]
    rw [if_neg (by omega)]
  | succ d ih =>
    intro k i hi hk
    obtain ⟨k, rfl⟩ := at_succ hk
    simp only [laws_eqShareS.l0, laws_eqShare.f]
    rw [if_pos (by omega), if_pos (by omega), if_pos (by omega), if_pos trivial, if_pos trivial, bind_s, if_pos rfl, w64n i (by omega)]
    exact ih k (i + 1) (by omega) (by omega)
theorem eqShareS_self (l : List S53) (hn : l.length ≤ 1048576) (k : Nat) (hk : l.length < k) : laws_eqShareS.f k l l = some true := by
  unfold laws_eqShareS.f
  rw [if_pos rfl]
  exact eqShareS_l0 l hn l.length k 0 (by omega) hk
def goodShare (s : S53) : Bool := inB s.f0 1 999 && inB s.f1 0 9
def sfrom (prev : Int) : List S53 → Int
  | [] => 0
  | s :: t => if goodShare s = true then (if s.f0 ≤ prev then 1 else sfrom s.f0 t) else 3
def sfault (l : List S53) : Int := if (l.length : Int) > 8 then 2 else sfrom 0 l
theorem goodShare_name {s : S53} (h : goodShare s = true) : 1 ≤ s.f0 ∧ s.f0 ≤ 999 ∧ 0 ≤ s.f1 ∧ s.f1 ≤ 9 := by
  simp only [goodShare, inB, Bool.and_eq_true, decide_eq_true_eq] at h; omega
def prevOf (l : List S53) (i : Nat) : Int := if i = 0 then 0 else (l.getD (i - 1) z53).f0
theorem prevOf_succ (l : List S53) (i : Nat) : prevOf l (i + 1) = (l.getD i z53).f0 := by simp [prevOf]
theorem impl_isName_is (a : Int) : impl_isName.f a = some (inB a 1 999) := by unfold impl_isName.f; rw [impl_in_is, bind_s]
theorem impl_SharesFault_l0 (x0 : List S53) (hn : x0.length ≤ 8) : ∀ (d k i : Nat), i + d = x0.length → 2 * d + 2 ≤ k →
    impl_SharesFault.l0 k x0 x0 (x0.length : Int) (i : Int) = some (sfrom (prevOf x0 i) (x0.drop i)) := by
  intro d
  induction d with
  | zero =>
    intro k i hi hk
    obtain ⟨k, rfl⟩ : ∃ m, k = m + 1 := ⟨k - 1, by omega⟩
    simp only [impl_SharesFault.l0]
    rw [if_neg (by omega), List.drop_of_length_le (by omega)]; rfl
  | succ d ih =>
    intro k i hi hk
    obtain ⟨k, rfl⟩ : ∃ m, k = m + 1 + 1 := ⟨k - 2, by omega⟩
    have hnext := ih k (i + 1) (by omega) (by omega)
    simp only [impl_SharesFault.l0]
    rw [if_pos (by omega), if_pos (by omega), if_pos (by omega), rdI_nat, impl_isName_is, bind_s, impl_in_is, bind_s, drop_consG x0 z53 i (by omega)]
    simp only [impl_SharesFault.j1, sfrom, goodShare]
    rw [prevOf_succ, ← w64n i (by omega)] at hnext
    rcases Bool.eq_false_or_eq_true (inB (x0.getD i z53).f0 1 999) with h1 | h1
    case inr => simp only [h1, Bool.false_eq_true, if_false, Bool.false_and, if_true]
    case inl =>
      rcases Bool.eq_false_or_eq_true (inB (x0.getD i z53).f1 0 9) with h2 | h2
      case inr => simp only [h1, h2, Bool.false_eq_true, if_false, Bool.and_false, Bool.not_false, if_true]
      case inl =>
        simp only [h1, h2, if_true, Bool.not_true, Bool.false_eq_true, if_false, Bool.and_self]
        have hg := goodShare_name (s := x0.getD i z53) (by unfold goodShare; rw [h1, h2]; rfl)
        by_cases h0 : i = 0
        · subst h0
          rw [if_neg (by omega), if_neg (by show ¬ _ ≤ (0 : Int); omega)]
          exact hnext
        · have hw : wrap64 ((i : Int) - 1) = ((i - 1 : Nat) : Int) := by rw [w64 (by omega) (by omega)]; omega
          have hp : prevOf x0 i = (x0.getD (i - 1) z53).f0 := by simp [prevOf, h0]
          rw [if_pos (by omega), hw, if_pos (by omega), if_pos (by omega), rdI_nat, hp]
          by_cases h3 : (x0.getD i z53).f0 ≤ (x0.getD (i - 1) z53).f0
          · rw [if_pos h3, if_pos h3]
          · rw [if_neg h3, if_neg h3]; exact hnext
theorem impl_SharesFault_is (l : List S53) (k : Nat) (hk : 20 ≤ k) : impl_SharesFault.f k l = some (sfault l) := by
  unfold impl_SharesFault.f sfault
  by_cases h : (l.length : Int) > 8
  · rw [if_pos h, if_pos h]
  · rw [if_neg h, if_neg h]
    exact impl_SharesFault_l0 l (by omega) l.length k 0 (by omega) (by omega)
theorem spec_l3Name_is (a : Int) : spec_l3Name.f a = some (inB a 1 999) := by unfold spec_l3Name.f; rw [spec_l1In_is, bind_s]
theorem spec_SharesFault_l0 (x0 : List S53) (hn : x0.length ≤ 8) : ∀ (d k i : Nat), i + d = x0.length → 2 * d + 2 ≤ k →
    spec_SharesFault.l0 k x0 (i : Int) = some (sfrom (prevOf x0 i) (x0.drop i)) := by
  intro d
  induction d with
  | zero =>
    intro k i hi hk
    obtain ⟨k, rfl⟩ : ∃ m, k = m + 1 := ⟨k - 1, by omega⟩
    simp only [spec_SharesFault.l0]
    rw [if_neg (by omega), List.drop_of_length_le (by omega)]; rfl
  | succ d ih =>
    intro k i hi hk
    obtain ⟨k, rfl⟩ : ∃ m, k = m + 1 + 1 := ⟨k - 2, by omega⟩
    have hnext := ih k (i + 1) (by omega) (by omega)
    simp only [spec_SharesFault.l0]
    rw [if_pos (by omega), if_pos (by omega), rdI_nat, spec_l3Name_is, bind_s, spec_l1In_is, bind_s, drop_consG x0 z53 i (by omega)]
    simp only [spec_SharesFault.j1, sfrom, goodShare]
    rw [prevOf_succ, ← w64n i (by omega)] at hnext
    rcases Bool.eq_false_or_eq_true (inB (x0.getD i z53).f0 1 999) with h1 | h1
    case inr => simp only [h1, Bool.false_eq_true, if_false, Bool.false_and, if_true]
    case inl =>
      rcases Bool.eq_false_or_eq_true (inB (x0.getD i z53).f1 0 9) with h2 | h2
      case inr => simp only [h1, h2, Bool.false_eq_true, if_false, Bool.and_false, Bool.not_false, if_true]
      case inl =>
        simp only [h1, h2, if_true, Bool.not_true, Bool.false_eq_true, if_false, Bool.and_self]
        have hg := goodShare_name (s := x0.getD i z53) (by unfold goodShare; rw [h1, h2]; rfl)
        by_cases h0 : i = 0
        · subst h0
          rw [if_neg (by omega), if_neg (by show ¬ _ ≤ (0 : Int); omega)]
          exact hnext
        · have hw : wrap64 ((i : Int) - 1) = ((i - 1 : Nat) : Int) := by rw [w64 (by omega) (by omega)]; omega
          have hp : prevOf x0 i = (x0.getD (i - 1) z53).f0 := by simp [prevOf, h0]
          rw [if_pos (by omega), if_pos (by omega), if_pos (by omega), hw, if_pos (by omega), if_pos (by omega), rdI_nat, rdI_nat, hp]
          by_cases h3 : (x0.getD i z53).f0 ≤ (x0.getD (i - 1) z53).f0
          · rw [if_pos h3, if_pos h3]
          · rw [if_neg h3, if_neg h3]; exact hnext
theorem spec_SharesFault_is (l : List S53) (k : Nat) (hk : 20 ≤ k) : spec_SharesFault.f k l = some (sfault l) := by
  unfold spec_SharesFault.f sfault
  by_cases h : (l.length : Int) > 8
  · rw [if_pos h, if_pos h]
  · rw [if_neg h, if_neg h]
    exact spec_SharesFault_l0 l (by omega) l.length k 0 (by omega) (by omega)
def spr (t : List Int) : List S53 → Bool → Int → Int → Int × Int
  | [], _, a, b => (a, b)
  | s :: l, fd, a, b => if s.f1 = 0 then spr t l fd a b else (if fd = true then spr t l true (mn a (t.count s.f0 : Nat)) (mx b (t.count s.f0 : Nat)) else spr t l true (t.count s.f0 : Nat) (t.count s.f0 : Nat))
def sprR (t : List Int) (l : List S53) : Int × Int × Int × Int := if t.length = 31 then (if sfault l = 0 then (0, (spr t l false 0 0).1, (spr t l false 0 0).2, ((t.count 0 : Nat) : Int)) else (sfault l, 0, 0, 0)) else (1, 0, 0, 0)
theorem mn_self (a : Int) : mn a a = a := by unfold mn; simp
theorem mx_self (a : Int) : mx a a = a := by unfold mx; simp
theorem spec_l1Min_is (a b : Int) : spec_l1Min.f a b = some (mn a b) := by
  unfold spec_l1Min.f mn
  by_cases h : a < b
  · rw [if_pos h, if_neg (by omega)]
  · rw [if_neg h]
    by_cases h2 : b < a
    · rw [if_pos h2]
    · rw [if_neg h2]; congr 1; omega
theorem spec_l1Max_is (a b : Int) : spec_l1Max.f a b = some (mx a b) := by
  unfold spec_l1Max.f mx
  by_cases h : a > b
  · rw [if_pos h, if_neg (by omega)]
  · rw [if_neg h]
    by_cases h2 : a < b
    · rw [if_pos h2]
    · rw [if_neg h2]; congr 1; omega
theorem spec_SpreadOf_l0 (t : List Int) (ht : t.length = 31) (l : List S53) (h8 : l.length ≤ 8) (e : Int) : ∀ (d k i : Nat) (fd : Bool) (a b : Int), i + d = l.length → d + 40 ≤ k →
    spec_SpreadOf.l0 k t l (!fd) (i : Int) 0 a b e = some (0, (spr t (l.drop i) fd a b).1, (spr t (l.drop i) fd a b).2, e) := by
  intro d
  induction d with
  | zero =>
    intro k i fd a b hi hk
    obtain ⟨k, rfl⟩ : ∃ m, k = m + 1 := ⟨k - 1, by omega⟩
    simp only [spec_SpreadOf.l0]
    rw [if_neg (by omega), List.drop_of_length_le (by omega)]; rfl
  | succ d ih =>
    intro k i fd a b hi hk
    obtain ⟨k, rfl⟩ : ∃ m, k = m + 1 := ⟨k - 1, by omega⟩
    simp only [spec_SpreadOf.l0]
    rw [if_pos (by omega), if_pos (by omega), rdI_nat, w64n i (by omega), drop_consG l z53 i (by omega)]
    simp only [spr]
    by_cases hw : (l.getD i z53).f1 = 0
    · rw [if_pos hw, if_pos hw]
      exact ih k (i + 1) fd a b (by omega) (by omega)
    · rw [if_neg hw, if_neg hw, spec_CountOf_is t _ (by omega) k (by omega), bind_s]
      cases fd with
      | false =>
        rw [if_pos (by rfl), if_neg (by decide), spec_l1Min_is, bind_s, spec_l1Max_is, bind_s, mn_self, mx_self]
        exact ih k (i + 1) true _ _ (by omega) (by omega)
      | true =>
        rw [if_neg (by decide), if_pos rfl, spec_l1Min_is, bind_s, spec_l1Max_is, bind_s]
        exact ih k (i + 1) true _ _ (by omega) (by omega)
theorem sfault_length {l : List S53} (h : sfault l = 0) : l.length ≤ 8 := by
  unfold sfault at h
  split at h
  · cases h
  · omega
theorem spec_SpreadOf_is (t : List Int) (l : List S53) (k : Nat) (hk : 100 ≤ k) : spec_SpreadOf.f k t l = some (sprR t l) := by
  unfold spec_SpreadOf.f sprR
  by_cases ht : t.length = 31
  · rw [if_pos (by omega), if_pos ht, spec_SharesFault_is l k (by omega), bind_s]
    by_cases h : sfault l = 0
    · rw [if_pos h, if_pos h, spec_CountOf_is t 0 (by omega) k (by omega), bind_s]
      exact spec_SpreadOf_l0 t ht l (sfault_length h) _ l.length k 0 false 0 0 (by omega) (by have := sfault_length h; omega)
    · rw [if_neg h, if_neg h]
  · rw [if_neg (by omega), if_neg ht]
theorem impl_SpreadOf_l0 (t : List Int) (ht : t.length = 31) (l : List S53) (h8 : l.length ≤ 8) (e : Int) : ∀ (d k i : Nat) (fd : Bool) (a b : Int), i + d = l.length → d + 40 ≤ k →
    impl_SpreadOf.l0 k t fd l (l.length : Int) (i : Int) 0 a b e = some (0, (spr t (l.drop i) fd a b).1, (spr t (l.drop i) fd a b).2, e) := by
  intro d
  induction d with
  | zero =>
    intro k i fd a b hi hk
    obtain ⟨k, rfl⟩ : ∃ m, k = m + 1 := ⟨k - 1, by omega⟩
    simp only [impl_SpreadOf.l0]
    rw [if_neg (by omega), List.drop_of_length_le (by omega)]; rfl
  | succ d ih =>
    intro k i fd a b hi hk
    obtain ⟨k, rfl⟩ : ∃ m, k = m + 1 := ⟨k - 1, by omega⟩
    simp only [impl_SpreadOf.l0]
    rw [if_pos (by omega), if_pos (by omega), if_pos (by omega), rdI_nat, w64n i (by omega), drop_consG l z53 i (by omega)]
    simp only [spr]
    by_cases hw : (l.getD i z53).f1 = 0
    · rw [if_pos hw, if_pos hw]
      exact ih k (i + 1) fd a b (by omega) (by omega)
    · rw [if_neg hw, if_neg hw, impl_CountOf_is t _ (by omega) k (by omega), bind_s]
      cases fd with
      | false =>
        rw [if_neg (by decide), if_neg (by decide), mn_self, mx_self]
        exact ih k (i + 1) true _ _ (by omega) (by omega)
      | true =>
        rw [if_pos rfl, if_pos rfl]
        exact ih k (i + 1) true _ _ (by omega) (by omega)
theorem impl_SpreadOf_is (t : List Int) (l : List S53) (k : Nat) (hk : 100 ≤ k) : impl_SpreadOf.f k t l = some (sprR t l) := by
  unfold impl_SpreadOf.f sprR
  by_cases ht : t.length = 31
  · rw [if_pos (by omega), if_pos ht, impl_SharesFault_is l k (by omega), bind_s]
    by_cases h : sfault l = 0
    · rw [if_pos h, if_pos h, impl_CountOf_is t 0 (by omega) k (by omega), bind_s]
      have h8 : l.length ≤ 8 := by
        unfold sfault at h
        split at h
        · cases h
        · omega
      exact impl_SpreadOf_l0 t ht l h8 _ l.length k 0 false 0 0 (by omega) (by omega)
    · rw [if_neg h, if_neg h]
  · rw [if_neg (by omega), if_neg ht]
theorem FnExactSpreadOf : SFnExactSpreadOf.Pure := by
  intro t l _ _ hm _
  obtain ⟨K, hK⟩ : ∃ K : Nat, t.length + l.length + 2000000 ≤ K := ⟨_, Nat.le_refl _⟩
  refine ⟨K, ?_⟩
  unfold laws_FnExactSpreadOf.f
  by_cases h0 : (t.length : Int) > 1048576
  · rw [if_pos h0]
  · rw [if_neg h0, szShareS_is l 1048576 (by omega) (by omega) hm, bind_s]
    by_cases h : (1048576 : Int) - (l.length : Int) < 0
    · rw [if_pos h, if_pos (by decide)]
    · rw [if_neg h, if_neg h, toInt64S_self t (by omega) _ (by omega), toShareS_is l (by omega) _ (by omega)]
      simp only [bind_s]
      rw [spec_SpreadOf_is _ _ _ (by omega), impl_SpreadOf_is _ _ _ (by omega)]
      simp only [bind_s]
      unfold laws_eqSpread.f
      simp only [if_true, bind_s]
      rw [eqInt64S_self t (by omega) _ (by omega)]
      simp only [bind_s, if_true]
      rw [eqShareS_self _ (by rw [List.length_map]; omega) _ (by rw [List.length_map]; omega)]
      simp only [bind_s, if_true]
end Go.Proofs.Ytnfjbapcngamjaa.Pure
