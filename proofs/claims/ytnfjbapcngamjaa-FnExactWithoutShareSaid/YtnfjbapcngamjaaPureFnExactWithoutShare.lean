/- WHAT THIS TEXT PROVES: the pure statement of the law FnExactWithoutShare, over plain functions on numbers and lists. No condition beyond the statement's own. -/
import Derived.Test.YtnfjbapcngamjaaSFnExactWithoutShare
import Derived.Laws.BitsLemmas
import Derived.IntWalk
namespace Go.Proofs.Ytnfjbapcngamjaa.Pure
open Go.RowKit Go.Proofs.Ytnfjbapcngamjaa.QFnExactWithoutShare Go.Proofs.YtnfjbapcngamjaaW.PrintWords Go.Proofs.YtnfjbapcngamjaaW.PrintLast Go.Proofs.YtnfjbapcngamjaaW.PrintMore Go.Proofs.Ytnfjbapcngamjaa.SFnExactWithoutShare
set_option linter.unusedVariables false
set_option linter.unusedSimpArgs false
theorem w64 {n : Int} (h0 : -9223372036854775808 ≤ n) (h1 : n ≤ 9223372036854775807) : wrap64 n = n := by unfold wrap64; omega
theorem w64n (i : Nat) (h : i < 9223372036854775807) : wrap64 ((i : Int) + 1) = ((i + 1 : Nat) : Int) := by
  rw [w64 (by omega) (by omega)]; omega
theorem rd_nat (xs : List Int) (i : Nat) : rd xs (i : Int) = xs.getD i 0 := by simp [rd]
theorem at_succ {k d : Nat} (h : d < k) : ∃ m, k = m + 1 := ⟨k - 1, by omega⟩
theorem drop_cons (xs : List Int) (i : Nat) (h : i < xs.length) : xs.drop i = xs.getD i 0 :: xs.drop (i + 1) := by
  rw [List.drop_eq_getElem_cons h]; simp [List.getD, h]
theorem set_take (x0 x3 : List Int) (i : Nat) (hl : x3.length = x0.length) (hi : i < x0.length) (ht : x3.take i = x0.take i) :
    (x3.set i (x0.getD i 0)).take (i + 1) = x0.take (i + 1) := by
  apply List.ext_getElem?
  intro j
  by_cases hj : j < i
  · have h1 := congrArg (fun l : List Int => l[j]?) ht
    simp only [List.getElem?_take, hj, if_true] at h1
    simp only [List.getElem?_take, show j < i + 1 by omega, if_true]
    rw [List.getElem?_set_ne (by omega)]; exact h1
  · by_cases e : j = i
    · subst e
      simp only [List.getElem?_take, show j < j + 1 by omega, if_true]
      rw [List.getElem?_set_self (by omega)]
      simp [List.getD, hi]
    · simp only [List.getElem?_take, show ¬ j < i + 1 by omega, if_false]
theorem bind_s {α β : Type} (a : α) (f : α → Option β) : (some a).bind f = f a := Eq.trans (Option.bind_some a f) (Eq.refl _)
theorem drop_consG {α : Type} (xs : List α) (d : α) (i : Nat) (h : i < xs.length) : xs.drop i = xs.getD i d :: xs.drop (i + 1) := by
  rw [List.drop_eq_getElem_cons h]; simp [List.getD, h]
theorem set_snocG {α : Type} (x : List α) (i : Nat) (v : α) (h : i < x.length) : (x.set i v).take (i + 1) = x.take i ++ [v] := by
  apply List.ext_getElem?
  intro j
  by_cases hj : j < i
  · rw [List.getElem?_append_left (by rw [List.length_take]; omega)]
    simp only [List.getElem?_take, hj, show j < i + 1 by omega, if_true]
    rw [List.getElem?_set_ne (by omega)]
  · by_cases e : j = i
    · subst e
      rw [List.getElem?_append_right (by rw [List.length_take]; omega)]
      simp only [List.getElem?_take, show j < j + 1 by omega, if_true, List.length_take]
      rw [List.getElem?_set_self h, show j - min j x.length = 0 by omega]; rfl
    · simp only [List.getElem?_take, show ¬ j < i + 1 by omega, if_false]
      rw [List.getElem?_eq_none (by rw [List.length_append, List.length_take, List.length_singleton]; omega)]
theorem take_snocG {α : Type} (x : List α) (d : α) (i : Nat) (h : i < x.length) : x.take (i + 1) = x.take i ++ [x.getD i d] := by
  rw [List.take_succ_eq_append_getElem h]; simp [List.getD, h]
def inB (a lo hi : Int) : Bool := decide (a ≥ lo) && decide (a ≤ hi)
def protoB (a : Int) : Bool := decide (a = 6) || decide (a = 17)
theorem impl_in_is (a lo hi : Int) : impl_in.f a lo hi = some (inB a lo hi) := by
  unfold impl_in.f inB
  by_cases h : a ≥ lo <;> simp [h]
theorem spec_l1In_is (a lo hi : Int) : spec_l1In.f a lo hi = some (inB a lo hi) := by
  unfold spec_l1In.f inB
  by_cases h : a ≥ lo <;> simp [h]
theorem rdI_nat (xs : List S53) (i : Nat) : rd_T53 xs (i : Int) = xs.getD i z53 := by simp [rd_T53]
theorem rdL_nat (xs : List S64) (i : Nat) : rd_T64 xs (i : Int) = xs.getD i z64 := by simp [rd_T64]
def cvShare (x : S64) : S53 := ⟨x.f0, x.f1⟩
theorem szShareS_is (l : List S64) (left : Int) (h0 : 0 ≤ left) (h1 : left ≤ 1048576) (hm : l.length ≤ maxLen) : laws_szShareS.f l left = some (if left - (l.length : Int) < 0 then -1 else left - (l.length : Int)) := by
  unfold laws_szShareS.f
  simp only [maxLen] at hm
  rw [w64 (by omega) (by omega)]
  by_cases h : left - (l.length : Int) < 0
  · rw [if_pos h, if_pos h]
  · rw [if_neg h, if_neg h]
theorem toShareS_l0 (x0 : List S64) (hn : x0.length ≤ 1048576) : ∀ (d k i : Nat) (x3 : List S53), x3.length = x0.length → i + d = x0.length → d < k → x3.take i = (x0.take i).map cvShare → laws_toShareS.l0 k x0 x3 (i : Int) = some (x0.map cvShare) := by
  intro d
  induction d with
  | zero =>
    intro k i x3 hl hi hk ht
    obtain ⟨k, rfl⟩ := at_succ hk
    simp only [laws_toShareS.l0]
    rw [if_neg (by omega)]
    rw [List.take_of_length_le (by omega), List.take_of_length_le (by omega)] at ht
    rw [ht]
  | succ d ih =>
    intro k i x3 hl hi hk ht
    obtain ⟨k, rfl⟩ := at_succ hk
    simp only [laws_toShareS.l0, laws_toShare.f, bind_s]
    rw [if_pos (by omega), if_pos (by omega), if_pos (by omega), w64n i (by omega), rdL_nat, Int.toNat_natCast]
    refine ih k (i + 1) _ (by simp [hl]) (by omega) (by omega) ?_
    rw [set_snocG x3 i _ (by omega), take_snocG x0 z64 i (by omega), List.map_append, ht]; rfl
theorem toShareS_is (l : List S64) (hn : l.length ≤ 1048576) (k : Nat) (hk : l.length < k) : laws_toShareS.f k l = some (l.map cvShare) := by
  unfold laws_toShareS.f
  rw [if_pos (by omega), if_pos (by omega)]
  exact toShareS_l0 l hn l.length k 0 _ (by simp) (by omega) hk (by simp)
theorem eqShareS_l0 (x0 : List S53) (hn : x0.length ≤ 1048576) : ∀ (d k i : Nat), i + d = x0.length → d < k → laws_eqShareS.l0 k x0 x0 (i : Int) = some true := by
  intro d
  induction d with
  | zero =>
    intro k i hi hk
    obtain ⟨k, rfl⟩ := at_succ hk
    simp only [laws_eqShareS.l0]
    rw [if_neg (by omega)]
  | succ d ih =>
    intro k i hi hk
    obtain ⟨k, rfl⟩ := at_succ hk
    simp only [laws_eqShareS.l0, laws_eqShare.f]
    rw [if_pos (by omega), if_pos (by omega), if_pos (by omega), if_pos trivial, if_pos trivial, bind_s, if_pos rfl, w64n i (by omega)]
    exact ih k (i + 1) (by omega) (by omega)
theorem eqShareS_self (l : List S53) (hn : l.length ≤ 1048576) (k : Nat) (hk : l.length < k) : laws_eqShareS.f k l l = some true := by
  unfold laws_eqShareS.f
  rw [if_pos rfl]
  exact eqShareS_l0 l hn l.length k 0 (by omega) hk
def goodShare (s : S53) : Bool := inB s.f0 1 999 && inB s.f1 0 9
def sfrom (prev : Int) : List S53 → Int
  | [] => 0
  | s :: t => if goodShare s = true then (if s.f0 ≤ prev then 1 else sfrom s.f0 t) else 3
def sfault (l : List S53) : Int := if (l.length : Int) > 8 then 2 else sfrom 0 l
theorem goodShare_name {s : S53} (h : goodShare s = true) : 1 ≤ s.f0 ∧ s.f0 ≤ 999 ∧ 0 ≤ s.f1 ∧ s.f1 ≤ 9 := by
  simp only [goodShare, inB, Bool.and_eq_true, decide_eq_true_eq] at h; omega
def prevOf (l : List S53) (i : Nat) : Int := if i = 0 then 0 else (l.getD (i - 1) z53).f0
theorem prevOf_succ (l : List S53) (i : Nat) : prevOf l (i + 1) = (l.getD i z53).f0 := by simp [prevOf]
theorem impl_isName_is (a : Int) : impl_isName.f a = some (inB a 1 999) := by unfold impl_isName.f; rw [impl_in_is, bind_s]
theorem impl_SharesFault_l0 (x0 : List S53) (hn : x0.length ≤ 8) : ∀ (d k i : Nat), i + d = x0.length → 2 * d + 2 ≤ k →
    impl_SharesFault.l0 k x0 x0 (x0.length : Int) (i : Int) = some (sfrom (prevOf x0 i) (x0.drop i)) := by
  intro d
  induction d with
  | zero =>
    intro k i hi hk
    obtain ⟨k, rfl⟩ : ∃ m, k = m + 1 := ⟨k - 1, by omega⟩
    simp only [impl_SharesFault.l0]
    rw [if_neg (by omega), List.drop_of_length_le (by omega)]; rfl
  | succ d ih =>
    intro k i hi hk
    obtain ⟨k, rfl⟩ : ∃ m, k = m + 1 + 1 := ⟨k - 2, by omega⟩
    have hnext := ih k (i + 1) (by omega) (by omega)
    simp only [impl_SharesFault.l0]
    rw [if_pos (by omega), if_pos (by omega), if_pos (by omega), rdI_nat, impl_isName_is, bind_s, impl_in_is, bind_s, drop_consG x0 z53 i (by omega)]
    simp only [impl_SharesFault.j1, sfrom, goodShare]
    rw [prevOf_succ, ← w64n i (by omega)] at hnext
    rcases Bool.eq_false_or_eq_true (inB (x0.getD i z53).f0 1 999) with h1 | h1
    case inr => simp only [h1, Bool.false_eq_true, if_false, Bool.false_and, if_true]
    case inl =>
      rcases Bool.eq_false_or_eq_true (inB (x0.getD i z53).f1 0 9) with h2 | h2
      case inr => simp only [h1, h2, Bool.false_eq_true, if_false, Bool.and_false, Bool.not_false, if_true]
      case inl =>
        simp only [h1, h2, if_true, Bool.not_true, Bool.false_eq_true, if_false, Bool.and_self]
        have hg := goodShare_name (s := x0.getD i z53) (by unfold goodShare; rw [h1, h2]; rfl)
        by_cases h0 : i = 0
        · subst h0
          rw [if_neg (by omega), if_neg (by show ¬ _ ≤ (0 : Int); omega)]
          exact hnext
        · have hw : wrap64 ((i : Int) - 1) = ((i - 1 : Nat) : Int) := by rw [w64 (by omega) (by omega)]; omega
          have hp : prevOf x0 i = (x0.getD (i - 1) z53).f0 := by simp [prevOf, h0]
          rw [if_pos (by omega), hw, if_pos (by omega), if_pos (by omega), rdI_nat, hp]
          by_cases h3 : (x0.getD i z53).f0 ≤ (x0.getD (i - 1) z53).f0
          · rw [if_pos h3, if_pos h3]
          · rw [if_neg h3, if_neg h3]; exact hnext
theorem impl_SharesFault_is (l : List S53) (k : Nat) (hk : 20 ≤ k) : impl_SharesFault.f k l = some (sfault l) := by
  unfold impl_SharesFault.f sfault
  by_cases h : (l.length : Int) > 8
  · rw [if_pos h, if_pos h]
  · rw [if_neg h, if_neg h]
    exact impl_SharesFault_l0 l (by omega) l.length k 0 (by omega) (by omega)
theorem spec_l3Name_is (a : Int) : spec_l3Name.f a = some (inB a 1 999) := by unfold spec_l3Name.f; rw [spec_l1In_is, bind_s]
theorem spec_SharesFault_l0 (x0 : List S53) (hn : x0.length ≤ 8) : ∀ (d k i : Nat), i + d = x0.length → 2 * d + 2 ≤ k →
    spec_SharesFault.l0 k x0 (i : Int) = some (sfrom (prevOf x0 i) (x0.drop i)) := by
  intro d
  induction d with
  | zero =>
    intro k i hi hk
    obtain ⟨k, rfl⟩ : ∃ m, k = m + 1 := ⟨k - 1, by omega⟩
    simp only [spec_SharesFault.l0]
    rw [if_neg (by omega), List.drop_of_length_le (by omega)]; rfl
  | succ d ih =>
    intro k i hi hk
    obtain ⟨k, rfl⟩ : ∃ m, k = m + 1 + 1 := ⟨k - 2, by omega⟩
    have hnext := ih k (i + 1) (by omega) (by omega)
    simp only [spec_SharesFault.l0]
    rw [if_pos (by omega), if_pos (by omega), rdI_nat, spec_l3Name_is, bind_s, spec_l1In_is, bind_s, drop_consG x0 z53 i (by omega)]
    simp only [spec_SharesFault.j1, sfrom, goodShare]
    rw [prevOf_succ, ← w64n i (by omega)] at hnext
    rcases Bool.eq_false_or_eq_true (inB (x0.getD i z53).f0 1 999) with h1 | h1
    case inr => simp only [h1, Bool.false_eq_true, if_false, Bool.false_and, if_true]
    case inl =>
      rcases Bool.eq_false_or_eq_true (inB (x0.getD i z53).f1 0 9) with h2 | h2
      case inr => simp only [h1, h2, Bool.false_eq_true, if_false, Bool.and_false, Bool.not_false, if_true]
      case inl =>
        simp only [h1, h2, if_true, Bool.not_true, Bool.false_eq_true, if_false, Bool.and_self]
        have hg := goodShare_name (s := x0.getD i z53) (by unfold goodShare; rw [h1, h2]; rfl)
        by_cases h0 : i = 0
        · subst h0
          rw [if_neg (by omega), if_neg (by show ¬ _ ≤ (0 : Int); omega)]
          exact hnext
        · have hw : wrap64 ((i : Int) - 1) = ((i - 1 : Nat) : Int) := by rw [w64 (by omega) (by omega)]; omega
          have hp : prevOf x0 i = (x0.getD (i - 1) z53).f0 := by simp [prevOf, h0]
          rw [if_pos (by omega), if_pos (by omega), if_pos (by omega), hw, if_pos (by omega), if_pos (by omega), rdI_nat, rdI_nat, hp]
          by_cases h3 : (x0.getD i z53).f0 ≤ (x0.getD (i - 1) z53).f0
          · rw [if_pos h3, if_pos h3]
          · rw [if_neg h3, if_neg h3]; exact hnext
theorem spec_SharesFault_is (l : List S53) (k : Nat) (hk : 20 ≤ k) : spec_SharesFault.f k l = some (sfault l) := by
  unfold spec_SharesFault.f sfault
  by_cases h : (l.length : Int) > 8
  · rw [if_pos h, if_pos h]
  · rw [if_neg h, if_neg h]
    exact spec_SharesFault_l0 l (by omega) l.length k 0 (by omega) (by omega)
def fl (a : Int) (l : List S53) : List S53 := l.filter (fun s => !(s.f0 == a))
theorem fl_length (a : Int) (l : List S53) : (fl a l).length ≤ l.length := List.length_filter_le _ _
theorem fl_snoc (a : Int) (l : List S53) (i : Nat) (hi : i < l.length) : fl a (l.take (i + 1)) = fl a (l.take i) ++ (if ((l.getD i z53).f0 == a) = true then [] else [l.getD i z53]) := by
  unfold fl
  rw [take_snocG l z53 i hi, List.filter_append]
  congr 1
  rw [List.filter_cons, List.filter_nil]
  cases ((l.getD i z53).f0 == a) <;> rfl
def withoutR (l : List S53) (a : Int) : Int × List S53 := if sfault l = 0 then (if (fl a l).length = l.length then (4, []) else (0, fl a l)) else (sfault l, [])
theorem withoutR_length (l : List S53) (a : Int) : (withoutR l a).2.length ≤ 8 := by
  unfold withoutR
  split
  · rename_i h
    have h8 : l.length ≤ 8 := by
      unfold sfault at h
      split at h
      · cases h
      · omega
    split
    · simp
    · have := fl_length a l; show (fl a l).length ≤ 8; omega
  · simp
theorem sfault_len8 {l : List S53} (h : sfault l = 0) : l.length ≤ 8 := by
  unfold sfault at h
  split at h
  · cases h
  · omega
theorem spec_WithoutShare_l0 (l : List S53) (h8 : l.length ≤ 8) (a : Int) : ∀ (d k i : Nat), i + d = l.length → d < k → spec_WithoutShare.l0 k l a (i : Int) 0 (fl a (l.take i)) = some (if (fl a l).length = l.length then (4, []) else (0, fl a l)) := by
  intro d
  induction d with
  | zero =>
    intro k i hi hk
    obtain ⟨k, rfl⟩ := at_succ hk
    simp only [spec_WithoutShare.l0]
    rw [if_neg (by omega), List.take_of_length_le (by omega)]
    by_cases e : (fl a l).length = l.length
    · rw [if_pos e, if_pos (by omega)]
    · rw [if_neg e, if_neg (by omega)]
  | succ d ih =>
    intro k i hi hk
    obtain ⟨k, rfl⟩ := at_succ hk
    have hn := ih k (i + 1) (by omega) (by omega)
    have hlen := fl_length a (l.take i)
    rw [List.length_take] at hlen
    simp only [spec_WithoutShare.l0]
    rw [if_pos (by omega), if_pos (by omega), rdI_nat, w64n i (by omega)]
    rw [fl_snoc a l i (by omega)] at hn
    by_cases e : (l.getD i z53).f0 = a
    · have e' : ((l.getD i z53).f0 == a) = true := beq_iff_eq.2 e
      rw [e', if_pos rfl, List.append_nil] at hn
      rw [if_pos e]; exact hn
    · have e' : ((l.getD i z53).f0 == a) = false := beq_eq_false_iff_ne.2 e
      rw [e', if_neg (by decide)] at hn
      rw [if_neg e, if_pos (by omega)]; exact hn
theorem spec_WithoutShare_is (l : List S53) (a : Int) (k : Nat) (hk : 20 ≤ k) : spec_WithoutShare.f k l a = some (withoutR l a) := by
  unfold spec_WithoutShare.f withoutR
  rw [spec_SharesFault_is l k hk, bind_s]
  by_cases h : sfault l = 0
  · rw [if_pos h, if_pos h]
    have h8 := sfault_len8 h
    exact spec_WithoutShare_l0 l h8 a l.length k 0 (by omega) (by omega)
  · rw [if_neg h, if_neg h]
theorem impl_Delete_l0 (l : List S53) (h8 : l.length ≤ 8) (a : Int) : ∀ (d k j : Nat) (x : List S53), j + d = l.length → d < k → x.length = l.length → x.take (fl a (l.take j)).length = fl a (l.take j) → x.drop j = l.drop j →
    impl_Share_42.l0 k x a (((fl a (l.take j)).length : Nat) : Int) (j : Int) = some (fl a l) := by
  intro d
  induction d with
  | zero =>
    intro k j x hj hk hx ht hd
    obtain ⟨k, rfl⟩ := at_succ hk
    have e : l.take j = l := List.take_of_length_le (by omega)
    rw [e] at ht ⊢
    have hlen := fl_length a l
    simp only [impl_Share_42.l0]
    rw [if_neg (by omega), if_pos (by omega), if_pos (by omega), Int.toNat_natCast, ht]
  | succ d ih =>
    intro k j x hj hk hx ht hd
    obtain ⟨k, rfl⟩ := at_succ hk
    have hlen := fl_length a (l.take j)
    rw [List.length_take] at hlen
    have hr : x.getD j z53 = l.getD j z53 := by
      have h1 := drop_consG x z53 j (by omega)
      have h2 := drop_consG l z53 j (by omega)
      rw [h1, h2] at hd
      exact (List.cons.inj hd).1
    have hd' : x.drop (j + 1) = l.drop (j + 1) := by
      have h1 := drop_consG x z53 j (by omega)
      have h2 := drop_consG l z53 j (by omega)
      rw [h1, h2] at hd
      exact (List.cons.inj hd).2
    have hs := fl_snoc a l j (by omega)
    simp only [impl_Share_42.l0]
    rw [if_pos (by omega), if_pos (by omega), rdI_nat, hr]
    simp only [laws_FnExactFillTable.f, bind_s]
    rw [w64n j (by omega)]
    by_cases e : ((l.getD j z53).f0 == a) = true
    · rw [if_pos e]
      rw [if_pos e, List.append_nil] at hs
      have := ih k (j + 1) x (by omega) (by omega) hx (by rw [hs]; exact ht) hd'
      rw [hs] at this
      exact this
    · rw [if_neg e, if_pos (by omega), if_pos (by omega), Int.toNat_natCast, w64n _ (by omega)]
      rw [if_neg e] at hs
      have hl1 : (fl a (l.take (j + 1))).length = (fl a (l.take j)).length + 1 := by rw [hs, List.length_append]; rfl
      have := ih k (j + 1) (x.set (fl a (l.take j)).length (l.getD j z53)) (by omega) (by omega) (by rw [List.length_set]; exact hx)
        (by rw [hl1, set_snocG x _ _ (by omega), ht, hs]) (by rw [List.drop_set_of_lt (by omega)]; exact hd')
      rw [hl1] at this
      exact this
theorem impl_Delete_is (l : List S53) (h8 : l.length ≤ 8) (a : Int) (k : Nat) (hk : 20 ≤ k) : impl_Share_42.f k l a = some (fl a l) := by
  unfold impl_Share_42.f impl_Share_57.f
  rw [bind_s]
  by_cases hany : ∃ i, i < l.length ∧ ((l.getD i z53).f0 == a) = true
  · -- the first place
    have hex : ∃ i, i < l.length ∧ ((l.getD i z53).f0 == a) = true ∧ ∀ j, j < i → ((l.getD j z53).f0 == a) = false := by
      obtain ⟨i, hi, hp⟩ := hany
      induction i using Nat.strongRecOn with
      | ind i ih =>
        by_cases hq : ∃ j, j < i ∧ ((l.getD j z53).f0 == a) = true
        · obtain ⟨j, hj, hp2⟩ := hq
          exact ih j hj (by omega) hp2
        · exact ⟨i, hi, hp, fun j hj => by
            cases hb : ((l.getD j z53).f0 == a)
            · rfl
            · exact absurd ⟨j, hj, hb⟩ hq⟩
    obtain ⟨i, hi, hp, hn⟩ := hex
    have he := Go.Proofs.Ytnfjbapcngamjaa.Ix.ixFrom_hit (fun s : S53 => s.f0 == a) z53 l 0 i hi hp hn
    rw [he, Int.zero_add, if_neg (by omega), w64n i (by omega)]
    have hf : fl a (l.take (i + 1)) = l.take i := by
      rw [fl_snoc a l i hi, if_pos hp, List.append_nil]
      unfold fl
      refine List.filter_eq_self.2 (fun s hs => ?_)
      obtain ⟨j, hj, e⟩ := List.getElem_of_mem hs
      rw [List.length_take] at hj
      have := hn j (by omega)
      rw [List.getElem_take] at e
      have e2 : l.getD j z53 = s := by rw [← e]; simp [List.getD, show j < l.length by omega]
      rw [e2] at this
      rw [this]; rfl
    have hlen : (fl a (l.take (i + 1))).length = i := by rw [hf, List.length_take]; omega
    have := impl_Delete_l0 l h8 a (l.length - (i + 1)) k (i + 1) l (by omega) (by omega) rfl (by rw [hlen, hf]) rfl
    rw [hlen] at this
    exact this
  · have hn : ∀ j, j < l.length → ((fun s : S53 => s.f0 == a) (l.getD j z53)) = false := fun j hj => by
      cases hb : ((l.getD j z53).f0 == a)
      · exact hb
      · exact absurd ⟨j, hj, hb⟩ hany
    rw [Go.Proofs.Ytnfjbapcngamjaa.Ix.ixFrom_miss _ z53 l 0 hn, if_pos rfl]
    have : fl a l = l := by
      unfold fl
      refine List.filter_eq_self.2 (fun s hs => ?_)
      obtain ⟨j, hj, e⟩ := List.getElem_of_mem hs
      have h2 := hn j hj
      have e2 : l.getD j z53 = s := by rw [← e]; simp [List.getD, hj]
      simp only [e2] at h2
      rw [h2]; rfl
    rw [this]
theorem impl_WithoutShare_is (l : List S53) (a : Int) (k : Nat) (hk : 20 ≤ k) : impl_WithoutShare.f k l a = some (withoutR l a) := by
  unfold impl_WithoutShare.f withoutR
  rw [impl_SharesFault_is l k hk, bind_s]
  by_cases h : sfault l = 0
  · have h8 := sfault_len8 h
    rw [if_pos h, if_pos h]
    unfold impl_Share_43.f
    rw [bind_s, if_pos (by simp; omega), bind_s, List.nil_append, impl_Delete_is l h8 a k hk, bind_s]
    by_cases e : (fl a l).length = l.length
    · rw [if_pos e, if_pos (by omega)]
    · rw [if_neg e, if_neg (by omega)]
  · rw [if_neg h, if_neg h]
def markedS (v : Int) : List S53 → List S53
  | [] => []
  | _ :: l => ⟨v, v + 1⟩ :: markedS (v + 2) l
theorem markedS_length : ∀ (l : List S53) (v : Int), (markedS v l).length = l.length
  | [], _ => rfl
  | _ :: l, v => by simp [markedS, markedS_length l]
theorem markShareS_l0 : ∀ (d k i : Nat) (x : List S53) (v : Int), x.length ≤ 1048576 → i + d = x.length → d < k → 0 ≤ v → v + 2 * d ≤ 1000000000 → laws_markShareS.l0 k x v (i : Int) = some (v + 2 * d, x.take i ++ markedS v (x.drop i)) := by
  intro d
  induction d with
  | zero =>
    intro k i x v hn hi hk h0 h1
    obtain ⟨k, rfl⟩ := at_succ hk
    simp only [laws_markShareS.l0]
    rw [if_neg (by omega), List.take_of_length_le (by omega), List.drop_of_length_le (by omega)]
    simp [markedS]
  | succ d ih =>
    intro k i x v hn hi hk h0 h1
    obtain ⟨k, rfl⟩ := at_succ hk
    simp only [laws_markShareS.l0]
    rw [if_pos (by omega), if_pos (by omega), bind_s, w64n i (by omega), w64 (n := v + 1) (by omega) (by omega), w64 (n := v + 1 + 1) (by omega) (by omega), Int.toNat_natCast]
    have e1 : (rd_T53 (x.set i (⟨v, (rd_T53 x (i : Int)).f1⟩ : S53)) (i : Int)).f0 = v := by
      rw [rdI_nat, List.getD_eq_getElem?_getD, List.getElem?_set_self (by omega)]; rfl
    rw [e1, List.set_set, ih k (i + 1) (x.set i ⟨v, v + 1⟩) (v + 1 + 1) (by simp; omega) (by simp; omega) (by omega) (by omega) (by omega)]
    rw [set_snocG x i _ (by omega), List.drop_set_of_lt (by omega), drop_consG x z53 i (by omega), markedS, List.append_assoc, show v + 1 + 1 = v + 2 by omega, show v + 2 + 2 * (d : Int) = v + 2 * ((d + 1 : Nat) : Int) by omega]
    rfl
theorem markShareS_is (l : List S53) (hn : l.length ≤ 1048576) (k : Nat) (hk : l.length < k) : laws_markShareS.f k l 1 = some (1 + 2 * (l.length : Int), markedS 1 l) := by
  unfold laws_markShareS.f
  exact markShareS_l0 l.length k 0 l 1 hn (by omega) hk (by omega) (by omega)
theorem heldShareS_l0 : ∀ (d k i : Nat) (x y : List S53) (v : Int), x.length ≤ 1048576 → i + d = x.length → d < k → 0 ≤ v → v + 2 * d ≤ 1000000000 → x.drop i = markedS v y → laws_heldShareS.l0 k x v (i : Int) = some (v + 2 * d) := by
  intro d
  induction d with
  | zero =>
    intro k i x y v hn hi hk h0 h1 hx
    obtain ⟨k, rfl⟩ := at_succ hk
    simp only [laws_heldShareS.l0]
    rw [if_neg (by omega)]; simp
  | succ d ih =>
    intro k i x y v hn hi hk h0 h1 hx
    obtain ⟨k, rfl⟩ := at_succ hk
    cases y with
    | nil =>
      have := congrArg List.length hx
      rw [List.length_drop] at this
      simp [markedS] at this; omega
    | cons b y =>
      have hc := drop_consG x z53 i (by omega)
      rw [hc, markedS] at hx
      obtain ⟨e1, e2⟩ := List.cons.inj hx
      simp only [laws_heldShareS.l0]
      rw [if_pos (by omega), if_pos (by omega), rdI_nat, e1, w64n i (by omega), w64 (n := v + 1) (by omega) (by omega), w64 (n := v + 1 + 1) (by omega) (by omega), if_pos rfl, if_pos rfl]
      rw [show v + 1 + 1 = v + 2 by omega, ih k (i + 1) x y (v + 2) hn (by omega) (by omega) (by omega) (by omega) e2, show v + 2 + 2 * (d : Int) = v + 2 * ((d + 1 : Nat) : Int) by omega]
theorem heldShareS_is (l : List S53) (hn : l.length ≤ 1048576) (k : Nat) (hk : l.length < k) : laws_heldShareS.f k (markedS 1 l) 1 = some (1 + 2 * (l.length : Int)) := by
  unfold laws_heldShareS.f
  have h := heldShareS_l0 l.length k 0 (markedS 1 l) l 1 (by rw [markedS_length]; exact hn) (by rw [markedS_length]; omega) hk (by omega) (by omega) rfl
  exact h
theorem eqSharesResult_self (c : Int) (l : List S53) (hn : l.length ≤ 1048576) (k : Nat) (hk : l.length < k) : laws_eqSharesResult.f k c l c l = some true := by
  unfold laws_eqSharesResult.f
  rw [if_pos rfl, eqShareS_self l hn k hk, bind_s, if_pos rfl]
theorem markSharesResult_is (c : Int) (l : List S53) (hn : l.length ≤ 1048576) (k : Nat) (hk : l.length < k) : laws_markSharesResult.f k c l 1 = some (1 + 2 * (l.length : Int), markedS 1 l) := by
  unfold laws_markSharesResult.f
  rw [markShareS_is l hn k hk, bind_s]
theorem heldSharesResult_is (c : Int) (l : List S53) (hn : l.length ≤ 1048576) (k : Nat) (hk : l.length < k) : laws_heldSharesResult.f k c (markedS 1 l) 1 = some (1 + 2 * (l.length : Int)) := by
  unfold laws_heldSharesResult.f
  rw [heldShareS_is l hn k hk, bind_s, if_neg (by omega)]
theorem FnExactWithoutShare : SFnExactWithoutShare.Pure := by
  intro l a hm _ _
  obtain ⟨K, hK⟩ : ∃ K : Nat, l.length + 2000000 ≤ K := ⟨_, Nat.le_refl _⟩
  refine ⟨K + 1, ?_⟩
  unfold laws_FnExactWithoutShare.f
  rw [szShareS_is l 1048576 (by omega) (by omega) hm, bind_s]
  by_cases h : (1048576 : Int) - (l.length : Int) < 0
  · rw [if_pos h, if_pos (by decide)]
  · rw [if_neg h, if_neg h, toShareS_is l (by omega) _ (by omega)]
    simp only [bind_s]
    rw [spec_WithoutShare_is _ _ _ (by omega), impl_WithoutShare_is _ _ _ (by omega)]
    simp only [bind_s]
    have hl := withoutR_length (l.map cvShare) a
    rw [eqSharesResult_self _ _ (by omega) _ (by omega)]
    simp only [bind_s, if_true]
    rw [eqShareS_self _ (by rw [List.length_map]; omega) _ (by rw [List.length_map]; omega)]
    simp only [bind_s, if_true]
    rw [markShareS_is (l.map cvShare) (by rw [List.length_map]; omega) (K + 1) (by rw [List.length_map]; omega), bind_s, List.length_map]
    simp only []
    rw [if_neg (by omega), laws_FnExactWithoutShare.j0.eq_2, if_neg (by decide), markSharesResult_is _ _ (by omega) _ (by omega)]
    simp only [bind_s]
    rw [heldSharesResult_is _ _ (by omega) _ (by omega)]
    simp only [bind_s, if_true]
    rw [if_neg (by omega), toShareS_is l (by omega) _ (by omega)]
    simp only [bind_s]
    rw [impl_WithoutShare_is _ _ _ (by omega)]
    simp only [bind_s]
    rw [eqSharesResult_self _ _ (by omega) _ (by omega)]
    simp only [bind_s, if_true]
    rw [if_neg (by omega)]
end Go.Proofs.Ytnfjbapcngamjaa.Pure
