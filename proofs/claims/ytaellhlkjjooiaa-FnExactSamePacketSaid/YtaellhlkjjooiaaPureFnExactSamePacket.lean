/- WHAT THIS TEXT PROVES: the pure statement of the law FnExactSamePacket, over plain functions on numbers and lists. No condition beyond the statement's own. -/
import Derived.Test.YtaellhlkjjooiaaSFnExactSamePacket
import Derived.Laws.BitsLemmas
import Derived.IntWalk
namespace Go.Proofs.Ytaellhlkjjooiaa.Pure
open Go.RowKit Go.Proofs.Ytaellhlkjjooiaa.QFnExactSamePacket Go.Proofs.YtaellhlkjjooiaaW.PrintWords Go.Proofs.YtaellhlkjjooiaaW.PrintLast Go.Proofs.YtaellhlkjjooiaaW.PrintMore Go.Proofs.Ytaellhlkjjooiaa.SFnExactSamePacket
set_option linter.unusedVariables false
set_option linter.unusedSimpArgs false
theorem w64 {n : Int} (h0 : -9223372036854775808 ≤ n) (h1 : n ≤ 9223372036854775807) : wrap64 n = n := by unfold wrap64; omega
theorem w64n (i : Nat) (h : i < 9223372036854775807) : wrap64 ((i : Int) + 1) = ((i + 1 : Nat) : Int) := by
  rw [w64 (by omega) (by omega)]; omega
theorem rd_nat (xs : List Int) (i : Nat) : rd xs (i : Int) = xs.getD i 0 := by simp [rd]
theorem at_succ {k d : Nat} (h : d < k) : ∃ m, k = m + 1 := ⟨k - 1, by omega⟩
theorem drop_cons (xs : List Int) (i : Nat) (h : i < xs.length) : xs.drop i = xs.getD i 0 :: xs.drop (i + 1) := by
  rw [List.drop_eq_getElem_cons h]; simp [List.getD, h]
theorem set_take (x0 x3 : List Int) (i : Nat) (hl : x3.length = x0.length) (hi : i < x0.length) (ht : x3.take i = x0.take i) :
    (x3.set i (x0.getD i 0)).take (i + 1) = x0.take (i + 1) := by
  apply List.ext_getElem?
  intro j
  by_cases hj : j < i
  · have h1 := congrArg (fun l : List Int => l[j]?) ht
    simp only [List.getElem?_take, hj, if_true] at h1
    simp only [List.getElem?_take, show j < i + 1 by omega, if_true]
    rw [List.getElem?_set_ne (by omega)]; exact h1
  · by_cases e : j = i
    · subst e
      simp only [List.getElem?_take, show j < j + 1 by omega, if_true]
      rw [List.getElem?_set_self (by omega)]
      simp [List.getD, hi]
    · simp only [List.getElem?_take, show ¬ j < i + 1 by omega, if_false]
theorem bind_s {α β : Type} (a : α) (f : α → Option β) : (some a).bind f = f a := Eq.trans (Option.bind_some a f) (Eq.refl _)
theorem toByteS_l0 (x0 : List Int) (hn : x0.length ≤ 1048576) : ∀ (d k i : Nat) (x3 : List Int), x3.length = x0.length → i + d = x0.length → d < k → x3.take i = x0.take i → laws_toByteS.l0 k x0 x3 (i : Int) = some x0 := by
  intro d
  induction d with
  | zero =>
    intro k i x3 hl hi hk ht
    obtain ⟨k, rfl⟩ := at_succ hk
    simp only [laws_toByteS.l0]
    rw [if_neg (by omega)]
    have : x3 = x0 := by
      rw [List.take_of_length_le (by omega), List.take_of_length_le (by omega)] at ht; exact ht
    rw [this]
  | succ d ih =>
    intro k i x3 hl hi hk ht
    obtain ⟨k, rfl⟩ := at_succ hk
    simp only [laws_toByteS.l0]
    rw [if_pos (by omega), if_pos (by omega), if_pos (by omega), w64n i (by omega), rd_nat, Int.toNat_natCast]
    exact ih k (i + 1) _ (by simp [hl]) (by omega) (by omega) (set_take x0 x3 i hl (by omega) ht)
theorem toByteS_self (l : List Int) (hn : l.length ≤ 1048576) (k : Nat) (hk : l.length < k) : laws_toByteS.f k l = some l := by
  unfold laws_toByteS.f
  rw [if_pos (by omega), if_pos (by omega)]
  exact toByteS_l0 l hn l.length k 0 _ (by simp) (by omega) hk (by simp)
theorem eqByteS_l0 (x0 : List Int) (hn : x0.length ≤ 1048576) : ∀ (d k i : Nat), i + d = x0.length → d < k → laws_eqByteS.l0 k x0 x0 (i : Int) = some true := by
  intro d
  induction d with
  | zero =>
    intro k i hi hk
    obtain ⟨k, rfl⟩ := at_succ hk
    simp only [laws_eqByteS.l0]
    rw [if_neg (by omega)]
  | succ d ih =>
    intro k i hi hk
    obtain ⟨k, rfl⟩ := at_succ hk
    simp only [laws_eqByteS.l0]
    rw [if_pos (by omega), if_pos (by omega), if_pos (by omega), w64n i (by omega)]
    simp only [if_true]
    exact ih k (i + 1) (by omega) (by omega)
theorem eqByteS_self (l : List Int) (hn : l.length ≤ 1048576) (k : Nat) (hk : l.length < k) : laws_eqByteS.f k l l = some true := by
  unfold laws_eqByteS.f
  rw [if_pos rfl]
  exact eqByteS_l0 l hn l.length k 0 (by omega) hk
theorem szByteS_is (l : List Int) (left : Int) (h0 : 0 ≤ left) (h1 : left ≤ 1048576) (hm : l.length ≤ maxLen) : laws_szByteS.f l left = some (if left - (l.length : Int) < 0 then -1 else left - (l.length : Int)) := by
  unfold laws_szByteS.f
  simp only [maxLen] at hm
  rw [w64 (by omega) (by omega)]
  by_cases h : left - (l.length : Int) < 0
  · rw [if_pos h, if_pos h]
  · rw [if_neg h, if_neg h]
theorem szPacket_is (a b c d e : Int) (l : List Int) (left : Int) (h0 : 0 ≤ left) (h1 : left ≤ 1048576) (hm : l.length ≤ maxLen) : laws_szPacket.f a b c d e l left = some (if left - (l.length : Int) < 0 then -1 else left - (l.length : Int)) := by
  unfold laws_szPacket.f
  rw [szByteS_is l left h0 h1 hm, bind_s]
  by_cases h : left - (l.length : Int) < 0
  · rw [if_pos h]; rfl
  · rw [if_neg h, if_neg h]
theorem toPacket_self (a b c d e : Int) (l : List Int) (hn : l.length ≤ 1048576) (k : Nat) (hk : l.length < k) : laws_toPacket.f k a b c d e l = some (a, b, c, d, e, l) := by
  unfold laws_toPacket.f
  rw [toByteS_self l hn k hk, bind_s]
theorem eqPacket_self (a b c d e : Int) (l : List Int) (hn : l.length ≤ 1048576) (k : Nat) (hk : l.length < k) : laws_eqPacket.f k a b c d e l a b c d e l = some true := by
  unfold laws_eqPacket.f
  rw [if_pos rfl, if_pos rfl, if_pos rfl, if_pos rfl, if_pos rfl, eqByteS_self l hn k hk, bind_s, if_pos rfl]
theorem SamePacket_both (a b c d e : Int) (l : List Int) (a' b' c' d' e' : Int) (l' : List Int) : ∃ r, spec_SamePacket.f a b c d e l a' b' c' d' e' l' = some r ∧ impl_SamePacket.f a b c d e l a' b' c' d' e' l' = some r := by
  unfold spec_SamePacket.f impl_SamePacket.f impl_samePacket.f bytes_Equal.f
  simp only [bind_s]
  by_cases h1 : a = a'
  · by_cases h2 : b = b'
    · by_cases h3 : c = c'
      · by_cases h4 : d = d'
        · by_cases h5 : e = e'
          · simp only [h1, h2, h3, h4, h5, if_true, bind_s]; exact ⟨_, rfl, rfl⟩
          · simp only [h1, h2, h3, h4, h5, if_true, if_false, bind_s]; exact ⟨_, rfl, rfl⟩
        · simp only [h1, h2, h3, h4, if_true, if_false, bind_s]; exact ⟨_, rfl, rfl⟩
      · simp only [h1, h2, h3, if_true, if_false, bind_s]; exact ⟨_, rfl, rfl⟩
    · simp only [h1, h2, if_true, if_false, bind_s]; exact ⟨_, rfl, rfl⟩
  · simp only [h1, if_false, bind_s]; exact ⟨_, rfl, rfl⟩
theorem FnExactSamePacket : SFnExactSamePacket.Pure := by
  intro a b c d e l a' b' c' d' e' l' _ _ _ _ _ hm _ _ _ _ _ _ hm' _
  refine ⟨l.length + l'.length + 2, ?_⟩
  unfold laws_FnExactSamePacket.f
  rw [szPacket_is a b c d e l 1048576 (by omega) (by omega) hm, bind_s]
  by_cases h : (1048576 : Int) - (l.length : Int) < 0
  · rw [if_pos h, if_pos (by decide)]
  · rw [if_neg h, if_neg h, szPacket_is a' b' c' d' e' l' _ (by omega) (by omega) hm', bind_s]
    by_cases h' : (1048576 : Int) - (l.length : Int) - (l'.length : Int) < 0
    · rw [if_pos h', if_pos (by decide)]
    · rw [if_neg h', if_neg h', toPacket_self a b c d e l (by omega) _ (by omega), toPacket_self a' b' c' d' e' l' (by omega) _ (by omega)]
      obtain ⟨r, h1, h2⟩ := SamePacket_both a b c d e l a' b' c' d' e' l'
      simp only [bind_s]
      rw [h1, h2]
      simp only [bind_s, bne_self_eq_false, Bool.false_eq_true, if_false]
      rw [eqPacket_self a b c d e l (by omega) _ (by omega), eqPacket_self a' b' c' d' e' l' (by omega) _ (by omega)]
      simp only [bind_s, if_true]
end Go.Proofs.Ytaellhlkjjooiaa.Pure
