/- WHAT THIS TEXT PROVES: the pure statement of the law FnExactMixNumber, over plain functions on numbers and lists. No condition beyond the statement's own. -/
import Derived.Test.YtbnbbcmjgeaidaaPFnExactMixNumberx1
import Derived.Laws.BitsLemmas
import Derived.IntWalk
namespace Go.Proofs.Ytbnbbcmjgeaidaa.Pure
open Go.RowKit Go.Proofs.Ytbnbbcmjgeaidaa.PFnExactMixNumber Go.Proofs.YtbnbbcmjgeaidaaW.PrintWords Go.Proofs.YtbnbbcmjgeaidaaW.PrintLast
set_option linter.unusedVariables false
set_option linter.unusedSimpArgs false
theorem w64 {n : Int} (h0 : -9223372036854775808 ≤ n) (h1 : n ≤ 9223372036854775807) : wrap64 n = n := by unfold wrap64; omega
theorem w64n (i : Nat) (h : i < 9223372036854775807) : wrap64 ((i : Int) + 1) = ((i + 1 : Nat) : Int) := by
  rw [w64 (by omega) (by omega)]; omega
theorem rd_nat (xs : List Int) (i : Nat) : rd xs (i : Int) = xs.getD i 0 := by simp [rd]
theorem at_succ {k d : Nat} (h : d < k) : ∃ m, k = m + 1 := ⟨k - 1, by omega⟩
theorem drop_cons (xs : List Int) (i : Nat) (h : i < xs.length) : xs.drop i = xs.getD i 0 :: xs.drop (i + 1) := by
  rw [List.drop_eq_getElem_cons h]; simp [List.getD, h]
theorem set_take (x0 x3 : List Int) (i : Nat) (hl : x3.length = x0.length) (hi : i < x0.length) (ht : x3.take i = x0.take i) :
    (x3.set i (x0.getD i 0)).take (i + 1) = x0.take (i + 1) := by
  apply List.ext_getElem?
  intro j
  by_cases hj : j < i
  · have h1 := congrArg (fun l : List Int => l[j]?) ht
    simp only [List.getElem?_take, hj, if_true] at h1
    simp only [List.getElem?_take, show j < i + 1 by omega, if_true]
    rw [List.getElem?_set_ne (by omega)]; exact h1
  · by_cases e : j = i
    · subst e
      simp only [List.getElem?_take, show j < j + 1 by omega, if_true]
      rw [List.getElem?_set_self (by omega)]
      simp [List.getD, hi]
    · simp only [List.getElem?_take, show ¬ j < i + 1 by omega, if_false]
def mixStep (n h : Int) : Int := (h * 131 + n % 256 + 1) % 1000003
def mix4 (n h : Int) : Int := mixStep (n / 256 / 256 / 256) (mixStep (n / 256 / 256) (mixStep (n / 256) (mixStep n h)))
def mix (n salt : Int) : Int := mix4 (n % 4294967296) (salt % 10007 + 11)
theorem mixStep_bounds (n h : Int) : 0 ≤ mixStep n h ∧ mixStep n h < 1000003 := by unfold mixStep; omega
theorem mix_bounds (n salt : Int) : 0 ≤ mix n salt ∧ mix n salt < 1000003 := mixStep_bounds _ _
theorem mod_is (n m : Int) (h : 0 < m) (hm : m ≤ 4294967296) : Int.tmod (wrap64 (Int.tmod n m + m)) m = n % m := by
  have h1 : -m < Int.tmod n m := by
    have := Int.lt_tmod_of_pos n h; omega
  have h2 : Int.tmod n m < m := Int.tmod_lt_of_pos n h
  rw [w64 (by omega) (by omega), Int.tmod_eq_emod_of_nonneg (by omega), Int.add_emod_right]
  have := Int.mul_tdiv_add_tmod n m
  have e : n = Int.tmod n m + m * Int.tdiv n m := by omega
  conv => rhs; rw [e]
  rw [Int.add_mul_emod_self_left]
theorem mix_round (n h : Int) (h0 : 0 ≤ h) (h1 : h < 1000003) (hn : 0 ≤ n) :
    Int.tmod (wrap64 (wrap64 (wrap64 (h * 131) + Int.tmod n 256) + 1)) 1000003 = mixStep n h := by
  have a := Int.tmod_eq_emod_of_nonneg (b := 256) hn
  rw [a, w64 (n := h * 131) (by omega) (by omega), w64 (n := h * 131 + n % 256) (by omega) (by omega), w64 (by omega) (by omega), Int.tmod_eq_emod_of_nonneg (by omega)]
  rfl
theorem mix_down (n : Int) (hn : 0 ≤ n) (h1 : n ≤ 4294967296) : wrap64 (Int.tdiv n 256) = n / 256 := by
  rw [Int.tdiv_eq_ediv_of_nonneg hn, w64 (by omega) (by omega)]
theorem spec_MixNumber_l0 (n h : Int) (hn : 0 ≤ n) (hm : n ≤ 4294967296) (h0 : 0 ≤ h) (h1 : h < 1000003) (k : Nat) (hk : 5 ≤ k) : spec_MixNumber.l0 k n h 0 = some (mix4 n h) := by
  obtain ⟨k, rfl⟩ : ∃ m, k = m + 1 + 1 + 1 + 1 + 1 := ⟨k - 5, by omega⟩
  have a1 : wrap64 (0 + 1) = 1 := by rw [w64 (by omega) (by omega)]; rfl
  have a2 : wrap64 (1 + 1) = 2 := by rw [w64 (by omega) (by omega)]; rfl
  have a3 : wrap64 (2 + 1) = 3 := by rw [w64 (by omega) (by omega)]; rfl
  have a4 : wrap64 (3 + 1) = 4 := by rw [w64 (by omega) (by omega)]; rfl
  have b1 := mixStep_bounds n h
  have b2 := mixStep_bounds (n / 256) (mixStep n h)
  have b3 := mixStep_bounds (n / 256 / 256) (mixStep (n / 256) (mixStep n h))
  simp only [spec_MixNumber.l0]
  rw [a1, a2, a3, a4, if_pos (by decide), if_pos (by decide), if_pos (by decide), if_pos (by decide), if_neg (by decide)]
  rw [mix_down n hn hm, mix_down (n / 256) (by omega) (by omega), mix_down (n / 256 / 256) (by omega) (by omega)]
  rw [mix_round n h h0 h1 hn, mix_round (n / 256) _ b1.1 b1.2 (by omega), mix_round (n / 256 / 256) _ b2.1 b2.2 (by omega), mix_round (n / 256 / 256 / 256) _ b3.1 b3.2 (by omega)]
  rfl
theorem spec_MixNumber_is (n salt : Int) (k : Nat) (hk : 5 ≤ k) : spec_MixNumber.f k n salt = some (mix n salt) := by
  unfold spec_MixNumber.f spec_l3Mod.f
  rw [if_neg (by decide), if_neg (by decide), mod_is salt 10007 (by decide) (by decide), mod_is n 4294967296 (by decide) (by decide)]
  simp only [Option.bind_some]
  rw [w64 (by omega) (by omega)]
  exact spec_MixNumber_l0 _ _ (by omega) (by omega) (by omega) (by omega) k hk
theorem impl_MixNumber_l0 (n h : Int) (hn : 0 ≤ n) (hm : n ≤ 4294967296) (h0 : 0 ≤ h) (h1 : h < 1000003) (k : Nat) (hk : 5 ≤ k) : impl_MixNumber.l0 k n h 0 = some (mix4 n h) := by
  obtain ⟨k, rfl⟩ : ∃ m, k = m + 1 + 1 + 1 + 1 + 1 := ⟨k - 5, by omega⟩
  have a1 : wrap64 (0 + 1) = 1 := by rw [w64 (by omega) (by omega)]; rfl
  have a2 : wrap64 (1 + 1) = 2 := by rw [w64 (by omega) (by omega)]; rfl
  have a3 : wrap64 (2 + 1) = 3 := by rw [w64 (by omega) (by omega)]; rfl
  have a4 : wrap64 (3 + 1) = 4 := by rw [w64 (by omega) (by omega)]; rfl
  have b1 := mixStep_bounds n h
  have b2 := mixStep_bounds (n / 256) (mixStep n h)
  have b3 := mixStep_bounds (n / 256 / 256) (mixStep (n / 256) (mixStep n h))
  simp only [impl_MixNumber.l0]
  rw [a1, a2, a3, a4, if_pos (by decide), if_pos (by decide), if_pos (by decide), if_pos (by decide), if_neg (by decide)]
  rw [mix_down n hn hm, mix_down (n / 256) (by omega) (by omega), mix_down (n / 256 / 256) (by omega) (by omega)]
  rw [mix_round n h h0 h1 hn, mix_round (n / 256) _ b1.1 b1.2 (by omega), mix_round (n / 256 / 256) _ b2.1 b2.2 (by omega), mix_round (n / 256 / 256 / 256) _ b3.1 b3.2 (by omega)]
  rfl
theorem impl_MixNumber_is (n salt : Int) (k : Nat) (hk : 5 ≤ k) : impl_MixNumber.f k n salt = some (mix n salt) := by
  unfold impl_MixNumber.f impl_rest.f
  rw [if_neg (by decide), if_neg (by decide), mod_is salt 10007 (by decide) (by decide), mod_is n 4294967296 (by decide) (by decide)]
  simp only [Option.bind_some]
  rw [w64 (by omega) (by omega)]
  exact impl_MixNumber_l0 _ _ (by omega) (by omega) (by omega) (by omega) k hk
theorem FnExactMixNumber : laws_FnExactMixNumber.Pure := by
  intro a b _ _
  refine ⟨5, ?_⟩
  unfold laws_FnExactMixNumber.f
  rw [spec_MixNumber_is a b 5 (by omega), impl_MixNumber_is a b 5 (by omega)]
  simp only [Option.bind_some, if_true]
end Go.Proofs.Ytbnbbcmjgeaidaa.Pure
