/- WHAT THIS TEXT PROVES: the pure statement of the law FnExactPermutation, over plain functions on numbers and lists. No condition beyond the statement's own. -/
import Derived.Test.YtaellhlkjjooiaaPFnExactPermutationx2
import Derived.Laws.BitsLemmas
import Derived.IntWalk
namespace Go.Proofs.Ytaellhlkjjooiaa.Pure
open Go.RowKit Go.Proofs.Ytaellhlkjjooiaa.PFnExactPermutation Go.Proofs.YtaellhlkjjooiaaW.PrintWords Go.Proofs.YtaellhlkjjooiaaW.PrintLast Go.Proofs.YtaellhlkjjooiaaW.PrintMore
set_option linter.unusedVariables false
set_option linter.unusedSimpArgs false
theorem w64 {n : Int} (h0 : -9223372036854775808 ≤ n) (h1 : n ≤ 9223372036854775807) : wrap64 n = n := by unfold wrap64; omega
theorem w64n (i : Nat) (h : i < 9223372036854775807) : wrap64 ((i : Int) + 1) = ((i + 1 : Nat) : Int) := by
  rw [w64 (by omega) (by omega)]; omega
theorem rd_nat (xs : List Int) (i : Nat) : rd xs (i : Int) = xs.getD i 0 := by simp [rd]
theorem at_succ {k d : Nat} (h : d < k) : ∃ m, k = m + 1 := ⟨k - 1, by omega⟩
theorem drop_cons (xs : List Int) (i : Nat) (h : i < xs.length) : xs.drop i = xs.getD i 0 :: xs.drop (i + 1) := by
  rw [List.drop_eq_getElem_cons h]; simp [List.getD, h]
theorem set_take (x0 x3 : List Int) (i : Nat) (hl : x3.length = x0.length) (hi : i < x0.length) (ht : x3.take i = x0.take i) :
    (x3.set i (x0.getD i 0)).take (i + 1) = x0.take (i + 1) := by
  apply List.ext_getElem?
  intro j
  by_cases hj : j < i
  · have h1 := congrArg (fun l : List Int => l[j]?) ht
    simp only [List.getElem?_take, hj, if_true] at h1
    simp only [List.getElem?_take, show j < i + 1 by omega, if_true]
    rw [List.getElem?_set_ne (by omega)]; exact h1
  · by_cases e : j = i
    · subst e
      simp only [List.getElem?_take, show j < j + 1 by omega, if_true]
      rw [List.getElem?_set_self (by omega)]
      simp [List.getD, hi]
    · simp only [List.getElem?_take, show ¬ j < i + 1 by omega, if_false]
theorem eqInt64S_l0 (x0 : List Int) (hn : x0.length ≤ 1048576) : ∀ (d k i : Nat), i + d = x0.length → d < k → laws_eqInt64S.l0 k x0 x0 (i : Int) = some true := by
  intro d
  induction d with
  | zero =>
    intro k i hi hk
    obtain ⟨k, rfl⟩ := at_succ hk
    simp only [laws_eqInt64S.l0]
    rw [if_neg (by omega)]
  | succ d ih =>
    intro k i hi hk
    obtain ⟨k, rfl⟩ := at_succ hk
    simp only [laws_eqInt64S.l0]
    rw [if_pos (by omega), if_pos (by omega), if_pos (by omega), w64n i (by omega)]
    simp only [if_true]
    exact ih k (i + 1) (by omega) (by omega)
theorem eqInt64S_self (l : List Int) (hn : l.length ≤ 1048576) (k : Nat) (hk : l.length < k) : laws_eqInt64S.f k l l = some true := by
  unfold laws_eqInt64S.f
  rw [if_pos rfl]
  exact eqInt64S_l0 l hn l.length k 0 (by omega) hk
theorem set_snocInt64S (x : List Int) (i : Nat) (v : Int) (h : i < x.length) : (x.set i v).take (i + 1) = x.take i ++ [v] := by
  apply List.ext_getElem?
  intro j
  by_cases hj : j < i
  · rw [List.getElem?_append_left (by rw [List.length_take]; omega)]
    simp only [List.getElem?_take, hj, show j < i + 1 by omega, if_true]
    rw [List.getElem?_set_ne (by omega)]
  · by_cases e : j = i
    · subst e
      rw [List.getElem?_append_right (by rw [List.length_take]; omega)]
      simp only [List.getElem?_take, show j < j + 1 by omega, if_true, List.length_take]
      rw [List.getElem?_set_self h, show j - min j x.length = 0 by omega]; rfl
    · simp only [List.getElem?_take, show ¬ j < i + 1 by omega, if_false]
      rw [List.getElem?_eq_none (by rw [List.length_append, List.length_take, List.length_singleton]; omega)]
def markedInt64S (a n : Nat) : List Int := (List.range n).map fun (j : Nat) => ((a + j : Nat) : Int)
theorem markedInt64S_succ (a n : Nat) : markedInt64S a (n + 1) = markedInt64S a n ++ [(fun (j : Nat) => ((a + j : Nat) : Int)) n] := by simp [markedInt64S, List.range_succ]
theorem markedInt64S_length (a n : Nat) : (markedInt64S a n).length = n := by simp [markedInt64S]
theorem markedInt64S_at (a n i : Nat) (h : i < n) : (markedInt64S a n).getD i 0 = (fun (j : Nat) => ((a + j : Nat) : Int)) i := by simp [markedInt64S, List.getD, h]
theorem markInt64S_l0 (n a : Nat) (hn : n ≤ 4194304) (ha : a ≤ 2000000000) : ∀ (d k i : Nat) (x : List Int), x.length = n → i + d = n → d < k → x.take i = markedInt64S a i → laws_markInt64S.l0 k x ((a + i : Nat) : Int) (i : Int) = some (((a + n : Nat) : Int), markedInt64S a n) := by
  intro d
  induction d with
  | zero =>
    intro k i x hl hi hk ht
    obtain ⟨k, rfl⟩ := at_succ hk
    simp only [laws_markInt64S.l0]
    rw [if_neg (by omega)]
    obtain rfl : i = n := by omega
    rw [List.take_of_length_le (by omega)] at ht
    rw [ht]
  | succ d ih =>
    intro k i x hl hi hk ht
    obtain ⟨k, rfl⟩ := at_succ hk
    simp only [laws_markInt64S.l0]
    rw [if_pos (by omega), if_pos (by omega), w64n i (by omega), w64n (a + i) (by omega), Int.toNat_natCast, show a + i + 1 = a + (i + 1) by omega]
    exact ih k (i + 1) _ (by simp [hl]) (by omega) (by omega) (by rw [set_snocInt64S x i _ (by omega), ht, markedInt64S_succ])
theorem markInt64S_is (l : List Int) (a : Nat) (hn : l.length ≤ 4194304) (ha : a ≤ 2000000000) (k : Nat) (hk : l.length < k) : laws_markInt64S.f k l (a : Int) = some (((a + l.length : Nat) : Int), markedInt64S a l.length) := by
  unfold laws_markInt64S.f
  exact markInt64S_l0 l.length a hn ha l.length k 0 l rfl (by omega) hk (by simp [markedInt64S])
theorem heldInt64S_l0 (n a : Nat) (hn : n ≤ 4194304) (ha : a ≤ 2000000000) : ∀ (d k i : Nat), i + d = n → d < k → laws_heldInt64S.l0 k (markedInt64S a n) ((a + i : Nat) : Int) (i : Int) = some ((a + n : Nat) : Int) := by
  intro d
  induction d with
  | zero =>
    intro k i hi hk
    obtain ⟨k, rfl⟩ := at_succ hk
    simp only [laws_heldInt64S.l0]
    rw [if_neg (by rw [markedInt64S_length]; omega), show i = n by omega]
  | succ d ih =>
    intro k i hi hk
    obtain ⟨k, rfl⟩ := at_succ hk
    simp only [laws_heldInt64S.l0]
    rw [if_pos (by rw [markedInt64S_length]; omega), if_pos (by omega), rd_nat, markedInt64S_at a n i (by omega)]
    rw [if_pos rfl, w64n i (by omega), w64n (a + i) (by omega), show a + i + 1 = a + (i + 1) by omega]
    exact ih k (i + 1) (by omega) (by omega)
theorem heldInt64S_is (n a : Nat) (hn : n ≤ 4194304) (ha : a ≤ 2000000000) (k : Nat) (hk : n < k) : laws_heldInt64S.f k (markedInt64S a n) (a : Int) = some ((a + n : Nat) : Int) := by
  unfold laws_heldInt64S.f
  exact heldInt64S_l0 n a hn ha n k 0 (by omega) hk
theorem eqIntsResult_self (c : Int) (l : List Int) (hn : l.length ≤ 1048576) (k : Nat) (hk : l.length < k) : laws_eqIntsResult.f k c l c l = some true := by
  unfold laws_eqIntsResult.f
  rw [if_pos rfl, eqInt64S_self l hn k hk]; rfl
theorem markIntsResult_is (c : Int) (l : List Int) (hn : l.length ≤ 1048576) (k : Nat) (hk : l.length < k) : laws_markIntsResult.f k c l 1 = some (((1 + l.length : Nat) : Int), markedInt64S 1 l.length) := by
  unfold laws_markIntsResult.f
  rw [show (1 : Int) = ((1 : Nat) : Int) from rfl, markInt64S_is l 1 (by omega) (by omega) k hk]; rfl
theorem heldIntsResult_is (c : Int) (n : Nat) (hn : n ≤ 1048576) (k : Nat) (hk : n < k) : laws_heldIntsResult.f k c (markedInt64S 1 n) 1 = some ((1 + n : Nat) : Int) := by
  unfold laws_heldIntsResult.f
  rw [show (1 : Int) = ((1 : Nat) : Int) from rfl, heldInt64S_is n 1 (by omega) (by omega) k hk]
  simp only [Option.bind_some]
  rw [if_neg (by omega)]
def mixStep (n h : Int) : Int := (h * 131 + n % 256 + 1) % 1000003
def mix4 (n h : Int) : Int := mixStep (n / 256 / 256 / 256) (mixStep (n / 256 / 256) (mixStep (n / 256) (mixStep n h)))
def mix (n salt : Int) : Int := mix4 (n % 4294967296) (salt % 10007 + 11)
theorem mixStep_bounds (n h : Int) : 0 ≤ mixStep n h ∧ mixStep n h < 1000003 := by unfold mixStep; omega
theorem mix_bounds (n salt : Int) : 0 ≤ mix n salt ∧ mix n salt < 1000003 := mixStep_bounds _ _
theorem mod_is (n m : Int) (h : 0 < m) (hm : m ≤ 4294967296) : Int.tmod (wrap64 (Int.tmod n m + m)) m = n % m := by
  have h1 : -m < Int.tmod n m := by
    have := Int.lt_tmod_of_pos n h; omega
  have h2 : Int.tmod n m < m := Int.tmod_lt_of_pos n h
  rw [w64 (by omega) (by omega), Int.tmod_eq_emod_of_nonneg (by omega), Int.add_emod_right]
  have := Int.mul_tdiv_add_tmod n m
  have e : n = Int.tmod n m + m * Int.tdiv n m := by omega
  conv => rhs; rw [e]
  rw [Int.add_mul_emod_self_left]
theorem mix_round (n h : Int) (h0 : 0 ≤ h) (h1 : h < 1000003) (hn : 0 ≤ n) :
    Int.tmod (wrap64 (wrap64 (wrap64 (h * 131) + Int.tmod n 256) + 1)) 1000003 = mixStep n h := by
  have a := Int.tmod_eq_emod_of_nonneg (b := 256) hn
  rw [a, w64 (n := h * 131) (by omega) (by omega), w64 (n := h * 131 + n % 256) (by omega) (by omega), w64 (by omega) (by omega), Int.tmod_eq_emod_of_nonneg (by omega)]
  rfl
theorem mix_down (n : Int) (hn : 0 ≤ n) (h1 : n ≤ 4294967296) : wrap64 (Int.tdiv n 256) = n / 256 := by
  rw [Int.tdiv_eq_ediv_of_nonneg hn, w64 (by omega) (by omega)]
theorem spec_MixNumber_l0 (n h : Int) (hn : 0 ≤ n) (hm : n ≤ 4294967296) (h0 : 0 ≤ h) (h1 : h < 1000003) (k : Nat) (hk : 5 ≤ k) : spec_MixNumber.l0 k n h 0 = some (mix4 n h) := by
  obtain ⟨k, rfl⟩ : ∃ m, k = m + 1 + 1 + 1 + 1 + 1 := ⟨k - 5, by omega⟩
  have a1 : wrap64 (0 + 1) = 1 := by rw [w64 (by omega) (by omega)]; rfl
  have a2 : wrap64 (1 + 1) = 2 := by rw [w64 (by omega) (by omega)]; rfl
  have a3 : wrap64 (2 + 1) = 3 := by rw [w64 (by omega) (by omega)]; rfl
  have a4 : wrap64 (3 + 1) = 4 := by rw [w64 (by omega) (by omega)]; rfl
  have b1 := mixStep_bounds n h
  have b2 := mixStep_bounds (n / 256) (mixStep n h)
  have b3 := mixStep_bounds (n / 256 / 256) (mixStep (n / 256) (mixStep n h))
  simp only [spec_MixNumber.l0]
  rw [a1, a2, a3, a4, if_pos (by decide), if_pos (by decide), if_pos (by decide), if_pos (by decide), if_neg (by decide)]
  rw [mix_down n hn hm, mix_down (n / 256) (by omega) (by omega), mix_down (n / 256 / 256) (by omega) (by omega)]
  rw [mix_round n h h0 h1 hn, mix_round (n / 256) _ b1.1 b1.2 (by omega), mix_round (n / 256 / 256) _ b2.1 b2.2 (by omega), mix_round (n / 256 / 256 / 256) _ b3.1 b3.2 (by omega)]
  rfl
theorem spec_MixNumber_is (n salt : Int) (k : Nat) (hk : 5 ≤ k) : spec_MixNumber.f k n salt = some (mix n salt) := by
  unfold spec_MixNumber.f spec_l3Mod.f
  rw [if_neg (by decide), if_neg (by decide), mod_is salt 10007 (by decide) (by decide), mod_is n 4294967296 (by decide) (by decide)]
  simp only [Option.bind_some]
  rw [w64 (by omega) (by omega)]
  exact spec_MixNumber_l0 _ _ (by omega) (by omega) (by omega) (by omega) k hk
theorem impl_MixNumber_l0 (n h : Int) (hn : 0 ≤ n) (hm : n ≤ 4294967296) (h0 : 0 ≤ h) (h1 : h < 1000003) (k : Nat) (hk : 5 ≤ k) : impl_MixNumber.l0 k n h 0 = some (mix4 n h) := by
  obtain ⟨k, rfl⟩ : ∃ m, k = m + 1 + 1 + 1 + 1 + 1 := ⟨k - 5, by omega⟩
  have a1 : wrap64 (0 + 1) = 1 := by rw [w64 (by omega) (by omega)]; rfl
  have a2 : wrap64 (1 + 1) = 2 := by rw [w64 (by omega) (by omega)]; rfl
  have a3 : wrap64 (2 + 1) = 3 := by rw [w64 (by omega) (by omega)]; rfl
  have a4 : wrap64 (3 + 1) = 4 := by rw [w64 (by omega) (by omega)]; rfl
  have b1 := mixStep_bounds n h
  have b2 := mixStep_bounds (n / 256) (mixStep n h)
  have b3 := mixStep_bounds (n / 256 / 256) (mixStep (n / 256) (mixStep n h))
  simp only [impl_MixNumber.l0]
  rw [a1, a2, a3, a4, if_pos (by decide), if_pos (by decide), if_pos (by decide), if_pos (by decide), if_neg (by decide)]
  rw [mix_down n hn hm, mix_down (n / 256) (by omega) (by omega), mix_down (n / 256 / 256) (by omega) (by omega)]
  rw [mix_round n h h0 h1 hn, mix_round (n / 256) _ b1.1 b1.2 (by omega), mix_round (n / 256 / 256) _ b2.1 b2.2 (by omega), mix_round (n / 256 / 256 / 256) _ b3.1 b3.2 (by omega)]
  rfl
theorem impl_MixNumber_is (n salt : Int) (k : Nat) (hk : 5 ≤ k) : impl_MixNumber.f k n salt = some (mix n salt) := by
  unfold impl_MixNumber.f impl_rest.f
  rw [if_neg (by decide), if_neg (by decide), mod_is salt 10007 (by decide) (by decide), mod_is n 4294967296 (by decide) (by decide)]
  simp only [Option.bind_some]
  rw [w64 (by omega) (by omega)]
  exact impl_MixNumber_l0 _ _ (by omega) (by omega) (by omega) (by omega) k hk
def off (name : Int) : Int := mix name 3 % 31
def skp (name : Int) : Int := 1 + mix name 5 % 30
def place (name : Int) (k : Nat) : Int := (off name + k * skp name) % 31
def perm (name : Int) : List Int := (List.range 31).map (place name)
theorem off_bounds (name : Int) : 0 ≤ off name ∧ off name < 31 := by unfold off; omega
theorem skp_bounds (name : Int) : 1 ≤ skp name ∧ skp name ≤ 30 := by unfold skp; omega
theorem perm_length (name : Int) : (perm name).length = 31 := by simp [perm]
theorem place_is (name : Int) (k : Nat) (hk : k ≤ 40) : Int.tmod (wrap64 (off name + wrap64 ((k : Int) * skp name))) 31 = place name k := by
  have h1 := off_bounds name
  have h2 := skp_bounds name
  have h3 : (k : Int) * skp name ≤ 40 * 30 := Int.mul_le_mul (by omega) h2.2 (by omega) (by omega)
  have h4 : 0 ≤ (k : Int) * skp name := Int.mul_nonneg (by omega) (by omega)
  rw [w64 (n := (k : Int) * skp name) (by omega) (by omega), w64 (by omega) (by omega), Int.tmod_eq_emod_of_nonneg (by omega)]
  rfl
def permR (name : Int) : Int × List Int := if 1 ≤ name ∧ name ≤ 999 then (0, perm name) else (3, [])
theorem permR_length (name : Int) : (permR name).2.length ≤ 31 := by
  unfold permR
  split
  · rw [perm_length]; exact Nat.le_refl _
  · simp
theorem impl_offset_is (name : Int) (k : Nat) (hk : 5 ≤ k) : impl_offset.f k name = some (off name) := by
  unfold impl_offset.f off
  have h := mix_bounds name 3
  rw [impl_MixNumber_is name 3 k hk, Option.bind_some, Int.tmod_eq_emod_of_nonneg h.1]
theorem impl_skip_is (name : Int) (k : Nat) (hk : 5 ≤ k) : impl_skip.f k name = some (skp name) := by
  unfold impl_skip.f skp
  have h := mix_bounds name 5
  rw [impl_MixNumber_is name 5 k hk, Option.bind_some, Int.tmod_eq_emod_of_nonneg h.1, w64 (by omega) (by omega)]
theorem impl_permutation_l0 (name : Int) : ∀ (d k i : Nat) (out : List Int), i + d = 31 → d + 6 ≤ k → out = (List.range i).map (place name) → impl_permutation.l0 k name out (i : Int) = some (perm name) := by
  intro d
  induction d with
  | zero =>
    intro k i out hi hk ho
    obtain ⟨k, rfl⟩ : ∃ m, k = m + 1 := ⟨k - 1, by omega⟩
    simp only [impl_permutation.l0]
    obtain rfl : i = 31 := by omega
    rw [if_neg (by omega), ho]; rfl
  | succ d ih =>
    intro k i out hi hk ho
    obtain ⟨k, rfl⟩ : ∃ m, k = m + 1 := ⟨k - 1, by omega⟩
    simp only [impl_permutation.l0]
    have hl : out.length = i := by rw [ho]; simp
    rw [if_pos (by omega), impl_offset_is name k (by omega), Option.bind_some, impl_skip_is name k (by omega), Option.bind_some, if_pos (by omega), place_is name i (by omega), w64n i (by omega)]
    exact ih k (i + 1) _ (by omega) (by omega) (by rw [ho, List.range_succ]; simp)
theorem impl_permutation_is (name : Int) (k : Nat) (hk : 40 ≤ k) : impl_permutation.f k name = some (perm name) := by
  unfold impl_permutation.f
  exact impl_permutation_l0 name 31 k 0 [] (by omega) (by omega) rfl
theorem impl_Permutation_is (name : Int) (k : Nat) (hk : 40 ≤ k) : impl_Permutation.f k name = some (permR name) := by
  unfold impl_Permutation.f impl_isName.f impl_in.f permR
  by_cases h1 : name ≥ 1
  · by_cases h2 : name ≤ 999
    · rw [if_pos h1, decide_eq_true h2, Option.bind_some, Option.bind_some, if_pos rfl, impl_permutation_is name k hk, if_pos ⟨h1, h2⟩]; rfl
    · rw [if_pos h1, decide_eq_false h2, Option.bind_some, Option.bind_some, if_neg (by decide), if_neg (by omega)]
  · rw [if_neg h1, Option.bind_some, Option.bind_some, if_neg (by decide), if_neg (by omega)]
theorem spec_l3Offset_is (name : Int) (k : Nat) (hk : 5 ≤ k) : spec_l3Offset.f k name = some (off name) := by
  unfold spec_l3Offset.f off
  have h := mix_bounds name 3
  rw [spec_MixNumber_is name 3 k hk, Option.bind_some, Int.tmod_eq_emod_of_nonneg h.1]
theorem spec_l3Skip_is (name : Int) (k : Nat) (hk : 5 ≤ k) : spec_l3Skip.f k name = some (skp name) := by
  unfold spec_l3Skip.f skp
  have h := mix_bounds name 5
  rw [spec_MixNumber_is name 5 k hk, Option.bind_some, Int.tmod_eq_emod_of_nonneg h.1, w64 (by omega) (by omega)]
theorem spec_l3Place_is (name : Int) (i : Nat) (hi : i ≤ 40) (k : Nat) (hk : 5 ≤ k) : spec_l3Place.f k name (i : Int) = some (place name i) := by
  unfold spec_l3Place.f
  rw [spec_l3Offset_is name k hk, Option.bind_some, spec_l3Skip_is name k hk, Option.bind_some, place_is name i hi]
theorem spec_Permutation_l0 (name : Int) : ∀ (d k i : Nat) (out : List Int), i + d = 31 → d + 6 ≤ k → out = (List.range i).map (place name) → spec_Permutation.l0 k name (i : Int) 0 out = some (0, perm name) := by
  intro d
  induction d with
  | zero =>
    intro k i out hi hk ho
    obtain ⟨k, rfl⟩ : ∃ m, k = m + 1 := ⟨k - 1, by omega⟩
    simp only [spec_Permutation.l0]
    obtain rfl : i = 31 := by omega
    rw [if_neg (by omega), ho]; rfl
  | succ d ih =>
    intro k i out hi hk ho
    obtain ⟨k, rfl⟩ : ∃ m, k = m + 1 := ⟨k - 1, by omega⟩
    simp only [spec_Permutation.l0]
    have hl : out.length = i := by rw [ho]; simp
    rw [if_pos (by omega), spec_l3Place_is name i (by omega) k (by omega), Option.bind_some, if_pos (by omega), w64n i (by omega)]
    exact ih k (i + 1) _ (by omega) (by omega) (by rw [ho, List.range_succ]; simp)
theorem spec_Permutation_is (name : Int) (k : Nat) (hk : 40 ≤ k) : spec_Permutation.f k name = some (permR name) := by
  unfold spec_Permutation.f spec_l3Name.f spec_l1In.f permR
  by_cases h1 : name ≥ 1
  · by_cases h2 : name ≤ 999
    · rw [if_pos h1, decide_eq_true h2, Option.bind_some, Option.bind_some, if_pos rfl, if_pos ⟨h1, h2⟩]
      exact spec_Permutation_l0 name 31 k 0 [] (by omega) (by omega) rfl
    · rw [if_pos h1, decide_eq_false h2, Option.bind_some, Option.bind_some, if_neg (by decide), if_neg (by omega)]
  · rw [if_neg h1, Option.bind_some, Option.bind_some, if_neg (by decide), if_neg (by omega)]
theorem FnExactPermutation : laws_FnExactPermutation.Pure := by
  intro n _
  refine ⟨60, ?_⟩
  unfold laws_FnExactPermutation.f
  have hl := permR_length n
  rw [spec_Permutation_is n 60 (by omega), impl_Permutation_is n 60 (by omega)]
  simp only [Option.bind_some]
  rw [eqIntsResult_self _ _ (by omega) 60 (by omega), markIntsResult_is _ _ (by omega) 60 (by omega)]
  simp only [Option.bind_some, if_true]
  rw [heldIntsResult_is _ _ (by omega) 60 (by omega)]
  simp only [Option.bind_some, if_true]
  rw [if_neg (by omega), if_neg (by omega)]
end Go.Proofs.Ytaellhlkjjooiaa.Pure
