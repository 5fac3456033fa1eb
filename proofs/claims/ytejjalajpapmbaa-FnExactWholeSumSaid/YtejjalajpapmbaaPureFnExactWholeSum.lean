/- WHAT THIS TEXT PROVES: the pure statement of the law FnExactWholeSum, over plain functions on numbers and lists. No condition beyond the statement's own. -/
import Derived.Test.YtejjalajpapmbaaQFnExactWholeSumx2
import Derived.Laws.BitsLemmas
import Derived.IntWalk
namespace Go.Proofs.Ytejjalajpapmbaa.Pure
open Go.RowKit Go.Proofs.Ytejjalajpapmbaa.QFnExactWholeSum Go.Proofs.YtejjalajpapmbaaW.PrintWords Go.Proofs.YtejjalajpapmbaaW.PrintLast Go.Proofs.YtejjalajpapmbaaW.PrintMore
set_option linter.unusedVariables false
set_option linter.unusedSimpArgs false
theorem w64 {n : Int} (h0 : -9223372036854775808 ≤ n) (h1 : n ≤ 9223372036854775807) : wrap64 n = n := by unfold wrap64; omega
theorem w64n (i : Nat) (h : i < 9223372036854775807) : wrap64 ((i : Int) + 1) = ((i + 1 : Nat) : Int) := by
  rw [w64 (by omega) (by omega)]; omega
theorem rd_nat (xs : List Int) (i : Nat) : rd xs (i : Int) = xs.getD i 0 := by simp [rd]
theorem at_succ {k d : Nat} (h : d < k) : ∃ m, k = m + 1 := ⟨k - 1, by omega⟩
theorem drop_cons (xs : List Int) (i : Nat) (h : i < xs.length) : xs.drop i = xs.getD i 0 :: xs.drop (i + 1) := by
  rw [List.drop_eq_getElem_cons h]; simp [List.getD, h]
theorem set_take (x0 x3 : List Int) (i : Nat) (hl : x3.length = x0.length) (hi : i < x0.length) (ht : x3.take i = x0.take i) :
    (x3.set i (x0.getD i 0)).take (i + 1) = x0.take (i + 1) := by
  apply List.ext_getElem?
  intro j
  by_cases hj : j < i
  · have h1 := congrArg (fun l : List Int => l[j]?) ht
    simp only [List.getElem?_take, hj, if_true] at h1
    simp only [List.getElem?_take, show j < i + 1 by omega, if_true]
    rw [List.getElem?_set_ne (by omega)]; exact h1
  · by_cases e : j = i
    · subst e
      simp only [List.getElem?_take, show j < j + 1 by omega, if_true]
      rw [List.getElem?_set_self (by omega)]
      simp [List.getD, hi]
    · simp only [List.getElem?_take, show ¬ j < i + 1 by omega, if_false]
theorem bind_s {α β : Type} (a : α) (f : α → Option β) : (some a).bind f = f a := Eq.trans (Option.bind_some a f) (Eq.refl _)
theorem wf_i64 {n : Int} (h : (Lit.int .i64 n).wf = true) : -9223372036854775808 ≤ n ∧ n ≤ 9223372036854775807 := by
  simp only [Lit.wf, IntKind.min, IntKind.max, IntKind.signed, IntKind.bits, Bool.and_eq_true, decide_eq_true_eq, if_true] at h
  omega
theorem wf_u8 {n : Int} (h : (Lit.int .u8 n).wf = true) : 0 ≤ n ∧ n ≤ 255 := by
  simpa [Lit.wf, IntKind.min, IntKind.max, IntKind.signed, IntKind.bits] using h
def IsBytes (xs : List Int) : Prop := ∀ x ∈ xs, 0 ≤ x ∧ x ≤ 255
theorem IsBytes.of {xs : List Int} (h : ∀ x ∈ xs, (Lit.int .u8 x).wf = true) : IsBytes xs := fun x hx => wf_u8 (h x hx)
theorem IsBytes.at_ {xs : List Int} (h : IsBytes xs) (i : Nat) : 0 ≤ xs.getD i 0 ∧ xs.getD i 0 ≤ 255 := by
  by_cases hi : i < xs.length
  · have : xs.getD i 0 = xs[i] := by simp [List.getD, hi]
    rw [this]; exact h _ (List.getElem_mem hi)
  · rw [List.getD_eq_getElem?_getD, List.getElem?_eq_none (by omega)]; simp
theorem IsBytes.take_ {xs : List Int} (h : IsBytes xs) (i : Nat) : IsBytes (xs.take i) := fun x hx => h x (List.mem_of_mem_take hx)
theorem IsBytes.drop_ {xs : List Int} (h : IsBytes xs) (i : Nat) : IsBytes (xs.drop i) := fun x hx => h x (List.mem_of_mem_drop hx)
theorem IsBytes.append {xs ys : List Int} (h : IsBytes xs) (k : IsBytes ys) : IsBytes (xs ++ ys) := fun x hx => (List.mem_append.1 hx).elim (h x) (k x)
open Go.Proofs.Ytejjalajpapmbaa.SumWords Go.Proofs.Ytejjalajpapmbaa.Chunk
theorem IsBytes.in_ {l : List Int} (h : IsBytes l) : inBytes l := h
/-- The sum over the first k words. -/
def sumsN (l : List Int) : Nat → Int
  | 0 => 0
  | k + 1 => add1 (sumsN l k) (word l k)
theorem sums_take (l : List Int) : ∀ k, k ≤ (l.length + 1) / 2 → sums l ((all ((l.length + 1) / 2)).take k) = sumsN l k := by
  intro k
  induction k with
  | zero => intro _; simp [sums, sumsN]
  | succ k ih => intro h; rw [all_take _ k (by omega), sums_snoc, ih (by omega)]; rfl
theorem sumW_N (l : List Int) : sumW l = 65535 - sumsN l ((l.length + 1) / 2) := by
  unfold sumW
  rw [← sums_take l _ (Nat.le_refl _), List.take_of_length_le (by rw [all_length]; exact Nat.le_refl _)]
theorem sumsN_bounds (l : List Int) (h : IsBytes l) (k : Nat) (hk : k ≤ (l.length + 1) / 2) : 0 ≤ sumsN l k ∧ sumsN l k ≤ 65535 := by
  rw [← sums_take l k hk]; exact sums_bounds l h.in_ _
theorem sumW_bounds (l : List Int) (h : IsBytes l) : 0 ≤ sumW l ∧ sumW l ≤ 65535 := by
  have := sumsN_bounds l h _ (Nat.le_refl _)
  rw [sumW_N]; omega
theorem sumF_is (l : List Int) (h : IsBytes l) (hn : l.length ≤ 1099511627776) : sumF l = some (sumW l) := by
  unfold sumF; rw [if_pos (okB_mk h.in_ hn)]
theorem impl_SumWords_is (l : List Int) (h : IsBytes l) (hn : l.length ≤ 1099511627776) (k : Nat) : impl_SumWords.f k l = some (sumW l) := sumF_is l h hn
theorem spec_SumWords_l0 (x0 : List Int) (hb : IsBytes x0) (hn : x0.length ≤ 1099511627776) : ∀ (d k i : Nat), i + d = (x0.length + 1) / 2 → 4 * d + 1 ≤ k →
    spec_SumWords.l0 k x0 (sumsN x0 i) ((2 * i : Nat) : Int) = some (sumW x0) := by
  intro d
  induction d with
  | zero =>
    intro k i hi hk
    obtain ⟨k, rfl⟩ : ∃ m, k = m + 1 := ⟨k - 1, by omega⟩
    have hs := sumsN_bounds x0 hb i (by omega)
    simp only [spec_SumWords.l0]
    rw [if_neg (by omega), w64 (by omega) (by omega), sumW_N, show i = (x0.length + 1) / 2 by omega]
  | succ d ih =>
    intro k i hi hk
    obtain ⟨k, rfl⟩ : ∃ m, k = m + 1 + 1 + 1 + 1 := ⟨k - 4, by omega⟩
    have hs := sumsN_bounds x0 hb i (by omega)
    have hs1 := sumsN_bounds x0 hb (i + 1) (by omega)
    have b0 := hb.at_ (2 * i)
    have b1 := hb.at_ (2 * i + 1)
    have hnext := fun m (hm : 4 * d + 1 ≤ m) => ih m (i + 1) (by omega) hm
    have he : sumsN x0 (i + 1) = add1 (sumsN x0 i) (word x0 i) := rfl
    have h2 : wrap64 (((2 * i : Nat) : Int) + 1) = ((2 * i + 1 : Nat) : Int) := w64n _ (by omega)
    have h3 : wrap64 (((2 * i : Nat) : Int) + 2) = ((2 * (i + 1) : Nat) : Int) := by rw [w64 (by omega) (by omega)]; omega
    have fin : ∀ v, 0 ≤ v → v ≤ 131070 → sumsN x0 (i + 1) = (if v > 65535 then v - 65535 else v) → spec_SumWords.j1 (k + 1 + 1 + 1) x0 v ((2 * i : Nat) : Int) = some (sumW x0) := by
      intro v v0 v1 hv
      simp only [spec_SumWords.j1, spec_SumWords.l1]
      by_cases c : v > 65535
      · rw [if_pos c] at hv
        rw [if_pos c, w64 (n := v - 65535) (by omega) (by omega), if_neg (by omega), h3, ← hv]
        exact hnext k (by omega)
      · rw [if_neg c] at hv
        rw [if_neg c, h3, ← hv]
        exact hnext (k + 1) (by omega)
    rw [spec_SumWords.l0.eq_2]
    rw [if_pos (by omega), if_pos (by omega), h2, rd_nat, rd_nat]
    rw [w64 (n := x0.getD (2 * i) 0) (by omega) (by omega), w64 (n := 256 * x0.getD (2 * i) 0) (by omega) (by omega), w64 (n := sumsN x0 i + 256 * x0.getD (2 * i) 0) (by omega) (by omega)]
    by_cases c : 2 * i + 1 < x0.length
    · rw [if_pos (by omega), if_pos (by omega), w64 (n := x0.getD (2 * i + 1) 0) (by omega) (by omega), w64 (n := sumsN x0 i + 256 * x0.getD (2 * i) 0 + x0.getD (2 * i + 1) 0) (by omega) (by omega)]
      refine fin _ (by omega) (by omega) ?_
      rw [he]; unfold word add1
      rw [if_pos c, show sumsN x0 i + (x0.getD (2 * i) 0 * 256 + x0.getD (2 * i + 1) 0) = sumsN x0 i + 256 * x0.getD (2 * i) 0 + x0.getD (2 * i + 1) 0 by omega]
    · rw [if_neg (by omega)]
      refine fin _ (by omega) (by omega) ?_
      rw [he]; unfold word add1
      rw [if_neg c, show sumsN x0 i + x0.getD (2 * i) 0 * 256 = sumsN x0 i + 256 * x0.getD (2 * i) 0 by omega]
theorem spec_SumWords_is (l : List Int) (h : IsBytes l) (hn : l.length ≤ 1099511627776) (k : Nat) (hk : 2 * l.length + 3 ≤ k) : spec_SumWords.f k l = some (sumW l) := by
  unfold spec_SumWords.f
  exact spec_SumWords_l0 l h hn ((l.length + 1) / 2) k 0 (by omega) (by omega)
theorem toByteS_l0 (x0 : List Int) (hn : x0.length ≤ 1048576) : ∀ (d k i : Nat) (x3 : List Int), x3.length = x0.length → i + d = x0.length → d < k → x3.take i = x0.take i → laws_toByteS.l0 k x0 x3 (i : Int) = some x0 := by
  intro d
  induction d with
  | zero =>
    intro k i x3 hl hi hk ht
    obtain ⟨k, rfl⟩ := at_succ hk
    simp only [laws_toByteS.l0]
    rw [if_neg (by omega)]
    have : x3 = x0 := by
      rw [List.take_of_length_le (by omega), List.take_of_length_le (by omega)] at ht; exact ht
    rw [this]
  | succ d ih =>
    intro k i x3 hl hi hk ht
    obtain ⟨k, rfl⟩ := at_succ hk
    simp only [laws_toByteS.l0]
    rw [if_pos (by omega), if_pos (by omega), if_pos (by omega), w64n i (by omega), rd_nat, Int.toNat_natCast]
    exact ih k (i + 1) _ (by simp [hl]) (by omega) (by omega) (set_take x0 x3 i hl (by omega) ht)
theorem toByteS_self (l : List Int) (hn : l.length ≤ 1048576) (k : Nat) (hk : l.length < k) : laws_toByteS.f k l = some l := by
  unfold laws_toByteS.f
  rw [if_pos (by omega), if_pos (by omega)]
  exact toByteS_l0 l hn l.length k 0 _ (by simp) (by omega) hk (by simp)
theorem eqByteS_l0 (x0 : List Int) (hn : x0.length ≤ 1048576) : ∀ (d k i : Nat), i + d = x0.length → d < k → laws_eqByteS.l0 k x0 x0 (i : Int) = some true := by
  intro d
  induction d with
  | zero =>
    intro k i hi hk
    obtain ⟨k, rfl⟩ := at_succ hk
    simp only [laws_eqByteS.l0]
    rw [if_neg (by omega)]
  | succ d ih =>
    intro k i hi hk
    obtain ⟨k, rfl⟩ := at_succ hk
    simp only [laws_eqByteS.l0]
    rw [if_pos (by omega), if_pos (by omega), if_pos (by omega), w64n i (by omega)]
    simp only [if_true]
    exact ih k (i + 1) (by omega) (by omega)
theorem eqByteS_self (l : List Int) (hn : l.length ≤ 1048576) (k : Nat) (hk : l.length < k) : laws_eqByteS.f k l l = some true := by
  unfold laws_eqByteS.f
  rw [if_pos rfl]
  exact eqByteS_l0 l hn l.length k 0 (by omega) hk
theorem FnExactWholeSum : laws_FnExactWholeSum.Pure := by
  intro l _ _ hb
  have hb := IsBytes.of hb
  refine ⟨2 * l.length + 3, ?_⟩
  unfold laws_FnExactWholeSum.f spec_WholeSum.f impl_WholeSum.f
  by_cases h : (l.length : Int) > 1048576
  · rw [if_pos h]
  · rw [if_neg h, toByteS_self l (by omega) _ (by omega)]
    simp only [bind_s]
    rw [spec_SumWords_is l hb (by omega) _ (by omega), impl_SumWords_is l hb (by omega)]
    simp only [bind_s, bne_self_eq_false, Bool.false_eq_true, if_false]
    rw [eqByteS_self l (by omega) _ (by omega)]
    simp only [bind_s, if_true]
end Go.Proofs.Ytejjalajpapmbaa.Pure
