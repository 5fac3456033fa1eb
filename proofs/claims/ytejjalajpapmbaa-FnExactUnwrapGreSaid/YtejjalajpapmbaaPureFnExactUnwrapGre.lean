/- WHAT THIS TEXT PROVES: the pure statement of the law FnExactUnwrapGre, over plain functions on numbers and lists. No condition beyond the statement's own. -/
import Derived.Test.YtejjalajpapmbaaQFnExactUnwrapGrex5
import Derived.Laws.BitsLemmas
import Derived.IntWalk
namespace Go.Proofs.Ytejjalajpapmbaa.Pure
open Go.RowKit Go.Proofs.Ytejjalajpapmbaa.QFnExactUnwrapGre Go.Proofs.YtejjalajpapmbaaW.PrintWords Go.Proofs.YtejjalajpapmbaaW.PrintLast Go.Proofs.YtejjalajpapmbaaW.PrintMore
set_option linter.unusedVariables false
set_option linter.unusedSimpArgs false
theorem w64 {n : Int} (h0 : -9223372036854775808 ≤ n) (h1 : n ≤ 9223372036854775807) : wrap64 n = n := by unfold wrap64; omega
theorem w64n (i : Nat) (h : i < 9223372036854775807) : wrap64 ((i : Int) + 1) = ((i + 1 : Nat) : Int) := by
  rw [w64 (by omega) (by omega)]; omega
theorem rd_nat (xs : List Int) (i : Nat) : rd xs (i : Int) = xs.getD i 0 := by simp [rd]
theorem at_succ {k d : Nat} (h : d < k) : ∃ m, k = m + 1 := ⟨k - 1, by omega⟩
theorem drop_cons (xs : List Int) (i : Nat) (h : i < xs.length) : xs.drop i = xs.getD i 0 :: xs.drop (i + 1) := by
  rw [List.drop_eq_getElem_cons h]; simp [List.getD, h]
theorem set_take (x0 x3 : List Int) (i : Nat) (hl : x3.length = x0.length) (hi : i < x0.length) (ht : x3.take i = x0.take i) :
    (x3.set i (x0.getD i 0)).take (i + 1) = x0.take (i + 1) := by
  apply List.ext_getElem?
  intro j
  by_cases hj : j < i
  · have h1 := congrArg (fun l : List Int => l[j]?) ht
    simp only [List.getElem?_take, hj, if_true] at h1
    simp only [List.getElem?_take, show j < i + 1 by omega, if_true]
    rw [List.getElem?_set_ne (by omega)]; exact h1
  · by_cases e : j = i
    · subst e
      simp only [List.getElem?_take, show j < j + 1 by omega, if_true]
      rw [List.getElem?_set_self (by omega)]
      simp [List.getD, hi]
    · simp only [List.getElem?_take, show ¬ j < i + 1 by omega, if_false]
theorem bind_s {α β : Type} (a : α) (f : α → Option β) : (some a).bind f = f a := Eq.trans (Option.bind_some a f) (Eq.refl _)
theorem wf_i64 {n : Int} (h : (Lit.int .i64 n).wf = true) : -9223372036854775808 ≤ n ∧ n ≤ 9223372036854775807 := by
  simp only [Lit.wf, IntKind.min, IntKind.max, IntKind.signed, IntKind.bits, Bool.and_eq_true, decide_eq_true_eq, if_true] at h
  omega
theorem wf_u8 {n : Int} (h : (Lit.int .u8 n).wf = true) : 0 ≤ n ∧ n ≤ 255 := by
  simpa [Lit.wf, IntKind.min, IntKind.max, IntKind.signed, IntKind.bits] using h
def IsBytes (xs : List Int) : Prop := ∀ x ∈ xs, 0 ≤ x ∧ x ≤ 255
theorem IsBytes.of {xs : List Int} (h : ∀ x ∈ xs, (Lit.int .u8 x).wf = true) : IsBytes xs := fun x hx => wf_u8 (h x hx)
theorem IsBytes.at_ {xs : List Int} (h : IsBytes xs) (i : Nat) : 0 ≤ xs.getD i 0 ∧ xs.getD i 0 ≤ 255 := by
  by_cases hi : i < xs.length
  · have : xs.getD i 0 = xs[i] := by simp [List.getD, hi]
    rw [this]; exact h _ (List.getElem_mem hi)
  · rw [List.getD_eq_getElem?_getD, List.getElem?_eq_none (by omega)]; simp
theorem IsBytes.take_ {xs : List Int} (h : IsBytes xs) (i : Nat) : IsBytes (xs.take i) := fun x hx => h x (List.mem_of_mem_take hx)
theorem IsBytes.drop_ {xs : List Int} (h : IsBytes xs) (i : Nat) : IsBytes (xs.drop i) := fun x hx => h x (List.mem_of_mem_drop hx)
theorem IsBytes.append {xs ys : List Int} (h : IsBytes xs) (k : IsBytes ys) : IsBytes (xs ++ ys) := fun x hx => (List.mem_append.1 hx).elim (h x) (k x)
def numFrom (n : Int) (xs : List Int) : Int := xs.foldl (fun n b => n * 256 + b) n
def num (xs : List Int) : Int := numFrom 0 xs
theorem numFrom_nil (n : Int) : numFrom n [] = n := rfl
theorem numFrom_cons (n x : Int) (xs : List Int) : numFrom n (x :: xs) = numFrom (n * 256 + x) xs := rfl
theorem numFrom_bounds : ∀ (xs : List Int) (n : Int) (p : Int), IsBytes xs → 0 ≤ n → n < p → 0 ≤ numFrom n xs ∧ numFrom n xs < p * 256 ^ xs.length
  | [], n, p, _, h0, h1 => by rw [numFrom_nil]; simpa using ⟨h0, h1⟩
  | x :: xs, n, p, hb, h0, h1 => by
    have hx := hb x (by simp)
    have := numFrom_bounds xs (n * 256 + x) (p * 256) (fun y hy => hb y (by simp [hy])) (by omega) (by omega)
    rw [numFrom_cons, List.length_cons, Int.pow_succ, Int.mul_comm (256 ^ xs.length) 256, ← Int.mul_assoc]
    exact this
theorem num_bounds (xs : List Int) (hb : IsBytes xs) : 0 ≤ num xs ∧ num xs < 256 ^ xs.length := by
  have := numFrom_bounds xs 0 1 hb (by omega) (by omega)
  rw [Int.one_mul] at this; exact this
theorem or_is (n b : Int) (h0 : 0 ≤ n) (h1 : n < 36028797018963968) (b0 : 0 ≤ b) (b1 : b ≤ 255) : Go.bits .or .i64 (wrap64 (n * 256)) (wrap64 b) = n * 256 + b := by
  rw [w64 (n := n * 256) (by omega) (by omega), w64 (n := b) (by omega) (by omega)]
  refine Go.bits_join .i64 63 (by decide) (fun m h0 h1 => ?_) 8 (n * 256) b (by omega) (by omega) (by omega) b0 (by omega) (by omega)
  rw [Go.IntWalk.i64_left]; exact w64 (by omega) (by omega)
theorem pow_small (j : Nat) (h : j ≤ 5) : (256 : Int) ^ j ≤ 1099511627776 := by
  have : j = 0 ∨ j = 1 ∨ j = 2 ∨ j = 3 ∨ j = 4 ∨ j = 5 := by omega
  rcases this with rfl | rfl | rfl | rfl | rfl | rfl <;> decide
theorem num_step (n b : Int) (j : Nat) (h0 : 0 ≤ n) (h1 : n < 256 ^ j) (hj : j ≤ 5) (b0 : 0 ≤ b) (b1 : b ≤ 255) : 0 ≤ n * 256 + b ∧ n * 256 + b < 256 ^ (j + 1) ∧ n < 1099511627776 := by
  have := pow_small j hj
  rw [Int.pow_succ]
  omega
open Go.Proofs.Ytejjalajpapmbaa.SumWords Go.Proofs.Ytejjalajpapmbaa.Chunk
theorem IsBytes.in_ {l : List Int} (h : IsBytes l) : inBytes l := h
/-- The sum over the first k words. -/
def sumsN (l : List Int) : Nat → Int
  | 0 => 0
  | k + 1 => add1 (sumsN l k) (word l k)
theorem sums_take (l : List Int) : ∀ k, k ≤ (l.length + 1) / 2 → sums l ((all ((l.length + 1) / 2)).take k) = sumsN l k := by
  intro k
  induction k with
  | zero => intro _; simp [sums, sumsN]
  | succ k ih => intro h; rw [all_take _ k (by omega), sums_snoc, ih (by omega)]; rfl
theorem sumW_N (l : List Int) : sumW l = 65535 - sumsN l ((l.length + 1) / 2) := by
  unfold sumW
  rw [← sums_take l _ (Nat.le_refl _), List.take_of_length_le (by rw [all_length]; exact Nat.le_refl _)]
theorem sumsN_bounds (l : List Int) (h : IsBytes l) (k : Nat) (hk : k ≤ (l.length + 1) / 2) : 0 ≤ sumsN l k ∧ sumsN l k ≤ 65535 := by
  rw [← sums_take l k hk]; exact sums_bounds l h.in_ _
theorem sumW_bounds (l : List Int) (h : IsBytes l) : 0 ≤ sumW l ∧ sumW l ≤ 65535 := by
  have := sumsN_bounds l h _ (Nat.le_refl _)
  rw [sumW_N]; omega
theorem sumF_is (l : List Int) (h : IsBytes l) (hn : l.length ≤ 1099511627776) : sumF l = some (sumW l) := by
  unfold sumF; rw [if_pos (okB_mk h.in_ hn)]
theorem impl_SumWords_is (l : List Int) (h : IsBytes l) (hn : l.length ≤ 1099511627776) (k : Nat) : impl_SumWords.f k l = some (sumW l) := sumF_is l h hn
theorem spec_SumWords_l0 (x0 : List Int) (hb : IsBytes x0) (hn : x0.length ≤ 1099511627776) : ∀ (d k i : Nat), i + d = (x0.length + 1) / 2 → 4 * d + 1 ≤ k →
    spec_SumWords.l0 k x0 (sumsN x0 i) ((2 * i : Nat) : Int) = some (sumW x0) := by
  intro d
  induction d with
  | zero =>
    intro k i hi hk
    obtain ⟨k, rfl⟩ : ∃ m, k = m + 1 := ⟨k - 1, by omega⟩
    have hs := sumsN_bounds x0 hb i (by omega)
    simp only [spec_SumWords.l0]
    rw [if_neg (by omega), w64 (by omega) (by omega), sumW_N, show i = (x0.length + 1) / 2 by omega]
  | succ d ih =>
    intro k i hi hk
    obtain ⟨k, rfl⟩ : ∃ m, k = m + 1 + 1 + 1 + 1 := ⟨k - 4, by omega⟩
    have hs := sumsN_bounds x0 hb i (by omega)
    have hs1 := sumsN_bounds x0 hb (i + 1) (by omega)
    have b0 := hb.at_ (2 * i)
    have b1 := hb.at_ (2 * i + 1)
    have hnext := fun m (hm : 4 * d + 1 ≤ m) => ih m (i + 1) (by omega) hm
    have he : sumsN x0 (i + 1) = add1 (sumsN x0 i) (word x0 i) := rfl
    have h2 : wrap64 (((2 * i : Nat) : Int) + 1) = ((2 * i + 1 : Nat) : Int) := w64n _ (by omega)
    have h3 : wrap64 (((2 * i : Nat) : Int) + 2) = ((2 * (i + 1) : Nat) : Int) := by rw [w64 (by omega) (by omega)]; omega
    have fin : ∀ v, 0 ≤ v → v ≤ 131070 → sumsN x0 (i + 1) = (if v > 65535 then v - 65535 else v) → spec_SumWords.j1 (k + 1 + 1 + 1) x0 v ((2 * i : Nat) : Int) = some (sumW x0) := by
      intro v v0 v1 hv
      simp only [spec_SumWords.j1, spec_SumWords.l1]
      by_cases c : v > 65535
      · rw [if_pos c] at hv
        rw [if_pos c, w64 (n := v - 65535) (by omega) (by omega), if_neg (by omega), h3, ← hv]
        exact hnext k (by omega)
      · rw [if_neg c] at hv
        rw [if_neg c, h3, ← hv]
        exact hnext (k + 1) (by omega)
    rw [spec_SumWords.l0.eq_2]
    rw [if_pos (by omega), if_pos (by omega), h2, rd_nat, rd_nat]
    rw [w64 (n := x0.getD (2 * i) 0) (by omega) (by omega), w64 (n := 256 * x0.getD (2 * i) 0) (by omega) (by omega), w64 (n := sumsN x0 i + 256 * x0.getD (2 * i) 0) (by omega) (by omega)]
    by_cases c : 2 * i + 1 < x0.length
    · rw [if_pos (by omega), if_pos (by omega), w64 (n := x0.getD (2 * i + 1) 0) (by omega) (by omega), w64 (n := sumsN x0 i + 256 * x0.getD (2 * i) 0 + x0.getD (2 * i + 1) 0) (by omega) (by omega)]
      refine fin _ (by omega) (by omega) ?_
      rw [he]; unfold word add1
      rw [if_pos c, show sumsN x0 i + (x0.getD (2 * i) 0 * 256 + x0.getD (2 * i + 1) 0) = sumsN x0 i + 256 * x0.getD (2 * i) 0 + x0.getD (2 * i + 1) 0 by omega]
    · rw [if_neg (by omega)]
      refine fin _ (by omega) (by omega) ?_
      rw [he]; unfold word add1
      rw [if_neg c, show sumsN x0 i + x0.getD (2 * i) 0 * 256 = sumsN x0 i + 256 * x0.getD (2 * i) 0 by omega]
theorem spec_SumWords_is (l : List Int) (h : IsBytes l) (hn : l.length ≤ 1099511627776) (k : Nat) (hk : 2 * l.length + 3 ≤ k) : spec_SumWords.f k l = some (sumW l) := by
  unfold spec_SumWords.f
  exact spec_SumWords_l0 l h hn ((l.length + 1) / 2) k 0 (by omega) (by omega)
theorem number_l0 (x0 : List Int) (hx : IsBytes x0) (hn : x0.length ≤ 6) :
    ∀ (d k j : Nat) (n : Int), j + d = x0.length → d < k → 0 ≤ n → n < 256 ^ j →
    impl_number.l0 k n x0 (x0.length : Int) (j : Int) = some (numFrom n (x0.drop j)) := by
  intro d
  induction d with
  | zero =>
    intro k j n hi hk h0 h1
    obtain ⟨k, rfl⟩ := at_succ hk
    simp only [impl_number.l0]
    rw [if_neg (by omega), List.drop_of_length_le (by omega), numFrom_nil]
  | succ d ih =>
    intro k j n hi hk h0 h1
    obtain ⟨k, rfl⟩ := at_succ hk
    have hb := hx.at_ j
    obtain ⟨s0, s1, s2⟩ := num_step n (x0.getD j 0) j h0 h1 (by omega) hb.1 hb.2
    simp only [impl_number.l0]
    rw [rd_nat, w64n j (by omega), if_pos (by omega), if_pos (by omega), if_pos (by omega)]
    rw [or_is n _ h0 (by omega) hb.1 hb.2, ih k (j + 1) _ (by omega) (by omega) s0 s1, drop_cons x0 j (by omega), numFrom_cons]
theorem number_is (x0 : List Int) (hx : IsBytes x0) (hn : x0.length ≤ 6) (k : Nat) (hk : 7 ≤ k) : impl_number.f k x0 = some (num x0) := by
  unfold impl_number.f
  exact number_l0 x0 hx hn x0.length k 0 0 (by omega) (by omega) (by omega) (by decide)
theorem take_drop_cons (x0 : List Int) (i d : Nat) (h : i < x0.length) : (x0.drop i).take (d + 1) = x0.getD i 0 :: (x0.drop (i + 1)).take d := by
  rw [drop_cons x0 i h, List.take_succ_cons]
theorem l1Take_l0 (x0 : List Int) (hx : IsBytes x0) (hn : x0.length ≤ 1048576) (at_ size : Nat) (hs : size ≤ 6) (ha : at_ + size ≤ x0.length) :
    ∀ (d k j : Nat) (n : Int), j + d = size → d < k → 0 ≤ n → n < 256 ^ j →
    spec_l1Take.l0 k x0 (at_ : Int) (size : Int) n (j : Int) = some (numFrom n ((x0.drop (at_ + j)).take d)) := by
  intro d
  induction d with
  | zero =>
    intro k j n hi hk h0 h1
    obtain ⟨k, rfl⟩ := at_succ hk
    simp only [spec_l1Take.l0]
    rw [if_neg (by omega)]
    simp [numFrom_nil]
  | succ d ih =>
    intro k j n hi hk h0 h1
    obtain ⟨k, rfl⟩ := at_succ hk
    have hb := hx.at_ (at_ + j)
    obtain ⟨s0, s1, s2⟩ := num_step n (x0.getD (at_ + j) 0) j h0 h1 (by omega) hb.1 hb.2
    simp only [spec_l1Take.l0]
    have e : wrap64 ((at_ : Int) + (j : Int)) = ((at_ + j : Nat) : Int) := by rw [w64 (by omega) (by omega)]; omega
    rw [e, rd_nat, w64n j (by omega), if_pos (by omega), if_pos (by omega), if_pos (by omega)]
    rw [w64 (n := n * 256) (by omega) (by omega), w64 (n := x0.getD (at_ + j) 0) (by omega) (by omega), w64 (n := n * 256 + x0.getD (at_ + j) 0) (by omega) (by omega)]
    rw [ih k (j + 1) _ (by omega) (by omega) s0 s1, take_drop_cons x0 (at_ + j) d (by omega), numFrom_cons]
    rfl
theorem l1Take_is (x0 : List Int) (hx : IsBytes x0) (hn : x0.length ≤ 1048576) (at_ size : Nat) (hs : size ≤ 6) (ha : at_ + size ≤ x0.length) (k : Nat) (hk : 7 ≤ k) :
    spec_l1Take.f k x0 (at_ : Int) (size : Int) = some (num ((x0.drop at_).take size)) := by
  unfold spec_l1Take.f
  exact l1Take_l0 x0 hx hn at_ size hs ha size k 0 0 (by omega) (by omega) (by omega) (by decide)
theorem toByteS_l0 (x0 : List Int) (hn : x0.length ≤ 1048576) : ∀ (d k i : Nat) (x3 : List Int), x3.length = x0.length → i + d = x0.length → d < k → x3.take i = x0.take i → laws_toByteS.l0 k x0 x3 (i : Int) = some x0 := by
  intro d
  induction d with
  | zero =>
    intro k i x3 hl hi hk ht
    obtain ⟨k, rfl⟩ := at_succ hk
    simp only [laws_toByteS.l0]
    rw [if_neg (by omega)]
    have : x3 = x0 := by
      rw [List.take_of_length_le (by omega), List.take_of_length_le (by omega)] at ht; exact ht
    rw [this]
  | succ d ih =>
    intro k i x3 hl hi hk ht
    obtain ⟨k, rfl⟩ := at_succ hk
    simp only [laws_toByteS.l0]
    rw [if_pos (by omega), if_pos (by omega), if_pos (by omega), w64n i (by omega), rd_nat, Int.toNat_natCast]
    exact ih k (i + 1) _ (by simp [hl]) (by omega) (by omega) (set_take x0 x3 i hl (by omega) ht)
theorem toByteS_self (l : List Int) (hn : l.length ≤ 1048576) (k : Nat) (hk : l.length < k) : laws_toByteS.f k l = some l := by
  unfold laws_toByteS.f
  rw [if_pos (by omega), if_pos (by omega)]
  exact toByteS_l0 l hn l.length k 0 _ (by simp) (by omega) hk (by simp)
theorem eqByteS_l0 (x0 : List Int) (hn : x0.length ≤ 1048576) : ∀ (d k i : Nat), i + d = x0.length → d < k → laws_eqByteS.l0 k x0 x0 (i : Int) = some true := by
  intro d
  induction d with
  | zero =>
    intro k i hi hk
    obtain ⟨k, rfl⟩ := at_succ hk
    simp only [laws_eqByteS.l0]
    rw [if_neg (by omega)]
  | succ d ih =>
    intro k i hi hk
    obtain ⟨k, rfl⟩ := at_succ hk
    simp only [laws_eqByteS.l0]
    rw [if_pos (by omega), if_pos (by omega), if_pos (by omega), w64n i (by omega)]
    simp only [if_true]
    exact ih k (i + 1) (by omega) (by omega)
theorem eqByteS_self (l : List Int) (hn : l.length ≤ 1048576) (k : Nat) (hk : l.length < k) : laws_eqByteS.f k l l = some true := by
  unfold laws_eqByteS.f
  rw [if_pos rfl]
  exact eqByteS_l0 l hn l.length k 0 (by omega) hk
theorem set_snocByteS (x : List Int) (i : Nat) (v : Int) (h : i < x.length) : (x.set i v).take (i + 1) = x.take i ++ [v] := by
  apply List.ext_getElem?
  intro j
  by_cases hj : j < i
  · rw [List.getElem?_append_left (by rw [List.length_take]; omega)]
    simp only [List.getElem?_take, hj, show j < i + 1 by omega, if_true]
    rw [List.getElem?_set_ne (by omega)]
  · by_cases e : j = i
    · subst e
      rw [List.getElem?_append_right (by rw [List.length_take]; omega)]
      simp only [List.getElem?_take, show j < j + 1 by omega, if_true, List.length_take]
      rw [List.getElem?_set_self h, show j - min j x.length = 0 by omega]; rfl
    · simp only [List.getElem?_take, show ¬ j < i + 1 by omega, if_false]
      rw [List.getElem?_eq_none (by rw [List.length_append, List.length_take, List.length_singleton]; omega)]
def markedByteS (a n : Nat) : List Int := (List.range n).map fun (j : Nat) => ((a + j : Nat) : Int) % 256
theorem markedByteS_succ (a n : Nat) : markedByteS a (n + 1) = markedByteS a n ++ [(fun (j : Nat) => ((a + j : Nat) : Int) % 256) n] := by simp [markedByteS, List.range_succ]
theorem markedByteS_length (a n : Nat) : (markedByteS a n).length = n := by simp [markedByteS]
theorem markedByteS_at (a n i : Nat) (h : i < n) : (markedByteS a n).getD i 0 = (fun (j : Nat) => ((a + j : Nat) : Int) % 256) i := by simp [markedByteS, List.getD, h]
theorem markByteS_l0 (n a : Nat) (hn : n ≤ 4194304) (ha : a ≤ 2000000000) : ∀ (d k i : Nat) (x : List Int), x.length = n → i + d = n → d < k → x.take i = markedByteS a i → laws_markByteS.l0 k x ((a + i : Nat) : Int) (i : Int) = some (((a + n : Nat) : Int), markedByteS a n) := by
  intro d
  induction d with
  | zero =>
    intro k i x hl hi hk ht
    obtain ⟨k, rfl⟩ := at_succ hk
    simp only [laws_markByteS.l0]
    rw [if_neg (by omega)]
    obtain rfl : i = n := by omega
    rw [List.take_of_length_le (by omega)] at ht
    rw [ht]
  | succ d ih =>
    intro k i x hl hi hk ht
    obtain ⟨k, rfl⟩ := at_succ hk
    simp only [laws_markByteS.l0]
    rw [if_pos (by omega), if_pos (by omega), w64n i (by omega), w64n (a + i) (by omega), Int.toNat_natCast, show a + i + 1 = a + (i + 1) by omega]
    exact ih k (i + 1) _ (by simp [hl]) (by omega) (by omega) (by rw [set_snocByteS x i _ (by omega), ht, markedByteS_succ])
theorem markByteS_is (l : List Int) (a : Nat) (hn : l.length ≤ 4194304) (ha : a ≤ 2000000000) (k : Nat) (hk : l.length < k) : laws_markByteS.f k l (a : Int) = some (((a + l.length : Nat) : Int), markedByteS a l.length) := by
  unfold laws_markByteS.f
  exact markByteS_l0 l.length a hn ha l.length k 0 l rfl (by omega) hk (by simp [markedByteS])
theorem heldByteS_l0 (n a : Nat) (hn : n ≤ 4194304) (ha : a ≤ 2000000000) : ∀ (d k i : Nat), i + d = n → d < k → laws_heldByteS.l0 k (markedByteS a n) ((a + i : Nat) : Int) (i : Int) = some ((a + n : Nat) : Int) := by
  intro d
  induction d with
  | zero =>
    intro k i hi hk
    obtain ⟨k, rfl⟩ := at_succ hk
    simp only [laws_heldByteS.l0]
    rw [if_neg (by rw [markedByteS_length]; omega), show i = n by omega]
  | succ d ih =>
    intro k i hi hk
    obtain ⟨k, rfl⟩ := at_succ hk
    simp only [laws_heldByteS.l0]
    rw [if_pos (by rw [markedByteS_length]; omega), if_pos (by omega), rd_nat, markedByteS_at a n i (by omega)]
    rw [if_pos rfl, w64n i (by omega), w64n (a + i) (by omega), show a + i + 1 = a + (i + 1) by omega]
    exact ih k (i + 1) (by omega) (by omega)
theorem heldByteS_is (n a : Nat) (hn : n ≤ 4194304) (ha : a ≤ 2000000000) (k : Nat) (hk : n < k) : laws_heldByteS.f k (markedByteS a n) (a : Int) = some ((a + n : Nat) : Int) := by
  unfold laws_heldByteS.f
  exact heldByteS_l0 n a hn ha n k 0 (by omega) hk
def inB (a lo hi : Int) : Bool := decide (a ≥ lo) && decide (a ≤ hi)
def protoB (a : Int) : Bool := decide (a = 6) || decide (a = 17)
theorem impl_in_is (a lo hi : Int) : impl_in.f a lo hi = some (inB a lo hi) := by
  unfold impl_in.f inB
  by_cases h : a ≥ lo <;> simp [h]
theorem spec_l1In_is (a lo hi : Int) : spec_l1In.f a lo hi = some (inB a lo hi) := by
  unfold spec_l1In.f inB
  by_cases h : a ≥ lo <;> simp [h]
theorem shr8 (n : Int) (s : Nat) (hs : s ≤ 7) : shr .i64 n ((8 * s : Nat) : Int) = n / 2 ^ (8 * s) := by
  unfold shr
  rw [Int.toNat_natCast, Nat.min_eq_left (by simp only [IntKind.bits]; omega)]
/-- The s lowest bytes of a number, the highest first. -/
def be (n : Int) : Nat → List Int
  | 0 => []
  | s + 1 => (n / 2 ^ (8 * s)) % 256 :: be n s
theorem be_length (n : Int) : ∀ s, (be n s).length = s
  | 0 => rfl
  | s + 1 => by simp [be, be_length n s]
theorem be_bytes (n : Int) : ∀ s, ∀ x ∈ be n s, 0 ≤ x ∧ x ≤ 255
  | 0 => fun x hx => by cases hx
  | s + 1 => fun x hx => by
    rcases List.mem_cons.1 hx with rfl | hx
    · omega
    · exact be_bytes n s x hx
theorem eight (s : Nat) (hs : s ≤ 7) : wrap64 (8 * (s : Int)) = ((8 * s : Nat) : Int) := by rw [w64 (by omega) (by omega)]; omega
theorem eightU (s : Nat) (hs : s ≤ 7) : IntKind.u64.wrap (wrap64 (8 * (s : Int))) = ((8 * s : Nat) : Int) := by
  rw [eight s hs, Go.IntKind.wrap_u64]; omega
theorem impl_put_l0 (n : Int) : ∀ (s k : Nat) (out : List Int), s ≤ 7 → s < k → out.length + s ≤ 1000000000 → impl_put.l0 k out n ((s : Int) - 1) = some (out ++ be n s) := by
  intro s
  induction s with
  | zero =>
    intro k out hs hk ho
    obtain ⟨k, rfl⟩ := at_succ hk
    simp only [impl_put.l0]
    rw [if_neg (by omega)]; simp [be]
  | succ s ih =>
    intro k out hs hk ho
    obtain ⟨k, rfl⟩ := at_succ hk
    simp only [impl_put.l0]
    rw [show ((s + 1 : Nat) : Int) - 1 = (s : Int) by omega, if_pos (by omega), eight s (by omega), if_pos (by omega), if_pos (by omega), shr8 n s (by omega), w64 (by omega) (by omega)]
    rw [ih k _ (by omega) (by omega) (by simp; omega)]; simp [be]
theorem impl_put_is (out : List Int) (n : Int) (s : Nat) (hs : s ≤ 7) (k : Nat) (hk : s < k) (ho : out.length + s ≤ 1000000000) : impl_put.f k out n (s : Int) = some (out ++ be n s) := by
  unfold impl_put.f
  rw [w64 (by omega) (by omega)]
  exact impl_put_l0 n s k out hs hk ho
theorem spec_l1Bytes_l0 (n : Int) : ∀ (s k : Nat) (out : List Int), s ≤ 7 → s < k → out.length + s ≤ 1000000000 → spec_l1Bytes.l0 k n out ((s : Int) - 1) = some (out ++ be n s) := by
  intro s
  induction s with
  | zero =>
    intro k out hs hk ho
    obtain ⟨k, rfl⟩ := at_succ hk
    simp only [spec_l1Bytes.l0]
    rw [if_neg (by omega)]; simp [be]
  | succ s ih =>
    intro k out hs hk ho
    obtain ⟨k, rfl⟩ := at_succ hk
    simp only [spec_l1Bytes.l0]
    rw [show ((s + 1 : Nat) : Int) - 1 = (s : Int) by omega, if_pos (by omega), eightU s (by omega), if_pos (by omega), if_pos (by omega), shr8 n s (by omega), w64 (by omega) (by omega)]
    rw [ih k _ (by omega) (by omega) (by simp; omega)]; simp [be]
theorem spec_l1Bytes_is (n : Int) (s : Nat) (hs : s ≤ 7) (k : Nat) (hk : s < k) : spec_l1Bytes.f k n (s : Int) = some (be n s) := by
  unfold spec_l1Bytes.f
  rw [w64 (by omega) (by omega)]
  have := spec_l1Bytes_l0 n s k [] hs hk (by simp; omega)
  simpa using this
theorem be2 (n : Int) : be n 2 = [n / 2 ^ (8 * 1) % 256, n / 2 ^ (8 * 0) % 256] := rfl
theorem be4 (n : Int) : be n 4 = [n / 2 ^ (8 * 3) % 256, n / 2 ^ (8 * 2) % 256, n / 2 ^ (8 * 1) % 256, n / 2 ^ (8 * 0) % 256] := rfl
/-- A head with no sum in it. -/
def bareL (p a b n : Int) : List Int := [69, 0] ++ be (20 + n) 2 ++ [0, 0, 0, 0, 64, p % 256] ++ [0, 0] ++ (be a 4 ++ be b 4)
def headL (p a b n : Int) : List Int := [69, 0] ++ be (20 + n) 2 ++ [0, 0, 0, 0, 64, p % 256] ++ be (sumW (bareL p a b n)) 2 ++ (be a 4 ++ be b 4)
theorem headL_length (p a b n : Int) : (headL p a b n).length = 20 := by simp [headL, be_length]
theorem bareL_length (p a b n : Int) : (bareL p a b n).length = 20 := by simp [bareL, be_length]
theorem bareL_bytes (p a b n : Int) : IsBytes (bareL p a b n) := by
  have h1 : IsBytes [69, 0] := fun x hx => by simp at hx; omega
  have h2 : IsBytes [0, 0, 0, 0, 64, p % 256] := fun x hx => by simp at hx; omega
  have h3 : IsBytes [0, 0] := fun x hx => by simp at hx; omega
  exact (((h1.append (be_bytes _ 2)).append h2).append h3).append (IsBytes.append (be_bytes a 4) (be_bytes b 4))
theorem headL_bytes (p a b n : Int) : IsBytes (headL p a b n) := by
  have h1 : IsBytes [69, 0] := fun x hx => by simp at hx; omega
  have h2 : IsBytes [0, 0, 0, 0, 64, p % 256] := fun x hx => by simp at hx; omega
  exact (((h1.append (be_bytes _ 2)).append h2).append (be_bytes _ 2)).append (IsBytes.append (be_bytes a 4) (be_bytes b 4))
theorem impl_head_is (p a b n : Int) (h0 : 0 ≤ n) (h1 : n ≤ 1048600) (k : Nat) (hk : 8 ≤ k) : impl_head.f k p a b n = some (headL p a b n) := by
  unfold impl_head.f
  have e2 : ((2 : Nat) : Int) = 2 := rfl
  have e4 : ((4 : Nat) : Int) = 4 := rfl
  rw [w64 (n := 20 + n) (by omega) (by omega), ← e2, ← e4, impl_put_is [69, 0] _ 2 (by omega) k (by omega) (by simp), bind_s, bind_s, if_pos (by simp [be_length])]
  rw [impl_put_is _ a 4 (by omega) k (by omega) (by simp [be_length]), bind_s, impl_put_is _ b 4 (by omega) k (by omega) (by simp [be_length]), bind_s]
  have hb : ([69, 0] ++ be (20 + n) 2 ++ [0, 0, 0, 0, 64, p % 256, 0, 0] ++ be a 4 ++ be b 4 : List Int) = bareL p a b n := by simp [bareL]
  rw [hb, impl_SumWords_is _ (bareL_bytes p a b n) (by rw [bareL_length]; omega), bind_s, impl_put_is [] _ 2 (by omega) k (by omega) (by simp), bind_s, if_pos (by rw [bareL_length]; omega), if_pos (by simp [be_length])]
  have h1 : (bareL p a b n).take 10 = [69, 0] ++ be (20 + n) 2 ++ [0, 0, 0, 0, 64, p % 256] := by simp [bareL, be2]
  have h2 : (bareL p a b n).drop 12 = be a 4 ++ be b 4 := by simp [bareL, be2]
  rw [h1, h2]; simp [headL]
theorem spec_l2Head_is (p a b n : Int) (h0 : 0 ≤ n) (h1 : n ≤ 1048600) (k : Nat) (hk : 50 ≤ k) : spec_l2Head.f k p a b n = some (headL p a b n) := by
  unfold spec_l2Head.f
  have e2 : ((2 : Nat) : Int) = 2 := rfl
  have e4 : ((4 : Nat) : Int) = 4 := rfl
  rw [w64 (n := 20 + n) (by omega) (by omega), bind_s, ← e2, ← e4, spec_l1Bytes_is _ 2 (by omega) k (by omega), bind_s, if_pos (by simp [be_length]), bind_s, bind_s, if_pos (by simp [be_length]), bind_s]
  rw [spec_l1Bytes_is _ 4 (by omega) k (by omega), bind_s, spec_l1Bytes_is _ 4 (by omega) k (by omega), bind_s, if_pos (by simp [be_length]), bind_s, bind_s, if_pos (by simp [be_length]), bind_s, bind_s, if_pos (by simp [be_length]), bind_s, if_pos (by simp [be_length]), bind_s, if_pos (by simp [be_length]), bind_s]
  have hb : ([] ++ ([69, 0] ++ be (20 + n) 2 ++ [0, 0, 0, 0, 64, p % 256]) ++ [0, 0] ++ (be a 4 ++ be b 4) : List Int) = bareL p a b n := by simp [bareL]
  rw [hb, spec_SumWords_is _ (bareL_bytes p a b n) (by rw [bareL_length]; omega) k (by rw [bareL_length]; omega), bind_s, spec_l1Bytes_is _ 2 (by omega) k (by omega), bind_s, if_pos (by simp [be_length]), bind_s, if_pos (by simp [be_length])]
  simp [headL]
def wrapL (a b : Int) (l : List Int) : List Int := headL 47 a b (4 + (l.length : Int)) ++ [0, 0, 8, 0] ++ l
def wrapR (a b : Int) (l : List Int) : Int × List Int := if (inB a 0 4294967295 && inB b 0 4294967295) = true then (if (l.length : Int) > 230 then (2, []) else (0, wrapL a b l)) else (3, [])
theorem wrapL_length (a b : Int) (l : List Int) : (wrapL a b l).length = 24 + l.length := by simp [wrapL, headL_length]; omega
theorem wrapR_length (a b : Int) (l : List Int) : (wrapR a b l).2.length ≤ 254 := by
  unfold wrapR
  split
  · split
    · simp
    · show (wrapL a b l).length ≤ _
      rw [wrapL_length]; omega
  · simp
theorem impl_wrap_is (a b : Int) (l : List Int) (hl : l.length ≤ 1048576) (k : Nat) (hk : 8 ≤ k) : impl_wrap.f k a b l = some (wrapL a b l) := by
  unfold impl_wrap.f impl_size_byte.f
  rw [bind_s, w64 (n := 4 + (l.length : Int)) (by omega) (by omega), impl_head_is _ _ _ _ (by omega) (by omega) k hk, bind_s, bind_s, if_pos (by simp [headL_length]), bind_s, if_pos (by simp [headL_length]; omega)]
  rfl
theorem spec_l2Wrap_is (a b : Int) (l : List Int) (hl : l.length ≤ 1048576) (k : Nat) (hk : 50 ≤ k) : spec_l2Wrap.f k a b l = some (wrapL a b l) := by
  unfold spec_l2Wrap.f
  rw [w64 (n := 4 + (l.length : Int)) (by omega) (by omega), spec_l2Head_is _ _ _ _ (by omega) (by omega) k hk, bind_s, bind_s, if_pos (by simp [headL_length]), bind_s, if_pos (by simp [headL_length]; omega)]
  rfl
def nm (l : List Int) (a s : Nat) : Int := num ((l.drop a).take s)
theorem take_drop_nm (l : List Int) (a s : Nat) : (l.take (a + s)).drop a = (l.drop a).take s := by
  rw [List.drop_take]; congr 1; omega
theorem impl_number_at (l : List Int) (hl : IsBytes l) (a s b : Nat) (hb : b = a + s) (hs : s ≤ 6) (k : Nat) (hk : 7 ≤ k) : impl_number.f k ((l.take b).drop a) = some (nm l a s) := by
  subst hb
  rw [take_drop_nm, number_is _ ((hl.drop_ a).take_ s) (by rw [List.length_take]; omega) k hk]; rfl
theorem spec_take_at (l : List Int) (hl : IsBytes l) (hn : l.length ≤ 1048576) (a s : Nat) (h : a + s ≤ l.length) (hs : s ≤ 6) (k : Nat) (hk : 7 ≤ k) : spec_l1Take.f k l (a : Int) (s : Int) = some (nm l a s) := l1Take_is l hl hn a s hs h k hk
theorem clone_is (l : List Int) (hn : l.length ≤ 1048576) : slices_Clone_byte_byte.f l = some l := by
  unfold slices_Clone_byte_byte.f
  rw [bind_s, if_pos (by simp; omega)]; simp
def sameB (l m : List Int) : Bool := (strOfNums l).toList == (strOfNums m).toList
def unwrapR (l : List Int) : Int × Int × Int × List Int :=
  if inB (l.length : Int) 24 254 = true then (if sameB (wrapL (nm l 12 4) (nm l 16 4) (l.drop 24)) l = true then (0, nm l 12 4, nm l 16 4, l.drop 24) else (5, 0, 0, [])) else (5, 0, 0, [])
theorem unwrapR_length (l : List Int) : (unwrapR l).2.2.2.length ≤ l.length := by
  unfold unwrapR
  split
  · split
    · show (l.drop 24).length ≤ _
      simp
    · simp
  · simp
theorem impl_UnwrapGre_is (l : List Int) (hb : IsBytes l) (hn : l.length ≤ 1048576) (k : Nat) (hk : 10 ≤ k) : impl_UnwrapGre.f k l = some (unwrapR l) := by
  unfold impl_UnwrapGre.f impl_size_byte.f unwrapR
  rw [bind_s, impl_in_is, bind_s]
  by_cases c1 : inB (l.length : Int) 24 254 = true
  · have hlen : 24 ≤ l.length := by simp only [inB, Bool.and_eq_true, decide_eq_true_eq] at c1; omega
    rw [if_pos c1, if_pos c1, if_pos (by decide), if_pos (by omega), impl_number_at l hb 12 4 16 rfl (by omega) k (by omega), bind_s, if_pos (by decide), if_pos (by omega), impl_number_at l hb 16 4 20 rfl (by omega) k (by omega), bind_s, if_pos (by omega)]
    rw [clone_is _ (by simp; omega), bind_s, impl_wrap_is _ _ _ (by simp; omega) k (by omega), bind_s]
    unfold bytes_Equal.f
    rw [bind_s]
    show (if sameB (wrapL (nm l 12 4) (nm l 16 4) (l.drop 24)) l = true then _ else _) = _
    split <;> rfl
  · rw [if_neg c1, if_neg c1]
theorem spec_UnwrapGre_is (l : List Int) (hb : IsBytes l) (hn : l.length ≤ 1048576) (k : Nat) (hk : 60 ≤ k) : spec_UnwrapGre.f k l = some (unwrapR l) := by
  unfold spec_UnwrapGre.f unwrapR
  rw [spec_l1In_is, bind_s]
  by_cases c1 : inB (l.length : Int) 24 254 = true
  · have hlen : 24 ≤ l.length := by simp only [inB, Bool.and_eq_true, decide_eq_true_eq] at c1; omega
    have q1 : spec_l1Take.f k l 12 4 = some (nm l 12 4) := spec_take_at l hb hn 12 4 (by omega) (by omega) k (by omega)
    have q2 : spec_l1Take.f k l 16 4 = some (nm l 16 4) := spec_take_at l hb hn 16 4 (by omega) (by omega) k (by omega)
    rw [if_pos c1, if_pos c1, q1, bind_s, q2, bind_s, if_pos (by omega), spec_l2Wrap_is _ _ _ (by simp; omega) k (by omega), bind_s]
    by_cases c : (strOfNums (wrapL (nm l 12 4) (nm l 16 4) (l.drop 24))).toList = (strOfNums l).toList
    · have e : sameB (wrapL (nm l 12 4) (nm l 16 4) (l.drop 24)) l = true := beq_iff_eq.2 c
      rw [if_pos c, if_pos e, bind_s, if_pos (by simp; omega)]; rfl
    · have e : sameB (wrapL (nm l 12 4) (nm l 16 4) (l.drop 24)) l = false := beq_eq_false_iff_ne.2 c
      rw [if_neg c, e, if_neg (by decide)]
  · rw [if_neg c1, if_neg c1]
theorem eqGreResult_self (x a b : Int) (l : List Int) (hn : l.length ≤ 1048576) (k : Nat) (hk : l.length < k) : laws_eqGreResult.f k x a b l x a b l = some true := by
  unfold laws_eqGreResult.f
  rw [if_pos rfl, if_pos rfl, if_pos rfl, eqByteS_self l hn k hk, bind_s, if_pos rfl]
theorem markGreResult_is (x a b : Int) (l : List Int) (hn : l.length ≤ 1048576) (k : Nat) (hk : l.length < k) : laws_markGreResult.f k x a b l 1 = some (((1 + l.length : Nat) : Int), markedByteS 1 l.length) := by
  unfold laws_markGreResult.f
  rw [show (1 : Int) = ((1 : Nat) : Int) from rfl, markByteS_is l 1 (by omega) (by omega) k hk]; rfl
theorem heldGreResult_is (x a b : Int) (n : Nat) (hn : n ≤ 1048576) (k : Nat) (hk : n < k) : laws_heldGreResult.f k x a b (markedByteS 1 n) 1 = some ((1 + n : Nat) : Int) := by
  unfold laws_heldGreResult.f
  rw [show (1 : Int) = ((1 : Nat) : Int) from rfl, heldByteS_is n 1 (by omega) (by omega) k hk]
  simp only [bind_s]
  rw [if_neg (by omega)]
theorem FnExactUnwrapGre : laws_FnExactUnwrapGre.Pure := by
  intro l _ _ hb
  have hb := IsBytes.of hb
  refine ⟨2 * l.length + 300, ?_⟩
  unfold laws_FnExactUnwrapGre.f
  by_cases h : (l.length : Int) > 1048576
  · rw [if_pos h]
  · have hR2 := unwrapR_length l
    have hR : (unwrapR l).2.2.2.length ≤ 1048576 := by omega
    have e1 : ((1 : Nat) : Int) = 1 := rfl
    rw [if_neg h, toByteS_self l (by omega) _ (by omega)]
    simp only [bind_s]
    rw [spec_UnwrapGre_is l hb (by omega) _ (by omega), impl_UnwrapGre_is l hb (by omega) _ (by omega)]
    simp only [bind_s]
    rw [eqGreResult_self _ _ _ _ hR _ (by omega)]
    simp only [bind_s, if_true]
    rw [eqByteS_self l (by omega) _ (by omega), ← e1, markByteS_is l 1 (by omega) (by omega) _ (by omega)]
    simp only [bind_s, if_true]
    rw [if_neg (by omega)]
    obtain ⟨k, hk⟩ : ∃ k, 2 * l.length + 300 = k + 1 := ⟨2 * l.length + 299, by omega⟩
    rw [hk]
    simp only [laws_FnExactUnwrapGre.j0, Bool.not_true, Bool.false_eq_true, if_false]
    rw [markGreResult_is _ _ _ _ hR k (by omega)]
    simp only [bind_s]
    rw [heldGreResult_is _ _ _ _ hR k (by omega)]
    simp only [bind_s, if_true]
    rw [if_neg (by omega), toByteS_self l (by omega) k (by omega)]
    simp only [bind_s]
    rw [impl_UnwrapGre_is l hb (by omega) k (by omega)]
    simp only [bind_s]
    rw [eqGreResult_self _ _ _ _ hR k (by omega)]
    simp only [bind_s, if_true]
    rw [if_neg (by omega)]
end Go.Proofs.Ytejjalajpapmbaa.Pure
