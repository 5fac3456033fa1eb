/- WHAT THIS TEXT PROVES: the pure statement of the law FnExactTakeNumber, over plain functions on numbers and lists. No condition beyond the statement's own. -/
import Derived.Test.YtbnbbcmjgeaidaaPFnExactTakeNumberx2
import Derived.Laws.BitsLemmas
import Derived.IntWalk
namespace Go.Proofs.Ytbnbbcmjgeaidaa.Pure
open Go.RowKit Go.Proofs.Ytbnbbcmjgeaidaa.PFnExactTakeNumber Go.Proofs.YtbnbbcmjgeaidaaW.PrintWords Go.Proofs.YtbnbbcmjgeaidaaW.PrintLast
set_option linter.unusedVariables false
set_option linter.unusedSimpArgs false
theorem w64 {n : Int} (h0 : -9223372036854775808 ≤ n) (h1 : n ≤ 9223372036854775807) : wrap64 n = n := by unfold wrap64; omega
theorem w64n (i : Nat) (h : i < 9223372036854775807) : wrap64 ((i : Int) + 1) = ((i + 1 : Nat) : Int) := by
  rw [w64 (by omega) (by omega)]; omega
theorem rd_nat (xs : List Int) (i : Nat) : rd xs (i : Int) = xs.getD i 0 := by simp [rd]
theorem at_succ {k d : Nat} (h : d < k) : ∃ m, k = m + 1 := ⟨k - 1, by omega⟩
theorem drop_cons (xs : List Int) (i : Nat) (h : i < xs.length) : xs.drop i = xs.getD i 0 :: xs.drop (i + 1) := by
  rw [List.drop_eq_getElem_cons h]; simp [List.getD, h]
theorem set_take (x0 x3 : List Int) (i : Nat) (hl : x3.length = x0.length) (hi : i < x0.length) (ht : x3.take i = x0.take i) :
    (x3.set i (x0.getD i 0)).take (i + 1) = x0.take (i + 1) := by
  apply List.ext_getElem?
  intro j
  by_cases hj : j < i
  · have h1 := congrArg (fun l : List Int => l[j]?) ht
    simp only [List.getElem?_take, hj, if_true] at h1
    simp only [List.getElem?_take, show j < i + 1 by omega, if_true]
    rw [List.getElem?_set_ne (by omega)]; exact h1
  · by_cases e : j = i
    · subst e
      simp only [List.getElem?_take, show j < j + 1 by omega, if_true]
      rw [List.getElem?_set_self (by omega)]
      simp [List.getD, hi]
    · simp only [List.getElem?_take, show ¬ j < i + 1 by omega, if_false]
theorem wf_i64 {n : Int} (h : (Lit.int .i64 n).wf = true) : -9223372036854775808 ≤ n ∧ n ≤ 9223372036854775807 := by
  simp only [Lit.wf, IntKind.min, IntKind.max, IntKind.signed, IntKind.bits, Bool.and_eq_true, decide_eq_true_eq, if_true] at h
  omega
theorem wf_u8 {n : Int} (h : (Lit.int .u8 n).wf = true) : 0 ≤ n ∧ n ≤ 255 := by
  simpa [Lit.wf, IntKind.min, IntKind.max, IntKind.signed, IntKind.bits] using h
def IsBytes (xs : List Int) : Prop := ∀ x ∈ xs, 0 ≤ x ∧ x ≤ 255
theorem IsBytes.of {xs : List Int} (h : ∀ x ∈ xs, (Lit.int .u8 x).wf = true) : IsBytes xs := fun x hx => wf_u8 (h x hx)
theorem IsBytes.at_ {xs : List Int} (h : IsBytes xs) (i : Nat) : 0 ≤ xs.getD i 0 ∧ xs.getD i 0 ≤ 255 := by
  by_cases hi : i < xs.length
  · have : xs.getD i 0 = xs[i] := by simp [List.getD, hi]
    rw [this]; exact h _ (List.getElem_mem hi)
  · rw [List.getD_eq_getElem?_getD, List.getElem?_eq_none (by omega)]; simp
theorem IsBytes.take_ {xs : List Int} (h : IsBytes xs) (i : Nat) : IsBytes (xs.take i) := fun x hx => h x (List.mem_of_mem_take hx)
theorem IsBytes.drop_ {xs : List Int} (h : IsBytes xs) (i : Nat) : IsBytes (xs.drop i) := fun x hx => h x (List.mem_of_mem_drop hx)
theorem IsBytes.append {xs ys : List Int} (h : IsBytes xs) (k : IsBytes ys) : IsBytes (xs ++ ys) := fun x hx => (List.mem_append.1 hx).elim (h x) (k x)
def numFrom (n : Int) (xs : List Int) : Int := xs.foldl (fun n b => n * 256 + b) n
def num (xs : List Int) : Int := numFrom 0 xs
theorem numFrom_nil (n : Int) : numFrom n [] = n := rfl
theorem numFrom_cons (n x : Int) (xs : List Int) : numFrom n (x :: xs) = numFrom (n * 256 + x) xs := rfl
theorem numFrom_bounds : ∀ (xs : List Int) (n : Int) (p : Int), IsBytes xs → 0 ≤ n → n < p → 0 ≤ numFrom n xs ∧ numFrom n xs < p * 256 ^ xs.length
  | [], n, p, _, h0, h1 => by rw [numFrom_nil]; simpa using ⟨h0, h1⟩
  | x :: xs, n, p, hb, h0, h1 => by
    have hx := hb x (by simp)
    have := numFrom_bounds xs (n * 256 + x) (p * 256) (fun y hy => hb y (by simp [hy])) (by omega) (by omega)
    rw [numFrom_cons, List.length_cons, Int.pow_succ, Int.mul_comm (256 ^ xs.length) 256, ← Int.mul_assoc]
    exact this
theorem num_bounds (xs : List Int) (hb : IsBytes xs) : 0 ≤ num xs ∧ num xs < 256 ^ xs.length := by
  have := numFrom_bounds xs 0 1 hb (by omega) (by omega)
  rw [Int.one_mul] at this; exact this
theorem or_is (n b : Int) (h0 : 0 ≤ n) (h1 : n < 36028797018963968) (b0 : 0 ≤ b) (b1 : b ≤ 255) : Go.bits .or .i64 (wrap64 (n * 256)) (wrap64 b) = n * 256 + b := by
  rw [w64 (n := n * 256) (by omega) (by omega), w64 (n := b) (by omega) (by omega)]
  refine Go.bits_join .i64 63 (by decide) (fun m h0 h1 => ?_) 8 (n * 256) b (by omega) (by omega) (by omega) b0 (by omega) (by omega)
  rw [Go.IntWalk.i64_left]; exact w64 (by omega) (by omega)
theorem pow_small (j : Nat) (h : j ≤ 5) : (256 : Int) ^ j ≤ 1099511627776 := by
  have : j = 0 ∨ j = 1 ∨ j = 2 ∨ j = 3 ∨ j = 4 ∨ j = 5 := by omega
  rcases this with rfl | rfl | rfl | rfl | rfl | rfl <;> decide
theorem num_step (n b : Int) (j : Nat) (h0 : 0 ≤ n) (h1 : n < 256 ^ j) (hj : j ≤ 5) (b0 : 0 ≤ b) (b1 : b ≤ 255) : 0 ≤ n * 256 + b ∧ n * 256 + b < 256 ^ (j + 1) ∧ n < 1099511627776 := by
  have := pow_small j hj
  rw [Int.pow_succ]
  omega
theorem take_drop_cons (x0 : List Int) (i d : Nat) (h : i < x0.length) : (x0.drop i).take (d + 1) = x0.getD i 0 :: (x0.drop (i + 1)).take d := by
  rw [drop_cons x0 i h, List.take_succ_cons]
theorem l1Take_l0 (x0 : List Int) (hx : IsBytes x0) (hn : x0.length ≤ 1048576) (at_ size : Nat) (hs : size ≤ 6) (ha : at_ + size ≤ x0.length) :
    ∀ (d k j : Nat) (n : Int), j + d = size → d < k → 0 ≤ n → n < 256 ^ j →
    spec_l1Take.l0 k x0 (at_ : Int) (size : Int) n (j : Int) = some (numFrom n ((x0.drop (at_ + j)).take d)) := by
  intro d
  induction d with
  | zero =>
    intro k j n hi hk h0 h1
    obtain ⟨k, rfl⟩ := at_succ hk
    simp only [spec_l1Take.l0]
    rw [if_neg (by omega)]
    simp [numFrom_nil]
  | succ d ih =>
    intro k j n hi hk h0 h1
    obtain ⟨k, rfl⟩ := at_succ hk
    have hb := hx.at_ (at_ + j)
    obtain ⟨s0, s1, s2⟩ := num_step n (x0.getD (at_ + j) 0) j h0 h1 (by omega) hb.1 hb.2
    simp only [spec_l1Take.l0]
    have e : wrap64 ((at_ : Int) + (j : Int)) = ((at_ + j : Nat) : Int) := by rw [w64 (by omega) (by omega)]; omega
    rw [e, rd_nat, w64n j (by omega), if_pos (by omega), if_pos (by omega), if_pos (by omega)]
    rw [w64 (n := n * 256) (by omega) (by omega), w64 (n := x0.getD (at_ + j) 0) (by omega) (by omega), w64 (n := n * 256 + x0.getD (at_ + j) 0) (by omega) (by omega)]
    rw [ih k (j + 1) _ (by omega) (by omega) s0 s1, take_drop_cons x0 (at_ + j) d (by omega), numFrom_cons]
    rfl
theorem l1Take_is (x0 : List Int) (hx : IsBytes x0) (hn : x0.length ≤ 1048576) (at_ size : Nat) (hs : size ≤ 6) (ha : at_ + size ≤ x0.length) (k : Nat) (hk : 7 ≤ k) :
    spec_l1Take.f k x0 (at_ : Int) (size : Int) = some (num ((x0.drop at_).take size)) := by
  unfold spec_l1Take.f
  exact l1Take_l0 x0 hx hn at_ size hs ha size k 0 0 (by omega) (by omega) (by omega) (by decide)
theorem number_l0 (x0 : List Int) (hx : IsBytes x0) (hn : x0.length ≤ 6) :
    ∀ (d k j : Nat) (n : Int), j + d = x0.length → d < k → 0 ≤ n → n < 256 ^ j →
    impl_number.l0 k n x0 (x0.length : Int) (j : Int) = some (numFrom n (x0.drop j)) := by
  intro d
  induction d with
  | zero =>
    intro k j n hi hk h0 h1
    obtain ⟨k, rfl⟩ := at_succ hk
    simp only [impl_number.l0]
    rw [if_neg (by omega), List.drop_of_length_le (by omega), numFrom_nil]
  | succ d ih =>
    intro k j n hi hk h0 h1
    obtain ⟨k, rfl⟩ := at_succ hk
    have hb := hx.at_ j
    obtain ⟨s0, s1, s2⟩ := num_step n (x0.getD j 0) j h0 h1 (by omega) hb.1 hb.2
    simp only [impl_number.l0]
    rw [rd_nat, w64n j (by omega), if_pos (by omega), if_pos (by omega), if_pos (by omega)]
    rw [or_is n _ h0 (by omega) hb.1 hb.2, ih k (j + 1) _ (by omega) (by omega) s0 s1, drop_cons x0 j (by omega), numFrom_cons]
theorem number_is (x0 : List Int) (hx : IsBytes x0) (hn : x0.length ≤ 6) (k : Nat) (hk : 7 ≤ k) : impl_number.f k x0 = some (num x0) := by
  unfold impl_number.f
  exact number_l0 x0 hx hn x0.length k 0 0 (by omega) (by omega) (by omega) (by decide)
theorem toByteS_l0 (x0 : List Int) (hn : x0.length ≤ 1048576) : ∀ (d k i : Nat) (x3 : List Int), x3.length = x0.length → i + d = x0.length → d < k → x3.take i = x0.take i → laws_toByteS.l0 k x0 x3 (i : Int) = some x0 := by
  intro d
  induction d with
  | zero =>
    intro k i x3 hl hi hk ht
    obtain ⟨k, rfl⟩ := at_succ hk
    simp only [laws_toByteS.l0]
    rw [if_neg (by omega)]
    have : x3 = x0 := by
      rw [List.take_of_length_le (by omega), List.take_of_length_le (by omega)] at ht; exact ht
    rw [this]
  | succ d ih =>
    intro k i x3 hl hi hk ht
    obtain ⟨k, rfl⟩ := at_succ hk
    simp only [laws_toByteS.l0]
    rw [if_pos (by omega), if_pos (by omega), if_pos (by omega), w64n i (by omega), rd_nat, Int.toNat_natCast]
    exact ih k (i + 1) _ (by simp [hl]) (by omega) (by omega) (set_take x0 x3 i hl (by omega) ht)
theorem toByteS_self (l : List Int) (hn : l.length ≤ 1048576) (k : Nat) (hk : l.length < k) : laws_toByteS.f k l = some l := by
  unfold laws_toByteS.f
  rw [if_pos (by omega), if_pos (by omega)]
  exact toByteS_l0 l hn l.length k 0 _ (by simp) (by omega) hk (by simp)
theorem eqByteS_l0 (x0 : List Int) (hn : x0.length ≤ 1048576) : ∀ (d k i : Nat), i + d = x0.length → d < k → laws_eqByteS.l0 k x0 x0 (i : Int) = some true := by
  intro d
  induction d with
  | zero =>
    intro k i hi hk
    obtain ⟨k, rfl⟩ := at_succ hk
    simp only [laws_eqByteS.l0]
    rw [if_neg (by omega)]
  | succ d ih =>
    intro k i hi hk
    obtain ⟨k, rfl⟩ := at_succ hk
    simp only [laws_eqByteS.l0]
    rw [if_pos (by omega), if_pos (by omega), if_pos (by omega), w64n i (by omega)]
    simp only [if_true]
    exact ih k (i + 1) (by omega) (by omega)
theorem eqByteS_self (l : List Int) (hn : l.length ≤ 1048576) (k : Nat) (hk : l.length < k) : laws_eqByteS.f k l l = some true := by
  unfold laws_eqByteS.f
  rw [if_pos rfl]
  exact eqByteS_l0 l hn l.length k 0 (by omega) hk
theorem TakeNumber_is (l : List Int) (hl : IsBytes l) (hn : l.length ≤ 1048576) (at_ size : Int) (ha : -9223372036854775808 ≤ at_) (k : Nat) (hk : 7 ≤ k) :
    ∃ r, spec_TakeNumber.f k l at_ size = some r ∧ impl_TakeNumber.f k l at_ size = some r := by
  unfold spec_TakeNumber.f impl_TakeNumber.f spec_l1In.f impl_in.f impl_size_byte.f
  by_cases h1 : size ≥ 1
  · by_cases h2 : size ≤ 6
    · have e : wrap64 ((l.length : Int) - size) = (l.length : Int) - size := w64 (by omega) (by omega)
      simp only [if_pos h1, h2, decide_true, Option.bind_some, if_true, e]
      by_cases h3 : at_ ≥ 0
      · by_cases h4 : at_ ≤ (l.length : Int) - size
        · have e2 : wrap64 (at_ + size) = at_ + size := w64 (by omega) (by omega)
          simp only [if_pos h3, h4, decide_true, Option.bind_some, if_true, e2]
          obtain ⟨a, rfl⟩ : ∃ a : Nat, at_ = a := ⟨at_.toNat, by omega⟩
          obtain ⟨s, rfl⟩ : ∃ a : Nat, size = a := ⟨size.toNat, by omega⟩
          rw [if_pos (by omega), if_pos (by omega), l1Take_is l hl hn a s (by omega) (by omega) k hk]
          have e3 : (l.take ((a : Int) + (s : Int)).toNat).drop (a : Int).toNat = (l.drop a).take s := by
            rw [show ((a : Int) + (s : Int)).toNat = a + s by omega, Int.toNat_natCast, List.drop_take]
            congr 1; omega
          rw [e3, number_is _ ((hl.drop_ a).take_ s) (by rw [List.length_take]; omega) k hk]
          exact ⟨_, rfl, rfl⟩
        · simp only [if_pos h3, h4, decide_false, Option.bind_some, Bool.false_eq_true, if_false]
          exact ⟨_, rfl, rfl⟩
      · simp only [if_neg h3, Option.bind_some, Bool.false_eq_true, if_false]
        exact ⟨_, rfl, rfl⟩
    · simp only [if_pos h1, h2, decide_false, Option.bind_some, Bool.false_eq_true, if_false]
      exact ⟨_, rfl, rfl⟩
  · simp only [if_neg h1, Option.bind_some, Bool.false_eq_true, if_false]
    exact ⟨_, rfl, rfl⟩
theorem FnExactTakeNumber : laws_FnExactTakeNumber.Pure := by
  intro l a b _ _ hl ha hb
  have hl := IsBytes.of hl
  have ha := wf_i64 ha
  refine ⟨l.length + 7, ?_⟩
  unfold laws_FnExactTakeNumber.f
  by_cases h : (l.length : Int) > 1048576
  · rw [if_pos h]
  · have hn : l.length ≤ 1048576 := by omega
    obtain ⟨r, h1, h2⟩ := TakeNumber_is l hl hn a b ha.1 (l.length + 7) (by omega)
    rw [if_neg h, toByteS_self l hn _ (by omega)]
    simp only [Option.bind_some]
    rw [h1, h2]
    simp only [Option.bind_some, laws_eqIntResult.f, if_true]
    rw [eqByteS_self l hn _ (by omega)]
    simp only [Option.bind_some, if_true]
end Go.Proofs.Ytbnbbcmjgeaidaa.Pure
