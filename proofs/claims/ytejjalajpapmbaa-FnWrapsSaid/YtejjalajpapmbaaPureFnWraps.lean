/- WHAT THIS TEXT PROVES: the pure statement of the law FnWraps, over plain functions on numbers and lists. No condition beyond the statement's own. -/
import Derived.Test.YtejjalajpapmbaaQFnWrapsx7
import Derived.Laws.BitsLemmas
import Derived.IntWalk
namespace Go.Proofs.Ytejjalajpapmbaa.Pure
open Go.RowKit Go.Proofs.Ytejjalajpapmbaa.QFnWraps Go.Proofs.YtejjalajpapmbaaW.PrintWords Go.Proofs.YtejjalajpapmbaaW.PrintLast Go.Proofs.YtejjalajpapmbaaW.PrintMore
set_option linter.unusedVariables false
set_option linter.unusedSimpArgs false
theorem w64 {n : Int} (h0 : -9223372036854775808 ≤ n) (h1 : n ≤ 9223372036854775807) : wrap64 n = n := by unfold wrap64; omega
theorem w64n (i : Nat) (h : i < 9223372036854775807) : wrap64 ((i : Int) + 1) = ((i + 1 : Nat) : Int) := by
  rw [w64 (by omega) (by omega)]; omega
theorem rd_nat (xs : List Int) (i : Nat) : rd xs (i : Int) = xs.getD i 0 := by simp [rd]
theorem at_succ {k d : Nat} (h : d < k) : ∃ m, k = m + 1 := ⟨k - 1, by omega⟩
theorem drop_cons (xs : List Int) (i : Nat) (h : i < xs.length) : xs.drop i = xs.getD i 0 :: xs.drop (i + 1) := by
  rw [List.drop_eq_getElem_cons h]; simp [List.getD, h]
theorem set_take (x0 x3 : List Int) (i : Nat) (hl : x3.length = x0.length) (hi : i < x0.length) (ht : x3.take i = x0.take i) :
    (x3.set i (x0.getD i 0)).take (i + 1) = x0.take (i + 1) := by
  apply List.ext_getElem?
  intro j
  by_cases hj : j < i
  · have h1 := congrArg (fun l : List Int => l[j]?) ht
    simp only [List.getElem?_take, hj, if_true] at h1
    simp only [List.getElem?_take, show j < i + 1 by omega, if_true]
    rw [List.getElem?_set_ne (by omega)]; exact h1
  · by_cases e : j = i
    · subst e
      simp only [List.getElem?_take, show j < j + 1 by omega, if_true]
      rw [List.getElem?_set_self (by omega)]
      simp [List.getD, hi]
    · simp only [List.getElem?_take, show ¬ j < i + 1 by omega, if_false]
theorem bind_s {α β : Type} (a : α) (f : α → Option β) : (some a).bind f = f a := Eq.trans (Option.bind_some a f) (Eq.refl _)
theorem wf_i64 {n : Int} (h : (Lit.int .i64 n).wf = true) : -9223372036854775808 ≤ n ∧ n ≤ 9223372036854775807 := by
  simp only [Lit.wf, IntKind.min, IntKind.max, IntKind.signed, IntKind.bits, Bool.and_eq_true, decide_eq_true_eq, if_true] at h
  omega
theorem wf_u8 {n : Int} (h : (Lit.int .u8 n).wf = true) : 0 ≤ n ∧ n ≤ 255 := by
  simpa [Lit.wf, IntKind.min, IntKind.max, IntKind.signed, IntKind.bits] using h
def IsBytes (xs : List Int) : Prop := ∀ x ∈ xs, 0 ≤ x ∧ x ≤ 255
theorem IsBytes.of {xs : List Int} (h : ∀ x ∈ xs, (Lit.int .u8 x).wf = true) : IsBytes xs := fun x hx => wf_u8 (h x hx)
theorem IsBytes.at_ {xs : List Int} (h : IsBytes xs) (i : Nat) : 0 ≤ xs.getD i 0 ∧ xs.getD i 0 ≤ 255 := by
  by_cases hi : i < xs.length
  · have : xs.getD i 0 = xs[i] := by simp [List.getD, hi]
    rw [this]; exact h _ (List.getElem_mem hi)
  · rw [List.getD_eq_getElem?_getD, List.getElem?_eq_none (by omega)]; simp
theorem IsBytes.take_ {xs : List Int} (h : IsBytes xs) (i : Nat) : IsBytes (xs.take i) := fun x hx => h x (List.mem_of_mem_take hx)
theorem IsBytes.drop_ {xs : List Int} (h : IsBytes xs) (i : Nat) : IsBytes (xs.drop i) := fun x hx => h x (List.mem_of_mem_drop hx)
theorem IsBytes.append {xs ys : List Int} (h : IsBytes xs) (k : IsBytes ys) : IsBytes (xs ++ ys) := fun x hx => (List.mem_append.1 hx).elim (h x) (k x)
def numFrom (n : Int) (xs : List Int) : Int := xs.foldl (fun n b => n * 256 + b) n
def num (xs : List Int) : Int := numFrom 0 xs
theorem numFrom_nil (n : Int) : numFrom n [] = n := rfl
theorem numFrom_cons (n x : Int) (xs : List Int) : numFrom n (x :: xs) = numFrom (n * 256 + x) xs := rfl
theorem numFrom_bounds : ∀ (xs : List Int) (n : Int) (p : Int), IsBytes xs → 0 ≤ n → n < p → 0 ≤ numFrom n xs ∧ numFrom n xs < p * 256 ^ xs.length
  | [], n, p, _, h0, h1 => by rw [numFrom_nil]; simpa using ⟨h0, h1⟩
  | x :: xs, n, p, hb, h0, h1 => by
    have hx := hb x (by simp)
    have := numFrom_bounds xs (n * 256 + x) (p * 256) (fun y hy => hb y (by simp [hy])) (by omega) (by omega)
    rw [numFrom_cons, List.length_cons, Int.pow_succ, Int.mul_comm (256 ^ xs.length) 256, ← Int.mul_assoc]
    exact this
theorem num_bounds (xs : List Int) (hb : IsBytes xs) : 0 ≤ num xs ∧ num xs < 256 ^ xs.length := by
  have := numFrom_bounds xs 0 1 hb (by omega) (by omega)
  rw [Int.one_mul] at this; exact this
theorem or_is (n b : Int) (h0 : 0 ≤ n) (h1 : n < 36028797018963968) (b0 : 0 ≤ b) (b1 : b ≤ 255) : Go.bits .or .i64 (wrap64 (n * 256)) (wrap64 b) = n * 256 + b := by
  rw [w64 (n := n * 256) (by omega) (by omega), w64 (n := b) (by omega) (by omega)]
  refine Go.bits_join .i64 63 (by decide) (fun m h0 h1 => ?_) 8 (n * 256) b (by omega) (by omega) (by omega) b0 (by omega) (by omega)
  rw [Go.IntWalk.i64_left]; exact w64 (by omega) (by omega)
theorem pow_small (j : Nat) (h : j ≤ 5) : (256 : Int) ^ j ≤ 1099511627776 := by
  have : j = 0 ∨ j = 1 ∨ j = 2 ∨ j = 3 ∨ j = 4 ∨ j = 5 := by omega
  rcases this with rfl | rfl | rfl | rfl | rfl | rfl <;> decide
theorem num_step (n b : Int) (j : Nat) (h0 : 0 ≤ n) (h1 : n < 256 ^ j) (hj : j ≤ 5) (b0 : 0 ≤ b) (b1 : b ≤ 255) : 0 ≤ n * 256 + b ∧ n * 256 + b < 256 ^ (j + 1) ∧ n < 1099511627776 := by
  have := pow_small j hj
  rw [Int.pow_succ]
  omega
open Go.Proofs.Ytejjalajpapmbaa.SumWords Go.Proofs.Ytejjalajpapmbaa.Chunk
theorem IsBytes.in_ {l : List Int} (h : IsBytes l) : inBytes l := h
/-- The sum over the first k words. -/
def sumsN (l : List Int) : Nat → Int
  | 0 => 0
  | k + 1 => add1 (sumsN l k) (word l k)
theorem sums_take (l : List Int) : ∀ k, k ≤ (l.length + 1) / 2 → sums l ((all ((l.length + 1) / 2)).take k) = sumsN l k := by
  intro k
  induction k with
  | zero => intro _; simp [sums, sumsN]
  | succ k ih => intro h; rw [all_take _ k (by omega), sums_snoc, ih (by omega)]; rfl
theorem sumW_N (l : List Int) : sumW l = 65535 - sumsN l ((l.length + 1) / 2) := by
  unfold sumW
  rw [← sums_take l _ (Nat.le_refl _), List.take_of_length_le (by rw [all_length]; exact Nat.le_refl _)]
theorem sumsN_bounds (l : List Int) (h : IsBytes l) (k : Nat) (hk : k ≤ (l.length + 1) / 2) : 0 ≤ sumsN l k ∧ sumsN l k ≤ 65535 := by
  rw [← sums_take l k hk]; exact sums_bounds l h.in_ _
theorem sumW_bounds (l : List Int) (h : IsBytes l) : 0 ≤ sumW l ∧ sumW l ≤ 65535 := by
  have := sumsN_bounds l h _ (Nat.le_refl _)
  rw [sumW_N]; omega
theorem sumF_is (l : List Int) (h : IsBytes l) (hn : l.length ≤ 1099511627776) : sumF l = some (sumW l) := by
  unfold sumF; rw [if_pos (okB_mk h.in_ hn)]
theorem impl_SumWords_is (l : List Int) (h : IsBytes l) (hn : l.length ≤ 1099511627776) (k : Nat) : impl_SumWords.f k l = some (sumW l) := sumF_is l h hn
theorem spec_SumWords_l0 (x0 : List Int) (hb : IsBytes x0) (hn : x0.length ≤ 1099511627776) : ∀ (d k i : Nat), i + d = (x0.length + 1) / 2 → 4 * d + 1 ≤ k →
    spec_SumWords.l0 k x0 (sumsN x0 i) ((2 * i : Nat) : Int) = some (sumW x0) := by
  intro d
  induction d with
  | zero =>
    intro k i hi hk
    obtain ⟨k, rfl⟩ : ∃ m, k = m + 1 := ⟨k - 1, by omega⟩
    have hs := sumsN_bounds x0 hb i (by omega)
    simp only [spec_SumWords.l0]
    rw [if_neg (by omega), w64 (by omega) (by omega), sumW_N, show i = (x0.length + 1) / 2 by omega]
  | succ d ih =>
    intro k i hi hk
    obtain ⟨k, rfl⟩ : ∃ m, k = m + 1 + 1 + 1 + 1 := ⟨k - 4, by omega⟩
    have hs := sumsN_bounds x0 hb i (by omega)
    have hs1 := sumsN_bounds x0 hb (i + 1) (by omega)
    have b0 := hb.at_ (2 * i)
    have b1 := hb.at_ (2 * i + 1)
    have hnext := fun m (hm : 4 * d + 1 ≤ m) => ih m (i + 1) (by omega) hm
    have he : sumsN x0 (i + 1) = add1 (sumsN x0 i) (word x0 i) := rfl
    have h2 : wrap64 (((2 * i : Nat) : Int) + 1) = ((2 * i + 1 : Nat) : Int) := w64n _ (by omega)
    have h3 : wrap64 (((2 * i : Nat) : Int) + 2) = ((2 * (i + 1) : Nat) : Int) := by rw [w64 (by omega) (by omega)]; omega
    have fin : ∀ v, 0 ≤ v → v ≤ 131070 → sumsN x0 (i + 1) = (if v > 65535 then v - 65535 else v) → spec_SumWords.j1 (k + 1 + 1 + 1) x0 v ((2 * i : Nat) : Int) = some (sumW x0) := by
      intro v v0 v1 hv
      simp only [spec_SumWords.j1, spec_SumWords.l1]
      by_cases c : v > 65535
      · rw [if_pos c] at hv
        rw [if_pos c, w64 (n := v - 65535) (by omega) (by omega), if_neg (by omega), h3, ← hv]
        exact hnext k (by omega)
      · rw [if_neg c] at hv
        rw [if_neg c, h3, ← hv]
        exact hnext (k + 1) (by omega)
    rw [spec_SumWords.l0.eq_2]
    rw [if_pos (by omega), if_pos (by omega), h2, rd_nat, rd_nat]
    rw [w64 (n := x0.getD (2 * i) 0) (by omega) (by omega), w64 (n := 256 * x0.getD (2 * i) 0) (by omega) (by omega), w64 (n := sumsN x0 i + 256 * x0.getD (2 * i) 0) (by omega) (by omega)]
    by_cases c : 2 * i + 1 < x0.length
    · rw [if_pos (by omega), if_pos (by omega), w64 (n := x0.getD (2 * i + 1) 0) (by omega) (by omega), w64 (n := sumsN x0 i + 256 * x0.getD (2 * i) 0 + x0.getD (2 * i + 1) 0) (by omega) (by omega)]
      refine fin _ (by omega) (by omega) ?_
      rw [he]; unfold word add1
      rw [if_pos c, show sumsN x0 i + (x0.getD (2 * i) 0 * 256 + x0.getD (2 * i + 1) 0) = sumsN x0 i + 256 * x0.getD (2 * i) 0 + x0.getD (2 * i + 1) 0 by omega]
    · rw [if_neg (by omega)]
      refine fin _ (by omega) (by omega) ?_
      rw [he]; unfold word add1
      rw [if_neg c, show sumsN x0 i + x0.getD (2 * i) 0 * 256 = sumsN x0 i + 256 * x0.getD (2 * i) 0 by omega]
theorem spec_SumWords_is (l : List Int) (h : IsBytes l) (hn : l.length ≤ 1099511627776) (k : Nat) (hk : 2 * l.length + 3 ≤ k) : spec_SumWords.f k l = some (sumW l) := by
  unfold spec_SumWords.f
  exact spec_SumWords_l0 l h hn ((l.length + 1) / 2) k 0 (by omega) (by omega)
theorem number_l0 (x0 : List Int) (hx : IsBytes x0) (hn : x0.length ≤ 6) :
    ∀ (d k j : Nat) (n : Int), j + d = x0.length → d < k → 0 ≤ n → n < 256 ^ j →
    impl_number.l0 k n x0 (x0.length : Int) (j : Int) = some (numFrom n (x0.drop j)) := by
  intro d
  induction d with
  | zero =>
    intro k j n hi hk h0 h1
    obtain ⟨k, rfl⟩ := at_succ hk
    simp only [impl_number.l0]
    rw [if_neg (by omega), List.drop_of_length_le (by omega), numFrom_nil]
  | succ d ih =>
    intro k j n hi hk h0 h1
    obtain ⟨k, rfl⟩ := at_succ hk
    have hb := hx.at_ j
    obtain ⟨s0, s1, s2⟩ := num_step n (x0.getD j 0) j h0 h1 (by omega) hb.1 hb.2
    simp only [impl_number.l0]
    rw [rd_nat, w64n j (by omega), if_pos (by omega), if_pos (by omega), if_pos (by omega)]
    rw [or_is n _ h0 (by omega) hb.1 hb.2, ih k (j + 1) _ (by omega) (by omega) s0 s1, drop_cons x0 j (by omega), numFrom_cons]
theorem number_is (x0 : List Int) (hx : IsBytes x0) (hn : x0.length ≤ 6) (k : Nat) (hk : 7 ≤ k) : impl_number.f k x0 = some (num x0) := by
  unfold impl_number.f
  exact number_l0 x0 hx hn x0.length k 0 0 (by omega) (by omega) (by omega) (by decide)
theorem take_drop_cons (x0 : List Int) (i d : Nat) (h : i < x0.length) : (x0.drop i).take (d + 1) = x0.getD i 0 :: (x0.drop (i + 1)).take d := by
  rw [drop_cons x0 i h, List.take_succ_cons]
theorem l1Take_l0 (x0 : List Int) (hx : IsBytes x0) (hn : x0.length ≤ 1048576) (at_ size : Nat) (hs : size ≤ 6) (ha : at_ + size ≤ x0.length) :
    ∀ (d k j : Nat) (n : Int), j + d = size → d < k → 0 ≤ n → n < 256 ^ j →
    spec_l1Take.l0 k x0 (at_ : Int) (size : Int) n (j : Int) = some (numFrom n ((x0.drop (at_ + j)).take d)) := by
  intro d
  induction d with
  | zero =>
    intro k j n hi hk h0 h1
    obtain ⟨k, rfl⟩ := at_succ hk
    simp only [spec_l1Take.l0]
    rw [if_neg (by omega)]
    simp [numFrom_nil]
  | succ d ih =>
    intro k j n hi hk h0 h1
    obtain ⟨k, rfl⟩ := at_succ hk
    have hb := hx.at_ (at_ + j)
    obtain ⟨s0, s1, s2⟩ := num_step n (x0.getD (at_ + j) 0) j h0 h1 (by omega) hb.1 hb.2
    simp only [spec_l1Take.l0]
    have e : wrap64 ((at_ : Int) + (j : Int)) = ((at_ + j : Nat) : Int) := by rw [w64 (by omega) (by omega)]; omega
    rw [e, rd_nat, w64n j (by omega), if_pos (by omega), if_pos (by omega), if_pos (by omega)]
    rw [w64 (n := n * 256) (by omega) (by omega), w64 (n := x0.getD (at_ + j) 0) (by omega) (by omega), w64 (n := n * 256 + x0.getD (at_ + j) 0) (by omega) (by omega)]
    rw [ih k (j + 1) _ (by omega) (by omega) s0 s1, take_drop_cons x0 (at_ + j) d (by omega), numFrom_cons]
    rfl
theorem l1Take_is (x0 : List Int) (hx : IsBytes x0) (hn : x0.length ≤ 1048576) (at_ size : Nat) (hs : size ≤ 6) (ha : at_ + size ≤ x0.length) (k : Nat) (hk : 7 ≤ k) :
    spec_l1Take.f k x0 (at_ : Int) (size : Int) = some (num ((x0.drop at_).take size)) := by
  unfold spec_l1Take.f
  exact l1Take_l0 x0 hx hn at_ size hs ha size k 0 0 (by omega) (by omega) (by omega) (by decide)
def inB (a lo hi : Int) : Bool := decide (a ≥ lo) && decide (a ≤ hi)
def protoB (a : Int) : Bool := decide (a = 6) || decide (a = 17)
theorem impl_in_is (a lo hi : Int) : impl_in.f a lo hi = some (inB a lo hi) := by
  unfold impl_in.f inB
  by_cases h : a ≥ lo <;> simp [h]
theorem spec_l1In_is (a lo hi : Int) : spec_l1In.f a lo hi = some (inB a lo hi) := by
  unfold spec_l1In.f inB
  by_cases h : a ≥ lo <;> simp [h]
theorem impl_isAddress_is (a : Int) : impl_isAddress.f a = some (inB a 0 4294967295) := by unfold impl_isAddress.f; rw [impl_in_is, bind_s]
theorem spec_l2Address_is (a : Int) : spec_l2Address.f a = some (inB a 0 4294967295) := by unfold spec_l2Address.f; rw [spec_l1In_is, bind_s]
theorem shr8 (n : Int) (s : Nat) (hs : s ≤ 7) : shr .i64 n ((8 * s : Nat) : Int) = n / 2 ^ (8 * s) := by
  unfold shr
  rw [Int.toNat_natCast, Nat.min_eq_left (by simp only [IntKind.bits]; omega)]
/-- The s lowest bytes of a number, the highest first. -/
def be (n : Int) : Nat → List Int
  | 0 => []
  | s + 1 => (n / 2 ^ (8 * s)) % 256 :: be n s
theorem be_length (n : Int) : ∀ s, (be n s).length = s
  | 0 => rfl
  | s + 1 => by simp [be, be_length n s]
theorem be_bytes (n : Int) : ∀ s, ∀ x ∈ be n s, 0 ≤ x ∧ x ≤ 255
  | 0 => fun x hx => by cases hx
  | s + 1 => fun x hx => by
    rcases List.mem_cons.1 hx with rfl | hx
    · omega
    · exact be_bytes n s x hx
theorem eight (s : Nat) (hs : s ≤ 7) : wrap64 (8 * (s : Int)) = ((8 * s : Nat) : Int) := by rw [w64 (by omega) (by omega)]; omega
theorem eightU (s : Nat) (hs : s ≤ 7) : IntKind.u64.wrap (wrap64 (8 * (s : Int))) = ((8 * s : Nat) : Int) := by
  rw [eight s hs, Go.IntKind.wrap_u64]; omega
theorem impl_put_l0 (n : Int) : ∀ (s k : Nat) (out : List Int), s ≤ 7 → s < k → out.length + s ≤ 1000000000 → impl_put.l0 k out n ((s : Int) - 1) = some (out ++ be n s) := by
  intro s
  induction s with
  | zero =>
    intro k out hs hk ho
    obtain ⟨k, rfl⟩ := at_succ hk
    simp only [impl_put.l0]
    rw [if_neg (by omega)]; simp [be]
  | succ s ih =>
    intro k out hs hk ho
    obtain ⟨k, rfl⟩ := at_succ hk
    simp only [impl_put.l0]
    rw [show ((s + 1 : Nat) : Int) - 1 = (s : Int) by omega, if_pos (by omega), eight s (by omega), if_pos (by omega), if_pos (by omega), shr8 n s (by omega), w64 (by omega) (by omega)]
    rw [ih k _ (by omega) (by omega) (by simp; omega)]; simp [be]
theorem impl_put_is (out : List Int) (n : Int) (s : Nat) (hs : s ≤ 7) (k : Nat) (hk : s < k) (ho : out.length + s ≤ 1000000000) : impl_put.f k out n (s : Int) = some (out ++ be n s) := by
  unfold impl_put.f
  rw [w64 (by omega) (by omega)]
  exact impl_put_l0 n s k out hs hk ho
theorem spec_l1Bytes_l0 (n : Int) : ∀ (s k : Nat) (out : List Int), s ≤ 7 → s < k → out.length + s ≤ 1000000000 → spec_l1Bytes.l0 k n out ((s : Int) - 1) = some (out ++ be n s) := by
  intro s
  induction s with
  | zero =>
    intro k out hs hk ho
    obtain ⟨k, rfl⟩ := at_succ hk
    simp only [spec_l1Bytes.l0]
    rw [if_neg (by omega)]; simp [be]
  | succ s ih =>
    intro k out hs hk ho
    obtain ⟨k, rfl⟩ := at_succ hk
    simp only [spec_l1Bytes.l0]
    rw [show ((s + 1 : Nat) : Int) - 1 = (s : Int) by omega, if_pos (by omega), eightU s (by omega), if_pos (by omega), if_pos (by omega), shr8 n s (by omega), w64 (by omega) (by omega)]
    rw [ih k _ (by omega) (by omega) (by simp; omega)]; simp [be]
theorem spec_l1Bytes_is (n : Int) (s : Nat) (hs : s ≤ 7) (k : Nat) (hk : s < k) : spec_l1Bytes.f k n (s : Int) = some (be n s) := by
  unfold spec_l1Bytes.f
  rw [w64 (by omega) (by omega)]
  have := spec_l1Bytes_l0 n s k [] hs hk (by simp; omega)
  simpa using this
theorem numFrom_be (n m : Int) : ∀ s, s ≤ 6 → numFrom m (be n s) = m * 2 ^ (8 * s) + n % 2 ^ (8 * s) := by
  intro s
  induction s generalizing m with
  | zero => intro _; simp [be, numFrom_nil]
  | succ s ih =>
    intro hs
    rw [be, numFrom_cons, ih _ (by omega)]
    have h : s = 0 ∨ s = 1 ∨ s = 2 ∨ s = 3 ∨ s = 4 ∨ s = 5 := by omega
    rcases h with rfl | rfl | rfl | rfl | rfl | rfl <;> simp <;> omega
theorem be2 (n : Int) : be n 2 = [n / 2 ^ (8 * 1) % 256, n / 2 ^ (8 * 0) % 256] := rfl
theorem be4 (n : Int) : be n 4 = [n / 2 ^ (8 * 3) % 256, n / 2 ^ (8 * 2) % 256, n / 2 ^ (8 * 1) % 256, n / 2 ^ (8 * 0) % 256] := rfl
/-- A head with no sum in it. -/
def bareL (p a b n : Int) : List Int := [69, 0] ++ be (20 + n) 2 ++ [0, 0, 0, 0, 64, p % 256] ++ [0, 0] ++ (be a 4 ++ be b 4)
def headL (p a b n : Int) : List Int := [69, 0] ++ be (20 + n) 2 ++ [0, 0, 0, 0, 64, p % 256] ++ be (sumW (bareL p a b n)) 2 ++ (be a 4 ++ be b 4)
theorem headL_length (p a b n : Int) : (headL p a b n).length = 20 := by simp [headL, be_length]
theorem bareL_length (p a b n : Int) : (bareL p a b n).length = 20 := by simp [bareL, be_length]
theorem bareL_bytes (p a b n : Int) : IsBytes (bareL p a b n) := by
  have h1 : IsBytes [69, 0] := fun x hx => by simp at hx; omega
  have h2 : IsBytes [0, 0, 0, 0, 64, p % 256] := fun x hx => by simp at hx; omega
  have h3 : IsBytes [0, 0] := fun x hx => by simp at hx; omega
  exact (((h1.append (be_bytes _ 2)).append h2).append h3).append (IsBytes.append (be_bytes a 4) (be_bytes b 4))
theorem headL_bytes (p a b n : Int) : IsBytes (headL p a b n) := by
  have h1 : IsBytes [69, 0] := fun x hx => by simp at hx; omega
  have h2 : IsBytes [0, 0, 0, 0, 64, p % 256] := fun x hx => by simp at hx; omega
  exact (((h1.append (be_bytes _ 2)).append h2).append (be_bytes _ 2)).append (IsBytes.append (be_bytes a 4) (be_bytes b 4))
theorem impl_head_is (p a b n : Int) (h0 : 0 ≤ n) (h1 : n ≤ 1048600) (k : Nat) (hk : 8 ≤ k) : impl_head.f k p a b n = some (headL p a b n) := by
  unfold impl_head.f
  have e2 : ((2 : Nat) : Int) = 2 := rfl
  have e4 : ((4 : Nat) : Int) = 4 := rfl
  rw [w64 (n := 20 + n) (by omega) (by omega), ← e2, ← e4, impl_put_is [69, 0] _ 2 (by omega) k (by omega) (by simp), bind_s, bind_s, if_pos (by simp [be_length])]
  rw [impl_put_is _ a 4 (by omega) k (by omega) (by simp [be_length]), bind_s, impl_put_is _ b 4 (by omega) k (by omega) (by simp [be_length]), bind_s]
  have hb : ([69, 0] ++ be (20 + n) 2 ++ [0, 0, 0, 0, 64, p % 256, 0, 0] ++ be a 4 ++ be b 4 : List Int) = bareL p a b n := by simp [bareL]
  rw [hb, impl_SumWords_is _ (bareL_bytes p a b n) (by rw [bareL_length]; omega), bind_s, impl_put_is [] _ 2 (by omega) k (by omega) (by simp), bind_s, if_pos (by rw [bareL_length]; omega), if_pos (by simp [be_length])]
  have h1 : (bareL p a b n).take 10 = [69, 0] ++ be (20 + n) 2 ++ [0, 0, 0, 0, 64, p % 256] := by simp [bareL, be2]
  have h2 : (bareL p a b n).drop 12 = be a 4 ++ be b 4 := by simp [bareL, be2]
  rw [h1, h2]; simp [headL]
theorem spec_l2Head_is (p a b n : Int) (h0 : 0 ≤ n) (h1 : n ≤ 1048600) (k : Nat) (hk : 50 ≤ k) : spec_l2Head.f k p a b n = some (headL p a b n) := by
  unfold spec_l2Head.f
  have e2 : ((2 : Nat) : Int) = 2 := rfl
  have e4 : ((4 : Nat) : Int) = 4 := rfl
  rw [w64 (n := 20 + n) (by omega) (by omega), bind_s, ← e2, ← e4, spec_l1Bytes_is _ 2 (by omega) k (by omega), bind_s, if_pos (by simp [be_length]), bind_s, bind_s, if_pos (by simp [be_length]), bind_s]
  rw [spec_l1Bytes_is _ 4 (by omega) k (by omega), bind_s, spec_l1Bytes_is _ 4 (by omega) k (by omega), bind_s, if_pos (by simp [be_length]), bind_s, bind_s, if_pos (by simp [be_length]), bind_s, bind_s, if_pos (by simp [be_length]), bind_s, if_pos (by simp [be_length]), bind_s, if_pos (by simp [be_length]), bind_s]
  have hb : ([] ++ ([69, 0] ++ be (20 + n) 2 ++ [0, 0, 0, 0, 64, p % 256]) ++ [0, 0] ++ (be a 4 ++ be b 4) : List Int) = bareL p a b n := by simp [bareL]
  rw [hb, spec_SumWords_is _ (bareL_bytes p a b n) (by rw [bareL_length]; omega) k (by rw [bareL_length]; omega), bind_s, spec_l1Bytes_is _ 2 (by omega) k (by omega), bind_s, if_pos (by simp [be_length]), bind_s, if_pos (by simp [be_length])]
  simp [headL]
def wrapL (a b : Int) (l : List Int) : List Int := headL 47 a b (4 + (l.length : Int)) ++ [0, 0, 8, 0] ++ l
def wrapR (a b : Int) (l : List Int) : Int × List Int := if (inB a 0 4294967295 && inB b 0 4294967295) = true then (if (l.length : Int) > 230 then (2, []) else (0, wrapL a b l)) else (3, [])
theorem wrapL_length (a b : Int) (l : List Int) : (wrapL a b l).length = 24 + l.length := by simp [wrapL, headL_length]; omega
theorem wrapR_length (a b : Int) (l : List Int) : (wrapR a b l).2.length ≤ 254 := by
  unfold wrapR
  split
  · split
    · simp
    · show (wrapL a b l).length ≤ _
      rw [wrapL_length]; omega
  · simp
theorem wrapL_bytes (a b : Int) (l : List Int) (h : IsBytes l) : IsBytes (wrapL a b l) := ((headL_bytes _ _ _ _).append (fun x hx => by simp at hx; omega)).append h
theorem impl_wrap_is (a b : Int) (l : List Int) (hl : l.length ≤ 1048576) (k : Nat) (hk : 8 ≤ k) : impl_wrap.f k a b l = some (wrapL a b l) := by
  unfold impl_wrap.f impl_size_byte.f
  rw [bind_s, w64 (n := 4 + (l.length : Int)) (by omega) (by omega), impl_head_is _ _ _ _ (by omega) (by omega) k hk, bind_s, bind_s, if_pos (by simp [headL_length]), bind_s, if_pos (by simp [headL_length]; omega)]
  rfl
theorem impl_WrapGre_is (a b : Int) (l : List Int) (hl : l.length ≤ 1048576) (k : Nat) (hk : 9 ≤ k) : impl_WrapGre.f k a b l = some (wrapR a b l) := by
  obtain ⟨k, rfl⟩ : ∃ j, k = j + 1 := ⟨k - 1, by omega⟩
  unfold impl_WrapGre.f wrapR
  rw [impl_isAddress_is, impl_isAddress_is, bind_s, bind_s]
  simp only [impl_WrapGre.j0]
  rw [impl_wrap_is a b l hl k (by omega)]
  generalize inB a 0 4294967295 = x
  generalize inB b 0 4294967295 = y
  by_cases h : (l.length : Int) > 230
  · rw [if_pos h, if_pos h]; cases x <;> cases y <;> rfl
  · rw [if_neg h, if_neg h]; cases x <;> cases y <;> rfl
theorem spec_l2Wrap_is (a b : Int) (l : List Int) (hl : l.length ≤ 1048576) (k : Nat) (hk : 50 ≤ k) : spec_l2Wrap.f k a b l = some (wrapL a b l) := by
  unfold spec_l2Wrap.f
  rw [w64 (n := 4 + (l.length : Int)) (by omega) (by omega), spec_l2Head_is _ _ _ _ (by omega) (by omega) k hk, bind_s, bind_s, if_pos (by simp [headL_length]), bind_s, if_pos (by simp [headL_length]; omega)]
  rfl
theorem spec_WrapGre_is (a b : Int) (l : List Int) (hl : l.length ≤ 1048576) (k : Nat) (hk : 51 ≤ k) : spec_WrapGre.f k a b l = some (wrapR a b l) := by
  obtain ⟨k, rfl⟩ : ∃ j, k = j + 1 := ⟨k - 1, by omega⟩
  unfold spec_WrapGre.f wrapR
  rw [spec_l2Address_is, spec_l2Address_is, bind_s, bind_s]
  simp only [spec_WrapGre.j0]
  rw [spec_l2Wrap_is a b l hl k (by omega)]
  generalize inB a 0 4294967295 = x
  generalize inB b 0 4294967295 = y
  by_cases h : (l.length : Int) > 230
  · rw [if_pos h, if_pos h]; cases x <;> cases y <;> rfl
  · rw [if_neg h, if_neg h]; cases x <;> cases y <;> rfl
def nm (l : List Int) (a s : Nat) : Int := num ((l.drop a).take s)
theorem take_drop_nm (l : List Int) (a s : Nat) : (l.take (a + s)).drop a = (l.drop a).take s := by
  rw [List.drop_take]; congr 1; omega
theorem impl_number_at (l : List Int) (hl : IsBytes l) (a s b : Nat) (hb : b = a + s) (hs : s ≤ 6) (k : Nat) (hk : 7 ≤ k) : impl_number.f k ((l.take b).drop a) = some (nm l a s) := by
  subst hb
  rw [take_drop_nm, number_is _ ((hl.drop_ a).take_ s) (by rw [List.length_take]; omega) k hk]; rfl
theorem spec_take_at (l : List Int) (hl : IsBytes l) (hn : l.length ≤ 1048576) (a s : Nat) (h : a + s ≤ l.length) (hs : s ≤ 6) (k : Nat) (hk : 7 ≤ k) : spec_l1Take.f k l (a : Int) (s : Int) = some (nm l a s) := l1Take_is l hl hn a s hs h k hk
theorem clone_is (l : List Int) (hn : l.length ≤ 1048576) : slices_Clone_byte_byte.f l = some l := by
  unfold slices_Clone_byte_byte.f
  rw [bind_s, if_pos (by simp; omega)]; simp
def sameB (l m : List Int) : Bool := (strOfNums l).toList == (strOfNums m).toList
def unwrapR (l : List Int) : Int × Int × Int × List Int :=
  if inB (l.length : Int) 24 254 = true then (if sameB (wrapL (nm l 12 4) (nm l 16 4) (l.drop 24)) l = true then (0, nm l 12 4, nm l 16 4, l.drop 24) else (5, 0, 0, [])) else (5, 0, 0, [])
theorem unwrapR_length (l : List Int) : (unwrapR l).2.2.2.length ≤ l.length := by
  unfold unwrapR
  split
  · split
    · show (l.drop 24).length ≤ _
      simp
    · simp
  · simp
theorem impl_UnwrapGre_is (l : List Int) (hb : IsBytes l) (hn : l.length ≤ 1048576) (k : Nat) (hk : 10 ≤ k) : impl_UnwrapGre.f k l = some (unwrapR l) := by
  unfold impl_UnwrapGre.f impl_size_byte.f unwrapR
  rw [bind_s, impl_in_is, bind_s]
  by_cases c1 : inB (l.length : Int) 24 254 = true
  · have hlen : 24 ≤ l.length := by simp only [inB, Bool.and_eq_true, decide_eq_true_eq] at c1; omega
    rw [if_pos c1, if_pos c1, if_pos (by decide), if_pos (by omega), impl_number_at l hb 12 4 16 rfl (by omega) k (by omega), bind_s, if_pos (by decide), if_pos (by omega), impl_number_at l hb 16 4 20 rfl (by omega) k (by omega), bind_s, if_pos (by omega)]
    rw [clone_is _ (by simp; omega), bind_s, impl_wrap_is _ _ _ (by simp; omega) k (by omega), bind_s]
    unfold bytes_Equal.f
    rw [bind_s]
    show (if sameB (wrapL (nm l 12 4) (nm l 16 4) (l.drop 24)) l = true then _ else _) = _
    split <;> rfl
  · rw [if_neg c1, if_neg c1]
theorem spec_UnwrapGre_is (l : List Int) (hb : IsBytes l) (hn : l.length ≤ 1048576) (k : Nat) (hk : 60 ≤ k) : spec_UnwrapGre.f k l = some (unwrapR l) := by
  unfold spec_UnwrapGre.f unwrapR
  rw [spec_l1In_is, bind_s]
  by_cases c1 : inB (l.length : Int) 24 254 = true
  · have hlen : 24 ≤ l.length := by simp only [inB, Bool.and_eq_true, decide_eq_true_eq] at c1; omega
    have q1 : spec_l1Take.f k l 12 4 = some (nm l 12 4) := spec_take_at l hb hn 12 4 (by omega) (by omega) k (by omega)
    have q2 : spec_l1Take.f k l 16 4 = some (nm l 16 4) := spec_take_at l hb hn 16 4 (by omega) (by omega) k (by omega)
    rw [if_pos c1, if_pos c1, q1, bind_s, q2, bind_s, if_pos (by omega), spec_l2Wrap_is _ _ _ (by simp; omega) k (by omega), bind_s]
    by_cases c : (strOfNums (wrapL (nm l 12 4) (nm l 16 4) (l.drop 24))).toList = (strOfNums l).toList
    · have e : sameB (wrapL (nm l 12 4) (nm l 16 4) (l.drop 24)) l = true := beq_iff_eq.2 c
      rw [if_pos c, if_pos e, bind_s, if_pos (by simp; omega)]; rfl
    · have e : sameB (wrapL (nm l 12 4) (nm l 16 4) (l.drop 24)) l = false := beq_eq_false_iff_ne.2 c
      rw [if_neg c, e, if_neg (by decide)]
  · rw [if_neg c1, if_neg c1]
theorem Next_is (code : List Int) (hb : IsBytes code) (hn : code.length ≤ 2097152) (at_ n : Int) (h0 : 0 ≤ at_) (h1 : at_ ≤ 1073741824) (hn1 : n ≤ 4611686018427387904) :
    ∃ v, spec_l1Next.f code at_ n = some (v, at_ + 1) ∧ 0 ≤ v ∧ (1 ≤ n → v < n) ∧ (n < 1 → v = 0) := by
  unfold spec_l1Next.f
  have e1 : wrap64 (at_ + 1) = at_ + 1 := w64 (by omega) (by omega)
  have e2 : wrap64 (at_ + 1 - 1) = at_ := by rw [w64 (by omega) (by omega)]; omega
  rw [e1, e2]
  by_cases c : n < 1
  · rw [if_pos c]; exact ⟨0, rfl, by omega, by omega, fun _ => rfl⟩
  · rw [if_neg c]
    by_cases c2 : (code.length : Int) = 0
    · have e3 : wrap64 (at_ * 7) = at_ * 7 := w64 (by omega) (by omega)
      rw [if_pos c2, if_neg (by omega), e3]
      exact ⟨_, rfl, Int.tmod_nonneg n (by omega), fun _ => Int.tmod_lt_of_pos _ (by omega), fun h => absurd h c⟩
    · have hk : 0 < (code.length : Int) := by omega
      have t0 : 0 ≤ Int.tmod at_ code.length := Int.tmod_nonneg _ h0
      have t1 : Int.tmod at_ code.length < code.length := Int.tmod_lt_of_pos _ hk
      have b1 := hb.at_ (Int.tmod at_ code.length).toNat
      have hd : Int.tdiv at_ code.length = at_ / code.length := Int.tdiv_eq_ediv_of_nonneg h0
      have d0 : 0 ≤ at_ / code.length := Int.ediv_nonneg h0 (by omega)
      have d1 : at_ / code.length ≤ at_ := Int.ediv_le_self _ h0
      have r1 : rd code (Int.tmod at_ code.length) = code.getD (Int.tmod at_ code.length).toNat 0 := rfl
      rw [if_neg c2, if_pos t0, if_pos t1, hd, r1, w64 (n := at_ / code.length) (by omega) (by omega), w64 (n := at_ / code.length * 37) (by omega) (by omega)]
      rw [w64 (n := code.getD (Int.tmod at_ code.length).toNat 0) (by omega) (by omega), w64 (n := code.getD (Int.tmod at_ code.length).toNat 0 + at_ / code.length * 37) (by omega) (by omega)]
      by_cases c3 : n > 200
      · have s0 : 0 ≤ Int.tmod (wrap64 (at_ + 1)) code.length := by rw [e1]; exact Int.tmod_nonneg _ (by omega)
        have s1 : Int.tmod (wrap64 (at_ + 1)) code.length < code.length := Int.tmod_lt_of_pos _ hk
        have b2 := hb.at_ (Int.tmod (wrap64 (at_ + 1)) code.length).toNat
        have r2 : rd code (Int.tmod (wrap64 (at_ + 1)) code.length) = code.getD (Int.tmod (wrap64 (at_ + 1)) code.length).toNat 0 := rfl
        rw [e1] at s0 s1 b2 r2
        rw [if_pos c3, e1, if_pos s0, if_pos s1, if_neg (by omega), r2]
        generalize code.getD (Int.tmod at_ code.length).toNat 0 = x at *
        generalize code.getD (Int.tmod (at_ + 1) code.length).toNat 0 = y at *
        generalize at_ / code.length = q at *
        rw [w64 (n := y) (by omega) (by omega), w64 (n := y * 13) (by omega) (by omega), w64 (n := (x + q * 37) * 251) (by omega) (by omega), w64 (n := (x + q * 37) * 251 + y * 13) (by omega) (by omega), w64 (n := (x + q * 37) * 251 + y * 13 + at_) (by omega) (by omega)]
        exact ⟨_, rfl, Int.tmod_nonneg n (by omega), fun _ => Int.tmod_lt_of_pos _ (by omega), fun h => absurd h c⟩
      · rw [if_neg c3, if_neg (by omega)]
        exact ⟨_, rfl, Int.tmod_nonneg n (by omega), fun _ => Int.tmod_lt_of_pos _ (by omega), fun h => absurd h c⟩
theorem Pick_is (code : List Int) (hb : IsBytes code) (hn : code.length ≤ 2097152) (at_ : Int) (h0 : 0 ≤ at_) (h1 : at_ ≤ 1073741824) (l : List Int) (hl : 0 < l.length) (hl2 : l.length ≤ 1000) :
    ∃ v, spec_l1Pick.f code at_ l = some (v, at_ + 1) ∧ v ∈ l := by
  obtain ⟨v, hv, v0, v1, _⟩ := Next_is code hb hn at_ l.length h0 h1 (by omega)
  have v2 := v1 (by omega)
  unfold spec_l1Pick.f
  rw [hv, Option.bind_some, if_pos v0, if_pos v2]
  refine ⟨_, rfl, ?_⟩
  unfold rd
  have hlt : v.toNat < l.length := by omega
  have : l.getD v.toNat 0 = l[v.toNat] := by simp [List.getD, hlt]
  rw [this]; exact List.getElem_mem hlt
theorem l1Some_l0 (code : List Int) (hb : IsBytes code) (hn : code.length ≤ 2097152) : ∀ (d k : Nat) (out : List Int) (at_ : Nat), at_ + 3 * d ≤ 1073741824 → d < k → out.length + d ≤ 1000000000 →
    ∃ ys, spec_l1Some.l0 k (d : Int) out code (at_ : Int) = some (out ++ ys, ((at_ + 3 * d : Nat) : Int)) ∧ IsBytes ys ∧ ys.length = d := by
  intro d
  induction d with
  | zero =>
    intro k out at_ ha hk ho
    obtain ⟨k, rfl⟩ := at_succ hk
    simp only [spec_l1Some.l0]
    rw [if_neg (by omega)]
    exact ⟨[], by simp, (fun x hx => by cases hx), rfl⟩
  | succ d ih =>
    intro k out at_ ha hk ho
    obtain ⟨k, rfl⟩ := at_succ hk
    simp only [spec_l1Some.l0]
    obtain ⟨v1, e1, a1, b1, _⟩ := Next_is code hb hn at_ 256 (by omega) (by omega) (by omega)
    obtain ⟨v2, e2, a2, b2, _⟩ := Next_is code hb hn ((at_ : Int) + 1) 256 (by omega) (by omega) (by omega)
    obtain ⟨v3, e3, h3⟩ := Pick_is code hb hn ((at_ : Int) + 1 + 1) (by omega) (by omega) [v1, v2, 0, 255] (by simp) (by simp)
    rw [if_pos (by omega), e1, bind_s, e2, bind_s, e3, bind_s, if_pos (by omega)]
    have hw : wrap64 (((d + 1 : Nat) : Int) - 1) = (d : Int) := by rw [w64 (by omega) (by omega)]; omega
    have hat : (at_ : Int) + 1 + 1 + 1 = ((at_ + 3 : Nat) : Int) := by omega
    rw [hw, hat]
    obtain ⟨ys, h4, h5, h6⟩ := ih k (out ++ [v3 % 256]) (at_ + 3) (by omega) (by omega) (by simp; omega)
    refine ⟨v3 % 256 :: ys, ?_, fun x hx => ?_, by simp [h6]⟩
    · rw [h4]; simp; omega
    · rcases List.mem_cons.1 hx with rfl | hx
      · omega
      · exact h5 x hx
theorem l1Some_is (code : List Int) (hb : IsBytes code) (hn : code.length ≤ 2097152) (n : Int) (k : Nat) (at_ : Nat) (h0 : 0 ≤ n) (h1 : n ≤ 100000) (ha : at_ ≤ 1000000) (hk : n.toNat < k) :
    ∃ ys, spec_l1Some.f k code (at_ : Int) n = some (ys, ((at_ + 3 * n.toNat : Nat) : Int)) ∧ IsBytes ys ∧ ys.length = n.toNat := by
  unfold spec_l1Some.f
  obtain ⟨d, rfl⟩ : ∃ d : Nat, n = d := ⟨n.toNat, by omega⟩
  rw [Int.toNat_natCast] at *
  have := l1Some_l0 code hb hn d k [] at_ (by omega) hk (by simp; omega)
  simpa using this
theorem IsBytes.set_ {xs : List Int} (h : IsBytes xs) (i : Nat) (v : Int) (h0 : 0 ≤ v) (h1 : v ≤ 255) : IsBytes (xs.set i v) := fun x hx => by
  rcases List.mem_or_eq_of_mem_set hx with hx | rfl
  · exact h x hx
  · exact ⟨h0, h1⟩
theorem Chance_is (code : List Int) (hb : IsBytes code) (hn : code.length ≤ 2097152) (at_ : Int) (h0 : 0 ≤ at_) (h1 : at_ ≤ 1073741824) (n : Int) (hn1 : n ≤ 1000) : ∃ v, spec_l1Chance.f code at_ n = some (v, at_ + 1) := by
  obtain ⟨v, e, _⟩ := Next_is code hb hn at_ n h0 h1 (by omega)
  unfold spec_l1Chance.f
  rw [e, bind_s]
  exact ⟨_, rfl⟩
theorem Turn_is (code : List Int) (hb : IsBytes code) (hn : code.length ≤ 2097152) (at_ : Int) (h0 : 0 ≤ at_) (h1 : at_ ≤ 1000000) (l : List Int) (hl : IsBytes l) (hl2 : l.length ≤ 1000000) (k : Nat) (hk : 0 < k) :
    ∃ l' s', spec_l1Turn.f k code at_ l = some (l', s') ∧ IsBytes l' ∧ l'.length ≤ l.length + 1 ∧ at_ ≤ s' ∧ s' ≤ at_ + 4 := by
  obtain ⟨k, rfl⟩ : ∃ j, k = j + 1 := ⟨k - 1, by omega⟩
  have ht : ∀ s, spec_l1Turn.j0 (k + 1) l true code s = some (l, s) := fun s => by rw [spec_l1Turn.j0.eq_2, if_pos rfl]
  unfold spec_l1Turn.f
  by_cases c : (l.length : Int) = 0
  · rw [if_pos c, ht]; exact ⟨l, at_, rfl, hl, by omega, by omega, by omega⟩
  · rw [if_neg c]
    obtain ⟨v, e⟩ := Chance_is code hb hn at_ h0 (by omega) 3 (by omega)
    rw [e, bind_s]
    cases v with
    | false =>
      show ∃ l' s', spec_l1Turn.j0 (k + 1) l true code (at_ + 1) = some (l', s') ∧ _
      rw [ht]; exact ⟨l, at_ + 1, rfl, hl, by omega, by omega, by omega⟩
    | true =>
      show ∃ l' s', spec_l1Turn.j0 (k + 1) l false code (at_ + 1) = some (l', s') ∧ _
      rw [spec_l1Turn.j0.eq_2, if_neg (by decide)]
      obtain ⟨i, e1, i0, i1, _⟩ := Next_is code hb hn (at_ + 1) l.length (by omega) (by omega) (by omega)
      obtain ⟨w, e2, w0, w1, _⟩ := Next_is code hb hn (at_ + 1 + 1) 3 (by omega) (by omega) (by omega)
      obtain ⟨u, e3, u0, u1, _⟩ := Next_is code hb hn (at_ + 1 + 1 + 1) 256 (by omega) (by omega) (by omega)
      have i2 := i1 (by omega)
      rw [e1, bind_s, e2, bind_s]
      by_cases c0 : w = 0
      · rw [if_pos c0, e3, bind_s, if_pos i0, if_pos i2]
        exact ⟨_, _, rfl, hl.set_ _ _ (by omega) (by omega), by rw [List.length_set]; omega, by omega, by omega⟩
      · rw [if_neg c0]
        by_cases c1 : w = 1
        · rw [if_pos c1, if_pos i0, if_pos (by omega)]
          exact ⟨_, _, rfl, hl.take_ _, by rw [List.length_take]; omega, by omega, by omega⟩
        · rw [if_neg c1]
          by_cases c2 : w = 2
          · rw [if_pos c2, if_pos (by omega)]
            exact ⟨_, _, rfl, hl.append (fun x hx => by simp at hx; omega), by simp, by omega, by omega⟩
          · rw [if_neg c2]; exact ⟨l, _, rfl, hl, by omega, by omega, by omega⟩
theorem DrawAddress_is (code : List Int) (hb : IsBytes code) (hn : code.length ≤ 2097152) (at_ : Int) (h0 : 0 ≤ at_) (h1 : at_ ≤ 1000000) : ∃ v, spec_l2DrawAddress.f code at_ = some (v, at_ + 3) := by
  unfold spec_l2DrawAddress.f
  obtain ⟨a, e1, _⟩ := Next_is code hb hn at_ 6 (by omega) (by omega) (by omega)
  obtain ⟨b, e2, _⟩ := Next_is code hb hn (at_ + 1) 6 (by omega) (by omega) (by omega)
  obtain ⟨c, e3, _⟩ := Pick_is code hb hn (at_ + 1 + 1) (by omega) (by omega) [wrap64 (167772160 + a), wrap64 (167772160 + b), 5, 0, 4294967295] (by simp) (by simp)
  rw [e1, bind_s, e2, bind_s, e3, bind_s]
  exact ⟨c, by rw [show at_ + 1 + 1 + 1 = at_ + 3 by omega]⟩
def pf (a b c d e : Int) (l : List Int) : Int :=
  if (inB a 0 4294967295 && (inB b 0 4294967295 && (protoB c && (inB d 0 65535 && inB e 0 65535)))) = true then (if (l.length : Int) > 200 then 2 else 0) else 3
def buildL (a b c d e : Int) (l : List Int) : List Int := headL c a b (4 + (l.length : Int)) ++ be d 2 ++ be e 2 ++ l
def buildR (a b c d e : Int) (l : List Int) : Int × List Int := if pf a b c d e l = 0 then (0, buildL a b c d e l) else (pf a b c d e l, [])
theorem buildL_length (a b c d e : Int) (l : List Int) : (buildL a b c d e l).length = 24 + l.length := by simp [buildL, be_length, headL_length]; omega
theorem buildR_length (a b c d e : Int) (l : List Int) : (buildR a b c d e l).2.length ≤ 24 + l.length := by
  unfold buildR
  split
  · show (buildL a b c d e l).length ≤ _
    rw [buildL_length]; omega
  · show 0 ≤ _
    omega
theorem pf_zero (a b c d e : Int) (l : List Int) (h : pf a b c d e l = 0) : l.length ≤ 200 := by
  unfold pf at h
  split at h
  · split at h <;> omega
  · omega
theorem spec_l2Build_is (a b c d e : Int) (l : List Int) (hl : l.length ≤ 1048576) (k : Nat) (hk : 50 ≤ k) : spec_l2Build.f k a b c d e l = some (buildL a b c d e l) := by
  unfold spec_l2Build.f
  have e2 : ((2 : Nat) : Int) = 2 := rfl
  rw [w64 (n := 4 + (l.length : Int)) (by omega) (by omega), spec_l2Head_is _ _ _ _ (by omega) (by omega) k hk, bind_s, ← e2, spec_l1Bytes_is _ 2 (by omega) k (by omega), bind_s, if_pos (by simp [be_length, headL_length]), bind_s, spec_l1Bytes_is _ 2 (by omega) k (by omega), bind_s, if_pos (by simp [be_length, headL_length]), bind_s, if_pos (by simp [be_length, headL_length]; omega)]
  rfl
theorem buildL_bytes (a b c d e : Int) (l : List Int) (hl : IsBytes l) : IsBytes (buildL a b c d e l) := (((headL_bytes _ _ _ _).append (be_bytes d 2)).append (be_bytes e 2)).append hl
theorem Packet_is (code : List Int) (hb : IsBytes code) (hn : code.length ≤ 2097152) (at_ : Int) (h0 : 0 ≤ at_) (h1 : at_ ≤ 1000) (k : Nat) (hk : 10 ≤ k) :
    ∃ a b c d e l s, spec_l2Packet.f k code at_ = some (a, b, c, d, e, l, s) ∧ IsBytes l ∧ l.length ≤ 9 ∧ at_ ≤ s ∧ s ≤ at_ + 100 := by
  unfold spec_l2Packet.f
  obtain ⟨a, e1⟩ := DrawAddress_is code hb hn at_ h0 (by omega)
  obtain ⟨b, e2⟩ := DrawAddress_is code hb hn (at_ + 3) (by omega) (by omega)
  obtain ⟨c, e3, _⟩ := Pick_is code hb hn (at_ + 3 + 3) (by omega) (by omega) [6, 17] (by simp) (by simp)
  obtain ⟨d, e4, _⟩ := Next_is code hb hn (at_ + 3 + 3 + 1) 30 (by omega) (by omega) (by omega)
  obtain ⟨e, e5, _⟩ := Next_is code hb hn (at_ + 3 + 3 + 1 + 1) 65536 (by omega) (by omega) (by omega)
  obtain ⟨f, e6, _⟩ := Pick_is code hb hn (at_ + 3 + 3 + 1 + 1 + 1) (by omega) (by omega) [80, 443, e] (by simp) (by simp)
  obtain ⟨g, e7, g0, g1, _⟩ := Next_is code hb hn (at_ + 3 + 3 + 1 + 1 + 1 + 1) 9 (by omega) (by omega) (by omega)
  have g2 := g1 (by omega)
  obtain ⟨m, hm⟩ : ∃ m : Nat, at_ + 3 + 3 + 1 + 1 + 1 + 1 + 1 = (m : Int) := ⟨(at_ + 3 + 3 + 1 + 1 + 1 + 1 + 1).toNat, by omega⟩
  obtain ⟨ys, e8, h2, h3⟩ := l1Some_is code hb hn g k m g0 (by omega) (by omega) (by omega)
  rw [e1, bind_s, e2, bind_s, e3, bind_s, e4, bind_s, e5, bind_s, e6, bind_s, e7, bind_s]
  simp only [hm]
  rw [e8, bind_s]
  exact ⟨_, _, _, _, _, ys, _, rfl, h2, by omega, by omega, by omega⟩
theorem Wire_is (code : List Int) (hb : IsBytes code) (hn : code.length ≤ 2097152) (at_ : Int) (h0 : 0 ≤ at_) (h1 : at_ ≤ 1000) (k : Nat) (hk : 60 ≤ k) :
    ∃ l s, spec_l2Wire.f k code at_ = some (l, s) ∧ IsBytes l ∧ l.length ≤ 34 ∧ at_ ≤ s ∧ s ≤ at_ + 200 := by
  unfold spec_l2Wire.f
  obtain ⟨a, b, c, d, e, l, s, e1, hl, hl2, s0, s1⟩ := Packet_is code hb hn at_ h0 h1 k (by omega)
  rw [e1, bind_s]
  show ∃ l' s', ((spec_l2Build.f k a b c d e l).bind _) = some (l', s') ∧ _
  rw [spec_l2Build_is a b c d e l (by omega) k (by omega), bind_s]
  have hB := buildL_bytes a b c d e l hl
  have hBl := buildL_length a b c d e l
  generalize buildL a b c d e l = y at *
  obtain ⟨q, e2⟩ := Chance_is code hb hn s (by omega) (by omega) 6 (by omega)
  show ∃ l' s', ((spec_l1Chance.f code s 6).bind _) = some (l', s') ∧ _
  rw [e2, bind_s]
  cases q with
  | false =>
    show ∃ l' s', (if (false : Bool) = true then _ else ((spec_l1Turn.f k code (s + 1) y).bind _)) = some (l', s') ∧ _
    rw [if_neg (by decide)]
    obtain ⟨l', s', e3, b1, b2, b3, b4⟩ := Turn_is code hb hn (s + 1) (by omega) (by omega) y hB (by omega) k (by omega)
    rw [e3, bind_s]
    exact ⟨l', s', rfl, b1, by omega, by omega, by omega⟩
  | true =>
    obtain ⟨i, e3, hi⟩ := Pick_is code hb hn (s + 1) (by omega) (by omega) [1, 4, 6, 7, 8, 9] (by simp) (by simp)
    have hi' : 0 ≤ i ∧ i < 10 := by
      simp only [List.mem_cons, List.not_mem_nil, or_false] at hi; omega
    obtain ⟨v, e4, _⟩ := Next_is code hb hn (s + 1 + 1) 3 (by omega) (by omega) (by omega)
    show ∃ l' s', (if (true : Bool) = true then ((spec_l1Pick.f code (s + 1) [1, 4, 6, 7, 8, 9]).bind _) else _) = some (l', s') ∧ _
    rw [if_pos rfl, e3, bind_s]
    show ∃ l' s', ((spec_l1Next.f code (s + 1 + 1) 3).bind _) = some (l', s') ∧ _
    rw [e4, bind_s]
    simp only []
    rw [if_pos hi'.1, if_pos (by omega), if_pos (by omega), if_pos (by omega), bind_s, if_pos (by omega)]
    have hY : IsBytes (((y.set (i : Int).toNat (v % 256)).set (10 : Int).toNat 0).set (11 : Int).toNat 0) := ((hB.set_ _ _ (by omega) (by omega)).set_ _ _ (by omega) (by omega)).set_ _ _ (by omega) (by omega)
    have hYl : (((y.set (i : Int).toNat (v % 256)).set (10 : Int).toNat 0).set (11 : Int).toNat 0).length = y.length := by simp
    generalize ((y.set (i : Int).toNat (v % 256)).set (10 : Int).toNat 0).set (11 : Int).toNat 0 = z at *
    rw [spec_SumWords_is _ (hY.take_ 20) (by rw [List.length_take]; omega) k (by rw [List.length_take]; omega), bind_s]
    generalize sumW (z.take 20) = t at *
    have hZ : IsBytes ((z.set (10 : Int).toNat ((wrap64 (Int.tdiv t 256)) % 256)).set (11 : Int).toNat ((Int.tmod t 256) % 256)) := (hY.set_ _ _ (by omega) (by omega)).set_ _ _ (by omega) (by omega)
    have hZl : ((z.set (10 : Int).toNat ((wrap64 (Int.tdiv t 256)) % 256)).set (11 : Int).toNat ((Int.tmod t 256) % 256)).length = y.length := by rw [List.length_set, List.length_set, hYl]
    generalize ((z.set (10 : Int).toNat ((wrap64 (Int.tdiv t 256)) % 256)).set (11 : Int).toNat ((Int.tmod t 256) % 256)) = x at *
    obtain ⟨l', s', e5, b1, b2, b3, b4⟩ := Turn_is code hb hn (s + 1 + 1 + 1) (by omega) (by omega) x hZ (by omega) k (by omega)
    rw [e5, bind_s]
    exact ⟨l', s', rfl, b1, by omega, by omega, by omega⟩
theorem DrawUnwrapGre_is (code : List Int) (hb : IsBytes code) (hn : code.length ≤ 1048576) (k : Nat) (hk : 60 ≤ k) : ∃ l, spec_DrawUnwrapGre.f k code = some l ∧ IsBytes l ∧ l.length ≤ 100 := by
  unfold spec_DrawUnwrapGre.f spec_l1Source.f
  obtain ⟨a, e1⟩ := DrawAddress_is code hb (by omega) 0 (by omega) (by omega)
  obtain ⟨b, e2⟩ := DrawAddress_is code hb (by omega) (0 + 3) (by omega) (by omega)
  obtain ⟨l, s, e3, h1, h2, h3, h4⟩ := Wire_is code hb (by omega) (0 + 3 + 3) (by omega) (by omega) k hk
  obtain ⟨l', s', e4, b1, b2, b3, b4⟩ := Turn_is code hb (by omega) s (by omega) (by omega) (wrapL a b l) (wrapL_bytes a b l h1) (by rw [wrapL_length]; omega) k (by omega)
  rw [wrapL_length] at b2
  rw [bind_s]
  simp only []
  rw [e1, bind_s, e2, bind_s, e3, bind_s]
  simp only []
  rw [spec_l2Wrap_is a b l (by omega) k (by omega), bind_s, e4, bind_s]
  exact ⟨l', rfl, b1, by omega⟩
theorem DrawWrapGre_j0 (code : List Int) (hb : IsBytes code) (hn : code.length ≤ 1048576) (l : List Int) (s : Int) (s0 : 0 ≤ s) (s1 : s ≤ 1000) (k : Nat) (hk : 0 < k) : ∃ a b, spec_DrawWrapGre.j0 k l code s = some (a, b, l) := by
  obtain ⟨k, rfl⟩ : ∃ j, k = j + 1 := ⟨k - 1, by omega⟩
  rw [spec_DrawWrapGre.j0.eq_2]
  obtain ⟨a, e1⟩ := DrawAddress_is code hb (by omega) s (by omega) (by omega)
  obtain ⟨b, e2, _⟩ := Pick_is code hb (by omega) (s + 3) (by omega) (by omega) [a, 9, (-1)] (by simp) (by simp)
  obtain ⟨c, e3⟩ := DrawAddress_is code hb (by omega) (s + 3 + 1) (by omega) (by omega)
  obtain ⟨d, e4, _⟩ := Pick_is code hb (by omega) (s + 3 + 1 + 3) (by omega) (by omega) [c, 9, 4294967296] (by simp) (by simp)
  rw [e1, bind_s, e2, bind_s, e3, bind_s, e4, bind_s]
  exact ⟨_, _, rfl⟩
theorem DrawWrapGre_is (code : List Int) (hb : IsBytes code) (hn : code.length ≤ 1048576) (k : Nat) (hk : 60 ≤ k) : ∃ a b l, spec_DrawWrapGre.f k code = some (a, b, l) ∧ IsBytes l ∧ l.length ≤ 300 := by
  unfold spec_DrawWrapGre.f spec_l1Source.f
  obtain ⟨l, s, e3, h1, h2, h3, h4⟩ := Wire_is code hb (by omega) 0 (by omega) (by omega) k hk
  obtain ⟨q, e4⟩ := Chance_is code hb (by omega) s (by omega) (by omega) 20 (by omega)
  rw [bind_s]
  simp only []
  rw [e3, bind_s]
  simp only []
  rw [e4, bind_s]
  cases q with
  | false =>
    obtain ⟨a, b, e⟩ := DrawWrapGre_j0 code hb hn l (s + 1) (by omega) (by omega) k (by omega)
    simp only [Bool.false_eq_true, if_false]
    rw [e]; exact ⟨a, b, l, rfl, h1, by omega⟩
  | true =>
    obtain ⟨v, e5, v0, v1, _⟩ := Next_is code hb (by omega) (s + 1) 2 (by omega) (by omega) (by omega)
    have v2 := v1 (by omega)
    simp only [if_true]
    rw [e5, bind_s]
    simp only []
    rw [w64 (n := 230 + v) (by omega) (by omega), if_pos (by omega), if_pos (by omega)]
    obtain ⟨a, b, e⟩ := DrawWrapGre_j0 code hb hn (List.replicate (230 + v).toNat 0) (s + 1 + 1) (by omega) (by omega) k (by omega)
    rw [e]; exact ⟨a, b, _, rfl, fun x hx => by have := List.eq_of_mem_replicate hx; omega, by rw [List.length_replicate]; omega⟩
theorem num_be4 (a : Int) (h0 : 0 ≤ a) (h1 : a ≤ 4294967295) : num (be a 4) = a := by
  unfold num
  rw [numFrom_be a 0 4 (by omega)]
  have : (2 : Int) ^ (8 * 4) = 4294967296 := by decide
  rw [this]; omega
theorem wrap_from (a b : Int) (l : List Int) : ((wrapL a b l).drop 12).take 4 = be a 4 := by simp [wrapL, headL, be2, be4]
theorem wrap_to (a b : Int) (l : List Int) : ((wrapL a b l).drop 16).take 4 = be b 4 := by simp [wrapL, headL, be2, be4]
theorem wrap_in (a b : Int) (l : List Int) : (wrapL a b l).drop 24 = l := by simp [wrapL, headL, be2, be4]
theorem unwrap_wrap (a b : Int) (l : List Int) (ha : inB a 0 4294967295 = true) (hb : inB b 0 4294967295 = true) (hl : l.length ≤ 230) : unwrapR (wrapL a b l) = (0, a, b, l) := by
  simp only [inB, Bool.and_eq_true, decide_eq_true_eq] at ha hb
  have e1 : nm (wrapL a b l) 12 4 = a := by unfold nm; rw [wrap_from, num_be4 a (by omega) (by omega)]
  have e2 : nm (wrapL a b l) 16 4 = b := by unfold nm; rw [wrap_to, num_be4 b (by omega) (by omega)]
  have e3 := wrap_in a b l
  unfold unwrapR
  rw [e1, e2, e3, wrapL_length]
  have e4 : inB ((24 + l.length : Nat) : Int) 24 254 = true := by unfold inB; rw [decide_eq_true (by omega), decide_eq_true (by omega)]; rfl
  have e5 : sameB (wrapL a b l) (wrapL a b l) = true := beq_self_eq_true _
  rw [if_pos e4, if_pos e5]
theorem FnWraps_j0 (code : List Int) (hb : IsBytes code) (hn : code.length ≤ 1048576) (k : Nat) (hk : 200 ≤ k) : laws_FnWraps.j0 k code false = some true := by
  obtain ⟨k, rfl⟩ : ∃ j, k = j + 1 := ⟨k - 1, by omega⟩
  rw [laws_FnWraps.j0.eq_2, if_neg (by decide)]
  obtain ⟨a, b, l, e1, hl, hl2⟩ := DrawWrapGre_is code hb hn k (by omega)
  rw [e1, bind_s]
  simp only []
  rw [impl_WrapGre_is a b l (by omega) k (by omega), bind_s, spec_WrapGre_is a b l (by omega) k (by omega)]
  by_cases c1 : (inB a 0 4294967295 && inB b 0 4294967295) = true
  · by_cases c2 : (l.length : Int) > 230
    · have e : wrapR a b l = (2, []) := by unfold wrapR; rw [if_pos c1, if_pos c2]
      rw [e]; rfl
    · have e : wrapR a b l = (0, wrapL a b l) := by unfold wrapR; rw [if_pos c1, if_neg c2]
      have c3 := Bool.and_eq_true_iff.1 c1
      rw [e]
      simp only [if_true]
      rw [impl_UnwrapGre_is _ (wrapL_bytes a b l hl) (by rw [wrapL_length]; omega) k (by omega), unwrap_wrap a b l c3.1 c3.2 (by omega), bind_s]
      simp only [if_true]
      rw [wrapL_length, w64 (n := 24 + (l.length : Int)) (by omega) (by omega)]
      have : (((24 + l.length : Nat) : Int) == 24 + (l.length : Int)) = true := beq_iff_eq.2 (by omega)
      rw [this]
  · have e : wrapR a b l = (3, []) := by unfold wrapR; rw [if_neg c1]
    rw [e]; rfl
theorem FnWraps : laws_FnWraps.Pure := by
  intro l _ _ hb
  have hb := IsBytes.of hb
  refine ⟨300, ?_⟩
  unfold laws_FnWraps.f laws_lwBig.f
  rw [bind_s]
  by_cases h : (l.length : Int) > 1048576
  · rw [decide_eq_true h, if_pos rfl]
  · obtain ⟨x, e, hx, hxl⟩ := DrawUnwrapGre_is l hb (by omega) 300 (by omega)
    have hj := FnWraps_j0 l hb (by omega) 300 (by omega)
    rw [decide_eq_false h, if_neg (by decide), e, bind_s, impl_UnwrapGre_is x hx (by omega) 300 (by omega), bind_s, spec_UnwrapGre_is x hx (by omega) 300 (by omega)]
    have hu : unwrapR x = (5, 0, 0, []) ∨ ((24 ≤ x.length ∧ x.length ≤ 254) ∧ sameB (wrapL (nm x 12 4) (nm x 16 4) (x.drop 24)) x = true ∧ unwrapR x = (0, nm x 12 4, nm x 16 4, x.drop 24)) := by
      unfold unwrapR
      by_cases c1 : inB (x.length : Int) 24 254 = true
      · rw [if_pos c1]
        simp only [inB, Bool.and_eq_true, decide_eq_true_eq] at c1
        by_cases c2 : sameB (wrapL (nm x 12 4) (nm x 16 4) (x.drop 24)) x = true
        · rw [if_pos c2]; exact .inr ⟨by omega, c2, rfl⟩
        · rw [if_neg c2]; exact .inl rfl
      · rw [if_neg c1]; exact .inl rfl
    rcases hu with hu | ⟨hlen, hs, hu⟩
    · rw [hu]
      simp only []
      rw [if_neg (by decide), bind_s]
      simp only [if_true]
      exact hj
    · rw [hu]
      simp only [if_true]
      have n1 := num_bounds ((x.drop 12).take 4) ((hx.drop_ 12).take_ 4)
      have n2 := num_bounds ((x.drop 16).take 4) ((hx.drop_ 16).take_ 4)
      have l1 : ((x.drop 12).take 4).length = 4 := by rw [List.length_take, List.length_drop]; omega
      have l2 : ((x.drop 16).take 4).length = 4 := by rw [List.length_take, List.length_drop]; omega
      have p4 : (256 : Int) ^ 4 = 4294967296 := by decide
      rw [l1, p4] at n1
      rw [l2, p4] at n2
      have hn1 : 0 ≤ nm x 12 4 ∧ nm x 12 4 < 4294967296 := n1
      have hn2 : 0 ≤ nm x 16 4 ∧ nm x 16 4 < 4294967296 := n2
      have i1 : inB (nm x 12 4) 0 4294967295 = true := by unfold inB; rw [decide_eq_true (by omega), decide_eq_true (by omega)]; rfl
      have i2 : inB (nm x 16 4) 0 4294967295 = true := by unfold inB; rw [decide_eq_true (by omega), decide_eq_true (by omega)]; rfl
      have hw : wrapR (nm x 12 4) (nm x 16 4) (x.drop 24) = (0, wrapL (nm x 12 4) (nm x 16 4) (x.drop 24)) := by
        unfold wrapR
        rw [i1, i2, if_pos (by decide), if_neg (by rw [List.length_drop]; omega)]
      rw [impl_WrapGre_is _ _ _ (by rw [List.length_drop]; omega) 300 (by omega), hw, bind_s]
      simp only []
      have hs' : ((strOfNums (wrapL (nm x 12 4) (nm x 16 4) (x.drop 24))).toList != (strOfNums x).toList) = false := by
        unfold bne
        have : ((strOfNums (wrapL (nm x 12 4) (nm x 16 4) (x.drop 24))).toList == (strOfNums x).toList) = true := hs
        rw [this]; rfl
      rw [hs']
      exact hj
end Go.Proofs.Ytejjalajpapmbaa.Pure
