/- WHAT THIS TEXT PROVES: the pure statement of the law FnPackets, over plain functions on numbers and lists. No condition beyond the statement's own. -/
import Derived.Test.YtgpemjkcpeimdaaDoorQFnPacketsx9
import Derived.Laws.BitsLemmas
import Derived.IntWalk
namespace Go.Proofs.YtgpemjkcpeimdaaDoor.Pure
open Go.RowKit Go.Proofs.YtgpemjkcpeimdaaDoor.QFnPackets Go.Proofs.YtgpemjkcpeimdaaDoorW.PrintWords Go.Proofs.YtgpemjkcpeimdaaDoorW.PrintLast Go.Proofs.YtgpemjkcpeimdaaDoorW.PrintMore
set_option linter.unusedVariables false
set_option linter.unusedSimpArgs false
theorem w64 {n : Int} (h0 : -9223372036854775808 ≤ n) (h1 : n ≤ 9223372036854775807) : wrap64 n = n := by unfold wrap64; omega
theorem w64n (i : Nat) (h : i < 9223372036854775807) : wrap64 ((i : Int) + 1) = ((i + 1 : Nat) : Int) := by
  rw [w64 (by omega) (by omega)]; omega
theorem rd_nat (xs : List Int) (i : Nat) : rd xs (i : Int) = xs.getD i 0 := by simp [rd]
theorem at_succ {k d : Nat} (h : d < k) : ∃ m, k = m + 1 := ⟨k - 1, by omega⟩
theorem drop_cons (xs : List Int) (i : Nat) (h : i < xs.length) : xs.drop i = xs.getD i 0 :: xs.drop (i + 1) := by
  rw [List.drop_eq_getElem_cons h]; simp [List.getD, h]
theorem set_take (x0 x3 : List Int) (i : Nat) (hl : x3.length = x0.length) (hi : i < x0.length) (ht : x3.take i = x0.take i) :
    (x3.set i (x0.getD i 0)).take (i + 1) = x0.take (i + 1) := by
  apply List.ext_getElem?
  intro j
  by_cases hj : j < i
  · have h1 := congrArg (fun l : List Int => l[j]?) ht
    simp only [List.getElem?_take, hj, if_true] at h1
    simp only [List.getElem?_take, show j < i + 1 by omega, if_true]
    rw [List.getElem?_set_ne (by omega)]; exact h1
  · by_cases e : j = i
    · subst e
      simp only [List.getElem?_take, show j < j + 1 by omega, if_true]
      rw [List.getElem?_set_self (by omega)]
      simp [List.getD, hi]
    · simp only [List.getElem?_take, show ¬ j < i + 1 by omega, if_false]
theorem bind_s {α β : Type} (a : α) (f : α → Option β) : (some a).bind f = f a := Eq.trans (Option.bind_some a f) (Eq.refl _)
theorem wf_i64 {n : Int} (h : (Lit.int .i64 n).wf = true) : -9223372036854775808 ≤ n ∧ n ≤ 9223372036854775807 := by
  simp only [Lit.wf, IntKind.min, IntKind.max, IntKind.signed, IntKind.bits, Bool.and_eq_true, decide_eq_true_eq, if_true] at h
  omega
theorem wf_u8 {n : Int} (h : (Lit.int .u8 n).wf = true) : 0 ≤ n ∧ n ≤ 255 := by
  simpa [Lit.wf, IntKind.min, IntKind.max, IntKind.signed, IntKind.bits] using h
def IsBytes (xs : List Int) : Prop := ∀ x ∈ xs, 0 ≤ x ∧ x ≤ 255
theorem IsBytes.of {xs : List Int} (h : ∀ x ∈ xs, (Lit.int .u8 x).wf = true) : IsBytes xs := fun x hx => wf_u8 (h x hx)
theorem IsBytes.at_ {xs : List Int} (h : IsBytes xs) (i : Nat) : 0 ≤ xs.getD i 0 ∧ xs.getD i 0 ≤ 255 := by
  by_cases hi : i < xs.length
  · have : xs.getD i 0 = xs[i] := by simp [List.getD, hi]
    rw [this]; exact h _ (List.getElem_mem hi)
  · rw [List.getD_eq_getElem?_getD, List.getElem?_eq_none (by omega)]; simp
theorem IsBytes.take_ {xs : List Int} (h : IsBytes xs) (i : Nat) : IsBytes (xs.take i) := fun x hx => h x (List.mem_of_mem_take hx)
theorem IsBytes.drop_ {xs : List Int} (h : IsBytes xs) (i : Nat) : IsBytes (xs.drop i) := fun x hx => h x (List.mem_of_mem_drop hx)
theorem IsBytes.append {xs ys : List Int} (h : IsBytes xs) (k : IsBytes ys) : IsBytes (xs ++ ys) := fun x hx => (List.mem_append.1 hx).elim (h x) (k x)
def numFrom (n : Int) (xs : List Int) : Int := xs.foldl (fun n b => n * 256 + b) n
def num (xs : List Int) : Int := numFrom 0 xs
theorem numFrom_nil (n : Int) : numFrom n [] = n := rfl
theorem numFrom_cons (n x : Int) (xs : List Int) : numFrom n (x :: xs) = numFrom (n * 256 + x) xs := rfl
theorem numFrom_bounds : ∀ (xs : List Int) (n : Int) (p : Int), IsBytes xs → 0 ≤ n → n < p → 0 ≤ numFrom n xs ∧ numFrom n xs < p * 256 ^ xs.length
  | [], n, p, _, h0, h1 => by rw [numFrom_nil]; simpa using ⟨h0, h1⟩
  | x :: xs, n, p, hb, h0, h1 => by
    have hx := hb x (by simp)
    have := numFrom_bounds xs (n * 256 + x) (p * 256) (fun y hy => hb y (by simp [hy])) (by omega) (by omega)
    rw [numFrom_cons, List.length_cons, Int.pow_succ, Int.mul_comm (256 ^ xs.length) 256, ← Int.mul_assoc]
    exact this
theorem num_bounds (xs : List Int) (hb : IsBytes xs) : 0 ≤ num xs ∧ num xs < 256 ^ xs.length := by
  have := numFrom_bounds xs 0 1 hb (by omega) (by omega)
  rw [Int.one_mul] at this; exact this
theorem or_is (n b : Int) (h0 : 0 ≤ n) (h1 : n < 36028797018963968) (b0 : 0 ≤ b) (b1 : b ≤ 255) : Go.bits .or .i64 (wrap64 (n * 256)) (wrap64 b) = n * 256 + b := by
  rw [w64 (n := n * 256) (by omega) (by omega), w64 (n := b) (by omega) (by omega)]
  refine Go.bits_join .i64 63 (by decide) (fun m h0 h1 => ?_) 8 (n * 256) b (by omega) (by omega) (by omega) b0 (by omega) (by omega)
  rw [Go.IntWalk.i64_left]; exact w64 (by omega) (by omega)
theorem pow_small (j : Nat) (h : j ≤ 5) : (256 : Int) ^ j ≤ 1099511627776 := by
  have : j = 0 ∨ j = 1 ∨ j = 2 ∨ j = 3 ∨ j = 4 ∨ j = 5 := by omega
  rcases this with rfl | rfl | rfl | rfl | rfl | rfl <;> decide
theorem num_step (n b : Int) (j : Nat) (h0 : 0 ≤ n) (h1 : n < 256 ^ j) (hj : j ≤ 5) (b0 : 0 ≤ b) (b1 : b ≤ 255) : 0 ≤ n * 256 + b ∧ n * 256 + b < 256 ^ (j + 1) ∧ n < 1099511627776 := by
  have := pow_small j hj
  rw [Int.pow_succ]
  omega
open Go.Proofs.YtgpemjkcpeimdaaDoor.SumWords Go.Proofs.YtgpemjkcpeimdaaDoor.Chunk
theorem IsBytes.in_ {l : List Int} (h : IsBytes l) : inBytes l := h
/-- The sum over the first k words. -/
def sumsN (l : List Int) : Nat → Int
  | 0 => 0
  | k + 1 => add1 (sumsN l k) (word l k)
theorem sums_take (l : List Int) : ∀ k, k ≤ (l.length + 1) / 2 → sums l ((all ((l.length + 1) / 2)).take k) = sumsN l k := by
  intro k
  induction k with
  | zero => intro _; simp [sums, sumsN]
  | succ k ih => intro h; rw [all_take _ k (by omega), sums_snoc, ih (by omega)]; rfl
theorem sumW_N (l : List Int) : sumW l = 65535 - sumsN l ((l.length + 1) / 2) := by
  unfold sumW
  rw [← sums_take l _ (Nat.le_refl _), List.take_of_length_le (by rw [all_length]; exact Nat.le_refl _)]
theorem sumsN_bounds (l : List Int) (h : IsBytes l) (k : Nat) (hk : k ≤ (l.length + 1) / 2) : 0 ≤ sumsN l k ∧ sumsN l k ≤ 65535 := by
  rw [← sums_take l k hk]; exact sums_bounds l h.in_ _
theorem sumW_bounds (l : List Int) (h : IsBytes l) : 0 ≤ sumW l ∧ sumW l ≤ 65535 := by
  have := sumsN_bounds l h _ (Nat.le_refl _)
  rw [sumW_N]; omega
theorem sumF_is (l : List Int) (h : IsBytes l) (hn : l.length ≤ 1099511627776) : sumF l = some (sumW l) := by
  unfold sumF; rw [if_pos (okB_mk h.in_ hn)]
theorem impl_SumWords_is (l : List Int) (h : IsBytes l) (hn : l.length ≤ 1099511627776) (k : Nat) : impl_SumWords.f k l = some (sumW l) := sumF_is l h hn
theorem spec_SumWords_l0 (x0 : List Int) (hb : IsBytes x0) (hn : x0.length ≤ 1099511627776) : ∀ (d k i : Nat), i + d = (x0.length + 1) / 2 → 4 * d + 1 ≤ k →
    spec_SumWords.l0 k x0 (sumsN x0 i) ((2 * i : Nat) : Int) = some (sumW x0) := by
  intro d
  induction d with
  | zero =>
    intro k i hi hk
    obtain ⟨k, rfl⟩ : ∃ m, k = m + 1 := ⟨k - 1, by omega⟩
    have hs := sumsN_bounds x0 hb i (by omega)
    simp only [spec_SumWords.l0]
    rw [if_neg (by omega), w64 (by omega) (by omega), sumW_N, show i = (x0.length + 1) / 2 by omega]
  | succ d ih =>
    intro k i hi hk
    obtain ⟨k, rfl⟩ : ∃ m, k = m + 1 + 1 + 1 + 1 := ⟨k - 4, by omega⟩
    have hs := sumsN_bounds x0 hb i (by omega)
    have hs1 := sumsN_bounds x0 hb (i + 1) (by omega)
    have b0 := hb.at_ (2 * i)
    have b1 := hb.at_ (2 * i + 1)
    have hnext := fun m (hm : 4 * d + 1 ≤ m) => ih m (i + 1) (by omega) hm
    have he : sumsN x0 (i + 1) = add1 (sumsN x0 i) (word x0 i) := rfl
    have h2 : wrap64 (((2 * i : Nat) : Int) + 1) = ((2 * i + 1 : Nat) : Int) := w64n _ (by omega)
    have h3 : wrap64 (((2 * i : Nat) : Int) + 2) = ((2 * (i + 1) : Nat) : Int) := by rw [w64 (by omega) (by omega)]; omega
    have fin : ∀ v, 0 ≤ v → v ≤ 131070 → sumsN x0 (i + 1) = (if v > 65535 then v - 65535 else v) → spec_SumWords.j1 (k + 1 + 1 + 1) x0 v ((2 * i : Nat) : Int) = some (sumW x0) := by
      intro v v0 v1 hv
      simp only [spec_SumWords.j1, spec_SumWords.l1]
      by_cases c : v > 65535
      · rw [if_pos c] at hv
        rw [if_pos c, w64 (n := v - 65535) (by omega) (by omega), if_neg (by omega), h3, ← hv]
        exact hnext k (by omega)
      · rw [if_neg c] at hv
        rw [if_neg c, h3, ← hv]
        exact hnext (k + 1) (by omega)
    rw [spec_SumWords.l0.eq_2]
    rw [if_pos (by omega), if_pos (by omega), h2, rd_nat, rd_nat]
    rw [w64 (n := x0.getD (2 * i) 0) (by omega) (by omega), w64 (n := 256 * x0.getD (2 * i) 0) (by omega) (by omega), w64 (n := sumsN x0 i + 256 * x0.getD (2 * i) 0) (by omega) (by omega)]
    by_cases c : 2 * i + 1 < x0.length
    · rw [if_pos (by omega), if_pos (by omega), w64 (n := x0.getD (2 * i + 1) 0) (by omega) (by omega), w64 (n := sumsN x0 i + 256 * x0.getD (2 * i) 0 + x0.getD (2 * i + 1) 0) (by omega) (by omega)]
      refine fin _ (by omega) (by omega) ?_
      rw [he]; unfold word add1
      rw [if_pos c, show sumsN x0 i + (x0.getD (2 * i) 0 * 256 + x0.getD (2 * i + 1) 0) = sumsN x0 i + 256 * x0.getD (2 * i) 0 + x0.getD (2 * i + 1) 0 by omega]
    · rw [if_neg (by omega)]
      refine fin _ (by omega) (by omega) ?_
      rw [he]; unfold word add1
      rw [if_neg c, show sumsN x0 i + x0.getD (2 * i) 0 * 256 = sumsN x0 i + 256 * x0.getD (2 * i) 0 by omega]
theorem spec_SumWords_is (l : List Int) (h : IsBytes l) (hn : l.length ≤ 1099511627776) (k : Nat) (hk : 2 * l.length + 3 ≤ k) : spec_SumWords.f k l = some (sumW l) := by
  unfold spec_SumWords.f
  exact spec_SumWords_l0 l h hn ((l.length + 1) / 2) k 0 (by omega) (by omega)
theorem number_l0 (x0 : List Int) (hx : IsBytes x0) (hn : x0.length ≤ 6) :
    ∀ (d k j : Nat) (n : Int), j + d = x0.length → d < k → 0 ≤ n → n < 256 ^ j →
    impl_number.l0 k n x0 (x0.length : Int) (j : Int) = some (numFrom n (x0.drop j)) := by
  intro d
  induction d with
  | zero =>
    intro k j n hi hk h0 h1
    obtain ⟨k, rfl⟩ := at_succ hk
    simp only [impl_number.l0]
    rw [if_neg (by omega), List.drop_of_length_le (by omega), numFrom_nil]
  | succ d ih =>
    intro k j n hi hk h0 h1
    obtain ⟨k, rfl⟩ := at_succ hk
    have hb := hx.at_ j
    obtain ⟨s0, s1, s2⟩ := num_step n (x0.getD j 0) j h0 h1 (by omega) hb.1 hb.2
    simp only [impl_number.l0]
    rw [rd_nat, w64n j (by omega), if_pos (by omega), if_pos (by omega), if_pos (by omega)]
    rw [or_is n _ h0 (by omega) hb.1 hb.2, ih k (j + 1) _ (by omega) (by omega) s0 s1, drop_cons x0 j (by omega), numFrom_cons]
theorem number_is (x0 : List Int) (hx : IsBytes x0) (hn : x0.length ≤ 6) (k : Nat) (hk : 7 ≤ k) : impl_number.f k x0 = some (num x0) := by
  unfold impl_number.f
  exact number_l0 x0 hx hn x0.length k 0 0 (by omega) (by omega) (by omega) (by decide)
theorem take_drop_cons (x0 : List Int) (i d : Nat) (h : i < x0.length) : (x0.drop i).take (d + 1) = x0.getD i 0 :: (x0.drop (i + 1)).take d := by
  rw [drop_cons x0 i h, List.take_succ_cons]
theorem l1Take_l0 (x0 : List Int) (hx : IsBytes x0) (hn : x0.length ≤ 1048576) (at_ size : Nat) (hs : size ≤ 6) (ha : at_ + size ≤ x0.length) :
    ∀ (d k j : Nat) (n : Int), j + d = size → d < k → 0 ≤ n → n < 256 ^ j →
    spec_l1Take.l0 k x0 (at_ : Int) (size : Int) n (j : Int) = some (numFrom n ((x0.drop (at_ + j)).take d)) := by
  intro d
  induction d with
  | zero =>
    intro k j n hi hk h0 h1
    obtain ⟨k, rfl⟩ := at_succ hk
    simp only [spec_l1Take.l0]
    rw [if_neg (by omega)]
    simp [numFrom_nil]
  | succ d ih =>
    intro k j n hi hk h0 h1
    obtain ⟨k, rfl⟩ := at_succ hk
    have hb := hx.at_ (at_ + j)
    obtain ⟨s0, s1, s2⟩ := num_step n (x0.getD (at_ + j) 0) j h0 h1 (by omega) hb.1 hb.2
    simp only [spec_l1Take.l0]
    have e : wrap64 ((at_ : Int) + (j : Int)) = ((at_ + j : Nat) : Int) := by rw [w64 (by omega) (by omega)]; omega
    rw [e, rd_nat, w64n j (by omega), if_pos (by omega), if_pos (by omega), if_pos (by omega)]
    rw [w64 (n := n * 256) (by omega) (by omega), w64 (n := x0.getD (at_ + j) 0) (by omega) (by omega), w64 (n := n * 256 + x0.getD (at_ + j) 0) (by omega) (by omega)]
    rw [ih k (j + 1) _ (by omega) (by omega) s0 s1, take_drop_cons x0 (at_ + j) d (by omega), numFrom_cons]
    rfl
theorem l1Take_is (x0 : List Int) (hx : IsBytes x0) (hn : x0.length ≤ 1048576) (at_ size : Nat) (hs : size ≤ 6) (ha : at_ + size ≤ x0.length) (k : Nat) (hk : 7 ≤ k) :
    spec_l1Take.f k x0 (at_ : Int) (size : Int) = some (num ((x0.drop at_).take size)) := by
  unfold spec_l1Take.f
  exact l1Take_l0 x0 hx hn at_ size hs ha size k 0 0 (by omega) (by omega) (by omega) (by decide)
def inB (a lo hi : Int) : Bool := decide (a ≥ lo) && decide (a ≤ hi)
def protoB (a : Int) : Bool := decide (a = 6) || decide (a = 17)
theorem impl_in_is (a lo hi : Int) : impl_in.f a lo hi = some (inB a lo hi) := by
  unfold impl_in.f inB
  by_cases h : a ≥ lo <;> simp [h]
theorem spec_l1In_is (a lo hi : Int) : spec_l1In.f a lo hi = some (inB a lo hi) := by
  unfold spec_l1In.f inB
  by_cases h : a ≥ lo <;> simp [h]
def pf (a b c d e : Int) (l : List Int) : Int :=
  if (inB a 0 4294967295 && (inB b 0 4294967295 && (protoB c && (inB d 0 65535 && inB e 0 65535)))) = true then (if (l.length : Int) > 200 then 2 else 0) else 3
theorem impl_isAddress_is (a : Int) : impl_isAddress.f a = some (inB a 0 4294967295) := by unfold impl_isAddress.f; rw [impl_in_is, bind_s]
theorem impl_isPort_is (a : Int) : impl_isPort.f a = some (inB a 0 65535) := by unfold impl_isPort.f; rw [impl_in_is, bind_s]
theorem impl_isProto_is (a : Int) : impl_isProto.f a = some (protoB a) := by
  unfold impl_isProto.f protoB
  by_cases h : a = 6
  · rw [if_pos h]; simp [h]
  · rw [if_neg h]
    by_cases h2 : a = 17 <;> simp [h, h2]
theorem impl_PacketFault_is (a b c d e : Int) (l : List Int) (k : Nat) (hk : 0 < k) : impl_PacketFault.f k a b c d e l = some (pf a b c d e l) := by
  obtain ⟨k, rfl⟩ := at_succ hk
  unfold impl_PacketFault.f pf
  rw [impl_isAddress_is, impl_isAddress_is, impl_isProto_is, impl_isPort_is, impl_isPort_is]
  simp only [bind_s, impl_PacketFault.j0]
  generalize inB a 0 4294967295 = x1
  generalize inB b 0 4294967295 = x2
  generalize protoB c = x3
  generalize inB d 0 65535 = x4
  generalize inB e 0 65535 = x5
  by_cases h : (l.length : Int) > 200
  · rw [if_pos h, if_pos h]; cases x1 <;> cases x2 <;> cases x3 <;> cases x4 <;> cases x5 <;> rfl
  · rw [if_neg h, if_neg h]; cases x1 <;> cases x2 <;> cases x3 <;> cases x4 <;> cases x5 <;> rfl
theorem spec_l2Address_is (a : Int) : spec_l2Address.f a = some (inB a 0 4294967295) := by unfold spec_l2Address.f; rw [spec_l1In_is, bind_s]
theorem spec_l2Port_is (a : Int) : spec_l2Port.f a = some (inB a 0 65535) := by unfold spec_l2Port.f; rw [spec_l1In_is, bind_s]
theorem spec_PacketFault_is (a b c d e : Int) (l : List Int) (k : Nat) (hk : 0 < k) : spec_PacketFault.f k a b c d e l = some (pf a b c d e l) := by
  obtain ⟨k, rfl⟩ := at_succ hk
  unfold spec_PacketFault.f pf
  rw [spec_l2Address_is, spec_l2Address_is, spec_l2Port_is, spec_l2Port_is]
  simp only [bind_s, spec_PacketFault.j0]
  generalize inB a 0 4294967295 = x1
  generalize inB b 0 4294967295 = x2
  generalize inB d 0 65535 = x4
  generalize inB e 0 65535 = x5
  by_cases h6 : c = 6
  · have e3 : protoB c = true := by unfold protoB; simp [h6]
    rw [if_pos h6, e3]
    by_cases h : (l.length : Int) > 200
    · rw [if_pos h, if_pos h]; cases x1 <;> cases x2 <;> cases x4 <;> cases x5 <;> rfl
    · rw [if_neg h, if_neg h]; cases x1 <;> cases x2 <;> cases x4 <;> cases x5 <;> rfl
  · rw [if_neg h6]
    by_cases h17 : c = 17
    · have e3 : protoB c = true := by unfold protoB; simp [h17]
      rw [if_pos h17, e3]
      by_cases h : (l.length : Int) > 200
      · rw [if_pos h, if_pos h]; cases x1 <;> cases x2 <;> cases x4 <;> cases x5 <;> rfl
      · rw [if_neg h, if_neg h]; cases x1 <;> cases x2 <;> cases x4 <;> cases x5 <;> rfl
    · have e3 : protoB c = false := by unfold protoB; simp [h6, h17]
      rw [if_neg h17, e3]
      by_cases h : (l.length : Int) > 200
      · rw [if_pos h, if_pos h]; cases x1 <;> cases x2 <;> cases x4 <;> cases x5 <;> rfl
      · rw [if_neg h, if_neg h]; cases x1 <;> cases x2 <;> cases x4 <;> cases x5 <;> rfl
def nm (l : List Int) (a s : Nat) : Int := num ((l.drop a).take s)
theorem take_drop_nm (l : List Int) (a s : Nat) : (l.take (a + s)).drop a = (l.drop a).take s := by
  rw [List.drop_take]; congr 1; omega
theorem impl_number_at (l : List Int) (hl : IsBytes l) (a s b : Nat) (hb : b = a + s) (hs : s ≤ 6) (k : Nat) (hk : 7 ≤ k) : impl_number.f k ((l.take b).drop a) = some (nm l a s) := by
  subst hb
  rw [take_drop_nm, number_is _ ((hl.drop_ a).take_ s) (by rw [List.length_take]; omega) k hk]; rfl
theorem spec_take_at (l : List Int) (hl : IsBytes l) (hn : l.length ≤ 1048576) (a s : Nat) (h : a + s ≤ l.length) (hs : s ≤ 6) (k : Nat) (hk : 7 ≤ k) : spec_l1Take.f k l (a : Int) (s : Int) = some (nm l a s) := l1Take_is l hl hn a s hs h k hk
theorem clone_is (l : List Int) (hn : l.length ≤ 1048576) : slices_Clone_byte_byte.f l = some l := by
  unfold slices_Clone_byte_byte.f
  rw [bind_s, if_pos (by simp; omega)]; simp
def bad1 (l : List Int) : Bool := !(inB (l.length : Int) 24 224 && (decide (l.getD 0 0 = 69) && decide (nm l 2 2 = (l.length : Int))))
def parseR (l : List Int) : Int × Int × Int × Int × Int × Int × List Int :=
  if bad1 l = true then (5, 0, 0, 0, 0, 0, [])
  else if sumW (l.take 20) = 0 then
    (if l.getD 6 0 = 0 ∧ l.getD 7 0 = 0 ∧ protoB (l.getD 9 0) = true then (0, nm l 12 4, nm l 16 4, l.getD 9 0, nm l 20 2, nm l 22 2, l.drop 24) else (1, 0, 0, 0, 0, 0, []))
  else (6, 0, 0, 0, 0, 0, [])
theorem bad1_len {l : List Int} (h : bad1 l = false) : 24 ≤ l.length ∧ l.length ≤ 224 := by
  simp only [bad1, inB, Bool.not_eq_false', Bool.and_eq_true, decide_eq_true_eq] at h
  omega
theorem parseR_length (l : List Int) (h : l.length ≤ 1048576) : (parseR l).2.2.2.2.2.2.length ≤ 1048576 := by
  unfold parseR
  split
  · simp
  · split
    · split
      · show (l.drop 24).length ≤ _
        simp; omega
      · simp
    · simp
theorem impl_WholeSum_is (l : List Int) (h : IsBytes l) (hn : l.length ≤ 1048576) (k : Nat) : impl_WholeSum.f k l = some (sumW l == 0) := by
  unfold impl_WholeSum.f
  rw [impl_SumWords_is l h (by omega), bind_s]
theorem impl_ParsePacket_is (l : List Int) (hb : IsBytes l) (hn : l.length ≤ 1048576) (k : Nat) (hk : 10 ≤ k) : impl_ParsePacket.f k l = some (parseR l) := by
  obtain ⟨k, rfl⟩ : ∃ m, k = m + 1 := ⟨k - 1, by omega⟩
  have r0 : rd l 0 = l.getD 0 0 := rfl
  have r6 : rd l 6 = l.getD 6 0 := rfl
  have r7 : rd l 7 = l.getD 7 0 := rfl
  have r9 : rd l 9 = l.getD 9 0 := rfl
  have b9 := hb.at_ 9
  have ht : impl_ParsePacket.j0 (k + 1) l true = some (5, 0, 0, 0, 0, 0, []) := by simp only [impl_ParsePacket.j0, if_true]
  have hf : bad1 l = false → impl_ParsePacket.j0 (k + 1) l false = some (parseR l) := by
    intro hbad
    obtain ⟨h24, h224⟩ := bad1_len hbad
    simp only [impl_ParsePacket.j0, Bool.false_eq_true, if_false]
    unfold parseR
    rw [hbad, if_neg (by decide : ¬ (false = true)), if_pos (by omega), impl_WholeSum_is _ (hb.take_ 20) (by simp; omega), bind_s]
    by_cases c : sumW (l.take 20) = 0
    · rw [c, if_pos (by decide), if_pos rfl, if_pos (by omega), r6]
      by_cases c6 : l.getD 6 0 = 0
      · rw [if_pos c6, if_pos (by omega), r7]
        by_cases c7 : l.getD 7 0 = 0
        · rw [if_pos c7, if_pos (by omega), r9, w64 (n := l.getD 9 0) (by omega) (by omega), impl_isProto_is, bind_s]
          by_cases c9 : protoB (l.getD 9 0) = true
          · rw [if_pos c9, if_pos (by decide), if_pos (by omega), impl_number_at l hb 12 4 16 rfl (by omega) k (by omega), bind_s, if_pos (by decide), impl_number_at l hb 16 4 20 rfl (by omega) k (by omega), bind_s]
            rw [if_pos (by decide), if_pos (by omega), impl_number_at l hb 20 2 22 rfl (by omega) k (by omega), bind_s, if_pos (by decide), if_pos (by omega), impl_number_at l hb 22 2 24 rfl (by omega) k (by omega), bind_s]
            rw [clone_is _ (by simp; omega), bind_s, if_pos ⟨c6, c7, c9⟩]
          · rw [if_neg c9, if_neg (fun h => c9 h.2.2)]
        · rw [if_neg c7, if_neg (fun h => c7 h.2.1)]
      · rw [if_neg c6, if_neg (fun h => c6 h.1)]
    · have e : (sumW (l.take 20) == 0) = false := by simp [c]
      rw [e, if_neg (by decide), if_neg c]
  have hbadR : bad1 l = true → parseR l = (5, 0, 0, 0, 0, 0, []) := fun h => by unfold parseR; rw [if_pos h]
  unfold impl_ParsePacket.f impl_size_byte.f
  rw [bind_s, impl_in_is, bind_s]
  by_cases c1 : inB (l.length : Int) 24 224 = true
  · have hlen : 24 ≤ l.length := by simp only [inB, Bool.and_eq_true, decide_eq_true_eq] at c1; omega
    rw [if_pos c1, if_pos (by omega), r0]
    by_cases c2 : l.getD 0 0 = 69
    · rw [if_pos c2, if_pos (by decide), if_pos (by omega), impl_number_at l hb 2 2 4 rfl (by omega) (k + 1) (by omega), bind_s, bind_s]
      by_cases c3 : nm l 2 2 = (l.length : Int)
      · have hbad : bad1 l = false := by unfold bad1; rw [c1, decide_eq_true c2, decide_eq_true c3]; rfl
        have e : (nm l 2 2 != (l.length : Int)) = false := by simp [c3]
        rw [e]; exact hf hbad
      · have hbad : bad1 l = true := by unfold bad1; rw [decide_eq_false c3]; simp
        have e : (nm l 2 2 != (l.length : Int)) = true := by simp [c3]
        rw [e, ht, hbadR hbad]
    · have hbad : bad1 l = true := by unfold bad1; rw [decide_eq_false c2]; simp
      rw [if_neg c2, ht, hbadR hbad]
  · have hbad : bad1 l = true := by unfold bad1; rw [Bool.eq_false_iff.2 c1]; simp
    rw [if_neg c1, ht, hbadR hbad]
theorem spec_WholeSum_is (l : List Int) (h : IsBytes l) (hn : l.length ≤ 1048576) (k : Nat) (hk : 2 * l.length + 3 ≤ k) : spec_WholeSum.f k l = some (sumW l == 0) := by
  unfold spec_WholeSum.f
  rw [spec_SumWords_is l h (by omega) k hk, bind_s]
theorem spec_ParsePacket_is (l : List Int) (hb : IsBytes l) (hn : l.length ≤ 1048576) (k : Nat) (hk : 60 ≤ k) : spec_ParsePacket.f k l = some (parseR l) := by
  obtain ⟨k, rfl⟩ : ∃ m, k = m + 1 + 1 := ⟨k - 2, by omega⟩
  have r0 : rd l 0 = l.getD 0 0 := rfl
  have r6 : rd l 6 = l.getD 6 0 := rfl
  have r7 : rd l 7 = l.getD 7 0 := rfl
  have r9 : rd l 9 = l.getD 9 0 := rfl
  have b9 := hb.at_ 9
  have ht : spec_ParsePacket.j0 (k + 1 + 1) l true = some (5, 0, 0, 0, 0, 0, []) := by simp only [spec_ParsePacket.j0, if_true]
  have ht1 : spec_ParsePacket.j1 (k + 1) l true = some (1, 0, 0, 0, 0, 0, []) := by simp only [spec_ParsePacket.j1, if_true]
  have hgood : 24 ≤ l.length → spec_ParsePacket.j1 (k + 1) l false = some (0, nm l 12 4, nm l 16 4, l.getD 9 0, nm l 20 2, nm l 22 2, l.drop 24) := by
    intro h24
    have q1 := spec_take_at l hb hn 12 4 (by omega) (by omega) k (by omega)
    have q2 := spec_take_at l hb hn 16 4 (by omega) (by omega) k (by omega)
    have q3 := spec_take_at l hb hn 20 2 (by omega) (by omega) k (by omega)
    have q4 := spec_take_at l hb hn 22 2 (by omega) (by omega) k (by omega)
    simp only [spec_ParsePacket.j1, Bool.false_eq_true, if_false]
    have q1' : spec_l1Take.f k l 12 4 = some (nm l 12 4) := q1
    have q2' : spec_l1Take.f k l 16 4 = some (nm l 16 4) := q2
    have q3' : spec_l1Take.f k l 20 2 = some (nm l 20 2) := q3
    have q4' : spec_l1Take.f k l 22 2 = some (nm l 22 2) := q4
    rw [q1', bind_s, q2', bind_s, if_pos (by omega), q3', bind_s, q4', bind_s, bind_s, if_pos (by omega), if_pos (by simp; omega), r9, w64 (n := l.getD 9 0) (by omega) (by omega)]
    rfl
  have hf : bad1 l = false → spec_ParsePacket.j0 (k + 1 + 1) l false = some (parseR l) := by
    intro hbad
    obtain ⟨h24, h224⟩ := bad1_len hbad
    rw [spec_ParsePacket.j0.eq_2, if_neg (by decide)]
    unfold parseR
    rw [hbad, if_neg (by decide : ¬ (false = true)), if_pos (by omega), spec_WholeSum_is _ (hb.take_ 20) (by simp; omega) _ (by simp; omega), bind_s]
    by_cases c : sumW (l.take 20) = 0
    · rw [c, if_pos (by decide), if_pos rfl, if_pos (by omega), r6]
      by_cases c6 : l.getD 6 0 = 0
      · rw [if_pos c6, if_pos (by omega), r7]
        by_cases c7 : l.getD 7 0 = 0
        · rw [if_pos c7, if_pos (by omega), r9]
          by_cases c9 : l.getD 9 0 = 6
          · have hp : protoB (l.getD 9 0) = true := by unfold protoB; simp only [c9]; decide
            rw [if_pos c9, hgood h24, if_pos ⟨c6, c7, hp⟩]
          · rw [if_neg c9]
            by_cases c17 : l.getD 9 0 = 17
            · have hp : protoB (l.getD 9 0) = true := by unfold protoB; simp only [c17]; decide
              have e : (l.getD 9 0 != 17) = false := by simp only [c17]; decide
              rw [e, hgood h24, if_pos ⟨c6, c7, hp⟩]
            · have hp : protoB (l.getD 9 0) = false := by unfold protoB; rw [decide_eq_false c9, decide_eq_false c17]; rfl
              have e : (l.getD 9 0 != 17) = true := bne_iff_ne.2 c17
              rw [e, ht1, if_neg (fun h => by rw [hp] at h; exact absurd h.2.2 (by decide))]
        · rw [if_neg c7, ht1, if_neg (fun h => c7 h.2.1)]
      · rw [if_neg c6, ht1, if_neg (fun h => c6 h.1)]
    · have e : (sumW (l.take 20) == 0) = false := by simp [c]
      rw [e, if_neg (by decide), if_neg c]
  have hbadR : bad1 l = true → parseR l = (5, 0, 0, 0, 0, 0, []) := fun h => by unfold parseR; rw [if_pos h]
  unfold spec_ParsePacket.f
  rw [spec_l1In_is, bind_s]
  by_cases c1 : inB (l.length : Int) 24 224 = true
  · have hlen : 24 ≤ l.length := by simp only [inB, Bool.and_eq_true, decide_eq_true_eq] at c1; omega
    have q : spec_l1Take.f (k + 1 + 1) l 2 2 = some (nm l 2 2) := spec_take_at l hb hn 2 2 (by omega) (by omega) (k + 1 + 1) (by omega)
    rw [if_pos c1, if_pos (by omega), r0]
    by_cases c2 : l.getD 0 0 = 69
    · rw [if_pos c2, q, bind_s]
      by_cases c3 : nm l 2 2 = (l.length : Int)
      · have hbad : bad1 l = false := by unfold bad1; rw [c1, decide_eq_true c2, decide_eq_true c3]; rfl
        have e : (nm l 2 2 != (l.length : Int)) = false := by simp [c3]
        rw [e]; exact hf hbad
      · have hbad : bad1 l = true := by unfold bad1; rw [decide_eq_false c3]; simp
        have e : (nm l 2 2 != (l.length : Int)) = true := by simp [c3]
        rw [e, ht, hbadR hbad]
    · have hbad : bad1 l = true := by unfold bad1; rw [decide_eq_false c2]; simp
      rw [if_neg c2, ht, hbadR hbad]
  · have hbad : bad1 l = true := by unfold bad1; rw [Bool.eq_false_iff.2 c1]; simp
    rw [if_neg c1, ht, hbadR hbad]
theorem shr8 (n : Int) (s : Nat) (hs : s ≤ 7) : shr .i64 n ((8 * s : Nat) : Int) = n / 2 ^ (8 * s) := by
  unfold shr
  rw [Int.toNat_natCast, Nat.min_eq_left (by simp only [IntKind.bits]; omega)]
/-- The s lowest bytes of a number, the highest first. -/
def be (n : Int) : Nat → List Int
  | 0 => []
  | s + 1 => (n / 2 ^ (8 * s)) % 256 :: be n s
theorem be_length (n : Int) : ∀ s, (be n s).length = s
  | 0 => rfl
  | s + 1 => by simp [be, be_length n s]
theorem be_bytes (n : Int) : ∀ s, ∀ x ∈ be n s, 0 ≤ x ∧ x ≤ 255
  | 0 => fun x hx => by cases hx
  | s + 1 => fun x hx => by
    rcases List.mem_cons.1 hx with rfl | hx
    · omega
    · exact be_bytes n s x hx
theorem eight (s : Nat) (hs : s ≤ 7) : wrap64 (8 * (s : Int)) = ((8 * s : Nat) : Int) := by rw [w64 (by omega) (by omega)]; omega
theorem eightU (s : Nat) (hs : s ≤ 7) : IntKind.u64.wrap (wrap64 (8 * (s : Int))) = ((8 * s : Nat) : Int) := by
  rw [eight s hs, Go.IntKind.wrap_u64]; omega
theorem impl_put_l0 (n : Int) : ∀ (s k : Nat) (out : List Int), s ≤ 7 → s < k → out.length + s ≤ 1000000000 → impl_put.l0 k out n ((s : Int) - 1) = some (out ++ be n s) := by
  intro s
  induction s with
  | zero =>
    intro k out hs hk ho
    obtain ⟨k, rfl⟩ := at_succ hk
    simp only [impl_put.l0]
    rw [if_neg (by omega)]; simp [be]
  | succ s ih =>
    intro k out hs hk ho
    obtain ⟨k, rfl⟩ := at_succ hk
    simp only [impl_put.l0]
    rw [show ((s + 1 : Nat) : Int) - 1 = (s : Int) by omega, if_pos (by omega), eight s (by omega), if_pos (by omega), if_pos (by omega), shr8 n s (by omega), w64 (by omega) (by omega)]
    rw [ih k _ (by omega) (by omega) (by simp; omega)]; simp [be]
theorem impl_put_is (out : List Int) (n : Int) (s : Nat) (hs : s ≤ 7) (k : Nat) (hk : s < k) (ho : out.length + s ≤ 1000000000) : impl_put.f k out n (s : Int) = some (out ++ be n s) := by
  unfold impl_put.f
  rw [w64 (by omega) (by omega)]
  exact impl_put_l0 n s k out hs hk ho
theorem spec_l1Bytes_l0 (n : Int) : ∀ (s k : Nat) (out : List Int), s ≤ 7 → s < k → out.length + s ≤ 1000000000 → spec_l1Bytes.l0 k n out ((s : Int) - 1) = some (out ++ be n s) := by
  intro s
  induction s with
  | zero =>
    intro k out hs hk ho
    obtain ⟨k, rfl⟩ := at_succ hk
    simp only [spec_l1Bytes.l0]
    rw [if_neg (by omega)]; simp [be]
  | succ s ih =>
    intro k out hs hk ho
    obtain ⟨k, rfl⟩ := at_succ hk
    simp only [spec_l1Bytes.l0]
    rw [show ((s + 1 : Nat) : Int) - 1 = (s : Int) by omega, if_pos (by omega), eightU s (by omega), if_pos (by omega), if_pos (by omega), shr8 n s (by omega), w64 (by omega) (by omega)]
    rw [ih k _ (by omega) (by omega) (by simp; omega)]; simp [be]
theorem spec_l1Bytes_is (n : Int) (s : Nat) (hs : s ≤ 7) (k : Nat) (hk : s < k) : spec_l1Bytes.f k n (s : Int) = some (be n s) := by
  unfold spec_l1Bytes.f
  rw [w64 (by omega) (by omega)]
  have := spec_l1Bytes_l0 n s k [] hs hk (by simp; omega)
  simpa using this
theorem numFrom_be (n m : Int) : ∀ s, s ≤ 6 → numFrom m (be n s) = m * 2 ^ (8 * s) + n % 2 ^ (8 * s) := by
  intro s
  induction s generalizing m with
  | zero => intro _; simp [be, numFrom_nil]
  | succ s ih =>
    intro hs
    rw [be, numFrom_cons, ih _ (by omega)]
    have h : s = 0 ∨ s = 1 ∨ s = 2 ∨ s = 3 ∨ s = 4 ∨ s = 5 := by omega
    rcases h with rfl | rfl | rfl | rfl | rfl | rfl <;> simp <;> omega
theorem be2 (n : Int) : be n 2 = [n / 2 ^ (8 * 1) % 256, n / 2 ^ (8 * 0) % 256] := rfl
theorem be4 (n : Int) : be n 4 = [n / 2 ^ (8 * 3) % 256, n / 2 ^ (8 * 2) % 256, n / 2 ^ (8 * 1) % 256, n / 2 ^ (8 * 0) % 256] := rfl
/-- A head with no sum in it. -/
def bareL (p a b n : Int) : List Int := [69, 0] ++ be (20 + n) 2 ++ [0, 0, 0, 0, 64, p % 256] ++ [0, 0] ++ (be a 4 ++ be b 4)
def headL (p a b n : Int) : List Int := [69, 0] ++ be (20 + n) 2 ++ [0, 0, 0, 0, 64, p % 256] ++ be (sumW (bareL p a b n)) 2 ++ (be a 4 ++ be b 4)
theorem headL_length (p a b n : Int) : (headL p a b n).length = 20 := by simp [headL, be_length]
theorem bareL_length (p a b n : Int) : (bareL p a b n).length = 20 := by simp [bareL, be_length]
theorem bareL_bytes (p a b n : Int) : IsBytes (bareL p a b n) := by
  have h1 : IsBytes [69, 0] := fun x hx => by simp at hx; omega
  have h2 : IsBytes [0, 0, 0, 0, 64, p % 256] := fun x hx => by simp at hx; omega
  have h3 : IsBytes [0, 0] := fun x hx => by simp at hx; omega
  exact (((h1.append (be_bytes _ 2)).append h2).append h3).append (IsBytes.append (be_bytes a 4) (be_bytes b 4))
theorem headL_bytes (p a b n : Int) : IsBytes (headL p a b n) := by
  have h1 : IsBytes [69, 0] := fun x hx => by simp at hx; omega
  have h2 : IsBytes [0, 0, 0, 0, 64, p % 256] := fun x hx => by simp at hx; omega
  exact (((h1.append (be_bytes _ 2)).append h2).append (be_bytes _ 2)).append (IsBytes.append (be_bytes a 4) (be_bytes b 4))
theorem impl_head_is (p a b n : Int) (h0 : 0 ≤ n) (h1 : n ≤ 1048600) (k : Nat) (hk : 8 ≤ k) : impl_head.f k p a b n = some (headL p a b n) := by
  unfold impl_head.f
  have e2 : ((2 : Nat) : Int) = 2 := rfl
  have e4 : ((4 : Nat) : Int) = 4 := rfl
  rw [w64 (n := 20 + n) (by omega) (by omega), ← e2, ← e4, impl_put_is [69, 0] _ 2 (by omega) k (by omega) (by simp), bind_s, bind_s, if_pos (by simp [be_length])]
  rw [impl_put_is _ a 4 (by omega) k (by omega) (by simp [be_length]), bind_s, impl_put_is _ b 4 (by omega) k (by omega) (by simp [be_length]), bind_s]
  have hb : ([69, 0] ++ be (20 + n) 2 ++ [0, 0, 0, 0, 64, p % 256, 0, 0] ++ be a 4 ++ be b 4 : List Int) = bareL p a b n := by simp [bareL]
  rw [hb, impl_SumWords_is _ (bareL_bytes p a b n) (by rw [bareL_length]; omega), bind_s, impl_put_is [] _ 2 (by omega) k (by omega) (by simp), bind_s, if_pos (by rw [bareL_length]; omega), if_pos (by simp [be_length])]
  have h1 : (bareL p a b n).take 10 = [69, 0] ++ be (20 + n) 2 ++ [0, 0, 0, 0, 64, p % 256] := by simp [bareL, be2]
  have h2 : (bareL p a b n).drop 12 = be a 4 ++ be b 4 := by simp [bareL, be2]
  rw [h1, h2]; simp [headL]
theorem spec_l2Head_is (p a b n : Int) (h0 : 0 ≤ n) (h1 : n ≤ 1048600) (k : Nat) (hk : 50 ≤ k) : spec_l2Head.f k p a b n = some (headL p a b n) := by
  unfold spec_l2Head.f
  have e2 : ((2 : Nat) : Int) = 2 := rfl
  have e4 : ((4 : Nat) : Int) = 4 := rfl
  rw [w64 (n := 20 + n) (by omega) (by omega), bind_s, ← e2, ← e4, spec_l1Bytes_is _ 2 (by omega) k (by omega), bind_s, if_pos (by simp [be_length]), bind_s, bind_s, if_pos (by simp [be_length]), bind_s]
  rw [spec_l1Bytes_is _ 4 (by omega) k (by omega), bind_s, spec_l1Bytes_is _ 4 (by omega) k (by omega), bind_s, if_pos (by simp [be_length]), bind_s, bind_s, if_pos (by simp [be_length]), bind_s, bind_s, if_pos (by simp [be_length]), bind_s, if_pos (by simp [be_length]), bind_s, if_pos (by simp [be_length]), bind_s]
  have hb : ([] ++ ([69, 0] ++ be (20 + n) 2 ++ [0, 0, 0, 0, 64, p % 256]) ++ [0, 0] ++ (be a 4 ++ be b 4) : List Int) = bareL p a b n := by simp [bareL]
  rw [hb, spec_SumWords_is _ (bareL_bytes p a b n) (by rw [bareL_length]; omega) k (by rw [bareL_length]; omega), bind_s, spec_l1Bytes_is _ 2 (by omega) k (by omega), bind_s, if_pos (by simp [be_length]), bind_s, if_pos (by simp [be_length])]
  simp [headL]
/-- What a one's complement sum comes to. -/
def fold16 (t : Int) : Int := if t = 0 then 0 else (t - 1) % 65535 + 1
def tot (l : List Int) : Nat → Int
  | 0 => 0
  | k + 1 => tot l k + word l k
theorem tot_nonneg (l : List Int) (h : IsBytes l) : ∀ k, 0 ≤ tot l k
  | 0 => Int.le_refl _
  | k + 1 => by
    have := tot_nonneg l h k
    have := word_bounds l h.in_ k
    simp only [tot]; omega
theorem fold16_add (t n : Int) (h0 : 0 ≤ t) (n0 : 0 ≤ n) (n1 : n ≤ 65535) : add1 (fold16 t) n = fold16 (t + n) := by
  unfold add1 fold16
  split <;> (try split) <;> (try split) <;> omega
theorem sumsN_fold (l : List Int) (h : IsBytes l) : ∀ k, sumsN l k = fold16 (tot l k)
  | 0 => rfl
  | k + 1 => by
    have := word_bounds l h.in_ k
    simp only [sumsN, tot]
    rw [sumsN_fold l h k, fold16_add _ _ (tot_nonneg l h k) this.1 this.2]
theorem word_at (l : List Int) (k : Nat) (h : 2 * k + 1 < l.length) : word l k = l.getD (2 * k) 0 * 256 + l.getD (2 * k + 1) 0 := by unfold word; rw [if_pos h]
theorem tot10 (l : List Int) : tot l 10 = word l 0 + word l 1 + word l 2 + word l 3 + word l 4 + word l 5 + word l 6 + word l 7 + word l 8 + word l 9 := by
  simp only [tot]; omega
theorem headL_sum (p a b n : Int) : sumW (headL p a b n) = 0 := by
  have hs := sumW_bounds _ (bareL_bytes p a b n)
  have hN := sumW_N (bareL p a b n)
  rw [bareL_length, sumsN_fold _ (bareL_bytes p a b n)] at hN
  have w0 : word (bareL p a b n) 0 = 17664 := rfl
  have hpos : 17664 ≤ tot (bareL p a b n) 10 := by
    have g := fun k => word_bounds (bareL p a b n) (bareL_bytes p a b n).in_ k
    have g1 := g 1; have g2 := g 2; have g3 := g 3; have g4 := g 4; have g5 := g 5; have g6 := g 6; have g7 := g 7; have g8 := g 8; have g9 := g 9
    rw [tot10, w0]; omega
  have hT : tot (headL p a b n) 10 = tot (bareL p a b n) 10 + sumW (bareL p a b n) := by
    have e0 : word (headL p a b n) 0 = word (bareL p a b n) 0 := rfl
    have e1 : word (headL p a b n) 1 = word (bareL p a b n) 1 := rfl
    have e2 : word (headL p a b n) 2 = word (bareL p a b n) 2 := rfl
    have e3 : word (headL p a b n) 3 = word (bareL p a b n) 3 := rfl
    have e4 : word (headL p a b n) 4 = word (bareL p a b n) 4 := rfl
    have e5 : word (bareL p a b n) 5 = 0 := rfl
    have e5' : word (headL p a b n) 5 = sumW (bareL p a b n) / 2 ^ (8 * 1) % 256 * 256 + sumW (bareL p a b n) / 2 ^ (8 * 0) % 256 := rfl
    have e6 : word (headL p a b n) 6 = word (bareL p a b n) 6 := rfl
    have e7 : word (headL p a b n) 7 = word (bareL p a b n) 7 := rfl
    have e8 : word (headL p a b n) 8 = word (bareL p a b n) 8 := rfl
    have e9 : word (headL p a b n) 9 = word (bareL p a b n) 9 := rfl
    rw [tot10, tot10, e0, e1, e2, e3, e4, e5, e5', e6, e7, e8, e9]
    have p1 : (2 : Int) ^ (8 * 1) = 256 := by decide
    have p0 : (2 : Int) ^ (8 * 0) = 1 := by decide
    rw [p1, p0]
    omega
  rw [sumW_N, headL_length, sumsN_fold _ (headL_bytes p a b n), show (20 + 1) / 2 = 10 from rfl, hT]
  rw [show (20 + 1) / 2 = 10 from rfl] at hN
  rw [hN]
  generalize tot (bareL p a b n) 10 = T at hpos
  unfold fold16
  rw [if_neg (by omega)]
  split <;> omega
def buildL (a b c d e : Int) (l : List Int) : List Int := headL c a b (4 + (l.length : Int)) ++ be d 2 ++ be e 2 ++ l
def buildR (a b c d e : Int) (l : List Int) : Int × List Int := if pf a b c d e l = 0 then (0, buildL a b c d e l) else (pf a b c d e l, [])
theorem buildL_length (a b c d e : Int) (l : List Int) : (buildL a b c d e l).length = 24 + l.length := by simp [buildL, be_length, headL_length]; omega
theorem buildR_length (a b c d e : Int) (l : List Int) : (buildR a b c d e l).2.length ≤ 24 + l.length := by
  unfold buildR
  split
  · show (buildL a b c d e l).length ≤ _
    rw [buildL_length]; omega
  · show 0 ≤ _
    omega
theorem pf_zero (a b c d e : Int) (l : List Int) (h : pf a b c d e l = 0) : l.length ≤ 200 := by
  unfold pf at h
  split at h
  · split at h <;> omega
  · omega
theorem impl_BuildPacket_is (a b c d e : Int) (l : List Int) (hl : l.length ≤ 1048576) (k : Nat) (hk : 8 ≤ k) : impl_BuildPacket.f k a b c d e l = some (buildR a b c d e l) := by
  unfold impl_BuildPacket.f buildR
  rw [impl_PacketFault_is a b c d e l k (by omega), bind_s]
  by_cases h : pf a b c d e l = 0
  · rw [if_pos h, if_pos h]
    unfold impl_size_byte.f
    have e2 : ((2 : Nat) : Int) = 2 := rfl
    rw [bind_s, w64 (n := 4 + (l.length : Int)) (by omega) (by omega), impl_head_is _ _ _ _ (by omega) (by omega) k hk, bind_s, ← e2, impl_put_is _ _ 2 (by omega) k (by omega) (by rw [headL_length]; omega), bind_s, impl_put_is _ _ 2 (by omega) k (by omega) (by simp [be_length, headL_length]), bind_s, if_pos (by simp [be_length, headL_length]; omega)]
    rfl
  · rw [if_neg h, if_neg h]
theorem spec_l2Build_is (a b c d e : Int) (l : List Int) (hl : l.length ≤ 1048576) (k : Nat) (hk : 50 ≤ k) : spec_l2Build.f k a b c d e l = some (buildL a b c d e l) := by
  unfold spec_l2Build.f
  have e2 : ((2 : Nat) : Int) = 2 := rfl
  rw [w64 (n := 4 + (l.length : Int)) (by omega) (by omega), spec_l2Head_is _ _ _ _ (by omega) (by omega) k hk, bind_s, ← e2, spec_l1Bytes_is _ 2 (by omega) k (by omega), bind_s, if_pos (by simp [be_length, headL_length]), bind_s, spec_l1Bytes_is _ 2 (by omega) k (by omega), bind_s, if_pos (by simp [be_length, headL_length]), bind_s, if_pos (by simp [be_length, headL_length]; omega)]
  rfl
theorem Next_is (code : List Int) (hb : IsBytes code) (hn : code.length ≤ 2097152) (at_ n : Int) (h0 : 0 ≤ at_) (h1 : at_ ≤ 1073741824) (hn1 : n ≤ 4611686018427387904) :
    ∃ v, spec_l1Next.f code at_ n = some (v, at_ + 1) ∧ 0 ≤ v ∧ (1 ≤ n → v < n) ∧ (n < 1 → v = 0) := by
  unfold spec_l1Next.f
  have e1 : wrap64 (at_ + 1) = at_ + 1 := w64 (by omega) (by omega)
  have e2 : wrap64 (at_ + 1 - 1) = at_ := by rw [w64 (by omega) (by omega)]; omega
  rw [e1, e2]
  by_cases c : n < 1
  · rw [if_pos c]; exact ⟨0, rfl, by omega, by omega, fun _ => rfl⟩
  · rw [if_neg c]
    by_cases c2 : (code.length : Int) = 0
    · have e3 : wrap64 (at_ * 7) = at_ * 7 := w64 (by omega) (by omega)
      rw [if_pos c2, if_neg (by omega), e3]
      exact ⟨_, rfl, Int.tmod_nonneg n (by omega), fun _ => Int.tmod_lt_of_pos _ (by omega), fun h => absurd h c⟩
    · have hk : 0 < (code.length : Int) := by omega
      have t0 : 0 ≤ Int.tmod at_ code.length := Int.tmod_nonneg _ h0
      have t1 : Int.tmod at_ code.length < code.length := Int.tmod_lt_of_pos _ hk
      have b1 := hb.at_ (Int.tmod at_ code.length).toNat
      have hd : Int.tdiv at_ code.length = at_ / code.length := Int.tdiv_eq_ediv_of_nonneg h0
      have d0 : 0 ≤ at_ / code.length := Int.ediv_nonneg h0 (by omega)
      have d1 : at_ / code.length ≤ at_ := Int.ediv_le_self _ h0
      have r1 : rd code (Int.tmod at_ code.length) = code.getD (Int.tmod at_ code.length).toNat 0 := rfl
      rw [if_neg c2, if_pos t0, if_pos t1, hd, r1, w64 (n := at_ / code.length) (by omega) (by omega), w64 (n := at_ / code.length * 37) (by omega) (by omega)]
      rw [w64 (n := code.getD (Int.tmod at_ code.length).toNat 0) (by omega) (by omega), w64 (n := code.getD (Int.tmod at_ code.length).toNat 0 + at_ / code.length * 37) (by omega) (by omega)]
      by_cases c3 : n > 200
      · have s0 : 0 ≤ Int.tmod (wrap64 (at_ + 1)) code.length := by rw [e1]; exact Int.tmod_nonneg _ (by omega)
        have s1 : Int.tmod (wrap64 (at_ + 1)) code.length < code.length := Int.tmod_lt_of_pos _ hk
        have b2 := hb.at_ (Int.tmod (wrap64 (at_ + 1)) code.length).toNat
        have r2 : rd code (Int.tmod (wrap64 (at_ + 1)) code.length) = code.getD (Int.tmod (wrap64 (at_ + 1)) code.length).toNat 0 := rfl
        rw [e1] at s0 s1 b2 r2
        rw [if_pos c3, e1, if_pos s0, if_pos s1, if_neg (by omega), r2]
        generalize code.getD (Int.tmod at_ code.length).toNat 0 = x at *
        generalize code.getD (Int.tmod (at_ + 1) code.length).toNat 0 = y at *
        generalize at_ / code.length = q at *
        rw [w64 (n := y) (by omega) (by omega), w64 (n := y * 13) (by omega) (by omega), w64 (n := (x + q * 37) * 251) (by omega) (by omega), w64 (n := (x + q * 37) * 251 + y * 13) (by omega) (by omega), w64 (n := (x + q * 37) * 251 + y * 13 + at_) (by omega) (by omega)]
        exact ⟨_, rfl, Int.tmod_nonneg n (by omega), fun _ => Int.tmod_lt_of_pos _ (by omega), fun h => absurd h c⟩
      · rw [if_neg c3, if_neg (by omega)]
        exact ⟨_, rfl, Int.tmod_nonneg n (by omega), fun _ => Int.tmod_lt_of_pos _ (by omega), fun h => absurd h c⟩
theorem Pick_is (code : List Int) (hb : IsBytes code) (hn : code.length ≤ 2097152) (at_ : Int) (h0 : 0 ≤ at_) (h1 : at_ ≤ 1073741824) (l : List Int) (hl : 0 < l.length) (hl2 : l.length ≤ 1000) :
    ∃ v, spec_l1Pick.f code at_ l = some (v, at_ + 1) ∧ v ∈ l := by
  obtain ⟨v, hv, v0, v1, _⟩ := Next_is code hb hn at_ l.length h0 h1 (by omega)
  have v2 := v1 (by omega)
  unfold spec_l1Pick.f
  rw [hv, Option.bind_some, if_pos v0, if_pos v2]
  refine ⟨_, rfl, ?_⟩
  unfold rd
  have hlt : v.toNat < l.length := by omega
  have : l.getD v.toNat 0 = l[v.toNat] := by simp [List.getD, hlt]
  rw [this]; exact List.getElem_mem hlt
theorem l1Some_l0 (code : List Int) (hb : IsBytes code) (hn : code.length ≤ 2097152) : ∀ (d k : Nat) (out : List Int) (at_ : Nat), at_ + 3 * d ≤ 1073741824 → d < k → out.length + d ≤ 1000000000 →
    ∃ ys, spec_l1Some.l0 k (d : Int) out code (at_ : Int) = some (out ++ ys, ((at_ + 3 * d : Nat) : Int)) ∧ IsBytes ys ∧ ys.length = d := by
  intro d
  induction d with
  | zero =>
    intro k out at_ ha hk ho
    obtain ⟨k, rfl⟩ := at_succ hk
    simp only [spec_l1Some.l0]
    rw [if_neg (by omega)]
    exact ⟨[], by simp, (fun x hx => by cases hx), rfl⟩
  | succ d ih =>
    intro k out at_ ha hk ho
    obtain ⟨k, rfl⟩ := at_succ hk
    simp only [spec_l1Some.l0]
    obtain ⟨v1, e1, a1, b1, _⟩ := Next_is code hb hn at_ 256 (by omega) (by omega) (by omega)
    obtain ⟨v2, e2, a2, b2, _⟩ := Next_is code hb hn ((at_ : Int) + 1) 256 (by omega) (by omega) (by omega)
    obtain ⟨v3, e3, h3⟩ := Pick_is code hb hn ((at_ : Int) + 1 + 1) (by omega) (by omega) [v1, v2, 0, 255] (by simp) (by simp)
    rw [if_pos (by omega), e1, bind_s, e2, bind_s, e3, bind_s, if_pos (by omega)]
    have hw : wrap64 (((d + 1 : Nat) : Int) - 1) = (d : Int) := by rw [w64 (by omega) (by omega)]; omega
    have hat : (at_ : Int) + 1 + 1 + 1 = ((at_ + 3 : Nat) : Int) := by omega
    rw [hw, hat]
    obtain ⟨ys, h4, h5, h6⟩ := ih k (out ++ [v3 % 256]) (at_ + 3) (by omega) (by omega) (by simp; omega)
    refine ⟨v3 % 256 :: ys, ?_, fun x hx => ?_, by simp [h6]⟩
    · rw [h4]; simp; omega
    · rcases List.mem_cons.1 hx with rfl | hx
      · omega
      · exact h5 x hx
theorem l1Some_is (code : List Int) (hb : IsBytes code) (hn : code.length ≤ 2097152) (n : Int) (k : Nat) (at_ : Nat) (h0 : 0 ≤ n) (h1 : n ≤ 100000) (ha : at_ ≤ 1000000) (hk : n.toNat < k) :
    ∃ ys, spec_l1Some.f k code (at_ : Int) n = some (ys, ((at_ + 3 * n.toNat : Nat) : Int)) ∧ IsBytes ys ∧ ys.length = n.toNat := by
  unfold spec_l1Some.f
  obtain ⟨d, rfl⟩ : ∃ d : Nat, n = d := ⟨n.toNat, by omega⟩
  rw [Int.toNat_natCast] at *
  have := l1Some_l0 code hb hn d k [] at_ (by omega) hk (by simp; omega)
  simpa using this
theorem IsBytes.set_ {xs : List Int} (h : IsBytes xs) (i : Nat) (v : Int) (h0 : 0 ≤ v) (h1 : v ≤ 255) : IsBytes (xs.set i v) := fun x hx => by
  rcases List.mem_or_eq_of_mem_set hx with hx | rfl
  · exact h x hx
  · exact ⟨h0, h1⟩
theorem Chance_is (code : List Int) (hb : IsBytes code) (hn : code.length ≤ 2097152) (at_ : Int) (h0 : 0 ≤ at_) (h1 : at_ ≤ 1073741824) (n : Int) (hn1 : n ≤ 1000) : ∃ v, spec_l1Chance.f code at_ n = some (v, at_ + 1) := by
  obtain ⟨v, e, _⟩ := Next_is code hb hn at_ n h0 h1 (by omega)
  unfold spec_l1Chance.f
  rw [e, bind_s]
  exact ⟨_, rfl⟩
theorem Turn_is (code : List Int) (hb : IsBytes code) (hn : code.length ≤ 2097152) (at_ : Int) (h0 : 0 ≤ at_) (h1 : at_ ≤ 1000000) (l : List Int) (hl : IsBytes l) (hl2 : l.length ≤ 1000000) (k : Nat) (hk : 0 < k) :
    ∃ l' s', spec_l1Turn.f k code at_ l = some (l', s') ∧ IsBytes l' ∧ l'.length ≤ l.length + 1 ∧ at_ ≤ s' ∧ s' ≤ at_ + 4 := by
  obtain ⟨k, rfl⟩ : ∃ j, k = j + 1 := ⟨k - 1, by omega⟩
  have ht : ∀ s, spec_l1Turn.j0 (k + 1) l true code s = some (l, s) := fun s => by rw [spec_l1Turn.j0.eq_2, if_pos rfl]
  unfold spec_l1Turn.f
  by_cases c : (l.length : Int) = 0
  · rw [if_pos c, ht]; exact ⟨l, at_, rfl, hl, by omega, by omega, by omega⟩
  · rw [if_neg c]
    obtain ⟨v, e⟩ := Chance_is code hb hn at_ h0 (by omega) 3 (by omega)
    rw [e, bind_s]
    cases v with
    | false =>
      show ∃ l' s', spec_l1Turn.j0 (k + 1) l true code (at_ + 1) = some (l', s') ∧ _
      rw [ht]; exact ⟨l, at_ + 1, rfl, hl, by omega, by omega, by omega⟩
    | true =>
      show ∃ l' s', spec_l1Turn.j0 (k + 1) l false code (at_ + 1) = some (l', s') ∧ _
      rw [spec_l1Turn.j0.eq_2, if_neg (by decide)]
      obtain ⟨i, e1, i0, i1, _⟩ := Next_is code hb hn (at_ + 1) l.length (by omega) (by omega) (by omega)
      obtain ⟨w, e2, w0, w1, _⟩ := Next_is code hb hn (at_ + 1 + 1) 3 (by omega) (by omega) (by omega)
      obtain ⟨u, e3, u0, u1, _⟩ := Next_is code hb hn (at_ + 1 + 1 + 1) 256 (by omega) (by omega) (by omega)
      have i2 := i1 (by omega)
      rw [e1, bind_s, e2, bind_s]
      by_cases c0 : w = 0
      · rw [if_pos c0, e3, bind_s, if_pos i0, if_pos i2]
        exact ⟨_, _, rfl, hl.set_ _ _ (by omega) (by omega), by rw [List.length_set]; omega, by omega, by omega⟩
      · rw [if_neg c0]
        by_cases c1 : w = 1
        · rw [if_pos c1, if_pos i0, if_pos (by omega)]
          exact ⟨_, _, rfl, hl.take_ _, by rw [List.length_take]; omega, by omega, by omega⟩
        · rw [if_neg c1]
          by_cases c2 : w = 2
          · rw [if_pos c2, if_pos (by omega)]
            exact ⟨_, _, rfl, hl.append (fun x hx => by simp at hx; omega), by simp, by omega, by omega⟩
          · rw [if_neg c2]; exact ⟨l, _, rfl, hl, by omega, by omega, by omega⟩
theorem DrawAddress_is (code : List Int) (hb : IsBytes code) (hn : code.length ≤ 2097152) (at_ : Int) (h0 : 0 ≤ at_) (h1 : at_ ≤ 1000000) : ∃ v, spec_l2DrawAddress.f code at_ = some (v, at_ + 3) := by
  unfold spec_l2DrawAddress.f
  obtain ⟨a, e1, _⟩ := Next_is code hb hn at_ 6 (by omega) (by omega) (by omega)
  obtain ⟨b, e2, _⟩ := Next_is code hb hn (at_ + 1) 6 (by omega) (by omega) (by omega)
  obtain ⟨c, e3, _⟩ := Pick_is code hb hn (at_ + 1 + 1) (by omega) (by omega) [wrap64 (167772160 + a), wrap64 (167772160 + b), 5, 0, 4294967295] (by simp) (by simp)
  rw [e1, bind_s, e2, bind_s, e3, bind_s]
  exact ⟨c, by rw [show at_ + 1 + 1 + 1 = at_ + 3 by omega]⟩
theorem buildL_bytes (a b c d e : Int) (l : List Int) (hl : IsBytes l) : IsBytes (buildL a b c d e l) := (((headL_bytes _ _ _ _).append (be_bytes d 2)).append (be_bytes e 2)).append hl
theorem Packet_is (code : List Int) (hb : IsBytes code) (hn : code.length ≤ 2097152) (at_ : Int) (h0 : 0 ≤ at_) (h1 : at_ ≤ 1000) (k : Nat) (hk : 10 ≤ k) :
    ∃ a b c d e l s, spec_l2Packet.f k code at_ = some (a, b, c, d, e, l, s) ∧ IsBytes l ∧ l.length ≤ 9 ∧ at_ ≤ s ∧ s ≤ at_ + 100 := by
  unfold spec_l2Packet.f
  obtain ⟨a, e1⟩ := DrawAddress_is code hb hn at_ h0 (by omega)
  obtain ⟨b, e2⟩ := DrawAddress_is code hb hn (at_ + 3) (by omega) (by omega)
  obtain ⟨c, e3, _⟩ := Pick_is code hb hn (at_ + 3 + 3) (by omega) (by omega) [6, 17] (by simp) (by simp)
  obtain ⟨d, e4, _⟩ := Next_is code hb hn (at_ + 3 + 3 + 1) 30 (by omega) (by omega) (by omega)
  obtain ⟨e, e5, _⟩ := Next_is code hb hn (at_ + 3 + 3 + 1 + 1) 65536 (by omega) (by omega) (by omega)
  obtain ⟨f, e6, _⟩ := Pick_is code hb hn (at_ + 3 + 3 + 1 + 1 + 1) (by omega) (by omega) [80, 443, e] (by simp) (by simp)
  obtain ⟨g, e7, g0, g1, _⟩ := Next_is code hb hn (at_ + 3 + 3 + 1 + 1 + 1 + 1) 9 (by omega) (by omega) (by omega)
  have g2 := g1 (by omega)
  obtain ⟨m, hm⟩ : ∃ m : Nat, at_ + 3 + 3 + 1 + 1 + 1 + 1 + 1 = (m : Int) := ⟨(at_ + 3 + 3 + 1 + 1 + 1 + 1 + 1).toNat, by omega⟩
  obtain ⟨ys, e8, h2, h3⟩ := l1Some_is code hb hn g k m g0 (by omega) (by omega) (by omega)
  rw [e1, bind_s, e2, bind_s, e3, bind_s, e4, bind_s, e5, bind_s, e6, bind_s, e7, bind_s]
  simp only [hm]
  rw [e8, bind_s]
  exact ⟨_, _, _, _, _, ys, _, rfl, h2, by omega, by omega, by omega⟩
theorem Wire_is (code : List Int) (hb : IsBytes code) (hn : code.length ≤ 2097152) (at_ : Int) (h0 : 0 ≤ at_) (h1 : at_ ≤ 1000) (k : Nat) (hk : 60 ≤ k) :
    ∃ l s, spec_l2Wire.f k code at_ = some (l, s) ∧ IsBytes l ∧ l.length ≤ 34 ∧ at_ ≤ s ∧ s ≤ at_ + 200 := by
  unfold spec_l2Wire.f
  obtain ⟨a, b, c, d, e, l, s, e1, hl, hl2, s0, s1⟩ := Packet_is code hb hn at_ h0 h1 k (by omega)
  rw [e1, bind_s]
  show ∃ l' s', ((spec_l2Build.f k a b c d e l).bind _) = some (l', s') ∧ _
  rw [spec_l2Build_is a b c d e l (by omega) k (by omega), bind_s]
  have hB := buildL_bytes a b c d e l hl
  have hBl := buildL_length a b c d e l
  generalize buildL a b c d e l = y at *
  obtain ⟨q, e2⟩ := Chance_is code hb hn s (by omega) (by omega) 6 (by omega)
  show ∃ l' s', ((spec_l1Chance.f code s 6).bind _) = some (l', s') ∧ _
  rw [e2, bind_s]
  cases q with
  | false =>
    show ∃ l' s', (if (false : Bool) = true then _ else ((spec_l1Turn.f k code (s + 1) y).bind _)) = some (l', s') ∧ _
    rw [if_neg (by decide)]
    obtain ⟨l', s', e3, b1, b2, b3, b4⟩ := Turn_is code hb hn (s + 1) (by omega) (by omega) y hB (by omega) k (by omega)
    rw [e3, bind_s]
    exact ⟨l', s', rfl, b1, by omega, by omega, by omega⟩
  | true =>
    obtain ⟨i, e3, hi⟩ := Pick_is code hb hn (s + 1) (by omega) (by omega) [1, 4, 6, 7, 8, 9] (by simp) (by simp)
    have hi' : 0 ≤ i ∧ i < 10 := by
      simp only [List.mem_cons, List.not_mem_nil, or_false] at hi; omega
    obtain ⟨v, e4, _⟩ := Next_is code hb hn (s + 1 + 1) 3 (by omega) (by omega) (by omega)
    show ∃ l' s', (if (true : Bool) = true then ((spec_l1Pick.f code (s + 1) [1, 4, 6, 7, 8, 9]).bind _) else _) = some (l', s') ∧ _
    rw [if_pos rfl, e3, bind_s]
    show ∃ l' s', ((spec_l1Next.f code (s + 1 + 1) 3).bind _) = some (l', s') ∧ _
    rw [e4, bind_s]
    simp only []
    rw [if_pos hi'.1, if_pos (by omega), if_pos (by omega), if_pos (by omega), bind_s, if_pos (by omega)]
    have hY : IsBytes (((y.set (i : Int).toNat (v % 256)).set (10 : Int).toNat 0).set (11 : Int).toNat 0) := ((hB.set_ _ _ (by omega) (by omega)).set_ _ _ (by omega) (by omega)).set_ _ _ (by omega) (by omega)
    have hYl : (((y.set (i : Int).toNat (v % 256)).set (10 : Int).toNat 0).set (11 : Int).toNat 0).length = y.length := by simp
    generalize ((y.set (i : Int).toNat (v % 256)).set (10 : Int).toNat 0).set (11 : Int).toNat 0 = z at *
    rw [spec_SumWords_is _ (hY.take_ 20) (by rw [List.length_take]; omega) k (by rw [List.length_take]; omega), bind_s]
    generalize sumW (z.take 20) = t at *
    have hZ : IsBytes ((z.set (10 : Int).toNat ((wrap64 (Int.tdiv t 256)) % 256)).set (11 : Int).toNat ((Int.tmod t 256) % 256)) := (hY.set_ _ _ (by omega) (by omega)).set_ _ _ (by omega) (by omega)
    have hZl : ((z.set (10 : Int).toNat ((wrap64 (Int.tdiv t 256)) % 256)).set (11 : Int).toNat ((Int.tmod t 256) % 256)).length = y.length := by rw [List.length_set, List.length_set, hYl]
    generalize ((z.set (10 : Int).toNat ((wrap64 (Int.tdiv t 256)) % 256)).set (11 : Int).toNat ((Int.tmod t 256) % 256)) = x at *
    obtain ⟨l', s', e5, b1, b2, b3, b4⟩ := Turn_is code hb hn (s + 1 + 1 + 1) (by omega) (by omega) x hZ (by omega) k (by omega)
    rw [e5, bind_s]
    exact ⟨l', s', rfl, b1, by omega, by omega, by omega⟩
theorem and255 (x : Int) (h0 : 0 ≤ x) (h1 : x < 9223372036854775808) : Go.bits .and .i64 x 255 = x % 256 := by
  have := bits_mask .i64 63 (by decide) (fun n a b => by rw [IntKind.wrap_i64]; omega) 8 (by decide) x h0 (by omega)
  simpa using this
theorem tx_nat (u : Nat) : Cf.tx (u : Int) = ⟨(Lib.decDigits u).toArray⟩ := by
  unfold Cf.tx Lib.itoa
  rw [if_neg (by omega), Int.toNat_natCast]
def atext (a : Int) : ByteArray := Cf.dj ⟨#[46]⟩ [a / 16777216, a / 65536 % 256, a / 256 % 256, a % 256] 4
theorem impl_addressText_is (a : Int) (h0 : 0 ≤ a) (h1 : a ≤ 4294967295) : impl_addressText.f a = some (atext a) := by
  unfold impl_addressText.f impl_decimals.f
  rw [and255 _ (by omega) (by omega), and255 _ (by omega) (by omega), and255 _ (by omega) (by omega)]
  rw [if_pos ⟨by decide, by simp, by simp; omega⟩, bind_s]
  rfl
theorem impl_AddressText_is (a : Int) : impl_AddressText.f a = some (if inB a 0 4294967295 = true then (0, atext a) else (3, ⟨#[]⟩)) := by
  unfold impl_AddressText.f
  rw [impl_isAddress_is, bind_s]
  by_cases h : inB a 0 4294967295 = true
  · have h' := h
    unfold inB at h'
    simp only [Bool.and_eq_true, decide_eq_true_eq] at h'
    rw [if_pos h, if_pos h, impl_addressText_is a h'.1 h'.2, bind_s]
  · rw [if_neg h, if_neg h]
theorem num_be4 (a : Int) (h0 : 0 ≤ a) (h1 : a ≤ 4294967295) : num (be a 4) = a := by
  unfold num
  rw [numFrom_be a 0 4 (by omega)]
  have : (2 : Int) ^ (8 * 4) = 4294967296 := by decide
  rw [this]; omega
theorem num_be2 (a : Int) (h0 : 0 ≤ a) (h1 : a ≤ 65535) : num (be a 2) = a := by
  unfold num
  rw [numFrom_be a 0 2 (by omega)]
  have : (2 : Int) ^ (8 * 2) = 65536 := by decide
  rw [this]; omega
theorem build_len (a b c d e : Int) (l : List Int) : ((buildL a b c d e l).drop 2).take 2 = be (20 + (4 + (l.length : Int))) 2 := by simp [buildL, headL, be2, be4]
theorem build_from (a b c d e : Int) (l : List Int) : ((buildL a b c d e l).drop 12).take 4 = be a 4 := by simp [buildL, headL, be2, be4]
theorem build_to (a b c d e : Int) (l : List Int) : ((buildL a b c d e l).drop 16).take 4 = be b 4 := by simp [buildL, headL, be2, be4]
theorem build_fp (a b c d e : Int) (l : List Int) : ((buildL a b c d e l).drop 20).take 2 = be d 2 := by simp [buildL, headL, be2, be4]
theorem build_tp (a b c d e : Int) (l : List Int) : ((buildL a b c d e l).drop 22).take 2 = be e 2 := by simp [buildL, headL, be2, be4]
theorem build_in (a b c d e : Int) (l : List Int) : (buildL a b c d e l).drop 24 = l := by simp [buildL, headL, be2, be4]
theorem build_head (a b c d e : Int) (l : List Int) : (buildL a b c d e l).take 20 = headL c a b (4 + (l.length : Int)) := by
  unfold buildL
  rw [List.append_assoc, List.append_assoc, List.take_left' (headL_length _ _ _ _)]
theorem pf_parts {a b c d e : Int} {l : List Int} (h : pf a b c d e l = 0) : (0 ≤ a ∧ a ≤ 4294967295) ∧ (0 ≤ b ∧ b ≤ 4294967295) ∧ protoB c = true ∧ (0 ≤ d ∧ d ≤ 65535) ∧ (0 ≤ e ∧ e ≤ 65535) ∧ l.length ≤ 200 := by
  have hl := pf_zero a b c d e l h
  unfold pf at h
  split at h
  · rename_i hc
    simp only [inB, Bool.and_eq_true, decide_eq_true_eq] at hc
    exact ⟨by omega, by omega, hc.2.2.1, by omega, by omega, hl⟩
  · omega
theorem pf_mk {a b c d e : Int} {l : List Int} (ha : 0 ≤ a ∧ a ≤ 4294967295) (hb : 0 ≤ b ∧ b ≤ 4294967295) (hc : protoB c = true) (hd : 0 ≤ d ∧ d ≤ 65535) (he : 0 ≤ e ∧ e ≤ 65535) (hl : l.length ≤ 200) : pf a b c d e l = 0 := by
  unfold pf
  rw [if_pos (by simp only [inB, Bool.and_eq_true, decide_eq_true_eq]; exact ⟨ha, hb, hc, hd, he⟩), if_neg (by omega)]
theorem parse_build (a b c d e : Int) (l : List Int) (h : pf a b c d e l = 0) : parseR (buildL a b c d e l) = (0, a, b, c, d, e, l) := by
  obtain ⟨ha, hb, hc, hd, he, hl⟩ := pf_parts h
  have hc2 : c = 6 ∨ c = 17 := by simpa [protoB] using hc
  have hlen := buildL_length a b c d e l
  have n2 : nm (buildL a b c d e l) 2 2 = 24 + (l.length : Int) := by unfold nm; rw [build_len, num_be2 _ (by omega) (by omega)]; omega
  have n12 : nm (buildL a b c d e l) 12 4 = a := by unfold nm; rw [build_from, num_be4 a ha.1 ha.2]
  have n16 : nm (buildL a b c d e l) 16 4 = b := by unfold nm; rw [build_to, num_be4 b hb.1 hb.2]
  have n20 : nm (buildL a b c d e l) 20 2 = d := by unfold nm; rw [build_fp, num_be2 d hd.1 hd.2]
  have n22 : nm (buildL a b c d e l) 22 2 = e := by unfold nm; rw [build_tp, num_be2 e he.1 he.2]
  have g0 : (buildL a b c d e l).getD 0 0 = 69 := rfl
  have g6 : (buildL a b c d e l).getD 6 0 = 0 := rfl
  have g7 : (buildL a b c d e l).getD 7 0 = 0 := rfl
  have g9 : (buildL a b c d e l).getD 9 0 = c := by
    have : (buildL a b c d e l).getD 9 0 = c % 256 := rfl
    rw [this]; omega
  have hbad : bad1 (buildL a b c d e l) = false := by
    unfold bad1
    rw [hlen, g0, n2]
    unfold inB
    rw [decide_eq_true (show ((24 + l.length : Nat) : Int) ≥ 24 by omega), decide_eq_true (show ((24 + l.length : Nat) : Int) ≤ 224 by omega), decide_eq_true (show (24 : Int) + (l.length : Int) = ((24 + l.length : Nat) : Int) by omega)]
    rfl
  unfold parseR
  rw [hbad, if_neg (by decide), build_head, headL_sum, if_pos rfl, g6, g7, g9, if_pos ⟨rfl, rfl, hc⟩, n12, n16, n20, n22, build_in]
theorem parse_good (l : List Int) (hb : IsBytes l) (f0 f1 f2 f3 f4 : Int) (m : List Int) (h : parseR l = (0, f0, f1, f2, f3, f4, m)) : pf f0 f1 f2 f3 f4 m = 0 ∧ m.length ≤ 200 := by
  unfold parseR at h
  by_cases h1 : bad1 l = true
  · rw [if_pos h1] at h; simp at h
  · rw [if_neg h1] at h
    have hlen := bad1_len (l := l) (by simpa using h1)
    by_cases h2 : sumW (l.take 20) = 0
    · rw [if_pos h2] at h
      by_cases h3 : l.getD 6 0 = 0 ∧ l.getD 7 0 = 0 ∧ protoB (l.getD 9 0) = true
      · rw [if_pos h3] at h
        simp only [Prod.mk.injEq, true_and] at h
        obtain ⟨rfl, rfl, rfl, rfl, rfl, rfl⟩ := h
        have q4 : (256 : Int) ^ 4 = 4294967296 := by decide
        have q2 : (256 : Int) ^ 2 = 65536 := by decide
        have b4 : ∀ i, i + 4 ≤ 24 → 0 ≤ nm l i 4 ∧ nm l i 4 ≤ 4294967295 := fun i hi => by
          have := num_bounds ((l.drop i).take 4) ((hb.drop_ i).take_ 4)
          rw [show ((l.drop i).take 4).length = 4 by rw [List.length_take, List.length_drop]; omega, q4] at this
          unfold nm; omega
        have b2 : ∀ i, i + 2 ≤ 24 → 0 ≤ nm l i 2 ∧ nm l i 2 ≤ 65535 := fun i hi => by
          have := num_bounds ((l.drop i).take 2) ((hb.drop_ i).take_ 2)
          rw [show ((l.drop i).take 2).length = 2 by rw [List.length_take, List.length_drop]; omega, q2] at this
          unfold nm; omega
        have hm : (l.drop 24).length ≤ 200 := by simp; omega
        exact ⟨pf_mk (b4 12 (by omega)) (b4 16 (by omega)) h3.2.2 (b2 20 (by omega)) (b2 22 (by omega)) hm, hm⟩
      · rw [if_neg h3] at h; simp at h
    · rw [if_neg h2] at h; simp at h
theorem Bent_is (code : List Int) (hb : IsBytes code) (hn : code.length ≤ 2097152) (k : Nat) (hk : 10 ≤ k) : ∃ a b c d e l s, spec_l2Bent.f k code 0 = some (a, b, c, d, e, l, s) ∧ IsBytes l ∧ l.length ≤ 300 := by
  unfold spec_l2Bent.f
  obtain ⟨a, b, c, d, e, l, s, e1, hl, hl2, s0, s1⟩ := Packet_is code hb hn 0 (by omega) (by omega) k hk
  rw [e1, bind_s]
  obtain ⟨v, e2, v0, v1, _⟩ := Next_is code hb hn s 18 (by omega) (by omega) (by omega)
  simp only [e2, bind_s]
  obtain ⟨p0, q0, _⟩ := Pick_is code hb hn (s + 1) (by omega) (by omega) [(-1), 4294967296] (by simp) (by simp)
  obtain ⟨p1, q1, _⟩ := Pick_is code hb hn (s + 1) (by omega) (by omega) [0, 1, 47, (-1)] (by simp) (by simp)
  obtain ⟨p2, q2, _⟩ := Pick_is code hb hn (s + 1) (by omega) (by omega) [(-1), 65536, 65535] (by simp) (by simp)
  obtain ⟨x, q3, x0, x1, _⟩ := Next_is code hb hn (s + 1) 2 (by omega) (by omega) (by omega)
  have x2 := x1 (by omega)
  simp only [q0, q1, q2, q3, bind_s]
  rw [w64 (n := 200 + x) (by omega) (by omega)]
  by_cases c0 : v = 0
  · rw [if_pos c0]; exact ⟨_, _, _, _, _, _, _, rfl, hl, by omega⟩
  · rw [if_neg c0]
    by_cases c1 : v = 1
    · rw [if_pos c1]; exact ⟨_, _, _, _, _, _, _, rfl, hl, by omega⟩
    · rw [if_neg c1]
      by_cases c2 : v = 2
      · rw [if_pos c2]; exact ⟨_, _, _, _, _, _, _, rfl, hl, by omega⟩
      · rw [if_neg c2]
        by_cases c3 : v = 3
        · rw [if_pos c3]; exact ⟨_, _, _, _, _, _, _, rfl, hl, by omega⟩
        · rw [if_neg c3]
          by_cases c4 : v = 4
          · rw [if_pos c4, if_pos (by omega), if_pos (by omega)]
            exact ⟨_, _, _, _, _, _, _, rfl, fun y hy => by have := List.eq_of_mem_replicate hy; omega, by rw [List.length_replicate]; omega⟩
          · rw [if_neg c4]; exact ⟨_, _, _, _, _, _, _, rfl, hl, by omega⟩
theorem tx_pos (n : Int) (h0 : 0 ≤ n) : 1 ≤ (Cf.tx n).size := by
  obtain ⟨u, rfl⟩ : ∃ u : Nat, n = u := ⟨n.toNat, by omega⟩
  rw [tx_nat]
  show 1 ≤ (Lib.decDigits u).toArray.size
  rw [List.size_toArray, Lib.decDigits_length]
  rw [Lib.nDigits]
  split <;> omega
theorem atext_size (a : Int) (h0 : 0 ≤ a) (h1 : a ≤ 4294967295) : 7 ≤ (atext a).size := by
  have e : atext a = ((((((⟨#[]⟩ : ByteArray) ++ Cf.tx (a / 16777216)) ++ ⟨#[46]⟩) ++ Cf.tx (a / 65536 % 256)) ++ ⟨#[46]⟩) ++ Cf.tx (a / 256 % 256) ++ ⟨#[46]⟩) ++ Cf.tx (a % 256) := rfl
  rw [e]
  simp only [Cf.size_app]
  have d1 : (⟨#[46]⟩ : ByteArray).size = 1 := rfl
  have d0 : (⟨#[]⟩ : ByteArray).size = 0 := rfl
  have t0 := tx_pos (a / 16777216) (by omega)
  have t1 := tx_pos (a / 65536 % 256) (by omega)
  have t2 := tx_pos (a / 256 % 256) (by omega)
  have t3 := tx_pos (a % 256) (by omega)
  omega
theorem FnPackets_j0 (code : List Int) (hb : IsBytes code) (hn : code.length ≤ 1048576) (k : Nat) (hk : 250 ≤ k) : laws_FnPackets.j0 k code false = some true := by
  obtain ⟨k, rfl⟩ : ∃ j, k = j + 1 := ⟨k - 1, by omega⟩
  rw [laws_FnPackets.j0.eq_2, if_neg (by decide)]
  obtain ⟨a, b, c, d, e, l, s, e1, hl, hl2⟩ := Bent_is code hb (by omega) k (by omega)
  have e2 : spec_DrawBuildPacket.f k code = some (a, b, c, d, e, l) := by
    unfold spec_DrawBuildPacket.f spec_l1Source.f
    rw [bind_s]
    simp only []
    rw [e1, bind_s]
  rw [e2, bind_s]
  simp only []
  rw [impl_BuildPacket_is a b c d e l (by omega) k (by omega), bind_s]
  by_cases h0 : pf a b c d e l = 0
  · obtain ⟨ha, hb', hc, hd, he, hl3⟩ := pf_parts h0
    have hB : buildR a b c d e l = (0, buildL a b c d e l) := by unfold buildR; rw [if_pos h0]
    have hBl := buildL_length a b c d e l
    rw [hB]
    simp only [if_true]
    rw [impl_ParsePacket_is _ (buildL_bytes a b c d e l hl) (by omega) k (by omega), bind_s, parse_build a b c d e l h0]
    simp only [if_true]
    have hS : impl_SamePacket.f a b c d e l a b c d e l = some true := by
      unfold impl_SamePacket.f impl_samePacket.f bytes_Equal.f
      simp only [if_true, bind_s, beq_self_eq_true]
    rw [hS, bind_s, if_pos rfl, if_pos (by rw [hBl, w64 (by omega) (by omega)]; omega), if_pos (by omega), build_head, impl_WholeSum_is _ (headL_bytes _ _ _ _) (by rw [headL_length]; omega), bind_s, headL_sum]
    rw [if_pos (by decide), impl_AddressText_is, bind_s]
    have hin : inB b 0 4294967295 = true := by simp only [inB, Bool.and_eq_true, decide_eq_true_eq]; omega
    rw [if_pos hin]
    have := atext_size b hb'.1 hb'.2
    simp only []
    rw [decide_eq_true (by omega)]
  · have hB : buildR a b c d e l = (pf a b c d e l, []) := by unfold buildR; rw [if_neg h0]
    rw [hB]
    simp only []
    rw [if_neg h0, spec_PacketFault_is a b c d e l k (by omega), bind_s, beq_self_eq_true]
theorem FnPackets : laws_FnPackets.Pure := by
  intro l _ _ hb
  have hb := IsBytes.of hb
  refine ⟨300, ?_⟩
  unfold laws_FnPackets.f laws_lwBig.f
  rw [bind_s]
  by_cases h : (l.length : Int) > 1048576
  · rw [decide_eq_true h, if_pos rfl]
  · rw [decide_eq_false h, if_neg (by decide)]
    obtain ⟨x, s, e0, hx, hxl, _⟩ := Wire_is l hb (by omega) 0 (by omega) (by omega) 300 (by omega)
    have hd : spec_DrawParsePacket.f 300 l = some x := by
      unfold spec_DrawParsePacket.f spec_l1Source.f
      rw [bind_s]
      simp only []
      rw [e0, bind_s]
    have hj := FnPackets_j0 l hb (by omega) 300 (by omega)
    rw [hd, bind_s, impl_ParsePacket_is x hx (by omega) 300 (by omega), bind_s]
    obtain ⟨q, f0, f1, f2, f3, f4, m, hq⟩ : ∃ q f0 f1 f2 f3 f4 m, parseR x = (q, f0, f1, f2, f3, f4, m) := ⟨_, _, _, _, _, _, _, rfl⟩
    rw [hq]
    simp only []
    by_cases c0 : q = 0
    · subst c0
      obtain ⟨g1, g2⟩ := parse_good x hx _ _ _ _ _ _ hq
      rw [if_pos rfl, impl_PacketFault_is f0 f1 f2 f3 f4 m 300 (by omega), bind_s, g1]
      exact hj
    · rw [if_neg c0, spec_ParsePacket_is x hx (by omega) 300 (by omega), bind_s, hq]
      simp only [if_true]
      exact hj
end Go.Proofs.YtgpemjkcpeimdaaDoor.Pure
