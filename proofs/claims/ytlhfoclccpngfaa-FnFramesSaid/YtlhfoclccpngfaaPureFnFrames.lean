/- WHAT THIS TEXT PROVES: the pure statement of the law FnFrames, over plain functions on numbers and lists. No condition beyond the statement's own. -/
import Derived.Test.YtlhfoclccpngfaaQFnFramesx4
import Derived.Laws.BitsLemmas
import Derived.IntWalk
namespace Go.Proofs.Ytlhfoclccpngfaa.Pure
open Go.RowKit Go.Proofs.Ytlhfoclccpngfaa.QFnFrames Go.Proofs.YtlhfoclccpngfaaW.PrintWords Go.Proofs.YtlhfoclccpngfaaW.PrintLast Go.Proofs.YtlhfoclccpngfaaW.PrintMore
set_option linter.unusedVariables false
set_option linter.unusedSimpArgs false
theorem w64 {n : Int} (h0 : -9223372036854775808 ≤ n) (h1 : n ≤ 9223372036854775807) : wrap64 n = n := by unfold wrap64; omega
theorem w64n (i : Nat) (h : i < 9223372036854775807) : wrap64 ((i : Int) + 1) = ((i + 1 : Nat) : Int) := by
  rw [w64 (by omega) (by omega)]; omega
theorem rd_nat (xs : List Int) (i : Nat) : rd xs (i : Int) = xs.getD i 0 := by simp [rd]
theorem at_succ {k d : Nat} (h : d < k) : ∃ m, k = m + 1 := ⟨k - 1, by omega⟩
theorem drop_cons (xs : List Int) (i : Nat) (h : i < xs.length) : xs.drop i = xs.getD i 0 :: xs.drop (i + 1) := by
  rw [List.drop_eq_getElem_cons h]; simp [List.getD, h]
theorem set_take (x0 x3 : List Int) (i : Nat) (hl : x3.length = x0.length) (hi : i < x0.length) (ht : x3.take i = x0.take i) :
    (x3.set i (x0.getD i 0)).take (i + 1) = x0.take (i + 1) := by
  apply List.ext_getElem?
  intro j
  by_cases hj : j < i
  · have h1 := congrArg (fun l : List Int => l[j]?) ht
    simp only [List.getElem?_take, hj, if_true] at h1
    simp only [List.getElem?_take, show j < i + 1 by omega, if_true]
    rw [List.getElem?_set_ne (by omega)]; exact h1
  · by_cases e : j = i
    · subst e
      simp only [List.getElem?_take, show j < j + 1 by omega, if_true]
      rw [List.getElem?_set_self (by omega)]
      simp [List.getD, hi]
    · simp only [List.getElem?_take, show ¬ j < i + 1 by omega, if_false]
theorem bind_s {α β : Type} (a : α) (f : α → Option β) : (some a).bind f = f a := Eq.trans (Option.bind_some a f) (Eq.refl _)
theorem wf_i64 {n : Int} (h : (Lit.int .i64 n).wf = true) : -9223372036854775808 ≤ n ∧ n ≤ 9223372036854775807 := by
  simp only [Lit.wf, IntKind.min, IntKind.max, IntKind.signed, IntKind.bits, Bool.and_eq_true, decide_eq_true_eq, if_true] at h
  omega
theorem wf_u8 {n : Int} (h : (Lit.int .u8 n).wf = true) : 0 ≤ n ∧ n ≤ 255 := by
  simpa [Lit.wf, IntKind.min, IntKind.max, IntKind.signed, IntKind.bits] using h
def IsBytes (xs : List Int) : Prop := ∀ x ∈ xs, 0 ≤ x ∧ x ≤ 255
theorem IsBytes.of {xs : List Int} (h : ∀ x ∈ xs, (Lit.int .u8 x).wf = true) : IsBytes xs := fun x hx => wf_u8 (h x hx)
theorem IsBytes.at_ {xs : List Int} (h : IsBytes xs) (i : Nat) : 0 ≤ xs.getD i 0 ∧ xs.getD i 0 ≤ 255 := by
  by_cases hi : i < xs.length
  · have : xs.getD i 0 = xs[i] := by simp [List.getD, hi]
    rw [this]; exact h _ (List.getElem_mem hi)
  · rw [List.getD_eq_getElem?_getD, List.getElem?_eq_none (by omega)]; simp
theorem IsBytes.take_ {xs : List Int} (h : IsBytes xs) (i : Nat) : IsBytes (xs.take i) := fun x hx => h x (List.mem_of_mem_take hx)
theorem IsBytes.drop_ {xs : List Int} (h : IsBytes xs) (i : Nat) : IsBytes (xs.drop i) := fun x hx => h x (List.mem_of_mem_drop hx)
theorem IsBytes.append {xs ys : List Int} (h : IsBytes xs) (k : IsBytes ys) : IsBytes (xs ++ ys) := fun x hx => (List.mem_append.1 hx).elim (h x) (k x)
def numFrom (n : Int) (xs : List Int) : Int := xs.foldl (fun n b => n * 256 + b) n
def num (xs : List Int) : Int := numFrom 0 xs
theorem numFrom_nil (n : Int) : numFrom n [] = n := rfl
theorem numFrom_cons (n x : Int) (xs : List Int) : numFrom n (x :: xs) = numFrom (n * 256 + x) xs := rfl
theorem numFrom_bounds : ∀ (xs : List Int) (n : Int) (p : Int), IsBytes xs → 0 ≤ n → n < p → 0 ≤ numFrom n xs ∧ numFrom n xs < p * 256 ^ xs.length
  | [], n, p, _, h0, h1 => by rw [numFrom_nil]; simpa using ⟨h0, h1⟩
  | x :: xs, n, p, hb, h0, h1 => by
    have hx := hb x (by simp)
    have := numFrom_bounds xs (n * 256 + x) (p * 256) (fun y hy => hb y (by simp [hy])) (by omega) (by omega)
    rw [numFrom_cons, List.length_cons, Int.pow_succ, Int.mul_comm (256 ^ xs.length) 256, ← Int.mul_assoc]
    exact this
theorem num_bounds (xs : List Int) (hb : IsBytes xs) : 0 ≤ num xs ∧ num xs < 256 ^ xs.length := by
  have := numFrom_bounds xs 0 1 hb (by omega) (by omega)
  rw [Int.one_mul] at this; exact this
theorem or_is (n b : Int) (h0 : 0 ≤ n) (h1 : n < 36028797018963968) (b0 : 0 ≤ b) (b1 : b ≤ 255) : Go.bits .or .i64 (wrap64 (n * 256)) (wrap64 b) = n * 256 + b := by
  rw [w64 (n := n * 256) (by omega) (by omega), w64 (n := b) (by omega) (by omega)]
  refine Go.bits_join .i64 63 (by decide) (fun m h0 h1 => ?_) 8 (n * 256) b (by omega) (by omega) (by omega) b0 (by omega) (by omega)
  rw [Go.IntWalk.i64_left]; exact w64 (by omega) (by omega)
theorem pow_small (j : Nat) (h : j ≤ 5) : (256 : Int) ^ j ≤ 1099511627776 := by
  have : j = 0 ∨ j = 1 ∨ j = 2 ∨ j = 3 ∨ j = 4 ∨ j = 5 := by omega
  rcases this with rfl | rfl | rfl | rfl | rfl | rfl <;> decide
theorem num_step (n b : Int) (j : Nat) (h0 : 0 ≤ n) (h1 : n < 256 ^ j) (hj : j ≤ 5) (b0 : 0 ≤ b) (b1 : b ≤ 255) : 0 ≤ n * 256 + b ∧ n * 256 + b < 256 ^ (j + 1) ∧ n < 1099511627776 := by
  have := pow_small j hj
  rw [Int.pow_succ]
  omega
open Go.Proofs.Ytlhfoclccpngfaa.SumWords Go.Proofs.Ytlhfoclccpngfaa.Chunk
theorem IsBytes.in_ {l : List Int} (h : IsBytes l) : inBytes l := h
/-- The sum over the first k words. -/
def sumsN (l : List Int) : Nat → Int
  | 0 => 0
  | k + 1 => add1 (sumsN l k) (word l k)
theorem sums_take (l : List Int) : ∀ k, k ≤ (l.length + 1) / 2 → sums l ((all ((l.length + 1) / 2)).take k) = sumsN l k := by
  intro k
  induction k with
  | zero => intro _; simp [sums, sumsN]
  | succ k ih => intro h; rw [all_take _ k (by omega), sums_snoc, ih (by omega)]; rfl
theorem sumW_N (l : List Int) : sumW l = 65535 - sumsN l ((l.length + 1) / 2) := by
  unfold sumW
  rw [← sums_take l _ (Nat.le_refl _), List.take_of_length_le (by rw [all_length]; exact Nat.le_refl _)]
theorem sumsN_bounds (l : List Int) (h : IsBytes l) (k : Nat) (hk : k ≤ (l.length + 1) / 2) : 0 ≤ sumsN l k ∧ sumsN l k ≤ 65535 := by
  rw [← sums_take l k hk]; exact sums_bounds l h.in_ _
theorem sumW_bounds (l : List Int) (h : IsBytes l) : 0 ≤ sumW l ∧ sumW l ≤ 65535 := by
  have := sumsN_bounds l h _ (Nat.le_refl _)
  rw [sumW_N]; omega
theorem sumF_is (l : List Int) (h : IsBytes l) (hn : l.length ≤ 1099511627776) : sumF l = some (sumW l) := by
  unfold sumF; rw [if_pos (okB_mk h.in_ hn)]
theorem impl_SumWords_is (l : List Int) (h : IsBytes l) (hn : l.length ≤ 1099511627776) (k : Nat) : impl_SumWords.f k l = some (sumW l) := sumF_is l h hn
theorem spec_SumWords_l0 (x0 : List Int) (hb : IsBytes x0) (hn : x0.length ≤ 1099511627776) : ∀ (d k i : Nat), i + d = (x0.length + 1) / 2 → 4 * d + 1 ≤ k →
    spec_SumWords.l0 k x0 (sumsN x0 i) ((2 * i : Nat) : Int) = some (sumW x0) := by
  intro d
  induction d with
  | zero =>
    intro k i hi hk
    obtain ⟨k, rfl⟩ : ∃ m, k = m + 1 := ⟨k - 1, by omega⟩
    have hs := sumsN_bounds x0 hb i (by omega)
    simp only [spec_SumWords.l0]
    rw [if_neg (by omega), w64 (by omega) (by omega), sumW_N, show i = (x0.length + 1) / 2 by omega]
  | succ d ih =>
    intro k i hi hk
    obtain ⟨k, rfl⟩ : ∃ m, k = m + 1 + 1 + 1 + 1 := ⟨k - 4, by omega⟩
    have hs := sumsN_bounds x0 hb i (by omega)
    have hs1 := sumsN_bounds x0 hb (i + 1) (by omega)
    have b0 := hb.at_ (2 * i)
    have b1 := hb.at_ (2 * i + 1)
    have hnext := fun m (hm : 4 * d + 1 ≤ m) => ih m (i + 1) (by omega) hm
    have he : sumsN x0 (i + 1) = add1 (sumsN x0 i) (word x0 i) := rfl
    have h2 : wrap64 (((2 * i : Nat) : Int) + 1) = ((2 * i + 1 : Nat) : Int) := w64n _ (by omega)
    have h3 : wrap64 (((2 * i : Nat) : Int) + 2) = ((2 * (i + 1) : Nat) : Int) := by rw [w64 (by omega) (by omega)]; omega
    have fin : ∀ v, 0 ≤ v → v ≤ 131070 → sumsN x0 (i + 1) = (if v > 65535 then v - 65535 else v) → spec_SumWords.j1 (k + 1 + 1 + 1) x0 v ((2 * i : Nat) : Int) = some (sumW x0) := by
      intro v v0 v1 hv
      simp only [spec_SumWords.j1, spec_SumWords.l1]
      by_cases c : v > 65535
      · rw [if_pos c] at hv
        rw [if_pos c, w64 (n := v - 65535) (by omega) (by omega), if_neg (by omega), h3, ← hv]
        exact hnext k (by omega)
      · rw [if_neg c] at hv
        rw [if_neg c, h3, ← hv]
        exact hnext (k + 1) (by omega)
    rw [spec_SumWords.l0.eq_2]
    rw [if_pos (by omega), if_pos (by omega), h2, rd_nat, rd_nat]
    rw [w64 (n := x0.getD (2 * i) 0) (by omega) (by omega), w64 (n := 256 * x0.getD (2 * i) 0) (by omega) (by omega), w64 (n := sumsN x0 i + 256 * x0.getD (2 * i) 0) (by omega) (by omega)]
    by_cases c : 2 * i + 1 < x0.length
    · rw [if_pos (by omega), if_pos (by omega), w64 (n := x0.getD (2 * i + 1) 0) (by omega) (by omega), w64 (n := sumsN x0 i + 256 * x0.getD (2 * i) 0 + x0.getD (2 * i + 1) 0) (by omega) (by omega)]
      refine fin _ (by omega) (by omega) ?_
      rw [he]; unfold word add1
      rw [if_pos c, show sumsN x0 i + (x0.getD (2 * i) 0 * 256 + x0.getD (2 * i + 1) 0) = sumsN x0 i + 256 * x0.getD (2 * i) 0 + x0.getD (2 * i + 1) 0 by omega]
    · rw [if_neg (by omega)]
      refine fin _ (by omega) (by omega) ?_
      rw [he]; unfold word add1
      rw [if_neg c, show sumsN x0 i + x0.getD (2 * i) 0 * 256 = sumsN x0 i + 256 * x0.getD (2 * i) 0 by omega]
theorem spec_SumWords_is (l : List Int) (h : IsBytes l) (hn : l.length ≤ 1099511627776) (k : Nat) (hk : 2 * l.length + 3 ≤ k) : spec_SumWords.f k l = some (sumW l) := by
  unfold spec_SumWords.f
  exact spec_SumWords_l0 l h hn ((l.length + 1) / 2) k 0 (by omega) (by omega)
theorem shr8 (n : Int) (s : Nat) (hs : s ≤ 7) : shr .i64 n ((8 * s : Nat) : Int) = n / 2 ^ (8 * s) := by
  unfold shr
  rw [Int.toNat_natCast, Nat.min_eq_left (by simp only [IntKind.bits]; omega)]
/-- The s lowest bytes of a number, the highest first. -/
def be (n : Int) : Nat → List Int
  | 0 => []
  | s + 1 => (n / 2 ^ (8 * s)) % 256 :: be n s
theorem be_length (n : Int) : ∀ s, (be n s).length = s
  | 0 => rfl
  | s + 1 => by simp [be, be_length n s]
theorem be_bytes (n : Int) : ∀ s, ∀ x ∈ be n s, 0 ≤ x ∧ x ≤ 255
  | 0 => fun x hx => by cases hx
  | s + 1 => fun x hx => by
    rcases List.mem_cons.1 hx with rfl | hx
    · omega
    · exact be_bytes n s x hx
theorem eight (s : Nat) (hs : s ≤ 7) : wrap64 (8 * (s : Int)) = ((8 * s : Nat) : Int) := by rw [w64 (by omega) (by omega)]; omega
theorem eightU (s : Nat) (hs : s ≤ 7) : IntKind.u64.wrap (wrap64 (8 * (s : Int))) = ((8 * s : Nat) : Int) := by
  rw [eight s hs, Go.IntKind.wrap_u64]; omega
theorem impl_put_l0 (n : Int) : ∀ (s k : Nat) (out : List Int), s ≤ 7 → s < k → out.length + s ≤ 1000000000 → impl_put.l0 k out n ((s : Int) - 1) = some (out ++ be n s) := by
  intro s
  induction s with
  | zero =>
    intro k out hs hk ho
    obtain ⟨k, rfl⟩ := at_succ hk
    simp only [impl_put.l0]
    rw [if_neg (by omega)]; simp [be]
  | succ s ih =>
    intro k out hs hk ho
    obtain ⟨k, rfl⟩ := at_succ hk
    simp only [impl_put.l0]
    rw [show ((s + 1 : Nat) : Int) - 1 = (s : Int) by omega, if_pos (by omega), eight s (by omega), if_pos (by omega), if_pos (by omega), shr8 n s (by omega), w64 (by omega) (by omega)]
    rw [ih k _ (by omega) (by omega) (by simp; omega)]; simp [be]
theorem impl_put_is (out : List Int) (n : Int) (s : Nat) (hs : s ≤ 7) (k : Nat) (hk : s < k) (ho : out.length + s ≤ 1000000000) : impl_put.f k out n (s : Int) = some (out ++ be n s) := by
  unfold impl_put.f
  rw [w64 (by omega) (by omega)]
  exact impl_put_l0 n s k out hs hk ho
theorem spec_l1Bytes_l0 (n : Int) : ∀ (s k : Nat) (out : List Int), s ≤ 7 → s < k → out.length + s ≤ 1000000000 → spec_l1Bytes.l0 k n out ((s : Int) - 1) = some (out ++ be n s) := by
  intro s
  induction s with
  | zero =>
    intro k out hs hk ho
    obtain ⟨k, rfl⟩ := at_succ hk
    simp only [spec_l1Bytes.l0]
    rw [if_neg (by omega)]; simp [be]
  | succ s ih =>
    intro k out hs hk ho
    obtain ⟨k, rfl⟩ := at_succ hk
    simp only [spec_l1Bytes.l0]
    rw [show ((s + 1 : Nat) : Int) - 1 = (s : Int) by omega, if_pos (by omega), eightU s (by omega), if_pos (by omega), if_pos (by omega), shr8 n s (by omega), w64 (by omega) (by omega)]
    rw [ih k _ (by omega) (by omega) (by simp; omega)]; simp [be]
theorem spec_l1Bytes_is (n : Int) (s : Nat) (hs : s ≤ 7) (k : Nat) (hk : s < k) : spec_l1Bytes.f k n (s : Int) = some (be n s) := by
  unfold spec_l1Bytes.f
  rw [w64 (by omega) (by omega)]
  have := spec_l1Bytes_l0 n s k [] hs hk (by simp; omega)
  simpa using this
theorem numFrom_be (n m : Int) : ∀ s, s ≤ 6 → numFrom m (be n s) = m * 2 ^ (8 * s) + n % 2 ^ (8 * s) := by
  intro s
  induction s generalizing m with
  | zero => intro _; simp [be, numFrom_nil]
  | succ s ih =>
    intro hs
    rw [be, numFrom_cons, ih _ (by omega)]
    have h : s = 0 ∨ s = 1 ∨ s = 2 ∨ s = 3 ∨ s = 4 ∨ s = 5 := by omega
    rcases h with rfl | rfl | rfl | rfl | rfl | rfl <;> simp <;> omega
def frameOf (l : List Int) : List Int := be (l.length : Int) 2 ++ be (sumW l) 2 ++ l
def frameR (l : List Int) : Int × List Int := if (l.length : Int) > 250 then (2, []) else (0, frameOf l)
theorem frameOf_length (l : List Int) : (frameOf l).length = 4 + l.length := by simp [frameOf, be_length]; omega
theorem frameR_length (l : List Int) : (frameR l).2.length ≤ 254 := by
  unfold frameR
  split
  · simp
  · show (frameOf l).length ≤ 254
    rw [frameOf_length]; omega
theorem impl_frame_is (l : List Int) (h : IsBytes l) (hn : l.length ≤ 1048576) (k : Nat) (hk : 3 ≤ k) : impl_frame.f k l = some (frameOf l) := by
  unfold impl_frame.f impl_size_byte.f frameOf
  simp only [bind_s]
  have e2 : ((2 : Nat) : Int) = 2 := rfl
  rw [← e2, impl_put_is [] _ 2 (by omega) k (by omega) (by simp), bind_s, impl_SumWords_is l h (by omega), bind_s, impl_put_is _ _ 2 (by omega) k (by omega) (by simp [be_length]), bind_s]
  rw [if_pos (by simp [be_length]; omega)]; simp
theorem impl_PutFrame_is (l : List Int) (h : IsBytes l) (hn : l.length ≤ 1048576) (k : Nat) (hk : 3 ≤ k) : impl_PutFrame.f k l = some (frameR l) := by
  unfold impl_PutFrame.f frameR
  by_cases c : (l.length : Int) > 250
  · rw [if_pos c, if_pos c]
  · rw [if_neg c, if_neg c, impl_frame_is l h hn k hk]; rfl
theorem spec_l1Frame_is (l : List Int) (h : IsBytes l) (hn : l.length ≤ 1048576) (k : Nat) (hk : 2 * l.length + 3 ≤ k) : spec_l1Frame.f k l = some (frameOf l) := by
  unfold spec_l1Frame.f frameOf
  have e2 : ((2 : Nat) : Int) = 2 := rfl
  rw [← e2, spec_l1Bytes_is _ 2 (by omega) k (by omega), bind_s, spec_SumWords_is l h (by omega) k hk, bind_s, spec_l1Bytes_is _ 2 (by omega) k (by omega), bind_s]
  rw [if_pos (by simp [be_length]), bind_s, if_pos (by simp [be_length]; omega)]
theorem spec_PutFrame_is (l : List Int) (h : IsBytes l) (hn : l.length ≤ 1048576) (k : Nat) (hk : 2 * l.length + 3 ≤ k) : spec_PutFrame.f k l = some (frameR l) := by
  unfold spec_PutFrame.f frameR
  by_cases c : (l.length : Int) > 250
  · rw [if_pos c, if_pos c]
  · rw [if_neg c, if_neg c, spec_l1Frame_is l h hn k hk]; rfl
theorem Next_is (code : List Int) (hb : IsBytes code) (hn : code.length ≤ 2097152) (at_ n : Int) (h0 : 0 ≤ at_) (h1 : at_ ≤ 1073741824) (hn1 : n ≤ 4611686018427387904) :
    ∃ v, spec_l1Next.f code at_ n = some (v, at_ + 1) ∧ 0 ≤ v ∧ (1 ≤ n → v < n) ∧ (n < 1 → v = 0) := by
  unfold spec_l1Next.f
  have e1 : wrap64 (at_ + 1) = at_ + 1 := w64 (by omega) (by omega)
  have e2 : wrap64 (at_ + 1 - 1) = at_ := by rw [w64 (by omega) (by omega)]; omega
  rw [e1, e2]
  by_cases c : n < 1
  · rw [if_pos c]; exact ⟨0, rfl, by omega, by omega, fun _ => rfl⟩
  · rw [if_neg c]
    by_cases c2 : (code.length : Int) = 0
    · have e3 : wrap64 (at_ * 7) = at_ * 7 := w64 (by omega) (by omega)
      rw [if_pos c2, if_neg (by omega), e3]
      exact ⟨_, rfl, Int.tmod_nonneg n (by omega), fun _ => Int.tmod_lt_of_pos _ (by omega), fun h => absurd h c⟩
    · have hk : 0 < (code.length : Int) := by omega
      have t0 : 0 ≤ Int.tmod at_ code.length := Int.tmod_nonneg _ h0
      have t1 : Int.tmod at_ code.length < code.length := Int.tmod_lt_of_pos _ hk
      have b1 := hb.at_ (Int.tmod at_ code.length).toNat
      have hd : Int.tdiv at_ code.length = at_ / code.length := Int.tdiv_eq_ediv_of_nonneg h0
      have d0 : 0 ≤ at_ / code.length := Int.ediv_nonneg h0 (by omega)
      have d1 : at_ / code.length ≤ at_ := Int.ediv_le_self _ h0
      have r1 : rd code (Int.tmod at_ code.length) = code.getD (Int.tmod at_ code.length).toNat 0 := rfl
      rw [if_neg c2, if_pos t0, if_pos t1, hd, r1, w64 (n := at_ / code.length) (by omega) (by omega), w64 (n := at_ / code.length * 37) (by omega) (by omega)]
      rw [w64 (n := code.getD (Int.tmod at_ code.length).toNat 0) (by omega) (by omega), w64 (n := code.getD (Int.tmod at_ code.length).toNat 0 + at_ / code.length * 37) (by omega) (by omega)]
      by_cases c3 : n > 200
      · have s0 : 0 ≤ Int.tmod (wrap64 (at_ + 1)) code.length := by rw [e1]; exact Int.tmod_nonneg _ (by omega)
        have s1 : Int.tmod (wrap64 (at_ + 1)) code.length < code.length := Int.tmod_lt_of_pos _ hk
        have b2 := hb.at_ (Int.tmod (wrap64 (at_ + 1)) code.length).toNat
        have r2 : rd code (Int.tmod (wrap64 (at_ + 1)) code.length) = code.getD (Int.tmod (wrap64 (at_ + 1)) code.length).toNat 0 := rfl
        rw [e1] at s0 s1 b2 r2
        rw [if_pos c3, e1, if_pos s0, if_pos s1, if_neg (by omega), r2]
        generalize code.getD (Int.tmod at_ code.length).toNat 0 = x at *
        generalize code.getD (Int.tmod (at_ + 1) code.length).toNat 0 = y at *
        generalize at_ / code.length = q at *
        rw [w64 (n := y) (by omega) (by omega), w64 (n := y * 13) (by omega) (by omega), w64 (n := (x + q * 37) * 251) (by omega) (by omega), w64 (n := (x + q * 37) * 251 + y * 13) (by omega) (by omega), w64 (n := (x + q * 37) * 251 + y * 13 + at_) (by omega) (by omega)]
        exact ⟨_, rfl, Int.tmod_nonneg n (by omega), fun _ => Int.tmod_lt_of_pos _ (by omega), fun h => absurd h c⟩
      · rw [if_neg c3, if_neg (by omega)]
        exact ⟨_, rfl, Int.tmod_nonneg n (by omega), fun _ => Int.tmod_lt_of_pos _ (by omega), fun h => absurd h c⟩
theorem Pick_is (code : List Int) (hb : IsBytes code) (hn : code.length ≤ 2097152) (at_ : Int) (h0 : 0 ≤ at_) (h1 : at_ ≤ 1073741824) (l : List Int) (hl : 0 < l.length) (hl2 : l.length ≤ 1000) :
    ∃ v, spec_l1Pick.f code at_ l = some (v, at_ + 1) ∧ v ∈ l := by
  obtain ⟨v, hv, v0, v1, _⟩ := Next_is code hb hn at_ l.length h0 h1 (by omega)
  have v2 := v1 (by omega)
  unfold spec_l1Pick.f
  rw [hv, Option.bind_some, if_pos v0, if_pos v2]
  refine ⟨_, rfl, ?_⟩
  unfold rd
  have hlt : v.toNat < l.length := by omega
  have : l.getD v.toNat 0 = l[v.toNat] := by simp [List.getD, hlt]
  rw [this]; exact List.getElem_mem hlt
theorem l1Some_l0 (code : List Int) (hb : IsBytes code) (hn : code.length ≤ 2097152) : ∀ (d k : Nat) (out : List Int) (at_ : Nat), at_ + 3 * d ≤ 1073741824 → d < k → out.length + d ≤ 1000000000 →
    ∃ ys, spec_l1Some.l0 k (d : Int) out code (at_ : Int) = some (out ++ ys, ((at_ + 3 * d : Nat) : Int)) ∧ IsBytes ys ∧ ys.length = d := by
  intro d
  induction d with
  | zero =>
    intro k out at_ ha hk ho
    obtain ⟨k, rfl⟩ := at_succ hk
    simp only [spec_l1Some.l0]
    rw [if_neg (by omega)]
    exact ⟨[], by simp, (fun x hx => by cases hx), rfl⟩
  | succ d ih =>
    intro k out at_ ha hk ho
    obtain ⟨k, rfl⟩ := at_succ hk
    simp only [spec_l1Some.l0]
    obtain ⟨v1, e1, a1, b1, _⟩ := Next_is code hb hn at_ 256 (by omega) (by omega) (by omega)
    obtain ⟨v2, e2, a2, b2, _⟩ := Next_is code hb hn ((at_ : Int) + 1) 256 (by omega) (by omega) (by omega)
    obtain ⟨v3, e3, h3⟩ := Pick_is code hb hn ((at_ : Int) + 1 + 1) (by omega) (by omega) [v1, v2, 0, 255] (by simp) (by simp)
    rw [if_pos (by omega), e1, bind_s, e2, bind_s, e3, bind_s, if_pos (by omega)]
    have hw : wrap64 (((d + 1 : Nat) : Int) - 1) = (d : Int) := by rw [w64 (by omega) (by omega)]; omega
    have hat : (at_ : Int) + 1 + 1 + 1 = ((at_ + 3 : Nat) : Int) := by omega
    rw [hw, hat]
    obtain ⟨ys, h4, h5, h6⟩ := ih k (out ++ [v3 % 256]) (at_ + 3) (by omega) (by omega) (by simp; omega)
    refine ⟨v3 % 256 :: ys, ?_, fun x hx => ?_, by simp [h6]⟩
    · rw [h4]; simp; omega
    · rcases List.mem_cons.1 hx with rfl | hx
      · omega
      · exact h5 x hx
theorem l1Some_is (code : List Int) (hb : IsBytes code) (hn : code.length ≤ 2097152) (n : Int) (k : Nat) (at_ : Nat) (h0 : 0 ≤ n) (h1 : n ≤ 100000) (ha : at_ ≤ 1000000) (hk : n.toNat < k) :
    ∃ ys, spec_l1Some.f k code (at_ : Int) n = some (ys, ((at_ + 3 * n.toNat : Nat) : Int)) ∧ IsBytes ys ∧ ys.length = n.toNat := by
  unfold spec_l1Some.f
  obtain ⟨d, rfl⟩ : ∃ d : Nat, n = d := ⟨n.toNat, by omega⟩
  rw [Int.toNat_natCast] at *
  have := l1Some_l0 code hb hn d k [] at_ (by omega) hk (by simp; omega)
  simpa using this
theorem tfIsBytes {l : List Int} (h : ∀ x ∈ l, (Lit.int .u8 x).wf = true) : Tf.IsBytes l := Tf.IsBytes.of h
theorem ok_facts {l : List Int} (h : Tf.ok l = true) : 4 ≤ l.length ∧ Tf.nx l ≤ 250 ∧ 4 + Tf.nx l ≤ (l.length : Int) := by
  unfold Tf.ok at h
  simp only [Bool.and_eq_true, decide_eq_true_eq] at h
  exact ⟨h.1, h.2.1, h.2.2.1⟩
theorem impl_step {x0 : List Int} (hx : Tf.IsBytes x0) (hn : x0.length ≤ 600) (k : Nat) (c : Int) (u : Nat) (hu : u ≤ x0.length) (fr : List (List Int)) (hf : fr.length ≤ 1000000) :
    impl_TakeFrames.l0 (k + 1) x0 c (u : Int) fr = if Tf.ok (x0.drop u) = true then impl_TakeFrames.l0 k x0 c ((u : Int) + 4 + Tf.nx (x0.drop u)) (fr ++ [Tf.body (x0.drop u)]) else some (c, (u : Int), fr) := by
  simp only [impl_TakeFrames.l0, Int.toNat_natCast]
  rw [if_pos (by omega), if_pos (by omega)]
  obtain ⟨l, hl⟩ : ∃ l, l = x0.drop u := ⟨_, rfl⟩
  have hb : Tf.IsBytes l := by rw [hl]; exact hx.drop_ _
  have hln : l.length ≤ 600 := by rw [hl, List.length_drop]; omega
  rw [← hl]
  have e1 : impl_nextFrame.f l = some (if Tf.ok l = true then Tf.nx l else -1) := by
    unfold impl_nextFrame.f
    rw [if_pos ⟨hb, hln⟩]
  rw [e1, bind_s]
  cases ho : Tf.ok l with
  | false => simp only [Bool.false_eq_true, if_false]; rw [if_neg (by decide)]
  | true =>
    obtain ⟨h4, h5, h6⟩ := ok_facts ho
    have hnb := Tf.nx_bounds hb h4
    have hbl := Tf.body_length hnb.1 h6
    simp only [if_true]
    rw [if_pos (by omega), w64 (n := 4 + Tf.nx l) (by omega) (by omega), if_pos (by omega), if_pos (by omega)]
    have hB : (List.drop 4 (List.take (4 + Tf.nx l).toNat l)) = Tf.body l := rfl
    rw [hB]
    have e2 : slices_Clone_byte_byte.f (Tf.body l) = some (Tf.body l) := by
      unfold slices_Clone_byte_byte.f
      rw [bind_s, if_pos (by simp only [List.length_nil]; omega), List.nil_append]
    have e3 : impl_size_byte.f (Tf.body l) = some (((Tf.body l).length : Nat) : Int) := rfl
    rw [e2, bind_s, if_pos (by omega), e3, bind_s, hbl, w64 (n := 4 + Tf.nx l) (by omega) (by omega), w64 (n := (u : Int) + (4 + Tf.nx l)) (by omega) (by omega), show (u : Int) + (4 + Tf.nx l) = (u : Int) + 4 + Tf.nx l by omega]
def flatF : List (List Int) → List Int
  | [] => []
  | d :: ds => frameOf d ++ flatF ds
theorem flatF_snoc : ∀ (ds : List (List Int)) (d : List Int), flatF (ds ++ [d]) = flatF ds ++ frameOf d
  | [], d => by simp [flatF]
  | x :: ds, d => by simp only [List.cons_append, flatF, flatF_snoc ds d, List.append_assoc]
def Good (d : List Int) : Prop := IsBytes d ∧ d.length ≤ 250
theorem frameOf_bytes {d : List Int} (h : IsBytes d) : IsBytes (frameOf d) := ((IsBytes.append (be_bytes _ 2) (be_bytes _ 2)).append h)
theorem flatF_bytes : ∀ (ds : List (List Int)), (∀ d ∈ ds, Good d) → IsBytes (flatF ds)
  | [], _ => fun x hx => by cases hx
  | d :: ds, h => (frameOf_bytes (h d (List.mem_cons_self ..)).1).append (flatF_bytes ds (fun y hy => h y (List.mem_cons_of_mem _ hy)))
theorem flatF_length : ∀ (ds : List (List Int)), (∀ d ∈ ds, Good d) → (flatF ds).length ≤ 254 * ds.length
  | [], _ => by simp [flatF]
  | d :: ds, h => by
    have h1 := flatF_length ds (fun y hy => h y (List.mem_cons_of_mem _ hy))
    have h2 := (h d (List.mem_cons_self ..)).2
    simp only [flatF, List.length_append, List.length_cons, frameOf_length]
    omega
theorem nx_frame (d t : List Int) (h : d.length ≤ 250) : Tf.nx (frameOf d ++ t) = (d.length : Int) := by
  have e : Tf.nx (frameOf d ++ t) = numFrom 0 (be (d.length : Int) 2) := rfl
  rw [e, numFrom_be _ _ 2 (by omega)]
  simp
  omega
theorem take_frame (d t : List Int) : (frameOf d ++ t).take (4 + d.length) = frameOf d := by
  rw [List.take_append_of_le_length (by rw [frameOf_length]; exact Nat.le_refl _), List.take_of_length_le (by rw [frameOf_length]; exact Nat.le_refl _)]
theorem body_frame (d t : List Int) (h : d.length ≤ 250) : Tf.body (frameOf d ++ t) = d := by
  unfold Tf.body
  rw [nx_frame d t h, show (4 + (d.length : Int)).toNat = 4 + d.length by omega, take_frame]
  rfl
theorem ok_frame (d t : List Int) (hd : Good d) : Tf.ok (frameOf d ++ t) = true := by
  have hs := sumW_bounds d hd.1
  have h2 := hd.2
  have e : ((frameOf d ++ t).take 4).drop 2 = be (sumW d) 2 := rfl
  have e2 : Tf.num (be (sumW d) 2) = sumW d := by
    have e3 : Tf.num (be (sumW d) 2) = numFrom 0 (be (sumW d) 2) := rfl
    rw [e3, numFrom_be _ _ 2 (by omega)]
    simp
    omega
  unfold Tf.ok
  rw [body_frame d t hd.2, nx_frame d t hd.2, e, e2]
  have hl : (frameOf d ++ t).length = 4 + d.length + t.length := by rw [List.length_append, frameOf_length]
  rw [decide_eq_true (p := 4 ≤ (frameOf d ++ t).length) (by omega), decide_eq_true (p := (d.length : Int) ≤ 250) (by omega), decide_eq_true (p := 4 + (d.length : Int) ≤ ((frameOf d ++ t).length : Int)) (by omega), decide_eq_true rfl]
  rfl
theorem ok_part (d t : List Int) (hd : Good d) (m : Nat) (hm : m < 4 + d.length) : Tf.ok ((frameOf d ++ t).take m) = false := by
  have h2 := hd.2
  have hl : ((frameOf d ++ t).take m).length = m := by
    rw [List.length_take, List.length_append, frameOf_length]; omega
  unfold Tf.ok
  by_cases h4 : m < 4
  · rw [decide_eq_false (p := 4 ≤ ((frameOf d ++ t).take m).length) (by omega)]; rfl
  · have e : Tf.nx ((frameOf d ++ t).take m) = (d.length : Int) := by
      rw [← nx_frame d t hd.2]
      unfold Tf.nx
      rw [List.take_take, Nat.min_eq_left (by omega)]
    rw [e, decide_eq_false (p := 4 + (d.length : Int) ≤ (((frameOf d ++ t).take m).length : Int)) (by omega)]
    simp
theorem take_run {x0 : List Int} (hx : Tf.IsBytes x0) (hn : x0.length ≤ 600) : ∀ (ds : List (List Int)) (u m : Nat) (fr : List (List Int)), (∀ d ∈ ds, Good d) → x0.drop u = (flatF ds).take m → u ≤ x0.length → fr.length + ds.length ≤ 1000 →
    ∃ (j r2 : Nat), j ≤ ds.length ∧ (∀ k, ds.length < k → impl_TakeFrames.l0 k x0 0 (u : Int) fr = some (0, (r2 : Int), fr ++ ds.take j)) ∧ r2 ≤ x0.length ∧ ((flatF ds).length ≤ m → j = ds.length ∧ r2 = x0.length) := by
  intro ds
  induction ds with
  | nil =>
    intro u m fr _ hd hu hf
    have hd0 : x0.drop u = [] := by rw [hd]; simp [flatF]
    have hl : (x0.drop u).length = 0 := by rw [hd0]; rfl
    rw [List.length_drop] at hl
    refine ⟨0, u, Nat.le_refl _, fun k hk => ?_, hu, fun _ => ⟨rfl, by omega⟩⟩
    obtain ⟨k, rfl⟩ := at_succ hk
    rw [impl_step hx hn k 0 u hu fr (by omega), hd0, show Tf.ok [] = false from rfl, if_neg (by decide)]
    simp
  | cons d ds ih =>
    intro u m fr hg hd hu hf
    have gd := hg d (List.mem_cons_self ..)
    have g2 := gd.2
    simp only [List.length_cons] at hf
    have hfl : flatF (d :: ds) = frameOf d ++ flatF ds := rfl
    rw [hfl] at hd ⊢
    by_cases hm : m < 4 + d.length
    · refine ⟨0, u, Nat.zero_le _, fun k hk => ?_, hu, fun h => ?_⟩
      · obtain ⟨k, rfl⟩ := at_succ hk
        rw [impl_step hx hn k 0 u hu fr (by omega), hd, ok_part d _ gd m hm, if_neg (by decide)]
        simp
      · rw [List.length_append, frameOf_length] at h
        omega
    · have hd2 : x0.drop u = frameOf d ++ (flatF ds).take (m - (4 + d.length)) := by
        rw [hd, List.take_append, List.take_of_length_le (by rw [frameOf_length]; omega), frameOf_length]
      have hlen := congrArg List.length hd2
      rw [List.length_drop, List.length_append, frameOf_length] at hlen
      have hd3 : x0.drop (u + (4 + d.length)) = (flatF ds).take (m - (4 + d.length)) := by
        rw [← List.drop_drop, hd2, List.drop_append_of_le_length (by rw [frameOf_length]; exact Nat.le_refl _), List.drop_of_length_le (by rw [frameOf_length]; exact Nat.le_refl _), List.nil_append]
      obtain ⟨j, r2, hj, hr, hr2, hall⟩ := ih (u + (4 + d.length)) (m - (4 + d.length)) (fr ++ [d]) (fun y hy => hg y (List.mem_cons_of_mem _ hy)) hd3 (by omega) (by simp only [List.length_append, List.length_cons, List.length_nil]; omega)
      refine ⟨j + 1, r2, by simp only [List.length_cons]; omega, fun k hk => ?_, hr2, fun h => ?_⟩
      · simp only [List.length_cons] at hk
        obtain ⟨k, rfl⟩ : ∃ q, k = q + 1 := ⟨k - 1, by omega⟩
        rw [impl_step hx hn k 0 u hu fr (by omega), hd2, ok_frame d _ gd, if_pos rfl, nx_frame d _ gd.2, body_frame d _ gd.2]
        have e := hr k (by omega)
        rw [show (u : Int) + 4 + (d.length : Int) = ((u + (4 + d.length) : Nat) : Int) by omega, e]
        simp
      · rw [List.length_append, frameOf_length] at h
        have := hall (by omega)
        simp only [List.length_cons]
        omega
theorem TakeFrames_flat (ds : List (List Int)) (hg : ∀ d ∈ ds, Good d) (h2 : ds.length ≤ 2) (k : Nat) (hk : 10 ≤ k) : impl_TakeFrames.f k (flatF ds) = some (0, ((flatF ds).length : Int), ds) := by
  have hl := flatF_length ds hg
  have hb := flatF_bytes ds hg
  obtain ⟨j, r2, hj, hr, hr2, hall⟩ := take_run (x0 := flatF ds) hb (by omega) ds 0 (flatF ds).length [] hg (by simp) (by omega) (by simp; omega)
  obtain ⟨rfl, rfl⟩ := hall (Nat.le_refl _)
  unfold impl_TakeFrames.f
  rw [if_neg (by omega)]
  have e := hr k (by omega)
  simp only [List.take_length, List.nil_append] at e
  exact e
theorem TakeFrames_cut (ds : List (List Int)) (hg : ∀ d ∈ ds, Good d) (h2 : ds.length ≤ 2) (c : Nat) (hc : c ≤ (flatF ds).length) (k : Nat) (hk : 10 ≤ k) : ∃ (j r2 : Nat), impl_TakeFrames.f k ((flatF ds).take c) = some (0, (r2 : Int), ds.take j) ∧ r2 ≤ c ∧ j ≤ ds.length := by
  have hl := flatF_length ds hg
  have hb := flatF_bytes ds hg
  have hlen : ((flatF ds).take c).length = c := by rw [List.length_take]; omega
  obtain ⟨j, r2, hj, hr, hr2, _⟩ := take_run (x0 := (flatF ds).take c) (hb.take_ c) (by omega) ds 0 c [] hg (by simp) (by omega) (by simp; omega)
  refine ⟨j, r2, ?_, by omega, hj⟩
  unfold impl_TakeFrames.f
  rw [if_neg (by omega)]
  have e := hr k (by omega)
  simp only [List.nil_append] at e
  exact e
theorem DrawPutFrame_is (code : List Int) (hb : IsBytes code) (hn : code.length ≤ 2097152) (k : Nat) (hk : 300 ≤ k) : ∃ d, spec_DrawPutFrame.f k code = some d ∧ IsBytes d ∧ d.length ≤ 251 := by
  unfold spec_DrawPutFrame.f spec_l1Source.f
  rw [bind_s]
  obtain ⟨v1, e1, a1, b1, _⟩ := Next_is code hb hn 0 9 (by omega) (by omega) (by omega)
  obtain ⟨v2, e2, a2, b2, _⟩ := Next_is code hb hn (0 + 1) 40 (by omega) (by omega) (by omega)
  obtain ⟨v3, e3, h3⟩ := Pick_is code hb hn (0 + 1 + 1) (by omega) (by omega) [v1, v2, 0, 250, 251] (by simp) (by simp)
  have hv : 0 ≤ v3 ∧ v3 ≤ 251 := by
    have := b1 (by omega)
    have := b2 (by omega)
    simp only [List.mem_cons, List.not_mem_nil, or_false] at h3
    omega
  obtain ⟨ys, e4, h5, h6⟩ := l1Some_is code hb hn v3 k 3 hv.1 (by omega) (by omega) (by omega)
  simp only []
  rw [e1, bind_s]
  simp only []
  rw [e2, bind_s]
  simp only []
  rw [e3, bind_s]
  simp only []
  rw [show (0 + 1 + 1 + 1 : Int) = ((3 : Nat) : Int) by omega, e4, bind_s]
  exact ⟨ys, rfl, h5, by omega⟩
theorem lwAt_is (l : List Int) (hb : IsBytes l) (hn : l.length ≤ 1048576) (n : Int) (h0 : 1 ≤ n) (h1 : n ≤ 1000) : ∃ v, laws_lwAt.f l 1 n = some v ∧ 0 ≤ v ∧ v < n := by
  unfold laws_lwAt.f
  by_cases c : n ≤ 1
  · rw [if_pos c]; exact ⟨0, rfl, by omega, by omega⟩
  · rw [if_neg c]
    by_cases c2 : (l.length : Int) = 0
    · rw [if_pos c2, if_neg (by omega), w64 (n := 1 * 7) (by omega) (by omega)]
      exact ⟨_, rfl, Int.tmod_nonneg n (by omega), Int.tmod_lt_of_pos _ (by omega)⟩
    · have hk : 0 < (l.length : Int) := by omega
      have t0 : 0 ≤ Int.tmod 1 (l.length : Int) := Int.tmod_nonneg _ (by omega)
      have t1 : Int.tmod 1 (l.length : Int) < l.length := Int.tmod_lt_of_pos _ hk
      have b1 := hb.at_ (Int.tmod 1 (l.length : Int)).toNat
      have hd : Int.tdiv 1 (l.length : Int) = 1 / (l.length : Int) := Int.tdiv_eq_ediv_of_nonneg (by omega)
      have d0 : 0 ≤ 1 / (l.length : Int) := Int.ediv_nonneg (by omega) (by omega)
      have d1 : 1 / (l.length : Int) ≤ 1 := Int.ediv_le_self _ (by omega)
      have r1 : rd l (Int.tmod 1 (l.length : Int)) = l.getD (Int.tmod 1 (l.length : Int)).toNat 0 := rfl
      have e1 : wrap64 (1 + 1) = 2 := w64 (by omega) (by omega)
      rw [if_neg c2, if_pos t0, if_pos t1, hd, r1, e1]
      have s0 : 0 ≤ Int.tmod 2 (l.length : Int) := Int.tmod_nonneg _ (by omega)
      have s1 : Int.tmod 2 (l.length : Int) < l.length := Int.tmod_lt_of_pos _ hk
      have b2 := hb.at_ (Int.tmod 2 (l.length : Int)).toNat
      have r2 : rd l (Int.tmod 2 (l.length : Int)) = l.getD (Int.tmod 2 (l.length : Int)).toNat 0 := rfl
      generalize l.getD (Int.tmod 1 (l.length : Int)).toNat 0 = x at *
      generalize 1 / (l.length : Int) = q at *
      by_cases c3 : n > 200
      · rw [if_pos c3, if_pos s0, if_pos s1, if_neg (by omega), r2]
        generalize l.getD (Int.tmod 2 (l.length : Int)).toNat 0 = y at *
        simp only [w64 (n := q) (by omega) (by omega), w64 (n := x) (by omega) (by omega), w64 (n := y) (by omega) (by omega), w64 (n := q * 3) (by omega) (by omega), w64 (n := x + q * 3) (by omega) (by omega), w64 (n := (x + q * 3) * 251) (by omega) (by omega), w64 (n := (x + q * 3) * 251 + y) (by omega) (by omega)]
        exact ⟨_, rfl, Int.tmod_nonneg n (by omega), Int.tmod_lt_of_pos _ (by omega)⟩
      · rw [if_neg c3, if_neg (by omega)]
        simp only [w64 (n := q) (by omega) (by omega), w64 (n := x) (by omega) (by omega), w64 (n := q * 3) (by omega) (by omega), w64 (n := x + q * 3) (by omega) (by omega)]
        exact ⟨_, rfl, Int.tmod_nonneg n (by omega), Int.tmod_lt_of_pos _ (by omega)⟩
theorem FnFrames_end (l : List Int) (hb : IsBytes l) (hn : l.length ≤ 1048576) (ds : List (List Int)) (hg : ∀ d ∈ ds, Good d) (h2 : ds.length ≤ 2) (k : Nat) (hk : 300 ≤ k) : laws_FnFrames.l0 (k + 1) l (flatF ds) ds 2 = some true := by
  have hl := flatF_length ds hg
  rw [laws_FnFrames.l0.eq_2, if_neg (by omega), w64 (n := ((flatF ds).length : Int) + 1) (by omega) (by omega)]
  obtain ⟨v, e1, v0, v1⟩ := lwAt_is l hb hn (((flatF ds).length : Int) + 1) (by omega) (by omega)
  rw [e1, bind_s, TakeFrames_flat ds hg h2 k (by omega), bind_s, if_pos v0, if_pos (by omega)]
  obtain ⟨j, r2, e2, h3, h4⟩ := TakeFrames_cut ds hg h2 v.toNat (by omega) k (by omega)
  rw [e2, bind_s]
  have hj : (ds.take j).length = j := by rw [List.length_take]; omega
  simp only [if_true]
  rw [if_neg (by omega), if_neg (by omega), if_pos ⟨h2, trivial, by rw [hj]⟩]
theorem FnFrames_round (l : List Int) (hb : IsBytes l) (hn : l.length ≤ 1048576) (ds : List (List Int)) (hg : ∀ d ∈ ds, Good d) (x : Int) (hx0 : 0 ≤ x) (hx : x < 2) (h2 : (ds.length : Int) ≤ x) (k : Nat) (hk : 5000 ≤ k) (r : Option Bool)
    (h : ∀ ds' : List (List Int), (∀ d ∈ ds', Good d) → (ds'.length : Int) ≤ x + 1 → laws_FnFrames.l0 k l (flatF ds') ds' (x + 1) = r) : laws_FnFrames.l0 (k + 1) l (flatF ds) ds x = r := by
  have hl := flatF_length ds hg
  have hbx : IsBytes ([x] ++ l) := IsBytes.append (fun y hy => by simp at hy; omega) hb
  obtain ⟨d, e1, h5, h6⟩ := DrawPutFrame_is ([x] ++ l) hbx (by simp; omega) k (by omega)
  rw [laws_FnFrames.l0.eq_2, if_pos hx, bind_s, if_pos (by simp; omega), e1, bind_s, impl_PutFrame_is d h5 (by omega) k (by omega), bind_s, show (x + 1) % 256 = x + 1 by omega]
  unfold frameR
  by_cases c : (d.length : Int) > 250
  · rw [if_pos c, if_neg (by decide), spec_PutFrame_is d h5 (by omega) k (by omega)]
    unfold frameR
    rw [if_pos c, bind_s, if_pos rfl]
    exact h ds hg (by omega)
  · rw [if_neg c]
    simp only [if_true]
    have hfl := frameOf_length d
    rw [if_pos (by omega), if_pos (by omega), ← flatF_snoc]
    exact h (ds ++ [d]) (fun y hy => (List.mem_append.1 hy).elim (hg y) (fun e => by rw [List.mem_singleton] at e; rw [e]; exact ⟨h5, by omega⟩)) (by simp only [List.length_append, List.length_cons, List.length_nil]; omega)
theorem FnFrames : laws_FnFrames.Pure := by
  intro l _ _ hb
  have hb := IsBytes.of hb
  obtain ⟨K, hK⟩ : ∃ K : Nat, 6000 ≤ K := ⟨_, Nat.le_refl _⟩
  refine ⟨K + 1 + 1 + 1, ?_⟩
  unfold laws_FnFrames.f laws_lwBig.f
  rw [bind_s]
  by_cases h : (l.length : Int) > 1048576
  · rw [decide_eq_true h, if_pos rfl]
  · rw [decide_eq_false h, if_neg (by decide)]
    refine FnFrames_round l hb (by omega) [] (fun d hd => by cases hd) 0 (by omega) (by omega) (by simp) (K + 1 + 1) (by omega) _ (fun ds1 hg1 h1 => ?_)
    refine FnFrames_round l hb (by omega) ds1 hg1 1 (by omega) (by omega) (by omega) (K + 1) (by omega) _ (fun ds2 hg2 h2 => ?_)
    exact FnFrames_end l hb (by omega) ds2 hg2 (by omega) K (by omega)
end Go.Proofs.Ytlhfoclccpngfaa.Pure
