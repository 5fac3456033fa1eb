/- WHAT THIS TEXT PROVES: the pure statement of the law FnExactPutNumber, over plain functions on numbers and lists. No condition beyond the statement's own. -/
import Derived.Test.YtaellhlkjjooiaaPFnExactPutNumberx2
import Derived.Laws.BitsLemmas
import Derived.IntWalk
namespace Go.Proofs.Ytaellhlkjjooiaa.Pure
open Go.RowKit Go.Proofs.Ytaellhlkjjooiaa.PFnExactPutNumber Go.Proofs.YtaellhlkjjooiaaW.PrintWords Go.Proofs.YtaellhlkjjooiaaW.PrintLast Go.Proofs.YtaellhlkjjooiaaW.PrintMore
set_option linter.unusedVariables false
set_option linter.unusedSimpArgs false
theorem w64 {n : Int} (h0 : -9223372036854775808 ≤ n) (h1 : n ≤ 9223372036854775807) : wrap64 n = n := by unfold wrap64; omega
theorem w64n (i : Nat) (h : i < 9223372036854775807) : wrap64 ((i : Int) + 1) = ((i + 1 : Nat) : Int) := by
  rw [w64 (by omega) (by omega)]; omega
theorem rd_nat (xs : List Int) (i : Nat) : rd xs (i : Int) = xs.getD i 0 := by simp [rd]
theorem at_succ {k d : Nat} (h : d < k) : ∃ m, k = m + 1 := ⟨k - 1, by omega⟩
theorem drop_cons (xs : List Int) (i : Nat) (h : i < xs.length) : xs.drop i = xs.getD i 0 :: xs.drop (i + 1) := by
  rw [List.drop_eq_getElem_cons h]; simp [List.getD, h]
theorem set_take (x0 x3 : List Int) (i : Nat) (hl : x3.length = x0.length) (hi : i < x0.length) (ht : x3.take i = x0.take i) :
    (x3.set i (x0.getD i 0)).take (i + 1) = x0.take (i + 1) := by
  apply List.ext_getElem?
  intro j
  by_cases hj : j < i
  · have h1 := congrArg (fun l : List Int => l[j]?) ht
    simp only [List.getElem?_take, hj, if_true] at h1
    simp only [List.getElem?_take, show j < i + 1 by omega, if_true]
    rw [List.getElem?_set_ne (by omega)]; exact h1
  · by_cases e : j = i
    · subst e
      simp only [List.getElem?_take, show j < j + 1 by omega, if_true]
      rw [List.getElem?_set_self (by omega)]
      simp [List.getD, hi]
    · simp only [List.getElem?_take, show ¬ j < i + 1 by omega, if_false]
theorem eqByteS_l0 (x0 : List Int) (hn : x0.length ≤ 1048576) : ∀ (d k i : Nat), i + d = x0.length → d < k → laws_eqByteS.l0 k x0 x0 (i : Int) = some true := by
  intro d
  induction d with
  | zero =>
    intro k i hi hk
    obtain ⟨k, rfl⟩ := at_succ hk
    simp only [laws_eqByteS.l0]
    rw [if_neg (by omega)]
  | succ d ih =>
    intro k i hi hk
    obtain ⟨k, rfl⟩ := at_succ hk
    simp only [laws_eqByteS.l0]
    rw [if_pos (by omega), if_pos (by omega), if_pos (by omega), w64n i (by omega)]
    simp only [if_true]
    exact ih k (i + 1) (by omega) (by omega)
theorem eqByteS_self (l : List Int) (hn : l.length ≤ 1048576) (k : Nat) (hk : l.length < k) : laws_eqByteS.f k l l = some true := by
  unfold laws_eqByteS.f
  rw [if_pos rfl]
  exact eqByteS_l0 l hn l.length k 0 (by omega) hk
theorem set_snocByteS (x : List Int) (i : Nat) (v : Int) (h : i < x.length) : (x.set i v).take (i + 1) = x.take i ++ [v] := by
  apply List.ext_getElem?
  intro j
  by_cases hj : j < i
  · rw [List.getElem?_append_left (by rw [List.length_take]; omega)]
    simp only [List.getElem?_take, hj, show j < i + 1 by omega, if_true]
    rw [List.getElem?_set_ne (by omega)]
  · by_cases e : j = i
    · subst e
      rw [List.getElem?_append_right (by rw [List.length_take]; omega)]
      simp only [List.getElem?_take, show j < j + 1 by omega, if_true, List.length_take]
      rw [List.getElem?_set_self h, show j - min j x.length = 0 by omega]; rfl
    · simp only [List.getElem?_take, show ¬ j < i + 1 by omega, if_false]
      rw [List.getElem?_eq_none (by rw [List.length_append, List.length_take, List.length_singleton]; omega)]
def markedByteS (a n : Nat) : List Int := (List.range n).map fun (j : Nat) => ((a + j : Nat) : Int) % 256
theorem markedByteS_succ (a n : Nat) : markedByteS a (n + 1) = markedByteS a n ++ [(fun (j : Nat) => ((a + j : Nat) : Int) % 256) n] := by simp [markedByteS, List.range_succ]
theorem markedByteS_length (a n : Nat) : (markedByteS a n).length = n := by simp [markedByteS]
theorem markedByteS_at (a n i : Nat) (h : i < n) : (markedByteS a n).getD i 0 = (fun (j : Nat) => ((a + j : Nat) : Int) % 256) i := by simp [markedByteS, List.getD, h]
theorem markByteS_l0 (n a : Nat) (hn : n ≤ 4194304) (ha : a ≤ 2000000000) : ∀ (d k i : Nat) (x : List Int), x.length = n → i + d = n → d < k → x.take i = markedByteS a i → laws_markByteS.l0 k x ((a + i : Nat) : Int) (i : Int) = some (((a + n : Nat) : Int), markedByteS a n) := by
  intro d
  induction d with
  | zero =>
    intro k i x hl hi hk ht
    obtain ⟨k, rfl⟩ := at_succ hk
    simp only [laws_markByteS.l0]
    rw [if_neg (by omega)]
    obtain rfl : i = n := by omega
    rw [List.take_of_length_le (by omega)] at ht
    rw [ht]
  | succ d ih =>
    intro k i x hl hi hk ht
    obtain ⟨k, rfl⟩ := at_succ hk
    simp only [laws_markByteS.l0]
    rw [if_pos (by omega), if_pos (by omega), w64n i (by omega), w64n (a + i) (by omega), Int.toNat_natCast, show a + i + 1 = a + (i + 1) by omega]
    exact ih k (i + 1) _ (by simp [hl]) (by omega) (by omega) (by rw [set_snocByteS x i _ (by omega), ht, markedByteS_succ])
theorem markByteS_is (l : List Int) (a : Nat) (hn : l.length ≤ 4194304) (ha : a ≤ 2000000000) (k : Nat) (hk : l.length < k) : laws_markByteS.f k l (a : Int) = some (((a + l.length : Nat) : Int), markedByteS a l.length) := by
  unfold laws_markByteS.f
  exact markByteS_l0 l.length a hn ha l.length k 0 l rfl (by omega) hk (by simp [markedByteS])
theorem heldByteS_l0 (n a : Nat) (hn : n ≤ 4194304) (ha : a ≤ 2000000000) : ∀ (d k i : Nat), i + d = n → d < k → laws_heldByteS.l0 k (markedByteS a n) ((a + i : Nat) : Int) (i : Int) = some ((a + n : Nat) : Int) := by
  intro d
  induction d with
  | zero =>
    intro k i hi hk
    obtain ⟨k, rfl⟩ := at_succ hk
    simp only [laws_heldByteS.l0]
    rw [if_neg (by rw [markedByteS_length]; omega), show i = n by omega]
  | succ d ih =>
    intro k i hi hk
    obtain ⟨k, rfl⟩ := at_succ hk
    simp only [laws_heldByteS.l0]
    rw [if_pos (by rw [markedByteS_length]; omega), if_pos (by omega), rd_nat, markedByteS_at a n i (by omega)]
    rw [if_pos rfl, w64n i (by omega), w64n (a + i) (by omega), show a + i + 1 = a + (i + 1) by omega]
    exact ih k (i + 1) (by omega) (by omega)
theorem heldByteS_is (n a : Nat) (hn : n ≤ 4194304) (ha : a ≤ 2000000000) (k : Nat) (hk : n < k) : laws_heldByteS.f k (markedByteS a n) (a : Int) = some ((a + n : Nat) : Int) := by
  unfold laws_heldByteS.f
  exact heldByteS_l0 n a hn ha n k 0 (by omega) hk
theorem eqBytesResult_self (c : Int) (l : List Int) (hn : l.length ≤ 1048576) (k : Nat) (hk : l.length < k) : laws_eqBytesResult.f k c l c l = some true := by
  unfold laws_eqBytesResult.f
  rw [if_pos rfl, eqByteS_self l hn k hk]; rfl
theorem markBytesResult_is (c : Int) (l : List Int) (hn : l.length ≤ 1048576) (k : Nat) (hk : l.length < k) : laws_markBytesResult.f k c l 1 = some (((1 + l.length : Nat) : Int), markedByteS 1 l.length) := by
  unfold laws_markBytesResult.f
  rw [show (1 : Int) = ((1 : Nat) : Int) from rfl, markByteS_is l 1 (by omega) (by omega) k hk]; rfl
theorem heldBytesResult_is (c : Int) (n : Nat) (hn : n ≤ 1048576) (k : Nat) (hk : n < k) : laws_heldBytesResult.f k c (markedByteS 1 n) 1 = some ((1 + n : Nat) : Int) := by
  unfold laws_heldBytesResult.f
  rw [show (1 : Int) = ((1 : Nat) : Int) from rfl, heldByteS_is n 1 (by omega) (by omega) k hk]
  simp only [Option.bind_some]
  rw [if_neg (by omega)]
theorem shr8 (n : Int) (s : Nat) (hs : s ≤ 7) : shr .i64 n ((8 * s : Nat) : Int) = n / 2 ^ (8 * s) := by
  unfold shr
  rw [Int.toNat_natCast, Nat.min_eq_left (by simp only [IntKind.bits]; omega)]
/-- The s lowest bytes of a number, the highest first. -/
def be (n : Int) : Nat → List Int
  | 0 => []
  | s + 1 => (n / 2 ^ (8 * s)) % 256 :: be n s
theorem be_length (n : Int) : ∀ s, (be n s).length = s
  | 0 => rfl
  | s + 1 => by simp [be, be_length n s]
theorem be_bytes (n : Int) : ∀ s, ∀ x ∈ be n s, 0 ≤ x ∧ x ≤ 255
  | 0 => fun x hx => by cases hx
  | s + 1 => fun x hx => by
    rcases List.mem_cons.1 hx with rfl | hx
    · omega
    · exact be_bytes n s x hx
theorem eight (s : Nat) (hs : s ≤ 7) : wrap64 (8 * (s : Int)) = ((8 * s : Nat) : Int) := by rw [w64 (by omega) (by omega)]; omega
theorem eightU (s : Nat) (hs : s ≤ 7) : IntKind.u64.wrap (wrap64 (8 * (s : Int))) = ((8 * s : Nat) : Int) := by
  rw [eight s hs, Go.IntKind.wrap_u64]; omega
theorem impl_put_l0 (n : Int) : ∀ (s k : Nat) (out : List Int), s ≤ 7 → s < k → out.length + s ≤ 1000000000 → impl_put.l0 k out n ((s : Int) - 1) = some (out ++ be n s) := by
  intro s
  induction s with
  | zero =>
    intro k out hs hk ho
    obtain ⟨k, rfl⟩ := at_succ hk
    simp only [impl_put.l0]
    rw [if_neg (by omega)]; simp [be]
  | succ s ih =>
    intro k out hs hk ho
    obtain ⟨k, rfl⟩ := at_succ hk
    simp only [impl_put.l0]
    rw [show ((s + 1 : Nat) : Int) - 1 = (s : Int) by omega, if_pos (by omega), eight s (by omega), if_pos (by omega), if_pos (by omega), shr8 n s (by omega), w64 (by omega) (by omega)]
    rw [ih k _ (by omega) (by omega) (by simp; omega)]; simp [be]
theorem impl_put_is (out : List Int) (n : Int) (s : Nat) (hs : s ≤ 7) (k : Nat) (hk : s < k) (ho : out.length + s ≤ 1000000000) : impl_put.f k out n (s : Int) = some (out ++ be n s) := by
  unfold impl_put.f
  rw [w64 (by omega) (by omega)]
  exact impl_put_l0 n s k out hs hk ho
theorem spec_l1Bytes_l0 (n : Int) : ∀ (s k : Nat) (out : List Int), s ≤ 7 → s < k → out.length + s ≤ 1000000000 → spec_l1Bytes.l0 k n out ((s : Int) - 1) = some (out ++ be n s) := by
  intro s
  induction s with
  | zero =>
    intro k out hs hk ho
    obtain ⟨k, rfl⟩ := at_succ hk
    simp only [spec_l1Bytes.l0]
    rw [if_neg (by omega)]; simp [be]
  | succ s ih =>
    intro k out hs hk ho
    obtain ⟨k, rfl⟩ := at_succ hk
    simp only [spec_l1Bytes.l0]
    rw [show ((s + 1 : Nat) : Int) - 1 = (s : Int) by omega, if_pos (by omega), eightU s (by omega), if_pos (by omega), if_pos (by omega), shr8 n s (by omega), w64 (by omega) (by omega)]
    rw [ih k _ (by omega) (by omega) (by simp; omega)]; simp [be]
theorem spec_l1Bytes_is (n : Int) (s : Nat) (hs : s ≤ 7) (k : Nat) (hk : s < k) : spec_l1Bytes.f k n (s : Int) = some (be n s) := by
  unfold spec_l1Bytes.f
  rw [w64 (by omega) (by omega)]
  have := spec_l1Bytes_l0 n s k [] hs hk (by simp; omega)
  simpa using this
theorem shl8 (s : Nat) (hs : s ≤ 6) : shl .i64 1 ((8 * s : Nat) : Int) = 2 ^ (8 * s) := by
  unfold shl
  rw [Int.toNat_natCast, Nat.min_eq_left (by simp only [IntKind.bits]; omega), Go.IntWalk.i64_left, Int.one_mul]
  have h : s = 0 ∨ s = 1 ∨ s = 2 ∨ s = 3 ∨ s = 4 ∨ s = 5 ∨ s = 6 := by omega
  rcases h with rfl | rfl | rfl | rfl | rfl | rfl | rfl <;> exact w64 (by decide) (by decide)
theorem pow8 (s : Nat) (hs : s ≤ 6) : 1 ≤ (2 : Int) ^ (8 * s) ∧ (2 : Int) ^ (8 * s) ≤ 281474976710656 := by
  have h : s = 0 ∨ s = 1 ∨ s = 2 ∨ s = 3 ∨ s = 4 ∨ s = 5 ∨ s = 6 := by omega
  rcases h with rfl | rfl | rfl | rfl | rfl | rfl | rfl <;> decide
def putR (n size : Int) : Int × List Int := if 1 ≤ size ∧ size ≤ 6 ∧ 0 ≤ n ∧ n < 2 ^ (8 * size.toNat) then (0, be n size.toNat) else (3, [])
theorem impl_PutNumber_is (n size : Int) (k : Nat) (hk : 8 ≤ k) : impl_PutNumber.f k n size = some (putR n size) := by
  unfold impl_PutNumber.f impl_in.f putR
  by_cases h1 : size ≥ 1
  · by_cases h2 : size ≤ 6
    · obtain ⟨s, rfl⟩ : ∃ s : Nat, size = s := ⟨size.toNat, by omega⟩
      have hp := pow8 s (by omega)
      have hsh := shl8 s (by omega)
      rw [Int.toNat_natCast, if_pos h1, eight s (by omega), hsh]
      generalize (2 : Int) ^ (8 * s) = P at hp ⊢
      rw [decide_eq_true h2, Option.bind_some, if_pos rfl, if_pos (by omega), w64 (by omega) (by omega)]
      by_cases h3 : n ≥ 0
      · by_cases h4 : n ≤ P - 1
        · rw [if_pos h3, decide_eq_true h4, Option.bind_some, if_pos rfl, impl_put_is [] n s (by omega) k (by omega) (by simp; omega), if_pos ⟨h1, h2, h3, by omega⟩]; rfl
        · rw [if_pos h3, decide_eq_false h4, Option.bind_some, if_neg (by decide), if_neg (by omega)]
      · rw [if_neg h3, Option.bind_some, if_neg (by decide), if_neg (by omega)]
    · rw [if_neg (by omega : ¬ (1 ≤ size ∧ size ≤ 6 ∧ 0 ≤ n ∧ n < 2 ^ (8 * size.toNat)))]
      rw [if_pos h1, decide_eq_false h2, Option.bind_some, if_neg (by decide)]
  · rw [if_neg (by omega : ¬ (1 ≤ size ∧ size ≤ 6 ∧ 0 ≤ n ∧ n < 2 ^ (8 * size.toNat)))]
    rw [if_neg h1, Option.bind_some, if_neg (by decide)]
theorem spec_PutNumber_is (n size : Int) (k : Nat) (hk : 8 ≤ k) : spec_PutNumber.f k n size = some (putR n size) := by
  unfold spec_PutNumber.f spec_l1In.f spec_l1Min.f spec_l1Max.f putR
  by_cases h1 : size ≥ 1
  · by_cases h2 : size ≤ 6
    · obtain ⟨s, rfl⟩ : ∃ s : Nat, size = s := ⟨size.toNat, by omega⟩
      have hp := pow8 s (by omega)
      have hsh := shl8 s (by omega)
      have e1 : (if (6 : Int) < (s : Int) then some (6 : Int) else some (s : Int)) = some (s : Int) := by rw [if_neg (by omega)]
      have e2 : (if (1 : Int) > (s : Int) then some (1 : Int) else some (s : Int)) = some (s : Int) := by rw [if_neg (by omega)]
      rw [Int.toNat_natCast, if_pos h1, decide_eq_true h2, Option.bind_some, if_pos rfl, e1, Option.bind_some, e2, Option.bind_some, eightU s (by omega), hsh]
      generalize (2 : Int) ^ (8 * s) = P at hp ⊢
      rw [if_pos (by omega), w64 (by omega) (by omega)]
      by_cases h3 : n ≥ 0
      · by_cases h4 : n ≤ P - 1
        · rw [if_pos h3, decide_eq_true h4, Option.bind_some, if_pos rfl, spec_l1Bytes_is n s (by omega) k (by omega), if_pos ⟨h1, h2, h3, by omega⟩]; rfl
        · rw [if_pos h3, decide_eq_false h4, Option.bind_some, if_neg (by decide), if_neg (by omega)]
      · rw [if_neg h3, Option.bind_some, if_neg (by decide), if_neg (by omega)]
    · rw [if_neg (by omega : ¬ (1 ≤ size ∧ size ≤ 6 ∧ 0 ≤ n ∧ n < 2 ^ (8 * size.toNat)))]
      rw [if_pos h1, decide_eq_false h2, Option.bind_some, if_neg (by decide)]
  · rw [if_neg (by omega : ¬ (1 ≤ size ∧ size ≤ 6 ∧ 0 ≤ n ∧ n < 2 ^ (8 * size.toNat)))]
    rw [if_neg h1, Option.bind_some, if_neg (by decide)]
theorem putR_length (n size : Int) : (putR n size).2.length ≤ 6 := by
  unfold putR
  split
  · rw [be_length]; omega
  · simp
theorem FnExactPutNumber : laws_FnExactPutNumber.Pure := by
  intro n size _ _
  refine ⟨20, ?_⟩
  unfold laws_FnExactPutNumber.f
  have hl := putR_length n size
  rw [spec_PutNumber_is n size 20 (by omega), impl_PutNumber_is n size 20 (by omega)]
  simp only [Option.bind_some]
  rw [eqBytesResult_self _ _ (by omega) 20 (by omega), markBytesResult_is _ _ (by omega) 20 (by omega)]
  simp only [Option.bind_some, if_true]
  rw [heldBytesResult_is _ _ (by omega) 20 (by omega)]
  simp only [Option.bind_some, if_true]
  rw [if_neg (by omega), if_neg (by omega)]
end Go.Proofs.Ytaellhlkjjooiaa.Pure
