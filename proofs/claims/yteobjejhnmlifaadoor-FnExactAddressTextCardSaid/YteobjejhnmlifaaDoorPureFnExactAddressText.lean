/- WHAT THIS TEXT PROVES: the pure statement of the law FnExactAddressText, over plain functions on numbers and lists. No condition beyond the statement's own. -/
import Derived.Test.YteobjejhnmlifaaDoorQFnExactAddressTextx2
import Derived.Laws.BitsLemmas
import Derived.IntWalk
namespace Go.Proofs.YteobjejhnmlifaaDoor.Pure
open Go.RowKit Go.Proofs.YteobjejhnmlifaaDoor.QFnExactAddressText Go.Proofs.YteobjejhnmlifaaDoorW.PrintWords Go.Proofs.YteobjejhnmlifaaDoorW.PrintLast Go.Proofs.YteobjejhnmlifaaDoorW.PrintMore
set_option linter.unusedVariables false
set_option linter.unusedSimpArgs false
theorem w64 {n : Int} (h0 : -9223372036854775808 ≤ n) (h1 : n ≤ 9223372036854775807) : wrap64 n = n := by unfold wrap64; omega
theorem w64n (i : Nat) (h : i < 9223372036854775807) : wrap64 ((i : Int) + 1) = ((i + 1 : Nat) : Int) := by
  rw [w64 (by omega) (by omega)]; omega
theorem rd_nat (xs : List Int) (i : Nat) : rd xs (i : Int) = xs.getD i 0 := by simp [rd]
theorem at_succ {k d : Nat} (h : d < k) : ∃ m, k = m + 1 := ⟨k - 1, by omega⟩
theorem drop_cons (xs : List Int) (i : Nat) (h : i < xs.length) : xs.drop i = xs.getD i 0 :: xs.drop (i + 1) := by
  rw [List.drop_eq_getElem_cons h]; simp [List.getD, h]
theorem set_take (x0 x3 : List Int) (i : Nat) (hl : x3.length = x0.length) (hi : i < x0.length) (ht : x3.take i = x0.take i) :
    (x3.set i (x0.getD i 0)).take (i + 1) = x0.take (i + 1) := by
  apply List.ext_getElem?
  intro j
  by_cases hj : j < i
  · have h1 := congrArg (fun l : List Int => l[j]?) ht
    simp only [List.getElem?_take, hj, if_true] at h1
    simp only [List.getElem?_take, show j < i + 1 by omega, if_true]
    rw [List.getElem?_set_ne (by omega)]; exact h1
  · by_cases e : j = i
    · subst e
      simp only [List.getElem?_take, show j < j + 1 by omega, if_true]
      rw [List.getElem?_set_self (by omega)]
      simp [List.getD, hi]
    · simp only [List.getElem?_take, show ¬ j < i + 1 by omega, if_false]
theorem bind_s {α β : Type} (a : α) (f : α → Option β) : (some a).bind f = f a := Eq.trans (Option.bind_some a f) (Eq.refl _)
def inB (a lo hi : Int) : Bool := decide (a ≥ lo) && decide (a ≤ hi)
def protoB (a : Int) : Bool := decide (a = 6) || decide (a = 17)
theorem impl_in_is (a lo hi : Int) : impl_in.f a lo hi = some (inB a lo hi) := by
  unfold impl_in.f inB
  by_cases h : a ≥ lo <;> simp [h]
theorem spec_l1In_is (a lo hi : Int) : spec_l1In.f a lo hi = some (inB a lo hi) := by
  unfold spec_l1In.f inB
  by_cases h : a ≥ lo <;> simp [h]
theorem impl_isAddress_is (a : Int) : impl_isAddress.f a = some (inB a 0 4294967295) := by unfold impl_isAddress.f; rw [impl_in_is, bind_s]
theorem spec_l2Address_is (a : Int) : spec_l2Address.f a = some (inB a 0 4294967295) := by unfold spec_l2Address.f; rw [spec_l1In_is, bind_s]
theorem shr8 (n : Int) (s : Nat) (hs : s ≤ 7) : shr .i64 n ((8 * s : Nat) : Int) = n / 2 ^ (8 * s) := by
  unfold shr
  rw [Int.toNat_natCast, Nat.min_eq_left (by simp only [IntKind.bits]; omega)]
/-- The s lowest bytes of a number, the highest first. -/
def be (n : Int) : Nat → List Int
  | 0 => []
  | s + 1 => (n / 2 ^ (8 * s)) % 256 :: be n s
theorem be_length (n : Int) : ∀ s, (be n s).length = s
  | 0 => rfl
  | s + 1 => by simp [be, be_length n s]
theorem be_bytes (n : Int) : ∀ s, ∀ x ∈ be n s, 0 ≤ x ∧ x ≤ 255
  | 0 => fun x hx => by cases hx
  | s + 1 => fun x hx => by
    rcases List.mem_cons.1 hx with rfl | hx
    · omega
    · exact be_bytes n s x hx
theorem eight (s : Nat) (hs : s ≤ 7) : wrap64 (8 * (s : Int)) = ((8 * s : Nat) : Int) := by rw [w64 (by omega) (by omega)]; omega
theorem eightU (s : Nat) (hs : s ≤ 7) : IntKind.u64.wrap (wrap64 (8 * (s : Int))) = ((8 * s : Nat) : Int) := by
  rw [eight s hs, Go.IntKind.wrap_u64]; omega
theorem spec_l1Bytes_l0 (n : Int) : ∀ (s k : Nat) (out : List Int), s ≤ 7 → s < k → out.length + s ≤ 1000000000 → spec_l1Bytes.l0 k n out ((s : Int) - 1) = some (out ++ be n s) := by
  intro s
  induction s with
  | zero =>
    intro k out hs hk ho
    obtain ⟨k, rfl⟩ := at_succ hk
    simp only [spec_l1Bytes.l0]
    rw [if_neg (by omega)]; simp [be]
  | succ s ih =>
    intro k out hs hk ho
    obtain ⟨k, rfl⟩ := at_succ hk
    simp only [spec_l1Bytes.l0]
    rw [show ((s + 1 : Nat) : Int) - 1 = (s : Int) by omega, if_pos (by omega), eightU s (by omega), if_pos (by omega), if_pos (by omega), shr8 n s (by omega), w64 (by omega) (by omega)]
    rw [ih k _ (by omega) (by omega) (by simp; omega)]; simp [be]
theorem spec_l1Bytes_is (n : Int) (s : Nat) (hs : s ≤ 7) (k : Nat) (hk : s < k) : spec_l1Bytes.f k n (s : Int) = some (be n s) := by
  unfold spec_l1Bytes.f
  rw [w64 (by omega) (by omega)]
  have := spec_l1Bytes_l0 n s k [] hs hk (by simp; omega)
  simpa using this
theorem and255 (x : Int) (h0 : 0 ≤ x) (h1 : x < 9223372036854775808) : Go.bits .and .i64 x 255 = x % 256 := by
  have := bits_mask .i64 63 (by decide) (fun n a b => by rw [IntKind.wrap_i64]; omega) 8 (by decide) x h0 (by omega)
  simpa using this
theorem ba_app (l1 l2 : List UInt8) : ((⟨l1.toArray⟩ : ByteArray) ++ (⟨l2.toArray⟩ : ByteArray)) = ⟨(l1 ++ l2).toArray⟩ := by
  apply ByteArray.ext
  simp [ByteArray.data_append]
theorem ba_nil (t : ByteArray) : (⟨#[]⟩ : ByteArray) ++ t = t := by
  apply ByteArray.ext
  simp [ByteArray.data_append]
theorem tx_nat (u : Nat) : Cf.tx (u : Int) = ⟨(Lib.decDigits u).toArray⟩ := by
  unfold Cf.tx Lib.itoa
  rw [if_neg (by omega), Int.toNat_natCast]
theorem one_digit (u : Nat) (h : u < 10) : strOfNums [(wrap64 (48 + (u : Int))) % 256] = ⟨#[UInt8.ofNat (48 + u)]⟩ := by
  unfold strOfNums
  rw [w64 (by omega) (by omega), show ((48 + (u : Int)) % 256) = ((48 + u : Nat) : Int) by omega]
  rfl
theorem l2Digits_step (k u : Nat) (hu : u ≤ 255) (ih : ¬ u < 10 → spec_l2Digits.f k ((u / 10 : Nat) : Int) = some (Cf.tx ((u / 10 : Nat) : Int))) : spec_l2Digits.f (k + 1) (u : Int) = some (Cf.tx (u : Int)) := by
  rw [tx_nat, spec_l2Digits.f.eq_2]
  by_cases c : u < 10
  · rw [if_pos (by omega), one_digit u c, Lib.decDigits_one c]
  · rw [if_neg (by omega)]
    have e1 : wrap64 (Int.tdiv (u : Int) 10) = ((u / 10 : Nat) : Int) := by
      rw [show Int.tdiv (u : Int) 10 = ((u / 10 : Nat) : Int) from rfl, w64 (by omega) (by omega)]
    have e2 : (48 + Int.tmod (u : Int) 10) = 48 + ((u % 10 : Nat) : Int) := rfl
    rw [e1, ih c, bind_s, bind_s, e2, one_digit (u % 10) (by omega), tx_nat]
    have hs : ((⟨(Lib.decDigits (u / 10)).toArray⟩ : ByteArray)).size ≤ 21 := by rw [← tx_nat]; exact Cf.tx_size _ (by omega) (by omega)
    have hs2 : ((⟨#[UInt8.ofNat (48 + u % 10)]⟩ : ByteArray)).size = 1 := rfl
    rw [if_pos (by omega)]
    rw [show (⟨#[UInt8.ofNat (48 + u % 10)]⟩ : ByteArray) = ⟨[UInt8.ofNat (48 + u % 10)].toArray⟩ from rfl, ba_app]
    conv => rhs; rw [Lib.decDigits, dif_neg c]
theorem l2Digits_is (k u : Nat) (hu : u ≤ 255) (hk : 4 ≤ k) : spec_l2Digits.f k (u : Int) = some (Cf.tx (u : Int)) := by
  obtain ⟨k, rfl⟩ : ∃ j, k = j + 3 := ⟨k - 3, by omega⟩
  exact l2Digits_step _ u hu (fun _ => l2Digits_step _ (u / 10) (by omega) (fun _ => l2Digits_step _ (u / 10 / 10) (by omega) (fun h => absurd (show u / 10 / 10 < 10 by omega) h)))
theorem be4 (n : Int) : be n 4 = [n / 16777216 % 256, n / 65536 % 256, n / 256 % 256, n / 1 % 256] := rfl
theorem l2Text_is (b0 b1 b2 b3 : Nat) (h0 : b0 ≤ 255) (h1 : b1 ≤ 255) (h2 : b2 ≤ 255) (h3 : b3 ≤ 255) (k : Nat) (hk : 8 ≤ k) :
    spec_l2Text.l0 k [(b0 : Int), b1, b2, b3] (Cf.tx b0) 1 = some (((((Cf.tx b0 ++ ⟨#[46]⟩) ++ Cf.tx b1) ++ ⟨#[46]⟩) ++ Cf.tx b2 ++ ⟨#[46]⟩) ++ Cf.tx b3) := by
  obtain ⟨k, rfl⟩ : ∃ j, k = j + 4 := ⟨k - 4, by omega⟩
  have dg := l2Digits_is
  have t0 := Cf.tx_size (b0 : Int) (by omega) (by omega)
  have t1 := Cf.tx_size (b1 : Int) (by omega) (by omega)
  have t2 := Cf.tx_size (b2 : Int) (by omega) (by omega)
  have t3 := Cf.tx_size (b3 : Int) (by omega) (by omega)
  have d1 : (⟨#[46]⟩ : ByteArray).size = 1 := rfl
  have r1 : rd [(b0 : Int), b1, b2, b3] 1 = (b1 : Int) := rfl
  have r2 : rd [(b0 : Int), b1, b2, b3] 2 = (b2 : Int) := rfl
  have r3 : rd [(b0 : Int), b1, b2, b3] 3 = (b3 : Int) := rfl
  have w1 : wrap64 ((1 : Int) + 1) = 2 := w64 (by omega) (by omega)
  have w2 : wrap64 ((2 : Int) + 1) = 3 := w64 (by omega) (by omega)
  have w3 : wrap64 ((3 : Int) + 1) = 4 := w64 (by omega) (by omega)
  have s1 := Cf.size_app (Cf.tx b0) ⟨#[46]⟩
  have s2 := Cf.size_app (Cf.tx b0 ++ ⟨#[46]⟩) (Cf.tx b1)
  have s3 := Cf.size_app ((Cf.tx b0 ++ ⟨#[46]⟩) ++ Cf.tx b1) ⟨#[46]⟩
  have s4 := Cf.size_app (((Cf.tx b0 ++ ⟨#[46]⟩) ++ Cf.tx b1) ++ ⟨#[46]⟩) (Cf.tx b2)
  have s5 := Cf.size_app ((((Cf.tx b0 ++ ⟨#[46]⟩) ++ Cf.tx b1) ++ ⟨#[46]⟩) ++ Cf.tx b2) ⟨#[46]⟩
  rw [spec_l2Text.l0.eq_2, if_pos (by omega), if_pos (by omega), if_pos (by omega), if_pos (by simp), r1, w64 (by omega) (by omega), dg _ b1 h1 (by omega), bind_s, if_pos (by omega), w1]
  rw [spec_l2Text.l0.eq_2, if_pos (by omega), if_pos (by omega), if_pos (by omega), if_pos (by simp), r2, w64 (by omega) (by omega), dg _ b2 h2 (by omega), bind_s, if_pos (by omega), w2]
  rw [spec_l2Text.l0.eq_2, if_pos (by omega), if_pos (by omega), if_pos (by omega), if_pos (by simp), r3, w64 (by omega) (by omega), dg _ b3 h3 (by omega), bind_s, if_pos (by omega), w3]
  rw [spec_l2Text.l0.eq_2, if_neg (by omega)]
def atext (a : Int) : ByteArray := Cf.dj ⟨#[46]⟩ [a / 16777216, a / 65536 % 256, a / 256 % 256, a % 256] 4
theorem spec_l2Text_is (a : Int) (h0 : 0 ≤ a) (h1 : a ≤ 4294967295) (k : Nat) (hk : 9 ≤ k) : spec_l2Text.f k a = some (atext a) := by
  unfold spec_l2Text.f
  rw [show (4 : Int) = ((4 : Nat) : Int) from rfl, spec_l1Bytes_is a 4 (by omega) k (by omega), bind_s, be4]
  obtain ⟨b0, e0⟩ : ∃ b : Nat, (b : Int) = a / 16777216 := ⟨(a / 16777216).toNat, by omega⟩
  obtain ⟨b1, e1⟩ : ∃ b : Nat, (b : Int) = a / 65536 % 256 := ⟨(a / 65536 % 256).toNat, by omega⟩
  obtain ⟨b2, e2⟩ : ∃ b : Nat, (b : Int) = a / 256 % 256 := ⟨(a / 256 % 256).toNat, by omega⟩
  obtain ⟨b3, e3⟩ : ∃ b : Nat, (b : Int) = a % 256 := ⟨(a % 256).toNat, by omega⟩
  rw [show a / 16777216 % 256 = (b0 : Int) by omega, show a / 1 % 256 = (b3 : Int) by omega, ← e1, ← e2]
  unfold atext
  rw [← e0, ← e1, ← e2, ← e3, if_pos (by simp)]
  rw [show rd [(b0 : Int), b1, b2, b3] 0 = (b0 : Int) from rfl, w64 (by omega) (by omega), l2Digits_is k b0 (by omega) (by omega), bind_s, l2Text_is b0 b1 b2 b3 (by omega) (by omega) (by omega) (by omega) k (by omega)]
  have : Cf.dj ⟨#[46]⟩ [(b0 : Int), b1, b2, b3] 4 = ((((((⟨#[]⟩ : ByteArray) ++ Cf.tx b0) ++ ⟨#[46]⟩) ++ Cf.tx b1) ++ ⟨#[46]⟩) ++ Cf.tx b2 ++ ⟨#[46]⟩) ++ Cf.tx b3 := rfl
  rw [this, ba_nil]
theorem impl_addressText_is (a : Int) (h0 : 0 ≤ a) (h1 : a ≤ 4294967295) : impl_addressText.f a = some (atext a) := by
  unfold impl_addressText.f impl_decimals.f
  rw [and255 _ (by omega) (by omega), and255 _ (by omega) (by omega), and255 _ (by omega) (by omega)]
  rw [if_pos ⟨by decide, by simp, by simp; omega⟩, bind_s]
  rfl
theorem spec_AddressText_is (a : Int) (k : Nat) (hk : 9 ≤ k) : spec_AddressText.f k a = some (if inB a 0 4294967295 = true then (0, atext a) else (3, ⟨#[]⟩)) := by
  unfold spec_AddressText.f
  rw [spec_l2Address_is, bind_s]
  by_cases h : inB a 0 4294967295 = true
  · have h' := h
    unfold inB at h'
    simp only [Bool.and_eq_true, decide_eq_true_eq] at h'
    rw [if_pos h, if_pos h, spec_l2Text_is a h'.1 h'.2 k hk, bind_s]
  · rw [if_neg h, if_neg h]
theorem impl_AddressText_is (a : Int) : impl_AddressText.f a = some (if inB a 0 4294967295 = true then (0, atext a) else (3, ⟨#[]⟩)) := by
  unfold impl_AddressText.f
  rw [impl_isAddress_is, bind_s]
  by_cases h : inB a 0 4294967295 = true
  · have h' := h
    unfold inB at h'
    simp only [Bool.and_eq_true, decide_eq_true_eq] at h'
    rw [if_pos h, if_pos h, impl_addressText_is a h'.1 h'.2, bind_s]
  · rw [if_neg h, if_neg h]
theorem eqTextResult_self (c : Int) (t : ByteArray) : laws_eqTextResult.f c t c t = some true := by
  unfold laws_eqTextResult.f
  rw [if_pos rfl, if_pos rfl]
theorem FnExactAddressText : laws_FnExactAddressText.Pure := by
  intro a _
  refine ⟨20, ?_⟩
  unfold laws_FnExactAddressText.f
  rw [spec_AddressText_is a 20 (by omega), bind_s, impl_AddressText_is, bind_s, eqTextResult_self, bind_s, if_pos rfl]
end Go.Proofs.YteobjejhnmlifaaDoor.Pure
