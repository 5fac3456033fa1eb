/- WHAT THIS TEXT PROVES: the pure statement of the law FnNumbers, over plain functions on numbers and lists. No condition beyond the statement's own. -/
import Derived.Test.YtaellhlkjjooiaaQFnNumbersx2
import Derived.Laws.BitsLemmas
import Derived.IntWalk
namespace Go.Proofs.Ytaellhlkjjooiaa.Pure
open Go.RowKit Go.Proofs.Ytaellhlkjjooiaa.QFnNumbers Go.Proofs.YtaellhlkjjooiaaW.PrintWords Go.Proofs.YtaellhlkjjooiaaW.PrintLast Go.Proofs.YtaellhlkjjooiaaW.PrintMore
set_option linter.unusedVariables false
set_option linter.unusedSimpArgs false
theorem w64 {n : Int} (h0 : -9223372036854775808 ≤ n) (h1 : n ≤ 9223372036854775807) : wrap64 n = n := by unfold wrap64; omega
theorem w64n (i : Nat) (h : i < 9223372036854775807) : wrap64 ((i : Int) + 1) = ((i + 1 : Nat) : Int) := by
  rw [w64 (by omega) (by omega)]; omega
theorem rd_nat (xs : List Int) (i : Nat) : rd xs (i : Int) = xs.getD i 0 := by simp [rd]
theorem at_succ {k d : Nat} (h : d < k) : ∃ m, k = m + 1 := ⟨k - 1, by omega⟩
theorem drop_cons (xs : List Int) (i : Nat) (h : i < xs.length) : xs.drop i = xs.getD i 0 :: xs.drop (i + 1) := by
  rw [List.drop_eq_getElem_cons h]; simp [List.getD, h]
theorem set_take (x0 x3 : List Int) (i : Nat) (hl : x3.length = x0.length) (hi : i < x0.length) (ht : x3.take i = x0.take i) :
    (x3.set i (x0.getD i 0)).take (i + 1) = x0.take (i + 1) := by
  apply List.ext_getElem?
  intro j
  by_cases hj : j < i
  · have h1 := congrArg (fun l : List Int => l[j]?) ht
    simp only [List.getElem?_take, hj, if_true] at h1
    simp only [List.getElem?_take, show j < i + 1 by omega, if_true]
    rw [List.getElem?_set_ne (by omega)]; exact h1
  · by_cases e : j = i
    · subst e
      simp only [List.getElem?_take, show j < j + 1 by omega, if_true]
      rw [List.getElem?_set_self (by omega)]
      simp [List.getD, hi]
    · simp only [List.getElem?_take, show ¬ j < i + 1 by omega, if_false]
theorem bind_s {α β : Type} (a : α) (f : α → Option β) : (some a).bind f = f a := Eq.trans (Option.bind_some a f) (Eq.refl _)
theorem wf_i64 {n : Int} (h : (Lit.int .i64 n).wf = true) : -9223372036854775808 ≤ n ∧ n ≤ 9223372036854775807 := by
  simp only [Lit.wf, IntKind.min, IntKind.max, IntKind.signed, IntKind.bits, Bool.and_eq_true, decide_eq_true_eq, if_true] at h
  omega
theorem wf_u8 {n : Int} (h : (Lit.int .u8 n).wf = true) : 0 ≤ n ∧ n ≤ 255 := by
  simpa [Lit.wf, IntKind.min, IntKind.max, IntKind.signed, IntKind.bits] using h
def IsBytes (xs : List Int) : Prop := ∀ x ∈ xs, 0 ≤ x ∧ x ≤ 255
theorem IsBytes.of {xs : List Int} (h : ∀ x ∈ xs, (Lit.int .u8 x).wf = true) : IsBytes xs := fun x hx => wf_u8 (h x hx)
theorem IsBytes.at_ {xs : List Int} (h : IsBytes xs) (i : Nat) : 0 ≤ xs.getD i 0 ∧ xs.getD i 0 ≤ 255 := by
  by_cases hi : i < xs.length
  · have : xs.getD i 0 = xs[i] := by simp [List.getD, hi]
    rw [this]; exact h _ (List.getElem_mem hi)
  · rw [List.getD_eq_getElem?_getD, List.getElem?_eq_none (by omega)]; simp
theorem IsBytes.take_ {xs : List Int} (h : IsBytes xs) (i : Nat) : IsBytes (xs.take i) := fun x hx => h x (List.mem_of_mem_take hx)
theorem IsBytes.drop_ {xs : List Int} (h : IsBytes xs) (i : Nat) : IsBytes (xs.drop i) := fun x hx => h x (List.mem_of_mem_drop hx)
theorem IsBytes.append {xs ys : List Int} (h : IsBytes xs) (k : IsBytes ys) : IsBytes (xs ++ ys) := fun x hx => (List.mem_append.1 hx).elim (h x) (k x)
def numFrom (n : Int) (xs : List Int) : Int := xs.foldl (fun n b => n * 256 + b) n
def num (xs : List Int) : Int := numFrom 0 xs
theorem numFrom_nil (n : Int) : numFrom n [] = n := rfl
theorem numFrom_cons (n x : Int) (xs : List Int) : numFrom n (x :: xs) = numFrom (n * 256 + x) xs := rfl
theorem numFrom_bounds : ∀ (xs : List Int) (n : Int) (p : Int), IsBytes xs → 0 ≤ n → n < p → 0 ≤ numFrom n xs ∧ numFrom n xs < p * 256 ^ xs.length
  | [], n, p, _, h0, h1 => by rw [numFrom_nil]; simpa using ⟨h0, h1⟩
  | x :: xs, n, p, hb, h0, h1 => by
    have hx := hb x (by simp)
    have := numFrom_bounds xs (n * 256 + x) (p * 256) (fun y hy => hb y (by simp [hy])) (by omega) (by omega)
    rw [numFrom_cons, List.length_cons, Int.pow_succ, Int.mul_comm (256 ^ xs.length) 256, ← Int.mul_assoc]
    exact this
theorem num_bounds (xs : List Int) (hb : IsBytes xs) : 0 ≤ num xs ∧ num xs < 256 ^ xs.length := by
  have := numFrom_bounds xs 0 1 hb (by omega) (by omega)
  rw [Int.one_mul] at this; exact this
theorem or_is (n b : Int) (h0 : 0 ≤ n) (h1 : n < 36028797018963968) (b0 : 0 ≤ b) (b1 : b ≤ 255) : Go.bits .or .i64 (wrap64 (n * 256)) (wrap64 b) = n * 256 + b := by
  rw [w64 (n := n * 256) (by omega) (by omega), w64 (n := b) (by omega) (by omega)]
  refine Go.bits_join .i64 63 (by decide) (fun m h0 h1 => ?_) 8 (n * 256) b (by omega) (by omega) (by omega) b0 (by omega) (by omega)
  rw [Go.IntWalk.i64_left]; exact w64 (by omega) (by omega)
theorem pow_small (j : Nat) (h : j ≤ 5) : (256 : Int) ^ j ≤ 1099511627776 := by
  have : j = 0 ∨ j = 1 ∨ j = 2 ∨ j = 3 ∨ j = 4 ∨ j = 5 := by omega
  rcases this with rfl | rfl | rfl | rfl | rfl | rfl <;> decide
theorem num_step (n b : Int) (j : Nat) (h0 : 0 ≤ n) (h1 : n < 256 ^ j) (hj : j ≤ 5) (b0 : 0 ≤ b) (b1 : b ≤ 255) : 0 ≤ n * 256 + b ∧ n * 256 + b < 256 ^ (j + 1) ∧ n < 1099511627776 := by
  have := pow_small j hj
  rw [Int.pow_succ]
  omega
theorem number_l0 (x0 : List Int) (hx : IsBytes x0) (hn : x0.length ≤ 6) :
    ∀ (d k j : Nat) (n : Int), j + d = x0.length → d < k → 0 ≤ n → n < 256 ^ j →
    impl_number.l0 k n x0 (x0.length : Int) (j : Int) = some (numFrom n (x0.drop j)) := by
  intro d
  induction d with
  | zero =>
    intro k j n hi hk h0 h1
    obtain ⟨k, rfl⟩ := at_succ hk
    simp only [impl_number.l0]
    rw [if_neg (by omega), List.drop_of_length_le (by omega), numFrom_nil]
  | succ d ih =>
    intro k j n hi hk h0 h1
    obtain ⟨k, rfl⟩ := at_succ hk
    have hb := hx.at_ j
    obtain ⟨s0, s1, s2⟩ := num_step n (x0.getD j 0) j h0 h1 (by omega) hb.1 hb.2
    simp only [impl_number.l0]
    rw [rd_nat, w64n j (by omega), if_pos (by omega), if_pos (by omega), if_pos (by omega)]
    rw [or_is n _ h0 (by omega) hb.1 hb.2, ih k (j + 1) _ (by omega) (by omega) s0 s1, drop_cons x0 j (by omega), numFrom_cons]
theorem number_is (x0 : List Int) (hx : IsBytes x0) (hn : x0.length ≤ 6) (k : Nat) (hk : 7 ≤ k) : impl_number.f k x0 = some (num x0) := by
  unfold impl_number.f
  exact number_l0 x0 hx hn x0.length k 0 0 (by omega) (by omega) (by omega) (by decide)
theorem Next_is (code : List Int) (hb : IsBytes code) (hn : code.length ≤ 2097152) (at_ n : Int) (h0 : 0 ≤ at_) (h1 : at_ ≤ 1073741824) (hn1 : n ≤ 4611686018427387904) :
    ∃ v, spec_l1Next.f code at_ n = some (v, at_ + 1) ∧ 0 ≤ v ∧ (1 ≤ n → v < n) ∧ (n < 1 → v = 0) := by
  unfold spec_l1Next.f
  have e1 : wrap64 (at_ + 1) = at_ + 1 := w64 (by omega) (by omega)
  have e2 : wrap64 (at_ + 1 - 1) = at_ := by rw [w64 (by omega) (by omega)]; omega
  rw [e1, e2]
  by_cases c : n < 1
  · rw [if_pos c]; exact ⟨0, rfl, by omega, by omega, fun _ => rfl⟩
  · rw [if_neg c]
    by_cases c2 : (code.length : Int) = 0
    · have e3 : wrap64 (at_ * 7) = at_ * 7 := w64 (by omega) (by omega)
      rw [if_pos c2, if_neg (by omega), e3]
      exact ⟨_, rfl, Int.tmod_nonneg n (by omega), fun _ => Int.tmod_lt_of_pos _ (by omega), fun h => absurd h c⟩
    · have hk : 0 < (code.length : Int) := by omega
      have t0 : 0 ≤ Int.tmod at_ code.length := Int.tmod_nonneg _ h0
      have t1 : Int.tmod at_ code.length < code.length := Int.tmod_lt_of_pos _ hk
      have b1 := hb.at_ (Int.tmod at_ code.length).toNat
      have hd : Int.tdiv at_ code.length = at_ / code.length := Int.tdiv_eq_ediv_of_nonneg h0
      have d0 : 0 ≤ at_ / code.length := Int.ediv_nonneg h0 (by omega)
      have d1 : at_ / code.length ≤ at_ := Int.ediv_le_self _ h0
      have r1 : rd code (Int.tmod at_ code.length) = code.getD (Int.tmod at_ code.length).toNat 0 := rfl
      rw [if_neg c2, if_pos t0, if_pos t1, hd, r1, w64 (n := at_ / code.length) (by omega) (by omega), w64 (n := at_ / code.length * 37) (by omega) (by omega)]
      rw [w64 (n := code.getD (Int.tmod at_ code.length).toNat 0) (by omega) (by omega), w64 (n := code.getD (Int.tmod at_ code.length).toNat 0 + at_ / code.length * 37) (by omega) (by omega)]
      by_cases c3 : n > 200
      · have s0 : 0 ≤ Int.tmod (wrap64 (at_ + 1)) code.length := by rw [e1]; exact Int.tmod_nonneg _ (by omega)
        have s1 : Int.tmod (wrap64 (at_ + 1)) code.length < code.length := Int.tmod_lt_of_pos _ hk
        have b2 := hb.at_ (Int.tmod (wrap64 (at_ + 1)) code.length).toNat
        have r2 : rd code (Int.tmod (wrap64 (at_ + 1)) code.length) = code.getD (Int.tmod (wrap64 (at_ + 1)) code.length).toNat 0 := rfl
        rw [e1] at s0 s1 b2 r2
        rw [if_pos c3, e1, if_pos s0, if_pos s1, if_neg (by omega), r2]
        generalize code.getD (Int.tmod at_ code.length).toNat 0 = x at *
        generalize code.getD (Int.tmod (at_ + 1) code.length).toNat 0 = y at *
        generalize at_ / code.length = q at *
        rw [w64 (n := y) (by omega) (by omega), w64 (n := y * 13) (by omega) (by omega), w64 (n := (x + q * 37) * 251) (by omega) (by omega), w64 (n := (x + q * 37) * 251 + y * 13) (by omega) (by omega), w64 (n := (x + q * 37) * 251 + y * 13 + at_) (by omega) (by omega)]
        exact ⟨_, rfl, Int.tmod_nonneg n (by omega), fun _ => Int.tmod_lt_of_pos _ (by omega), fun h => absurd h c⟩
      · rw [if_neg c3, if_neg (by omega)]
        exact ⟨_, rfl, Int.tmod_nonneg n (by omega), fun _ => Int.tmod_lt_of_pos _ (by omega), fun h => absurd h c⟩
theorem Pick_is (code : List Int) (hb : IsBytes code) (hn : code.length ≤ 2097152) (at_ : Int) (h0 : 0 ≤ at_) (h1 : at_ ≤ 1073741824) (l : List Int) (hl : 0 < l.length) (hl2 : l.length ≤ 1000) :
    ∃ v, spec_l1Pick.f code at_ l = some (v, at_ + 1) ∧ v ∈ l := by
  obtain ⟨v, hv, v0, v1, _⟩ := Next_is code hb hn at_ l.length h0 h1 (by omega)
  have v2 := v1 (by omega)
  unfold spec_l1Pick.f
  rw [hv, Option.bind_some, if_pos v0, if_pos v2]
  refine ⟨_, rfl, ?_⟩
  unfold rd
  have hlt : v.toNat < l.length := by omega
  have : l.getD v.toNat 0 = l[v.toNat] := by simp [List.getD, hlt]
  rw [this]; exact List.getElem_mem hlt
theorem shr8 (n : Int) (s : Nat) (hs : s ≤ 7) : shr .i64 n ((8 * s : Nat) : Int) = n / 2 ^ (8 * s) := by
  unfold shr
  rw [Int.toNat_natCast, Nat.min_eq_left (by simp only [IntKind.bits]; omega)]
/-- The s lowest bytes of a number, the highest first. -/
def be (n : Int) : Nat → List Int
  | 0 => []
  | s + 1 => (n / 2 ^ (8 * s)) % 256 :: be n s
theorem be_length (n : Int) : ∀ s, (be n s).length = s
  | 0 => rfl
  | s + 1 => by simp [be, be_length n s]
theorem be_bytes (n : Int) : ∀ s, ∀ x ∈ be n s, 0 ≤ x ∧ x ≤ 255
  | 0 => fun x hx => by cases hx
  | s + 1 => fun x hx => by
    rcases List.mem_cons.1 hx with rfl | hx
    · omega
    · exact be_bytes n s x hx
theorem eight (s : Nat) (hs : s ≤ 7) : wrap64 (8 * (s : Int)) = ((8 * s : Nat) : Int) := by rw [w64 (by omega) (by omega)]; omega
theorem eightU (s : Nat) (hs : s ≤ 7) : IntKind.u64.wrap (wrap64 (8 * (s : Int))) = ((8 * s : Nat) : Int) := by
  rw [eight s hs, Go.IntKind.wrap_u64]; omega
theorem impl_put_l0 (n : Int) : ∀ (s k : Nat) (out : List Int), s ≤ 7 → s < k → out.length + s ≤ 1000000000 → impl_put.l0 k out n ((s : Int) - 1) = some (out ++ be n s) := by
  intro s
  induction s with
  | zero =>
    intro k out hs hk ho
    obtain ⟨k, rfl⟩ := at_succ hk
    simp only [impl_put.l0]
    rw [if_neg (by omega)]; simp [be]
  | succ s ih =>
    intro k out hs hk ho
    obtain ⟨k, rfl⟩ := at_succ hk
    simp only [impl_put.l0]
    rw [show ((s + 1 : Nat) : Int) - 1 = (s : Int) by omega, if_pos (by omega), eight s (by omega), if_pos (by omega), if_pos (by omega), shr8 n s (by omega), w64 (by omega) (by omega)]
    rw [ih k _ (by omega) (by omega) (by simp; omega)]; simp [be]
theorem impl_put_is (out : List Int) (n : Int) (s : Nat) (hs : s ≤ 7) (k : Nat) (hk : s < k) (ho : out.length + s ≤ 1000000000) : impl_put.f k out n (s : Int) = some (out ++ be n s) := by
  unfold impl_put.f
  rw [w64 (by omega) (by omega)]
  exact impl_put_l0 n s k out hs hk ho
theorem spec_l1Bytes_l0 (n : Int) : ∀ (s k : Nat) (out : List Int), s ≤ 7 → s < k → out.length + s ≤ 1000000000 → spec_l1Bytes.l0 k n out ((s : Int) - 1) = some (out ++ be n s) := by
  intro s
  induction s with
  | zero =>
    intro k out hs hk ho
    obtain ⟨k, rfl⟩ := at_succ hk
    simp only [spec_l1Bytes.l0]
    rw [if_neg (by omega)]; simp [be]
  | succ s ih =>
    intro k out hs hk ho
    obtain ⟨k, rfl⟩ := at_succ hk
    simp only [spec_l1Bytes.l0]
    rw [show ((s + 1 : Nat) : Int) - 1 = (s : Int) by omega, if_pos (by omega), eightU s (by omega), if_pos (by omega), if_pos (by omega), shr8 n s (by omega), w64 (by omega) (by omega)]
    rw [ih k _ (by omega) (by omega) (by simp; omega)]; simp [be]
theorem spec_l1Bytes_is (n : Int) (s : Nat) (hs : s ≤ 7) (k : Nat) (hk : s < k) : spec_l1Bytes.f k n (s : Int) = some (be n s) := by
  unfold spec_l1Bytes.f
  rw [w64 (by omega) (by omega)]
  have := spec_l1Bytes_l0 n s k [] hs hk (by simp; omega)
  simpa using this
theorem shl8 (s : Nat) (hs : s ≤ 6) : shl .i64 1 ((8 * s : Nat) : Int) = 2 ^ (8 * s) := by
  unfold shl
  rw [Int.toNat_natCast, Nat.min_eq_left (by simp only [IntKind.bits]; omega), Go.IntWalk.i64_left, Int.one_mul]
  have h : s = 0 ∨ s = 1 ∨ s = 2 ∨ s = 3 ∨ s = 4 ∨ s = 5 ∨ s = 6 := by omega
  rcases h with rfl | rfl | rfl | rfl | rfl | rfl | rfl <;> exact w64 (by decide) (by decide)
theorem pow8 (s : Nat) (hs : s ≤ 6) : 1 ≤ (2 : Int) ^ (8 * s) ∧ (2 : Int) ^ (8 * s) ≤ 281474976710656 := by
  have h : s = 0 ∨ s = 1 ∨ s = 2 ∨ s = 3 ∨ s = 4 ∨ s = 5 ∨ s = 6 := by omega
  rcases h with rfl | rfl | rfl | rfl | rfl | rfl | rfl <;> decide
def putR (n size : Int) : Int × List Int := if 1 ≤ size ∧ size ≤ 6 ∧ 0 ≤ n ∧ n < 2 ^ (8 * size.toNat) then (0, be n size.toNat) else (3, [])
theorem impl_PutNumber_is (n size : Int) (k : Nat) (hk : 8 ≤ k) : impl_PutNumber.f k n size = some (putR n size) := by
  unfold impl_PutNumber.f impl_in.f putR
  by_cases h1 : size ≥ 1
  · by_cases h2 : size ≤ 6
    · obtain ⟨s, rfl⟩ : ∃ s : Nat, size = s := ⟨size.toNat, by omega⟩
      have hp := pow8 s (by omega)
      have hsh := shl8 s (by omega)
      rw [Int.toNat_natCast, if_pos h1, eight s (by omega), hsh]
      generalize (2 : Int) ^ (8 * s) = P at hp ⊢
      rw [decide_eq_true h2, Option.bind_some, if_pos rfl, if_pos (by omega), w64 (by omega) (by omega)]
      by_cases h3 : n ≥ 0
      · by_cases h4 : n ≤ P - 1
        · rw [if_pos h3, decide_eq_true h4, Option.bind_some, if_pos rfl, impl_put_is [] n s (by omega) k (by omega) (by simp; omega), if_pos ⟨h1, h2, h3, by omega⟩]; rfl
        · rw [if_pos h3, decide_eq_false h4, Option.bind_some, if_neg (by decide), if_neg (by omega)]
      · rw [if_neg h3, Option.bind_some, if_neg (by decide), if_neg (by omega)]
    · rw [if_neg (by omega : ¬ (1 ≤ size ∧ size ≤ 6 ∧ 0 ≤ n ∧ n < 2 ^ (8 * size.toNat)))]
      rw [if_pos h1, decide_eq_false h2, Option.bind_some, if_neg (by decide)]
  · rw [if_neg (by omega : ¬ (1 ≤ size ∧ size ≤ 6 ∧ 0 ≤ n ∧ n < 2 ^ (8 * size.toNat)))]
    rw [if_neg h1, Option.bind_some, if_neg (by decide)]
theorem spec_PutNumber_is (n size : Int) (k : Nat) (hk : 8 ≤ k) : spec_PutNumber.f k n size = some (putR n size) := by
  unfold spec_PutNumber.f spec_l1In.f spec_l1Min.f spec_l1Max.f putR
  by_cases h1 : size ≥ 1
  · by_cases h2 : size ≤ 6
    · obtain ⟨s, rfl⟩ : ∃ s : Nat, size = s := ⟨size.toNat, by omega⟩
      have hp := pow8 s (by omega)
      have hsh := shl8 s (by omega)
      have e1 : (if (6 : Int) < (s : Int) then some (6 : Int) else some (s : Int)) = some (s : Int) := by rw [if_neg (by omega)]
      have e2 : (if (1 : Int) > (s : Int) then some (1 : Int) else some (s : Int)) = some (s : Int) := by rw [if_neg (by omega)]
      rw [Int.toNat_natCast, if_pos h1, decide_eq_true h2, Option.bind_some, if_pos rfl, e1, Option.bind_some, e2, Option.bind_some, eightU s (by omega), hsh]
      generalize (2 : Int) ^ (8 * s) = P at hp ⊢
      rw [if_pos (by omega), w64 (by omega) (by omega)]
      by_cases h3 : n ≥ 0
      · by_cases h4 : n ≤ P - 1
        · rw [if_pos h3, decide_eq_true h4, Option.bind_some, if_pos rfl, spec_l1Bytes_is n s (by omega) k (by omega), if_pos ⟨h1, h2, h3, by omega⟩]; rfl
        · rw [if_pos h3, decide_eq_false h4, Option.bind_some, if_neg (by decide), if_neg (by omega)]
      · rw [if_neg h3, Option.bind_some, if_neg (by decide), if_neg (by omega)]
    · rw [if_neg (by omega : ¬ (1 ≤ size ∧ size ≤ 6 ∧ 0 ≤ n ∧ n < 2 ^ (8 * size.toNat)))]
      rw [if_pos h1, decide_eq_false h2, Option.bind_some, if_neg (by decide)]
  · rw [if_neg (by omega : ¬ (1 ≤ size ∧ size ≤ 6 ∧ 0 ≤ n ∧ n < 2 ^ (8 * size.toNat)))]
    rw [if_neg h1, Option.bind_some, if_neg (by decide)]
theorem putR_length (n size : Int) : (putR n size).2.length ≤ 6 := by
  unfold putR
  split
  · rw [be_length]; omega
  · simp
theorem numFrom_be (n m : Int) : ∀ s, s ≤ 6 → numFrom m (be n s) = m * 2 ^ (8 * s) + n % 2 ^ (8 * s) := by
  intro s
  induction s generalizing m with
  | zero => intro _; simp [be, numFrom_nil]
  | succ s ih =>
    intro hs
    rw [be, numFrom_cons, ih _ (by omega)]
    have h : s = 0 ∨ s = 1 ∨ s = 2 ∨ s = 3 ∨ s = 4 ∨ s = 5 := by omega
    rcases h with rfl | rfl | rfl | rfl | rfl | rfl <;> simp <;> omega
theorem impl_TakeNumber_at (l : List Int) (hl : IsBytes l) (hn : l.length ≤ 1048576) (a s : Nat) (h1 : 1 ≤ s) (h2 : s ≤ 6) (h3 : a + s ≤ l.length) (k : Nat) (hk : 7 ≤ k) :
    impl_TakeNumber.f k l (a : Int) (s : Int) = some (0, num ((l.drop a).take s)) := by
  unfold impl_TakeNumber.f impl_in.f impl_size_byte.f
  have e : wrap64 ((l.length : Int) - s) = (l.length : Int) - s := w64 (by omega) (by omega)
  have e2 : wrap64 ((a : Int) + s) = (a : Int) + s := w64 (by omega) (by omega)
  have e3 : (l.take ((a : Int) + (s : Int)).toNat).drop (a : Int).toNat = (l.drop a).take s := by
    rw [show ((a : Int) + (s : Int)).toNat = a + s by omega, Int.toNat_natCast, List.drop_take]
    congr 1; omega
  rw [if_pos (by omega), decide_eq_true (by omega : (s : Int) ≤ 6)]
  simp only [bind_s]
  rw [if_pos trivial]
  rw [e, if_pos (by omega), decide_eq_true (by omega : (a : Int) ≤ (l.length : Int) - s)]
  simp only [bind_s]
  rw [if_pos trivial]
  rw [e2, if_pos (by omega), if_pos (by omega), if_pos (by omega), e3, number_is _ ((hl.drop_ a).take_ s) (by rw [List.length_take]; omega) k hk, bind_s]
theorem DrawPut_is (code : List Int) (hb : IsBytes code) (hn : code.length ≤ 1048576) : ∃ n s, spec_DrawPutNumber.f code = some (n, s) := by
  unfold spec_DrawPutNumber.f spec_l1Source.f
  simp only [bind_s]
  obtain ⟨s, e1, hs⟩ := Pick_is code hb (by omega) 0 (by omega) (by omega) [1, 2, 4, 6, 2, 0, 7] (by simp) (by simp)
  rw [e1]; simp only [bind_s]
  have hs' : 0 ≤ s ∧ s ≤ 7 := by
    simp only [List.mem_cons, List.not_mem_nil, or_false] at hs; omega
  obtain ⟨m, hm, hm1, hm2⟩ : ∃ m : Nat, ((spec_l1Min.f 6 s).bind fun t => spec_l1Max.f 1 t) = some (m : Int) ∧ 1 ≤ m ∧ m ≤ 6 := by
    unfold spec_l1Min.f spec_l1Max.f
    by_cases c : (6 : Int) < s
    · rw [if_pos c]; exact ⟨6, rfl, by omega, by omega⟩
    · rw [if_neg c, Option.bind_some]
      by_cases c2 : (1 : Int) > s
      · rw [if_pos c2]; exact ⟨1, rfl, by omega, by omega⟩
      · rw [if_neg c2]; exact ⟨s.toNat, by rw [show (s.toNat : Int) = s by omega], by omega, by omega⟩
  obtain ⟨t, ht1, ht2⟩ := Option.bind_eq_some_iff.1 hm
  rw [ht1, bind_s, ht2, bind_s, eightU m (by omega), if_pos (by omega)]
  obtain ⟨v1, f1, a1, b1, _⟩ := Next_is code hb (by omega) (0 + 1) 200 (by omega) (by omega) (by omega)
  rw [f1]; simp only [bind_s]
  obtain ⟨v2, f2, a2, b2, _⟩ := Next_is code hb (by omega) (0 + 1 + 1) 60000 (by omega) (by omega) (by omega)
  rw [f2]; simp only [bind_s]
  obtain ⟨v3, f3, _⟩ := Pick_is code hb (by omega) (0 + 1 + 1 + 1) (by omega) (by omega) [v1, v2, wrap64 ((shl .i64 1 ((8 * m : Nat) : Int)) - 1), shl .i64 1 ((8 * m : Nat) : Int), 0, (-1), 4611686018427387904] (by simp) (by simp)
  rw [f3]; exact ⟨v3, s, rfl⟩
theorem FnNumbers : laws_FnNumbers.Pure := by
  intro l _ _ hb
  have hb := IsBytes.of hb
  refine ⟨100, ?_⟩
  unfold laws_FnNumbers.f laws_lwBig.f
  simp only [Option.bind_some]
  by_cases h : (l.length : Int) > 1048576
  · rw [decide_eq_true h, if_pos rfl]
  · obtain ⟨n, s, hd⟩ := DrawPut_is l hb (by omega)
    rw [decide_eq_false h, if_neg (by decide), hd]
    simp only [Option.bind_some]
    rw [impl_PutNumber_is n s 100 (by omega), spec_PutNumber_is n s 100 (by omega)]
    simp only [Option.bind_some]
    by_cases c : 1 ≤ s ∧ s ≤ 6 ∧ 0 ≤ n ∧ n < 2 ^ (8 * s.toNat)
    · have e : putR n s = (0, be n s.toNat) := if_pos c
      obtain ⟨z, rfl⟩ : ∃ z : Nat, s = z := ⟨s.toNat, by omega⟩
      rw [Int.toNat_natCast] at c e
      have hl := be_length n z
      rw [e, if_pos rfl]
      simp only [hl, List.length_singleton]
      have hB : IsBytes ([9] ++ be n z) := by
        refine IsBytes.append (fun x hx => ?_) (be_bytes n z)
        simp only [List.mem_cons, List.not_mem_nil, or_false] at hx; omega
      have hT := impl_TakeNumber_at ([9] ++ be n z) hB (by simp [hl]; omega) 1 z (by omega) (by omega) (by simp [hl]; omega) 100 (by omega)
      rw [if_pos (by omega)]
      have e4 : (([9] ++ be n z).drop 1).take z = be n z := by
        show (be n z).take z = _
        exact List.take_of_length_le (by omega)
      rw [e4] at hT
      have hT' : impl_TakeNumber.f 100 ([9] ++ be n z) 1 (z : Int) = some (0, num (be n z)) := hT
      rw [hT']
      have hv : num (be n z) = n := by
        unfold num
        rw [numFrom_be n 0 z (by omega)]
        have := Int.emod_eq_of_lt c.2.2.1 c.2.2.2
        omega
      rw [hv]; simp
    · have e : putR n s = (3, []) := if_neg c
      rw [e, if_neg (by decide)]; rfl
end Go.Proofs.Ytaellhlkjjooiaa.Pure
