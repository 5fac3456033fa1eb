/- WHAT THIS TEXT PROVES: the pure statement of the law FnExactUnpackCmd, over plain functions on numbers and lists. No condition beyond the statement's own. -/
import Derived.Test.YtaellhlkjjooiaaQFnExactUnpackCmdx9
import Derived.Laws.BitsLemmas
import Derived.IntWalk
namespace Go.Proofs.Ytaellhlkjjooiaa.Pure
open Go.RowKit Go.Proofs.Ytaellhlkjjooiaa.QFnExactUnpackCmd Go.Proofs.YtaellhlkjjooiaaW.PrintWords Go.Proofs.YtaellhlkjjooiaaW.PrintLast Go.Proofs.YtaellhlkjjooiaaW.PrintMore
set_option linter.unusedVariables false
set_option linter.unusedSimpArgs false
theorem w64 {n : Int} (h0 : -9223372036854775808 ≤ n) (h1 : n ≤ 9223372036854775807) : wrap64 n = n := by unfold wrap64; omega
theorem w64n (i : Nat) (h : i < 9223372036854775807) : wrap64 ((i : Int) + 1) = ((i + 1 : Nat) : Int) := by
  rw [w64 (by omega) (by omega)]; omega
theorem rd_nat (xs : List Int) (i : Nat) : rd xs (i : Int) = xs.getD i 0 := by simp [rd]
theorem at_succ {k d : Nat} (h : d < k) : ∃ m, k = m + 1 := ⟨k - 1, by omega⟩
theorem drop_cons (xs : List Int) (i : Nat) (h : i < xs.length) : xs.drop i = xs.getD i 0 :: xs.drop (i + 1) := by
  rw [List.drop_eq_getElem_cons h]; simp [List.getD, h]
theorem set_take (x0 x3 : List Int) (i : Nat) (hl : x3.length = x0.length) (hi : i < x0.length) (ht : x3.take i = x0.take i) :
    (x3.set i (x0.getD i 0)).take (i + 1) = x0.take (i + 1) := by
  apply List.ext_getElem?
  intro j
  by_cases hj : j < i
  · have h1 := congrArg (fun l : List Int => l[j]?) ht
    simp only [List.getElem?_take, hj, if_true] at h1
    simp only [List.getElem?_take, show j < i + 1 by omega, if_true]
    rw [List.getElem?_set_ne (by omega)]; exact h1
  · by_cases e : j = i
    · subst e
      simp only [List.getElem?_take, show j < j + 1 by omega, if_true]
      rw [List.getElem?_set_self (by omega)]
      simp [List.getD, hi]
    · simp only [List.getElem?_take, show ¬ j < i + 1 by omega, if_false]
theorem bind_s {α β : Type} (a : α) (f : α → Option β) : (some a).bind f = f a := Eq.trans (Option.bind_some a f) (Eq.refl _)
theorem wf_i64 {n : Int} (h : (Lit.int .i64 n).wf = true) : -9223372036854775808 ≤ n ∧ n ≤ 9223372036854775807 := by
  simp only [Lit.wf, IntKind.min, IntKind.max, IntKind.signed, IntKind.bits, Bool.and_eq_true, decide_eq_true_eq, if_true] at h
  omega
theorem wf_u8 {n : Int} (h : (Lit.int .u8 n).wf = true) : 0 ≤ n ∧ n ≤ 255 := by
  simpa [Lit.wf, IntKind.min, IntKind.max, IntKind.signed, IntKind.bits] using h
def IsBytes (xs : List Int) : Prop := ∀ x ∈ xs, 0 ≤ x ∧ x ≤ 255
theorem IsBytes.of {xs : List Int} (h : ∀ x ∈ xs, (Lit.int .u8 x).wf = true) : IsBytes xs := fun x hx => wf_u8 (h x hx)
theorem IsBytes.at_ {xs : List Int} (h : IsBytes xs) (i : Nat) : 0 ≤ xs.getD i 0 ∧ xs.getD i 0 ≤ 255 := by
  by_cases hi : i < xs.length
  · have : xs.getD i 0 = xs[i] := by simp [List.getD, hi]
    rw [this]; exact h _ (List.getElem_mem hi)
  · rw [List.getD_eq_getElem?_getD, List.getElem?_eq_none (by omega)]; simp
theorem IsBytes.take_ {xs : List Int} (h : IsBytes xs) (i : Nat) : IsBytes (xs.take i) := fun x hx => h x (List.mem_of_mem_take hx)
theorem IsBytes.drop_ {xs : List Int} (h : IsBytes xs) (i : Nat) : IsBytes (xs.drop i) := fun x hx => h x (List.mem_of_mem_drop hx)
theorem IsBytes.append {xs ys : List Int} (h : IsBytes xs) (k : IsBytes ys) : IsBytes (xs ++ ys) := fun x hx => (List.mem_append.1 hx).elim (h x) (k x)
def numFrom (n : Int) (xs : List Int) : Int := xs.foldl (fun n b => n * 256 + b) n
def num (xs : List Int) : Int := numFrom 0 xs
theorem numFrom_nil (n : Int) : numFrom n [] = n := rfl
theorem numFrom_cons (n x : Int) (xs : List Int) : numFrom n (x :: xs) = numFrom (n * 256 + x) xs := rfl
theorem numFrom_bounds : ∀ (xs : List Int) (n : Int) (p : Int), IsBytes xs → 0 ≤ n → n < p → 0 ≤ numFrom n xs ∧ numFrom n xs < p * 256 ^ xs.length
  | [], n, p, _, h0, h1 => by rw [numFrom_nil]; simpa using ⟨h0, h1⟩
  | x :: xs, n, p, hb, h0, h1 => by
    have hx := hb x (by simp)
    have := numFrom_bounds xs (n * 256 + x) (p * 256) (fun y hy => hb y (by simp [hy])) (by omega) (by omega)
    rw [numFrom_cons, List.length_cons, Int.pow_succ, Int.mul_comm (256 ^ xs.length) 256, ← Int.mul_assoc]
    exact this
theorem num_bounds (xs : List Int) (hb : IsBytes xs) : 0 ≤ num xs ∧ num xs < 256 ^ xs.length := by
  have := numFrom_bounds xs 0 1 hb (by omega) (by omega)
  rw [Int.one_mul] at this; exact this
theorem or_is (n b : Int) (h0 : 0 ≤ n) (h1 : n < 36028797018963968) (b0 : 0 ≤ b) (b1 : b ≤ 255) : Go.bits .or .i64 (wrap64 (n * 256)) (wrap64 b) = n * 256 + b := by
  rw [w64 (n := n * 256) (by omega) (by omega), w64 (n := b) (by omega) (by omega)]
  refine Go.bits_join .i64 63 (by decide) (fun m h0 h1 => ?_) 8 (n * 256) b (by omega) (by omega) (by omega) b0 (by omega) (by omega)
  rw [Go.IntWalk.i64_left]; exact w64 (by omega) (by omega)
theorem pow_small (j : Nat) (h : j ≤ 5) : (256 : Int) ^ j ≤ 1099511627776 := by
  have : j = 0 ∨ j = 1 ∨ j = 2 ∨ j = 3 ∨ j = 4 ∨ j = 5 := by omega
  rcases this with rfl | rfl | rfl | rfl | rfl | rfl <;> decide
theorem num_step (n b : Int) (j : Nat) (h0 : 0 ≤ n) (h1 : n < 256 ^ j) (hj : j ≤ 5) (b0 : 0 ≤ b) (b1 : b ≤ 255) : 0 ≤ n * 256 + b ∧ n * 256 + b < 256 ^ (j + 1) ∧ n < 1099511627776 := by
  have := pow_small j hj
  rw [Int.pow_succ]
  omega
theorem number_l0 (x0 : List Int) (hx : IsBytes x0) (hn : x0.length ≤ 6) :
    ∀ (d k j : Nat) (n : Int), j + d = x0.length → d < k → 0 ≤ n → n < 256 ^ j →
    impl_number.l0 k n x0 (x0.length : Int) (j : Int) = some (numFrom n (x0.drop j)) := by
  intro d
  induction d with
  | zero =>
    intro k j n hi hk h0 h1
    obtain ⟨k, rfl⟩ := at_succ hk
    simp only [impl_number.l0]
    rw [if_neg (by omega), List.drop_of_length_le (by omega), numFrom_nil]
  | succ d ih =>
    intro k j n hi hk h0 h1
    obtain ⟨k, rfl⟩ := at_succ hk
    have hb := hx.at_ j
    obtain ⟨s0, s1, s2⟩ := num_step n (x0.getD j 0) j h0 h1 (by omega) hb.1 hb.2
    simp only [impl_number.l0]
    rw [rd_nat, w64n j (by omega), if_pos (by omega), if_pos (by omega), if_pos (by omega)]
    rw [or_is n _ h0 (by omega) hb.1 hb.2, ih k (j + 1) _ (by omega) (by omega) s0 s1, drop_cons x0 j (by omega), numFrom_cons]
theorem number_is (x0 : List Int) (hx : IsBytes x0) (hn : x0.length ≤ 6) (k : Nat) (hk : 7 ≤ k) : impl_number.f k x0 = some (num x0) := by
  unfold impl_number.f
  exact number_l0 x0 hx hn x0.length k 0 0 (by omega) (by omega) (by omega) (by decide)
theorem take_drop_cons (x0 : List Int) (i d : Nat) (h : i < x0.length) : (x0.drop i).take (d + 1) = x0.getD i 0 :: (x0.drop (i + 1)).take d := by
  rw [drop_cons x0 i h, List.take_succ_cons]
theorem l1Take_l0 (x0 : List Int) (hx : IsBytes x0) (hn : x0.length ≤ 1048576) (at_ size : Nat) (hs : size ≤ 6) (ha : at_ + size ≤ x0.length) :
    ∀ (d k j : Nat) (n : Int), j + d = size → d < k → 0 ≤ n → n < 256 ^ j →
    spec_l1Take.l0 k x0 (at_ : Int) (size : Int) n (j : Int) = some (numFrom n ((x0.drop (at_ + j)).take d)) := by
  intro d
  induction d with
  | zero =>
    intro k j n hi hk h0 h1
    obtain ⟨k, rfl⟩ := at_succ hk
    simp only [spec_l1Take.l0]
    rw [if_neg (by omega)]
    simp [numFrom_nil]
  | succ d ih =>
    intro k j n hi hk h0 h1
    obtain ⟨k, rfl⟩ := at_succ hk
    have hb := hx.at_ (at_ + j)
    obtain ⟨s0, s1, s2⟩ := num_step n (x0.getD (at_ + j) 0) j h0 h1 (by omega) hb.1 hb.2
    simp only [spec_l1Take.l0]
    have e : wrap64 ((at_ : Int) + (j : Int)) = ((at_ + j : Nat) : Int) := by rw [w64 (by omega) (by omega)]; omega
    rw [e, rd_nat, w64n j (by omega), if_pos (by omega), if_pos (by omega), if_pos (by omega)]
    rw [w64 (n := n * 256) (by omega) (by omega), w64 (n := x0.getD (at_ + j) 0) (by omega) (by omega), w64 (n := n * 256 + x0.getD (at_ + j) 0) (by omega) (by omega)]
    rw [ih k (j + 1) _ (by omega) (by omega) s0 s1, take_drop_cons x0 (at_ + j) d (by omega), numFrom_cons]
    rfl
theorem l1Take_is (x0 : List Int) (hx : IsBytes x0) (hn : x0.length ≤ 1048576) (at_ size : Nat) (hs : size ≤ 6) (ha : at_ + size ≤ x0.length) (k : Nat) (hk : 7 ≤ k) :
    spec_l1Take.f k x0 (at_ : Int) (size : Int) = some (num ((x0.drop at_).take size)) := by
  unfold spec_l1Take.f
  exact l1Take_l0 x0 hx hn at_ size hs ha size k 0 0 (by omega) (by omega) (by omega) (by decide)
theorem toByteS_l0 (x0 : List Int) (hn : x0.length ≤ 1048576) : ∀ (d k i : Nat) (x3 : List Int), x3.length = x0.length → i + d = x0.length → d < k → x3.take i = x0.take i → laws_toByteS.l0 k x0 x3 (i : Int) = some x0 := by
  intro d
  induction d with
  | zero =>
    intro k i x3 hl hi hk ht
    obtain ⟨k, rfl⟩ := at_succ hk
    simp only [laws_toByteS.l0]
    rw [if_neg (by omega)]
    have : x3 = x0 := by
      rw [List.take_of_length_le (by omega), List.take_of_length_le (by omega)] at ht; exact ht
    rw [this]
  | succ d ih =>
    intro k i x3 hl hi hk ht
    obtain ⟨k, rfl⟩ := at_succ hk
    simp only [laws_toByteS.l0]
    rw [if_pos (by omega), if_pos (by omega), if_pos (by omega), w64n i (by omega), rd_nat, Int.toNat_natCast]
    exact ih k (i + 1) _ (by simp [hl]) (by omega) (by omega) (set_take x0 x3 i hl (by omega) ht)
theorem toByteS_self (l : List Int) (hn : l.length ≤ 1048576) (k : Nat) (hk : l.length < k) : laws_toByteS.f k l = some l := by
  unfold laws_toByteS.f
  rw [if_pos (by omega), if_pos (by omega)]
  exact toByteS_l0 l hn l.length k 0 _ (by simp) (by omega) hk (by simp)
theorem eqByteS_l0 (x0 : List Int) (hn : x0.length ≤ 1048576) : ∀ (d k i : Nat), i + d = x0.length → d < k → laws_eqByteS.l0 k x0 x0 (i : Int) = some true := by
  intro d
  induction d with
  | zero =>
    intro k i hi hk
    obtain ⟨k, rfl⟩ := at_succ hk
    simp only [laws_eqByteS.l0]
    rw [if_neg (by omega)]
  | succ d ih =>
    intro k i hi hk
    obtain ⟨k, rfl⟩ := at_succ hk
    simp only [laws_eqByteS.l0]
    rw [if_pos (by omega), if_pos (by omega), if_pos (by omega), w64n i (by omega)]
    simp only [if_true]
    exact ih k (i + 1) (by omega) (by omega)
theorem eqByteS_self (l : List Int) (hn : l.length ≤ 1048576) (k : Nat) (hk : l.length < k) : laws_eqByteS.f k l l = some true := by
  unfold laws_eqByteS.f
  rw [if_pos rfl]
  exact eqByteS_l0 l hn l.length k 0 (by omega) hk
def inB (a lo hi : Int) : Bool := decide (a ≥ lo) && decide (a ≤ hi)
def protoB (a : Int) : Bool := decide (a = 6) || decide (a = 17)
theorem impl_in_is (a lo hi : Int) : impl_in.f a lo hi = some (inB a lo hi) := by
  unfold impl_in.f inB
  by_cases h : a ≥ lo <;> simp [h]
theorem spec_l1In_is (a lo hi : Int) : spec_l1In.f a lo hi = some (inB a lo hi) := by
  unfold spec_l1In.f inB
  by_cases h : a ≥ lo <;> simp [h]
theorem impl_isName_is (a : Int) : impl_isName.f a = some (inB a 1 999) := by unfold impl_isName.f; rw [impl_in_is, bind_s]
theorem spec_l3Name_is (a : Int) : spec_l3Name.f a = some (inB a 1 999) := by unfold spec_l3Name.f; rw [spec_l1In_is, bind_s]
theorem impl_isAddress_is (a : Int) : impl_isAddress.f a = some (inB a 0 4294967295) := by unfold impl_isAddress.f; rw [impl_in_is, bind_s]
theorem impl_isPort_is (a : Int) : impl_isPort.f a = some (inB a 0 65535) := by unfold impl_isPort.f; rw [impl_in_is, bind_s]
theorem impl_isProto_is (a : Int) : impl_isProto.f a = some (protoB a) := by
  unfold impl_isProto.f protoB
  by_cases h : a = 6
  · rw [if_pos h]; simp [h]
  · rw [if_neg h]
    by_cases h2 : a = 17 <;> simp [h, h2]
theorem spec_l2Address_is (a : Int) : spec_l2Address.f a = some (inB a 0 4294967295) := by unfold spec_l2Address.f; rw [spec_l1In_is, bind_s]
theorem spec_l2Port_is (a : Int) : spec_l2Port.f a = some (inB a 0 65535) := by unfold spec_l2Port.f; rw [spec_l1In_is, bind_s]
def nm (l : List Int) (a s : Nat) : Int := num ((l.drop a).take s)
theorem take_drop_nm (l : List Int) (a s : Nat) : (l.take (a + s)).drop a = (l.drop a).take s := by
  rw [List.drop_take]; congr 1; omega
theorem impl_number_at (l : List Int) (hl : IsBytes l) (a s b : Nat) (hb : b = a + s) (hs : s ≤ 6) (k : Nat) (hk : 7 ≤ k) : impl_number.f k ((l.take b).drop a) = some (nm l a s) := by
  subst hb
  rw [take_drop_nm, number_is _ ((hl.drop_ a).take_ s) (by rw [List.length_take]; omega) k hk]; rfl
theorem spec_take_at (l : List Int) (hl : IsBytes l) (hn : l.length ≤ 1048576) (a s : Nat) (h : a + s ≤ l.length) (hs : s ≤ 6) (k : Nat) (hk : 7 ≤ k) : spec_l1Take.f k l (a : Int) (s : Int) = some (nm l a s) := l1Take_is l hl hn a s hs h k hk
def needsR (a : Int) : Bool × Bool × Bool × Bool := (!inB a 5 6, decide (a = 1) || inB a 5 8, (a != 4), inB a 5 8)
def numB (kind n : Int) : Bool := if kind = 1 ∨ kind = 2 then inB n 0 9 else if kind = 3 then inB n 1 3 else if kind = 9 then inB n 0 1 else inB n 0 65535
theorem ite_ex {α : Type} {c : Prop} [Decidable c] {a b : Option α} (h : ∃ r, a = some r) (h2 : ∃ r, b = some r) : ∃ r, (if c then a else b) = some r := by
  by_cases hc : c
  · rw [if_pos hc]; exact h
  · rw [if_neg hc]; exact h2
theorem now_ex {α : Type} (a : α) : ∃ r, some a = some r := ⟨a, rfl⟩
theorem impl_needs_is (a : Int) : impl_needs.f a = some (needsR a) := by
  unfold impl_needs.f needsR
  rw [impl_in_is, bind_s, impl_in_is, bind_s]
  by_cases h : a = 1 <;> simp [h]
theorem spec_l5Needs_is (a : Int) : spec_l5Needs.f a = some (needsR a) := by
  unfold spec_l5Needs.f needsR
  rw [spec_l1In_is, bind_s]
  by_cases h5 : a = 5
  · subst h5; decide
  · by_cases h1 : a = 1
    · subst h1; decide
    · have e : (a != 6) = !inB a 5 6 := by
        unfold inB
        by_cases h6 : a = 6
        · subst h6; decide
        · have : ¬ (a ≥ 5 ∧ a ≤ 6) := by omega
          have h2 : (decide (a ≥ 5) && decide (a ≤ 6)) = false := by
            rw [← Bool.decide_and]; exact decide_eq_false this
          rw [h2]; simp [h6]
      rw [if_neg h5, if_neg h1, e]; simp [h1]
theorem impl_isNumber_is (a0 a1 a2 a3 a4 a5 : Int) (k : Nat) (hk : 0 < k) : impl_isNumber.f k a0 a1 a2 a3 a4 a5 = some (numB a0 a4) := by
  obtain ⟨k, rfl⟩ := at_succ hk
  unfold impl_isNumber.f numB
  simp only [impl_isNumber.j0, impl_in_is, impl_isPort_is, bind_s]
  by_cases h1 : a0 = 1
  · simp [h1]
  · by_cases h2 : a0 = 2
    · simp [h2]
    · by_cases h3 : a0 = 3
      · simp [h3]
      · by_cases h9 : a0 = 9 <;> simp [h1, h2, h3, h9]
theorem spec_l5Number_is (a0 a1 a2 a3 a4 a5 : Int) (k : Nat) (hk : 0 < k) : spec_l5Number.f k a0 a1 a2 a3 a4 a5 = some (numB a0 a4) := by
  obtain ⟨k, rfl⟩ := at_succ hk
  unfold spec_l5Number.f numB
  simp only [spec_l5Number.j0, spec_l1In_is, spec_l2Port_is, bind_s]
  by_cases h1 : a0 = 1
  · simp [h1]
  · by_cases h2 : a0 = 2
    · simp [h2]
    · by_cases h3 : a0 = 3
      · simp [h3]
      · by_cases h9 : a0 = 9 <;> simp [h1, h2, h3, h9]
theorem spec_l5Proto_is (a : Int) : spec_l5Proto.f a = some (protoB a) := by
  unfold spec_l5Proto.f protoB
  by_cases h : a = 6
  · rw [if_pos h]; simp [h]
  · rw [if_neg h]
    by_cases h2 : a = 17 <;> simp [h, h2]
theorem spec_l5Version_is (a : Int) : spec_l5Version.f a = some (inB a 0 1000000) := by unfold spec_l5Version.f; rw [spec_l1In_is, bind_s]
theorem cmd_j0_eq (k : Nat) : spec_CmdFault.j0 (k + 1) = impl_CmdFault.j0 (k + 1) := by
  funext x3 x4 x5 x6 x7 a b c d e f
  simp only [spec_CmdFault.j0, impl_CmdFault.j0]
theorem cmd_j0_ex (k : Nat) (x3 x4 x5 x6 x7 : Bool) (a b c d e f : Int) : ∃ r, impl_CmdFault.j0 (k + 1) x3 x4 x5 x6 x7 a b c d e f = some r := by
  simp only [impl_CmdFault.j0]
  repeat' (first | exact now_ex _ | refine ite_ex ?_ ?_)
theorem CmdFault_both (a0 a1 a2 a3 a4 a5 : Int) (k : Nat) (hk : 0 < k) : ∃ r, spec_CmdFault.f k a0 a1 a2 a3 a4 a5 = some r ∧ impl_CmdFault.f k a0 a1 a2 a3 a4 a5 = some r := by
  have hex : ∃ r, impl_CmdFault.f k a0 a1 a2 a3 a4 a5 = some r := by
    obtain ⟨k, rfl⟩ := at_succ hk
    unfold impl_CmdFault.f
    simp only [impl_in_is, impl_needs_is, impl_isName_is, impl_isAddress_is, impl_isNumber_is _ _ _ _ _ _ (k + 1) (by omega), impl_isProto_is, bind_s]
    repeat' (first | exact now_ex _ | exact cmd_j0_ex _ _ _ _ _ _ _ _ _ _ _ _ | refine ite_ex ?_ ?_)
  obtain ⟨r, hr⟩ := hex
  refine ⟨r, ?_, hr⟩
  rw [← hr]
  obtain ⟨k, rfl⟩ := at_succ hk
  unfold impl_CmdFault.f spec_CmdFault.f
  simp only [cmd_j0_eq, impl_in_is, impl_needs_is, impl_isName_is, impl_isAddress_is, impl_isNumber_is _ _ _ _ _ _ (k + 1) (by omega), impl_isProto_is, spec_l1In_is, spec_l5Needs_is, spec_l3Name_is, spec_l2Address_is, spec_l5Number_is _ _ _ _ _ _ (k + 1) (by omega), spec_l5Proto_is, spec_l5Version_is, bind_s]
  by_cases h : a1 = -1
  · subst h
    have e : inB (-1) (-1) 1000000 = true := by decide
    simp only [e, if_true]
  · have e : inB a1 (-1) 1000000 = inB a1 0 1000000 := by
      unfold inB
      have : (a1 ≥ -1) ↔ (a1 ≥ 0) := by omega
      rw [decide_eq_decide.2 this]
    simp only [h, e, if_false]
theorem UnpackCmd_both (l : List Int) (hb : IsBytes l) (hn : l.length ≤ 1048576) (k : Nat) (hk : 10 ≤ k) : ∃ r, spec_UnpackCmd.f k l = some r ∧ impl_UnpackCmd.f k l = some r := by
  unfold spec_UnpackCmd.f impl_UnpackCmd.f
  by_cases c : (l.length : Int) = 14
  · have q1 : spec_l1Take.f k l 1 4 = some (nm l 1 4) := spec_take_at l hb hn 1 4 (by omega) (by omega) k (by omega)
    have q2 : spec_l1Take.f k l 5 2 = some (nm l 5 2) := spec_take_at l hb hn 5 2 (by omega) (by omega) k (by omega)
    have q3 : spec_l1Take.f k l 7 4 = some (nm l 7 4) := spec_take_at l hb hn 7 4 (by omega) (by omega) k (by omega)
    have q4 : spec_l1Take.f k l 11 2 = some (nm l 11 2) := spec_take_at l hb hn 11 2 (by omega) (by omega) k (by omega)
    rw [if_pos c, if_pos c, if_pos (by omega), if_pos (by omega), q1, bind_s, q2, bind_s, q3, bind_s, q4, bind_s, if_pos (by omega)]
    rw [if_pos (by decide), if_pos (by omega), impl_number_at l hb 1 4 5 rfl (by omega) k (by omega), bind_s, if_pos (by decide), if_pos (by omega), impl_number_at l hb 5 2 7 rfl (by omega) k (by omega), bind_s]
    rw [if_pos (by decide), if_pos (by omega), impl_number_at l hb 7 4 11 rfl (by omega) k (by omega), bind_s, if_pos (by decide), if_pos (by omega), impl_number_at l hb 11 2 13 rfl (by omega) k (by omega), bind_s, if_pos (by omega)]
    obtain ⟨r, h1, h2⟩ := CmdFault_both (wrap64 (rd l 0)) (wrap64 (nm l 1 4 - 1)) (nm l 5 2) (nm l 7 4) (nm l 11 2) (wrap64 (rd l 13)) k (by omega)
    rw [h1, h2, bind_s]
    by_cases c2 : r = 0
    · rw [if_pos c2]; exact ⟨_, rfl, rfl⟩
    · rw [if_neg c2]; exact ⟨_, rfl, rfl⟩
  · rw [if_neg c, if_neg c]; exact ⟨_, rfl, rfl⟩
theorem eqCmdResult_self (x a b c d e f : Int) : laws_eqCmdResult.f x a b c d e f x a b c d e f = some true := by
  unfold laws_eqCmdResult.f laws_eqCmd.f
  rw [if_pos rfl, if_pos rfl, if_pos rfl, if_pos rfl, if_pos rfl, if_pos rfl, if_pos rfl, bind_s, if_pos rfl]
theorem FnExactUnpackCmd : laws_FnExactUnpackCmd.Pure := by
  intro l _ _ hb
  have hb := IsBytes.of hb
  refine ⟨2 * l.length + 300, ?_⟩
  unfold laws_FnExactUnpackCmd.f
  by_cases h : (l.length : Int) > 1048576
  · rw [if_pos h]
  · rw [if_neg h, toByteS_self l (by omega) _ (by omega)]
    simp only [bind_s]
    obtain ⟨r, h1, h2⟩ := UnpackCmd_both l hb (by omega) (2 * l.length + 300) (by omega)
    rw [h1, h2]
    simp only [bind_s]
    rw [eqCmdResult_self, bind_s, if_pos rfl, eqByteS_self l (by omega) _ (by omega), bind_s, if_pos rfl]
end Go.Proofs.Ytaellhlkjjooiaa.Pure
