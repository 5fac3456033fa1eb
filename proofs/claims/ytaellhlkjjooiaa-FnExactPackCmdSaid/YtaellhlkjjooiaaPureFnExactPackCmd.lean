/- WHAT THIS TEXT PROVES: the pure statement of the law FnExactPackCmd, over plain functions on numbers and lists. No condition beyond the statement's own. -/
import Derived.Test.YtaellhlkjjooiaaSFnExactPackCmd
import Derived.Laws.BitsLemmas
import Derived.IntWalk
namespace Go.Proofs.Ytaellhlkjjooiaa.Pure
open Go.RowKit Go.Proofs.Ytaellhlkjjooiaa.QFnExactPackCmd Go.Proofs.YtaellhlkjjooiaaW.PrintWords Go.Proofs.YtaellhlkjjooiaaW.PrintLast Go.Proofs.YtaellhlkjjooiaaW.PrintMore Go.Proofs.Ytaellhlkjjooiaa.SFnExactPackCmd
set_option linter.unusedVariables false
set_option linter.unusedSimpArgs false
theorem w64 {n : Int} (h0 : -9223372036854775808 ≤ n) (h1 : n ≤ 9223372036854775807) : wrap64 n = n := by unfold wrap64; omega
theorem w64n (i : Nat) (h : i < 9223372036854775807) : wrap64 ((i : Int) + 1) = ((i + 1 : Nat) : Int) := by
  rw [w64 (by omega) (by omega)]; omega
theorem rd_nat (xs : List Int) (i : Nat) : rd xs (i : Int) = xs.getD i 0 := by simp [rd]
theorem at_succ {k d : Nat} (h : d < k) : ∃ m, k = m + 1 := ⟨k - 1, by omega⟩
theorem drop_cons (xs : List Int) (i : Nat) (h : i < xs.length) : xs.drop i = xs.getD i 0 :: xs.drop (i + 1) := by
  rw [List.drop_eq_getElem_cons h]; simp [List.getD, h]
theorem set_take (x0 x3 : List Int) (i : Nat) (hl : x3.length = x0.length) (hi : i < x0.length) (ht : x3.take i = x0.take i) :
    (x3.set i (x0.getD i 0)).take (i + 1) = x0.take (i + 1) := by
  apply List.ext_getElem?
  intro j
  by_cases hj : j < i
  · have h1 := congrArg (fun l : List Int => l[j]?) ht
    simp only [List.getElem?_take, hj, if_true] at h1
    simp only [List.getElem?_take, show j < i + 1 by omega, if_true]
    rw [List.getElem?_set_ne (by omega)]; exact h1
  · by_cases e : j = i
    · subst e
      simp only [List.getElem?_take, show j < j + 1 by omega, if_true]
      rw [List.getElem?_set_self (by omega)]
      simp [List.getD, hi]
    · simp only [List.getElem?_take, show ¬ j < i + 1 by omega, if_false]
theorem bind_s {α β : Type} (a : α) (f : α → Option β) : (some a).bind f = f a := Eq.trans (Option.bind_some a f) (Eq.refl _)
theorem eqByteS_l0 (x0 : List Int) (hn : x0.length ≤ 1048576) : ∀ (d k i : Nat), i + d = x0.length → d < k → laws_eqByteS.l0 k x0 x0 (i : Int) = some true := by
  intro d
  induction d with
  | zero =>
    intro k i hi hk
    obtain ⟨k, rfl⟩ := at_succ hk
    simp only [laws_eqByteS.l0]
    rw [if_neg (by omega)]
  | succ d ih =>
    intro k i hi hk
    obtain ⟨k, rfl⟩ := at_succ hk
    simp only [laws_eqByteS.l0]
    rw [if_pos (by omega), if_pos (by omega), if_pos (by omega), w64n i (by omega)]
    simp only [if_true]
    exact ih k (i + 1) (by omega) (by omega)
theorem eqByteS_self (l : List Int) (hn : l.length ≤ 1048576) (k : Nat) (hk : l.length < k) : laws_eqByteS.f k l l = some true := by
  unfold laws_eqByteS.f
  rw [if_pos rfl]
  exact eqByteS_l0 l hn l.length k 0 (by omega) hk
theorem set_snocByteS (x : List Int) (i : Nat) (v : Int) (h : i < x.length) : (x.set i v).take (i + 1) = x.take i ++ [v] := by
  apply List.ext_getElem?
  intro j
  by_cases hj : j < i
  · rw [List.getElem?_append_left (by rw [List.length_take]; omega)]
    simp only [List.getElem?_take, hj, show j < i + 1 by omega, if_true]
    rw [List.getElem?_set_ne (by omega)]
  · by_cases e : j = i
    · subst e
      rw [List.getElem?_append_right (by rw [List.length_take]; omega)]
      simp only [List.getElem?_take, show j < j + 1 by omega, if_true, List.length_take]
      rw [List.getElem?_set_self h, show j - min j x.length = 0 by omega]; rfl
    · simp only [List.getElem?_take, show ¬ j < i + 1 by omega, if_false]
      rw [List.getElem?_eq_none (by rw [List.length_append, List.length_take, List.length_singleton]; omega)]
def markedByteS (a n : Nat) : List Int := (List.range n).map fun (j : Nat) => ((a + j : Nat) : Int) % 256
theorem markedByteS_succ (a n : Nat) : markedByteS a (n + 1) = markedByteS a n ++ [(fun (j : Nat) => ((a + j : Nat) : Int) % 256) n] := by simp [markedByteS, List.range_succ]
theorem markedByteS_length (a n : Nat) : (markedByteS a n).length = n := by simp [markedByteS]
theorem markedByteS_at (a n i : Nat) (h : i < n) : (markedByteS a n).getD i 0 = (fun (j : Nat) => ((a + j : Nat) : Int) % 256) i := by simp [markedByteS, List.getD, h]
theorem markByteS_l0 (n a : Nat) (hn : n ≤ 4194304) (ha : a ≤ 2000000000) : ∀ (d k i : Nat) (x : List Int), x.length = n → i + d = n → d < k → x.take i = markedByteS a i → laws_markByteS.l0 k x ((a + i : Nat) : Int) (i : Int) = some (((a + n : Nat) : Int), markedByteS a n) := by
  intro d
  induction d with
  | zero =>
    intro k i x hl hi hk ht
    obtain ⟨k, rfl⟩ := at_succ hk
    simp only [laws_markByteS.l0]
    rw [if_neg (by omega)]
    obtain rfl : i = n := by omega
    rw [List.take_of_length_le (by omega)] at ht
    rw [ht]
  | succ d ih =>
    intro k i x hl hi hk ht
    obtain ⟨k, rfl⟩ := at_succ hk
    simp only [laws_markByteS.l0]
    rw [if_pos (by omega), if_pos (by omega), w64n i (by omega), w64n (a + i) (by omega), Int.toNat_natCast, show a + i + 1 = a + (i + 1) by omega]
    exact ih k (i + 1) _ (by simp [hl]) (by omega) (by omega) (by rw [set_snocByteS x i _ (by omega), ht, markedByteS_succ])
theorem markByteS_is (l : List Int) (a : Nat) (hn : l.length ≤ 4194304) (ha : a ≤ 2000000000) (k : Nat) (hk : l.length < k) : laws_markByteS.f k l (a : Int) = some (((a + l.length : Nat) : Int), markedByteS a l.length) := by
  unfold laws_markByteS.f
  exact markByteS_l0 l.length a hn ha l.length k 0 l rfl (by omega) hk (by simp [markedByteS])
theorem heldByteS_l0 (n a : Nat) (hn : n ≤ 4194304) (ha : a ≤ 2000000000) : ∀ (d k i : Nat), i + d = n → d < k → laws_heldByteS.l0 k (markedByteS a n) ((a + i : Nat) : Int) (i : Int) = some ((a + n : Nat) : Int) := by
  intro d
  induction d with
  | zero =>
    intro k i hi hk
    obtain ⟨k, rfl⟩ := at_succ hk
    simp only [laws_heldByteS.l0]
    rw [if_neg (by rw [markedByteS_length]; omega), show i = n by omega]
  | succ d ih =>
    intro k i hi hk
    obtain ⟨k, rfl⟩ := at_succ hk
    simp only [laws_heldByteS.l0]
    rw [if_pos (by rw [markedByteS_length]; omega), if_pos (by omega), rd_nat, markedByteS_at a n i (by omega)]
    rw [if_pos rfl, w64n i (by omega), w64n (a + i) (by omega), show a + i + 1 = a + (i + 1) by omega]
    exact ih k (i + 1) (by omega) (by omega)
theorem heldByteS_is (n a : Nat) (hn : n ≤ 4194304) (ha : a ≤ 2000000000) (k : Nat) (hk : n < k) : laws_heldByteS.f k (markedByteS a n) (a : Int) = some ((a + n : Nat) : Int) := by
  unfold laws_heldByteS.f
  exact heldByteS_l0 n a hn ha n k 0 (by omega) hk
theorem eqBytesResult_self (c : Int) (l : List Int) (hn : l.length ≤ 1048576) (k : Nat) (hk : l.length < k) : laws_eqBytesResult.f k c l c l = some true := by
  unfold laws_eqBytesResult.f
  rw [if_pos rfl, eqByteS_self l hn k hk]; rfl
theorem markBytesResult_is (c : Int) (l : List Int) (hn : l.length ≤ 1048576) (k : Nat) (hk : l.length < k) : laws_markBytesResult.f k c l 1 = some (((1 + l.length : Nat) : Int), markedByteS 1 l.length) := by
  unfold laws_markBytesResult.f
  rw [show (1 : Int) = ((1 : Nat) : Int) from rfl, markByteS_is l 1 (by omega) (by omega) k hk]; rfl
theorem heldBytesResult_is (c : Int) (n : Nat) (hn : n ≤ 1048576) (k : Nat) (hk : n < k) : laws_heldBytesResult.f k c (markedByteS 1 n) 1 = some ((1 + n : Nat) : Int) := by
  unfold laws_heldBytesResult.f
  rw [show (1 : Int) = ((1 : Nat) : Int) from rfl, heldByteS_is n 1 (by omega) (by omega) k hk]
  simp only [Option.bind_some]
  rw [if_neg (by omega)]
def inB (a lo hi : Int) : Bool := decide (a ≥ lo) && decide (a ≤ hi)
def protoB (a : Int) : Bool := decide (a = 6) || decide (a = 17)
theorem impl_in_is (a lo hi : Int) : impl_in.f a lo hi = some (inB a lo hi) := by
  unfold impl_in.f inB
  by_cases h : a ≥ lo <;> simp [h]
theorem spec_l1In_is (a lo hi : Int) : spec_l1In.f a lo hi = some (inB a lo hi) := by
  unfold spec_l1In.f inB
  by_cases h : a ≥ lo <;> simp [h]
theorem impl_isName_is (a : Int) : impl_isName.f a = some (inB a 1 999) := by unfold impl_isName.f; rw [impl_in_is, bind_s]
theorem spec_l3Name_is (a : Int) : spec_l3Name.f a = some (inB a 1 999) := by unfold spec_l3Name.f; rw [spec_l1In_is, bind_s]
theorem impl_isAddress_is (a : Int) : impl_isAddress.f a = some (inB a 0 4294967295) := by unfold impl_isAddress.f; rw [impl_in_is, bind_s]
theorem impl_isPort_is (a : Int) : impl_isPort.f a = some (inB a 0 65535) := by unfold impl_isPort.f; rw [impl_in_is, bind_s]
theorem impl_isProto_is (a : Int) : impl_isProto.f a = some (protoB a) := by
  unfold impl_isProto.f protoB
  by_cases h : a = 6
  · rw [if_pos h]; simp [h]
  · rw [if_neg h]
    by_cases h2 : a = 17 <;> simp [h, h2]
theorem spec_l2Address_is (a : Int) : spec_l2Address.f a = some (inB a 0 4294967295) := by unfold spec_l2Address.f; rw [spec_l1In_is, bind_s]
theorem spec_l2Port_is (a : Int) : spec_l2Port.f a = some (inB a 0 65535) := by unfold spec_l2Port.f; rw [spec_l1In_is, bind_s]
def needsR (a : Int) : Bool × Bool × Bool × Bool := (!inB a 5 6, decide (a = 1) || inB a 5 8, (a != 4), inB a 5 8)
def numB (kind n : Int) : Bool := if kind = 1 ∨ kind = 2 then inB n 0 9 else if kind = 3 then inB n 1 3 else if kind = 9 then inB n 0 1 else inB n 0 65535
theorem ite_ex {α : Type} {c : Prop} [Decidable c] {a b : Option α} (h : ∃ r, a = some r) (h2 : ∃ r, b = some r) : ∃ r, (if c then a else b) = some r := by
  by_cases hc : c
  · rw [if_pos hc]; exact h
  · rw [if_neg hc]; exact h2
theorem now_ex {α : Type} (a : α) : ∃ r, some a = some r := ⟨a, rfl⟩
theorem impl_needs_is (a : Int) : impl_needs.f a = some (needsR a) := by
  unfold impl_needs.f needsR
  rw [impl_in_is, bind_s, impl_in_is, bind_s]
  by_cases h : a = 1 <;> simp [h]
theorem spec_l5Needs_is (a : Int) : spec_l5Needs.f a = some (needsR a) := by
  unfold spec_l5Needs.f needsR
  rw [spec_l1In_is, bind_s]
  by_cases h5 : a = 5
  · subst h5; decide
  · by_cases h1 : a = 1
    · subst h1; decide
    · have e : (a != 6) = !inB a 5 6 := by
        unfold inB
        by_cases h6 : a = 6
        · subst h6; decide
        · have : ¬ (a ≥ 5 ∧ a ≤ 6) := by omega
          have h2 : (decide (a ≥ 5) && decide (a ≤ 6)) = false := by
            rw [← Bool.decide_and]; exact decide_eq_false this
          rw [h2]; simp [h6]
      rw [if_neg h5, if_neg h1, e]; simp [h1]
theorem impl_isNumber_is (a0 a1 a2 a3 a4 a5 : Int) (k : Nat) (hk : 0 < k) : impl_isNumber.f k a0 a1 a2 a3 a4 a5 = some (numB a0 a4) := by
  obtain ⟨k, rfl⟩ := at_succ hk
  unfold impl_isNumber.f numB
  simp only [impl_isNumber.j0, impl_in_is, impl_isPort_is, bind_s]
  by_cases h1 : a0 = 1
  · simp [h1]
  · by_cases h2 : a0 = 2
    · simp [h2]
    · by_cases h3 : a0 = 3
      · simp [h3]
      · by_cases h9 : a0 = 9 <;> simp [h1, h2, h3, h9]
theorem spec_l5Number_is (a0 a1 a2 a3 a4 a5 : Int) (k : Nat) (hk : 0 < k) : spec_l5Number.f k a0 a1 a2 a3 a4 a5 = some (numB a0 a4) := by
  obtain ⟨k, rfl⟩ := at_succ hk
  unfold spec_l5Number.f numB
  simp only [spec_l5Number.j0, spec_l1In_is, spec_l2Port_is, bind_s]
  by_cases h1 : a0 = 1
  · simp [h1]
  · by_cases h2 : a0 = 2
    · simp [h2]
    · by_cases h3 : a0 = 3
      · simp [h3]
      · by_cases h9 : a0 = 9 <;> simp [h1, h2, h3, h9]
theorem spec_l5Proto_is (a : Int) : spec_l5Proto.f a = some (protoB a) := by
  unfold spec_l5Proto.f protoB
  by_cases h : a = 6
  · rw [if_pos h]; simp [h]
  · rw [if_neg h]
    by_cases h2 : a = 17 <;> simp [h, h2]
theorem spec_l5Version_is (a : Int) : spec_l5Version.f a = some (inB a 0 1000000) := by unfold spec_l5Version.f; rw [spec_l1In_is, bind_s]
theorem cmd_j0_eq (k : Nat) : spec_CmdFault.j0 (k + 1) = impl_CmdFault.j0 (k + 1) := by
  funext x3 x4 x5 x6 x7 a b c d e f
  simp only [spec_CmdFault.j0, impl_CmdFault.j0]
theorem cmd_j0_ex (k : Nat) (x3 x4 x5 x6 x7 : Bool) (a b c d e f : Int) : ∃ r, impl_CmdFault.j0 (k + 1) x3 x4 x5 x6 x7 a b c d e f = some r := by
  simp only [impl_CmdFault.j0]
  repeat' (first | exact now_ex _ | refine ite_ex ?_ ?_)
theorem CmdFault_both (a0 a1 a2 a3 a4 a5 : Int) (k : Nat) (hk : 0 < k) : ∃ r, spec_CmdFault.f k a0 a1 a2 a3 a4 a5 = some r ∧ impl_CmdFault.f k a0 a1 a2 a3 a4 a5 = some r := by
  have hex : ∃ r, impl_CmdFault.f k a0 a1 a2 a3 a4 a5 = some r := by
    obtain ⟨k, rfl⟩ := at_succ hk
    unfold impl_CmdFault.f
    simp only [impl_in_is, impl_needs_is, impl_isName_is, impl_isAddress_is, impl_isNumber_is _ _ _ _ _ _ (k + 1) (by omega), impl_isProto_is, bind_s]
    repeat' (first | exact now_ex _ | exact cmd_j0_ex _ _ _ _ _ _ _ _ _ _ _ _ | refine ite_ex ?_ ?_)
  obtain ⟨r, hr⟩ := hex
  refine ⟨r, ?_, hr⟩
  rw [← hr]
  obtain ⟨k, rfl⟩ := at_succ hk
  unfold impl_CmdFault.f spec_CmdFault.f
  simp only [cmd_j0_eq, impl_in_is, impl_needs_is, impl_isName_is, impl_isAddress_is, impl_isNumber_is _ _ _ _ _ _ (k + 1) (by omega), impl_isProto_is, spec_l1In_is, spec_l5Needs_is, spec_l3Name_is, spec_l2Address_is, spec_l5Number_is _ _ _ _ _ _ (k + 1) (by omega), spec_l5Proto_is, spec_l5Version_is, bind_s]
  by_cases h : a1 = -1
  · subst h
    have e : inB (-1) (-1) 1000000 = true := by decide
    simp only [e, if_true]
  · have e : inB a1 (-1) 1000000 = inB a1 0 1000000 := by
      unfold inB
      have : (a1 ≥ -1) ↔ (a1 ≥ 0) := by omega
      rw [decide_eq_decide.2 this]
    simp only [h, e, if_false]
theorem shr8 (n : Int) (s : Nat) (hs : s ≤ 7) : shr .i64 n ((8 * s : Nat) : Int) = n / 2 ^ (8 * s) := by
  unfold shr
  rw [Int.toNat_natCast, Nat.min_eq_left (by simp only [IntKind.bits]; omega)]
/-- The s lowest bytes of a number, the highest first. -/
def be (n : Int) : Nat → List Int
  | 0 => []
  | s + 1 => (n / 2 ^ (8 * s)) % 256 :: be n s
theorem be_length (n : Int) : ∀ s, (be n s).length = s
  | 0 => rfl
  | s + 1 => by simp [be, be_length n s]
theorem be_bytes (n : Int) : ∀ s, ∀ x ∈ be n s, 0 ≤ x ∧ x ≤ 255
  | 0 => fun x hx => by cases hx
  | s + 1 => fun x hx => by
    rcases List.mem_cons.1 hx with rfl | hx
    · omega
    · exact be_bytes n s x hx
theorem eight (s : Nat) (hs : s ≤ 7) : wrap64 (8 * (s : Int)) = ((8 * s : Nat) : Int) := by rw [w64 (by omega) (by omega)]; omega
theorem eightU (s : Nat) (hs : s ≤ 7) : IntKind.u64.wrap (wrap64 (8 * (s : Int))) = ((8 * s : Nat) : Int) := by
  rw [eight s hs, Go.IntKind.wrap_u64]; omega
theorem impl_put_l0 (n : Int) : ∀ (s k : Nat) (out : List Int), s ≤ 7 → s < k → out.length + s ≤ 1000000000 → impl_put.l0 k out n ((s : Int) - 1) = some (out ++ be n s) := by
  intro s
  induction s with
  | zero =>
    intro k out hs hk ho
    obtain ⟨k, rfl⟩ := at_succ hk
    simp only [impl_put.l0]
    rw [if_neg (by omega)]; simp [be]
  | succ s ih =>
    intro k out hs hk ho
    obtain ⟨k, rfl⟩ := at_succ hk
    simp only [impl_put.l0]
    rw [show ((s + 1 : Nat) : Int) - 1 = (s : Int) by omega, if_pos (by omega), eight s (by omega), if_pos (by omega), if_pos (by omega), shr8 n s (by omega), w64 (by omega) (by omega)]
    rw [ih k _ (by omega) (by omega) (by simp; omega)]; simp [be]
theorem impl_put_is (out : List Int) (n : Int) (s : Nat) (hs : s ≤ 7) (k : Nat) (hk : s < k) (ho : out.length + s ≤ 1000000000) : impl_put.f k out n (s : Int) = some (out ++ be n s) := by
  unfold impl_put.f
  rw [w64 (by omega) (by omega)]
  exact impl_put_l0 n s k out hs hk ho
theorem spec_l1Bytes_l0 (n : Int) : ∀ (s k : Nat) (out : List Int), s ≤ 7 → s < k → out.length + s ≤ 1000000000 → spec_l1Bytes.l0 k n out ((s : Int) - 1) = some (out ++ be n s) := by
  intro s
  induction s with
  | zero =>
    intro k out hs hk ho
    obtain ⟨k, rfl⟩ := at_succ hk
    simp only [spec_l1Bytes.l0]
    rw [if_neg (by omega)]; simp [be]
  | succ s ih =>
    intro k out hs hk ho
    obtain ⟨k, rfl⟩ := at_succ hk
    simp only [spec_l1Bytes.l0]
    rw [show ((s + 1 : Nat) : Int) - 1 = (s : Int) by omega, if_pos (by omega), eightU s (by omega), if_pos (by omega), if_pos (by omega), shr8 n s (by omega), w64 (by omega) (by omega)]
    rw [ih k _ (by omega) (by omega) (by simp; omega)]; simp [be]
theorem spec_l1Bytes_is (n : Int) (s : Nat) (hs : s ≤ 7) (k : Nat) (hk : s < k) : spec_l1Bytes.f k n (s : Int) = some (be n s) := by
  unfold spec_l1Bytes.f
  rw [w64 (by omega) (by omega)]
  have := spec_l1Bytes_l0 n s k [] hs hk (by simp; omega)
  simpa using this
def packL (a b c d e f : Int) : List Int := [a % 256] ++ be (wrap64 (b + 1)) 4 ++ be c 2 ++ be d 4 ++ be e 2 ++ [f % 256]
theorem packL_length (a b c d e f : Int) : (packL a b c d e f).length = 14 := by simp [packL, be_length]
theorem impl_packCmd_is (a b c d e f : Int) (k : Nat) (hk : 8 ≤ k) : impl_packCmd.f k a b c d e f = some (packL a b c d e f) := by
  unfold impl_packCmd.f
  have e2 : ((2 : Nat) : Int) = 2 := rfl
  have e4 : ((4 : Nat) : Int) = 4 := rfl
  rw [← e2, ← e4, impl_put_is [a % 256] _ 4 (by omega) k (by omega) (by simp), bind_s, impl_put_is _ c 2 (by omega) k (by omega) (by simp [be_length]), bind_s, impl_put_is _ d 4 (by omega) k (by omega) (by simp [be_length]), bind_s, impl_put_is _ e 2 (by omega) k (by omega) (by simp [be_length]), bind_s, if_pos (by simp [be_length])]
  rfl
theorem spec_l6Cmd_is (a b c d e f : Int) (k : Nat) (hk : 8 ≤ k) : spec_l6Cmd.f k a b c d e f = some (packL a b c d e f) := by
  unfold spec_l6Cmd.f
  have e2 : ((2 : Nat) : Int) = 2 := rfl
  have e4 : ((4 : Nat) : Int) = 4 := rfl
  rw [bind_s, ← e2, ← e4, spec_l1Bytes_is _ 4 (by omega) k (by omega), bind_s, if_pos (by simp [be_length]), bind_s, spec_l1Bytes_is _ 2 (by omega) k (by omega), bind_s, if_pos (by simp [be_length]), bind_s, spec_l1Bytes_is _ 4 (by omega) k (by omega), bind_s, if_pos (by simp [be_length]), bind_s, spec_l1Bytes_is _ 2 (by omega) k (by omega), bind_s, if_pos (by simp [be_length]), bind_s, bind_s, if_pos (by simp [be_length])]
  rfl
theorem PackCmd_both (a b c d e f : Int) (k : Nat) (hk : 8 ≤ k) : ∃ x l, (∀ k', 8 ≤ k' → impl_PackCmd.f k' a b c d e f = some (x, l)) ∧ spec_PackCmd.f k a b c d e f = some (x, l) ∧ l.length ≤ 14 := by
  obtain ⟨r, h1, h2⟩ := CmdFault_both a b c d e f k (by omega)
  have h3 : ∀ k', 8 ≤ k' → impl_CmdFault.f k' a b c d e f = some r := fun k' hk' => by
    obtain ⟨r', h1', h2'⟩ := CmdFault_both a b c d e f k' (by omega)
    rcases Nat.le_total k k' with hl | hl
    · obtain ⟨m, rfl⟩ : ∃ m, k' = k + m := ⟨k' - k, by omega⟩
      have : ∀ m, impl_CmdFault.f (k + m) a b c d e f = some r := fun m => by
        induction m with
        | zero => exact h2
        | succ m ih => exact impl_CmdFault.mono _ _ _ _ _ _ _ _ ih
      exact this m
    · obtain ⟨m, rfl⟩ : ∃ m, k = k' + m := ⟨k - k', by omega⟩
      have : ∀ m, impl_CmdFault.f (k' + m) a b c d e f = some r' := fun m => by
        induction m with
        | zero => exact h2'
        | succ m ih => exact impl_CmdFault.mono _ _ _ _ _ _ _ _ ih
      have hm := this m
      rw [h2] at hm
      rw [h2']; exact hm.symm
  unfold spec_PackCmd.f
  rw [h1, bind_s]
  by_cases c0 : r = 0
  · refine ⟨0, packL a b c d e f, fun k' hk' => ?_, ?_, by rw [packL_length]; omega⟩
    · unfold impl_PackCmd.f
      rw [h3 k' hk', bind_s, if_pos c0, impl_packCmd_is a b c d e f k' hk', bind_s]
    · rw [if_pos c0, spec_l6Cmd_is a b c d e f k hk, bind_s]
  · refine ⟨r, [], fun k' hk' => ?_, ?_, by simp⟩
    · unfold impl_PackCmd.f
      rw [h3 k' hk', bind_s, if_neg c0]
    · rw [if_neg c0]
theorem FnExactPackCmd : SFnExactPackCmd.Pure := by
  intro a b c d e f _ _ _ _ _ _
  refine ⟨100, ?_⟩
  obtain ⟨x, l, hi, hs, hl⟩ := PackCmd_both a b c d e f 100 (by omega)
  have h1 := hi 100 (by omega)
  unfold laws_FnExactPackCmd.f laws_toCmd.f
  simp only [bind_s]
  rw [hs, h1]
  simp only [bind_s]
  rw [eqBytesResult_self x l (by omega) 100 (by omega)]
  simp only [bind_s, if_true]
  rw [markBytesResult_is x l (by omega) 100 (by omega)]
  simp only [bind_s]
  rw [heldBytesResult_is x _ (by omega) 100 (by omega)]
  simp only [bind_s, if_true]
  rw [if_neg (by omega)]
  rw [if_neg (by omega)]
end Go.Proofs.Ytaellhlkjjooiaa.Pure
