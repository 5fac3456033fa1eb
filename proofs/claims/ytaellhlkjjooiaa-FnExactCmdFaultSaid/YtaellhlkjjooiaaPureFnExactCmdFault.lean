/- WHAT THIS TEXT PROVES: the pure statement of the law FnExactCmdFault, over plain functions on numbers and lists. No condition beyond the statement's own. -/
import Derived.Test.YtaellhlkjjooiaaSFnExactCmdFault
import Derived.Laws.BitsLemmas
import Derived.IntWalk
namespace Go.Proofs.Ytaellhlkjjooiaa.Pure
open Go.RowKit Go.Proofs.Ytaellhlkjjooiaa.QFnExactCmdFault Go.Proofs.YtaellhlkjjooiaaW.PrintWords Go.Proofs.YtaellhlkjjooiaaW.PrintLast Go.Proofs.YtaellhlkjjooiaaW.PrintMore Go.Proofs.Ytaellhlkjjooiaa.SFnExactCmdFault
set_option linter.unusedVariables false
set_option linter.unusedSimpArgs false
theorem w64 {n : Int} (h0 : -9223372036854775808 ≤ n) (h1 : n ≤ 9223372036854775807) : wrap64 n = n := by unfold wrap64; omega
theorem w64n (i : Nat) (h : i < 9223372036854775807) : wrap64 ((i : Int) + 1) = ((i + 1 : Nat) : Int) := by
  rw [w64 (by omega) (by omega)]; omega
theorem rd_nat (xs : List Int) (i : Nat) : rd xs (i : Int) = xs.getD i 0 := by simp [rd]
theorem at_succ {k d : Nat} (h : d < k) : ∃ m, k = m + 1 := ⟨k - 1, by omega⟩
theorem drop_cons (xs : List Int) (i : Nat) (h : i < xs.length) : xs.drop i = xs.getD i 0 :: xs.drop (i + 1) := by
  rw [List.drop_eq_getElem_cons h]; simp [List.getD, h]
theorem set_take (x0 x3 : List Int) (i : Nat) (hl : x3.length = x0.length) (hi : i < x0.length) (ht : x3.take i = x0.take i) :
    (x3.set i (x0.getD i 0)).take (i + 1) = x0.take (i + 1) := by
  apply List.ext_getElem?
  intro j
  by_cases hj : j < i
  · have h1 := congrArg (fun l : List Int => l[j]?) ht
    simp only [List.getElem?_take, hj, if_true] at h1
    simp only [List.getElem?_take, show j < i + 1 by omega, if_true]
    rw [List.getElem?_set_ne (by omega)]; exact h1
  · by_cases e : j = i
    · subst e
      simp only [List.getElem?_take, show j < j + 1 by omega, if_true]
      rw [List.getElem?_set_self (by omega)]
      simp [List.getD, hi]
    · simp only [List.getElem?_take, show ¬ j < i + 1 by omega, if_false]
theorem bind_s {α β : Type} (a : α) (f : α → Option β) : (some a).bind f = f a := Eq.trans (Option.bind_some a f) (Eq.refl _)
def inB (a lo hi : Int) : Bool := decide (a ≥ lo) && decide (a ≤ hi)
def protoB (a : Int) : Bool := decide (a = 6) || decide (a = 17)
theorem impl_in_is (a lo hi : Int) : impl_in.f a lo hi = some (inB a lo hi) := by
  unfold impl_in.f inB
  by_cases h : a ≥ lo <;> simp [h]
theorem spec_l1In_is (a lo hi : Int) : spec_l1In.f a lo hi = some (inB a lo hi) := by
  unfold spec_l1In.f inB
  by_cases h : a ≥ lo <;> simp [h]
theorem impl_isName_is (a : Int) : impl_isName.f a = some (inB a 1 999) := by unfold impl_isName.f; rw [impl_in_is, bind_s]
theorem spec_l3Name_is (a : Int) : spec_l3Name.f a = some (inB a 1 999) := by unfold spec_l3Name.f; rw [spec_l1In_is, bind_s]
theorem impl_isAddress_is (a : Int) : impl_isAddress.f a = some (inB a 0 4294967295) := by unfold impl_isAddress.f; rw [impl_in_is, bind_s]
theorem impl_isPort_is (a : Int) : impl_isPort.f a = some (inB a 0 65535) := by unfold impl_isPort.f; rw [impl_in_is, bind_s]
theorem impl_isProto_is (a : Int) : impl_isProto.f a = some (protoB a) := by
  unfold impl_isProto.f protoB
  by_cases h : a = 6
  · rw [if_pos h]; simp [h]
  · rw [if_neg h]
    by_cases h2 : a = 17 <;> simp [h, h2]
theorem spec_l2Address_is (a : Int) : spec_l2Address.f a = some (inB a 0 4294967295) := by unfold spec_l2Address.f; rw [spec_l1In_is, bind_s]
theorem spec_l2Port_is (a : Int) : spec_l2Port.f a = some (inB a 0 65535) := by unfold spec_l2Port.f; rw [spec_l1In_is, bind_s]
def needsR (a : Int) : Bool × Bool × Bool × Bool := (!inB a 5 6, decide (a = 1) || inB a 5 8, (a != 4), inB a 5 8)
def numB (kind n : Int) : Bool := if kind = 1 ∨ kind = 2 then inB n 0 9 else if kind = 3 then inB n 1 3 else if kind = 9 then inB n 0 1 else inB n 0 65535
theorem ite_ex {α : Type} {c : Prop} [Decidable c] {a b : Option α} (h : ∃ r, a = some r) (h2 : ∃ r, b = some r) : ∃ r, (if c then a else b) = some r := by
  by_cases hc : c
  · rw [if_pos hc]; exact h
  · rw [if_neg hc]; exact h2
theorem now_ex {α : Type} (a : α) : ∃ r, some a = some r := ⟨a, rfl⟩
theorem impl_needs_is (a : Int) : impl_needs.f a = some (needsR a) := by
  unfold impl_needs.f needsR
  rw [impl_in_is, bind_s, impl_in_is, bind_s]
  by_cases h : a = 1 <;> simp [h]
theorem spec_l5Needs_is (a : Int) : spec_l5Needs.f a = some (needsR a) := by
  unfold spec_l5Needs.f needsR
  rw [spec_l1In_is, bind_s]
  by_cases h5 : a = 5
  · subst h5; decide
  · by_cases h1 : a = 1
    · subst h1; decide
    · have e : (a != 6) = !inB a 5 6 := by
        unfold inB
        by_cases h6 : a = 6
        · subst h6; decide
        · have : ¬ (a ≥ 5 ∧ a ≤ 6) := by omega
          have h2 : (decide (a ≥ 5) && decide (a ≤ 6)) = false := by
            rw [← Bool.decide_and]; exact decide_eq_false this
          rw [h2]; simp [h6]
      rw [if_neg h5, if_neg h1, e]; simp [h1]
theorem impl_isNumber_is (a0 a1 a2 a3 a4 a5 : Int) (k : Nat) (hk : 0 < k) : impl_isNumber.f k a0 a1 a2 a3 a4 a5 = some (numB a0 a4) := by
  obtain ⟨k, rfl⟩ := at_succ hk
  unfold impl_isNumber.f numB
  simp only [impl_isNumber.j0, impl_in_is, impl_isPort_is, bind_s]
  by_cases h1 : a0 = 1
  · simp [h1]
  · by_cases h2 : a0 = 2
    · simp [h2]
    · by_cases h3 : a0 = 3
      · simp [h3]
      · by_cases h9 : a0 = 9 <;> simp [h1, h2, h3, h9]
theorem spec_l5Number_is (a0 a1 a2 a3 a4 a5 : Int) (k : Nat) (hk : 0 < k) : spec_l5Number.f k a0 a1 a2 a3 a4 a5 = some (numB a0 a4) := by
  obtain ⟨k, rfl⟩ := at_succ hk
  unfold spec_l5Number.f numB
  simp only [spec_l5Number.j0, spec_l1In_is, spec_l2Port_is, bind_s]
  by_cases h1 : a0 = 1
  · simp [h1]
  · by_cases h2 : a0 = 2
    · simp [h2]
    · by_cases h3 : a0 = 3
      · simp [h3]
      · by_cases h9 : a0 = 9 <;> simp [h1, h2, h3, h9]
theorem spec_l5Proto_is (a : Int) : spec_l5Proto.f a = some (protoB a) := by
  unfold spec_l5Proto.f protoB
  by_cases h : a = 6
  · rw [if_pos h]; simp [h]
  · rw [if_neg h]
    by_cases h2 : a = 17 <;> simp [h, h2]
theorem spec_l5Version_is (a : Int) : spec_l5Version.f a = some (inB a 0 1000000) := by unfold spec_l5Version.f; rw [spec_l1In_is, bind_s]
theorem cmd_j0_eq (k : Nat) : spec_CmdFault.j0 (k + 1) = impl_CmdFault.j0 (k + 1) := by
  funext x3 x4 x5 x6 x7 a b c d e f
  simp only [spec_CmdFault.j0, impl_CmdFault.j0]
theorem cmd_j0_ex (k : Nat) (x3 x4 x5 x6 x7 : Bool) (a b c d e f : Int) : ∃ r, impl_CmdFault.j0 (k + 1) x3 x4 x5 x6 x7 a b c d e f = some r := by
  simp only [impl_CmdFault.j0]
  repeat' (first | exact now_ex _ | refine ite_ex ?_ ?_)
theorem CmdFault_both (a0 a1 a2 a3 a4 a5 : Int) (k : Nat) (hk : 0 < k) : ∃ r, spec_CmdFault.f k a0 a1 a2 a3 a4 a5 = some r ∧ impl_CmdFault.f k a0 a1 a2 a3 a4 a5 = some r := by
  have hex : ∃ r, impl_CmdFault.f k a0 a1 a2 a3 a4 a5 = some r := by
    obtain ⟨k, rfl⟩ := at_succ hk
    unfold impl_CmdFault.f
    simp only [impl_in_is, impl_needs_is, impl_isName_is, impl_isAddress_is, impl_isNumber_is _ _ _ _ _ _ (k + 1) (by omega), impl_isProto_is, bind_s]
    repeat' (first | exact now_ex _ | exact cmd_j0_ex _ _ _ _ _ _ _ _ _ _ _ _ | refine ite_ex ?_ ?_)
  obtain ⟨r, hr⟩ := hex
  refine ⟨r, ?_, hr⟩
  rw [← hr]
  obtain ⟨k, rfl⟩ := at_succ hk
  unfold impl_CmdFault.f spec_CmdFault.f
  simp only [cmd_j0_eq, impl_in_is, impl_needs_is, impl_isName_is, impl_isAddress_is, impl_isNumber_is _ _ _ _ _ _ (k + 1) (by omega), impl_isProto_is, spec_l1In_is, spec_l5Needs_is, spec_l3Name_is, spec_l2Address_is, spec_l5Number_is _ _ _ _ _ _ (k + 1) (by omega), spec_l5Proto_is, spec_l5Version_is, bind_s]
  by_cases h : a1 = -1
  · subst h
    have e : inB (-1) (-1) 1000000 = true := by decide
    simp only [e, if_true]
  · have e : inB a1 (-1) 1000000 = inB a1 0 1000000 := by
      unfold inB
      have : (a1 ≥ -1) ↔ (a1 ≥ 0) := by omega
      rw [decide_eq_decide.2 this]
    simp only [h, e, if_false]
theorem FnExactCmdFault : SFnExactCmdFault.Pure := by
  intro a0 a1 a2 a3 a4 a5 _ _ _ _ _ _
  refine ⟨2, ?_⟩
  obtain ⟨r, h1, h2⟩ := CmdFault_both a0 a1 a2 a3 a4 a5 2 (by omega)
  unfold laws_FnExactCmdFault.f laws_toCmd.f
  simp only [bind_s]
  rw [h1, h2]
  simp only [bind_s, if_true]
end Go.Proofs.Ytaellhlkjjooiaa.Pure
