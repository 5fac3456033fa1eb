/- WHAT THIS TEXT PROVES: the pure statement of the law FnExactHashFlow, over plain functions on numbers and lists. No condition beyond the statement's own. -/
import Derived.Test.YtaellhlkjjooiaaSFnExactHashFlow
import Derived.Laws.BitsLemmas
import Derived.IntWalk
namespace Go.Proofs.Ytaellhlkjjooiaa.Pure
open Go.RowKit Go.Proofs.Ytaellhlkjjooiaa.QFnExactHashFlow Go.Proofs.YtaellhlkjjooiaaW.PrintWords Go.Proofs.YtaellhlkjjooiaaW.PrintLast Go.Proofs.YtaellhlkjjooiaaW.PrintMore Go.Proofs.Ytaellhlkjjooiaa.SFnExactHashFlow
set_option linter.unusedVariables false
set_option linter.unusedSimpArgs false
theorem w64 {n : Int} (h0 : -9223372036854775808 ≤ n) (h1 : n ≤ 9223372036854775807) : wrap64 n = n := by unfold wrap64; omega
theorem w64n (i : Nat) (h : i < 9223372036854775807) : wrap64 ((i : Int) + 1) = ((i + 1 : Nat) : Int) := by
  rw [w64 (by omega) (by omega)]; omega
theorem rd_nat (xs : List Int) (i : Nat) : rd xs (i : Int) = xs.getD i 0 := by simp [rd]
theorem at_succ {k d : Nat} (h : d < k) : ∃ m, k = m + 1 := ⟨k - 1, by omega⟩
theorem drop_cons (xs : List Int) (i : Nat) (h : i < xs.length) : xs.drop i = xs.getD i 0 :: xs.drop (i + 1) := by
  rw [List.drop_eq_getElem_cons h]; simp [List.getD, h]
theorem set_take (x0 x3 : List Int) (i : Nat) (hl : x3.length = x0.length) (hi : i < x0.length) (ht : x3.take i = x0.take i) :
    (x3.set i (x0.getD i 0)).take (i + 1) = x0.take (i + 1) := by
  apply List.ext_getElem?
  intro j
  by_cases hj : j < i
  · have h1 := congrArg (fun l : List Int => l[j]?) ht
    simp only [List.getElem?_take, hj, if_true] at h1
    simp only [List.getElem?_take, show j < i + 1 by omega, if_true]
    rw [List.getElem?_set_ne (by omega)]; exact h1
  · by_cases e : j = i
    · subst e
      simp only [List.getElem?_take, show j < j + 1 by omega, if_true]
      rw [List.getElem?_set_self (by omega)]
      simp [List.getD, hi]
    · simp only [List.getElem?_take, show ¬ j < i + 1 by omega, if_false]
theorem bind_s {α β : Type} (a : α) (f : α → Option β) : (some a).bind f = f a := Eq.trans (Option.bind_some a f) (Eq.refl _)
def inB (a lo hi : Int) : Bool := decide (a ≥ lo) && decide (a ≤ hi)
def protoB (a : Int) : Bool := decide (a = 6) || decide (a = 17)
theorem impl_in_is (a lo hi : Int) : impl_in.f a lo hi = some (inB a lo hi) := by
  unfold impl_in.f inB
  by_cases h : a ≥ lo <;> simp [h]
theorem spec_l1In_is (a lo hi : Int) : spec_l1In.f a lo hi = some (inB a lo hi) := by
  unfold spec_l1In.f inB
  by_cases h : a ≥ lo <;> simp [h]
theorem spec_l2Address_is (a : Int) : spec_l2Address.f a = some (inB a 0 4294967295) := by unfold spec_l2Address.f; rw [spec_l1In_is, bind_s]
theorem spec_l2Port_is (a : Int) : spec_l2Port.f a = some (inB a 0 65535) := by unfold spec_l2Port.f; rw [spec_l1In_is, bind_s]
def pf (a b c d e : Int) (l : List Int) : Int :=
  if (inB a 0 4294967295 && (inB b 0 4294967295 && (protoB c && (inB d 0 65535 && inB e 0 65535)))) = true then (if (l.length : Int) > 200 then 2 else 0) else 3
theorem impl_isAddress_is (a : Int) : impl_isAddress.f a = some (inB a 0 4294967295) := by unfold impl_isAddress.f; rw [impl_in_is, bind_s]
theorem impl_isPort_is (a : Int) : impl_isPort.f a = some (inB a 0 65535) := by unfold impl_isPort.f; rw [impl_in_is, bind_s]
theorem impl_isProto_is (a : Int) : impl_isProto.f a = some (protoB a) := by
  unfold impl_isProto.f protoB
  by_cases h : a = 6
  · rw [if_pos h]; simp [h]
  · rw [if_neg h]
    by_cases h2 : a = 17 <;> simp [h, h2]
theorem impl_PacketFault_is (a b c d e : Int) (l : List Int) (k : Nat) (hk : 0 < k) : impl_PacketFault.f k a b c d e l = some (pf a b c d e l) := by
  obtain ⟨k, rfl⟩ := at_succ hk
  unfold impl_PacketFault.f pf
  rw [impl_isAddress_is, impl_isAddress_is, impl_isProto_is, impl_isPort_is, impl_isPort_is]
  simp only [bind_s, impl_PacketFault.j0]
  generalize inB a 0 4294967295 = x1
  generalize inB b 0 4294967295 = x2
  generalize protoB c = x3
  generalize inB d 0 65535 = x4
  generalize inB e 0 65535 = x5
  by_cases h : (l.length : Int) > 200
  · rw [if_pos h, if_pos h]; cases x1 <;> cases x2 <;> cases x3 <;> cases x4 <;> cases x5 <;> rfl
  · rw [if_neg h, if_neg h]; cases x1 <;> cases x2 <;> cases x3 <;> cases x4 <;> cases x5 <;> rfl
def mixStep (n h : Int) : Int := (h * 131 + n % 256 + 1) % 1000003
def mix4 (n h : Int) : Int := mixStep (n / 256 / 256 / 256) (mixStep (n / 256 / 256) (mixStep (n / 256) (mixStep n h)))
def mix (n salt : Int) : Int := mix4 (n % 4294967296) (salt % 10007 + 11)
theorem mixStep_bounds (n h : Int) : 0 ≤ mixStep n h ∧ mixStep n h < 1000003 := by unfold mixStep; omega
theorem mix_bounds (n salt : Int) : 0 ≤ mix n salt ∧ mix n salt < 1000003 := mixStep_bounds _ _
theorem mod_is (n m : Int) (h : 0 < m) (hm : m ≤ 4294967296) : Int.tmod (wrap64 (Int.tmod n m + m)) m = n % m := by
  have h1 : -m < Int.tmod n m := by
    have := Int.lt_tmod_of_pos n h; omega
  have h2 : Int.tmod n m < m := Int.tmod_lt_of_pos n h
  rw [w64 (by omega) (by omega), Int.tmod_eq_emod_of_nonneg (by omega), Int.add_emod_right]
  have := Int.mul_tdiv_add_tmod n m
  have e : n = Int.tmod n m + m * Int.tdiv n m := by omega
  conv => rhs; rw [e]
  rw [Int.add_mul_emod_self_left]
theorem mix_round (n h : Int) (h0 : 0 ≤ h) (h1 : h < 1000003) (hn : 0 ≤ n) :
    Int.tmod (wrap64 (wrap64 (wrap64 (h * 131) + Int.tmod n 256) + 1)) 1000003 = mixStep n h := by
  have a := Int.tmod_eq_emod_of_nonneg (b := 256) hn
  rw [a, w64 (n := h * 131) (by omega) (by omega), w64 (n := h * 131 + n % 256) (by omega) (by omega), w64 (by omega) (by omega), Int.tmod_eq_emod_of_nonneg (by omega)]
  rfl
theorem mix_down (n : Int) (hn : 0 ≤ n) (h1 : n ≤ 4294967296) : wrap64 (Int.tdiv n 256) = n / 256 := by
  rw [Int.tdiv_eq_ediv_of_nonneg hn, w64 (by omega) (by omega)]
theorem spec_MixNumber_l0 (n h : Int) (hn : 0 ≤ n) (hm : n ≤ 4294967296) (h0 : 0 ≤ h) (h1 : h < 1000003) (k : Nat) (hk : 5 ≤ k) : spec_MixNumber.l0 k n h 0 = some (mix4 n h) := by
  obtain ⟨k, rfl⟩ : ∃ m, k = m + 1 + 1 + 1 + 1 + 1 := ⟨k - 5, by omega⟩
  have a1 : wrap64 (0 + 1) = 1 := by rw [w64 (by omega) (by omega)]; rfl
  have a2 : wrap64 (1 + 1) = 2 := by rw [w64 (by omega) (by omega)]; rfl
  have a3 : wrap64 (2 + 1) = 3 := by rw [w64 (by omega) (by omega)]; rfl
  have a4 : wrap64 (3 + 1) = 4 := by rw [w64 (by omega) (by omega)]; rfl
  have b1 := mixStep_bounds n h
  have b2 := mixStep_bounds (n / 256) (mixStep n h)
  have b3 := mixStep_bounds (n / 256 / 256) (mixStep (n / 256) (mixStep n h))
  simp only [spec_MixNumber.l0]
  rw [a1, a2, a3, a4, if_pos (by decide), if_pos (by decide), if_pos (by decide), if_pos (by decide), if_neg (by decide)]
  rw [mix_down n hn hm, mix_down (n / 256) (by omega) (by omega), mix_down (n / 256 / 256) (by omega) (by omega)]
  rw [mix_round n h h0 h1 hn, mix_round (n / 256) _ b1.1 b1.2 (by omega), mix_round (n / 256 / 256) _ b2.1 b2.2 (by omega), mix_round (n / 256 / 256 / 256) _ b3.1 b3.2 (by omega)]
  rfl
theorem spec_MixNumber_is (n salt : Int) (k : Nat) (hk : 5 ≤ k) : spec_MixNumber.f k n salt = some (mix n salt) := by
  unfold spec_MixNumber.f spec_l3Mod.f
  rw [if_neg (by decide), if_neg (by decide), mod_is salt 10007 (by decide) (by decide), mod_is n 4294967296 (by decide) (by decide)]
  simp only [Option.bind_some]
  rw [w64 (by omega) (by omega)]
  exact spec_MixNumber_l0 _ _ (by omega) (by omega) (by omega) (by omega) k hk
theorem impl_MixNumber_l0 (n h : Int) (hn : 0 ≤ n) (hm : n ≤ 4294967296) (h0 : 0 ≤ h) (h1 : h < 1000003) (k : Nat) (hk : 5 ≤ k) : impl_MixNumber.l0 k n h 0 = some (mix4 n h) := by
  obtain ⟨k, rfl⟩ : ∃ m, k = m + 1 + 1 + 1 + 1 + 1 := ⟨k - 5, by omega⟩
  have a1 : wrap64 (0 + 1) = 1 := by rw [w64 (by omega) (by omega)]; rfl
  have a2 : wrap64 (1 + 1) = 2 := by rw [w64 (by omega) (by omega)]; rfl
  have a3 : wrap64 (2 + 1) = 3 := by rw [w64 (by omega) (by omega)]; rfl
  have a4 : wrap64 (3 + 1) = 4 := by rw [w64 (by omega) (by omega)]; rfl
  have b1 := mixStep_bounds n h
  have b2 := mixStep_bounds (n / 256) (mixStep n h)
  have b3 := mixStep_bounds (n / 256 / 256) (mixStep (n / 256) (mixStep n h))
  simp only [impl_MixNumber.l0]
  rw [a1, a2, a3, a4, if_pos (by decide), if_pos (by decide), if_pos (by decide), if_pos (by decide), if_neg (by decide)]
  rw [mix_down n hn hm, mix_down (n / 256) (by omega) (by omega), mix_down (n / 256 / 256) (by omega) (by omega)]
  rw [mix_round n h h0 h1 hn, mix_round (n / 256) _ b1.1 b1.2 (by omega), mix_round (n / 256 / 256) _ b2.1 b2.2 (by omega), mix_round (n / 256 / 256 / 256) _ b3.1 b3.2 (by omega)]
  rfl
theorem impl_MixNumber_is (n salt : Int) (k : Nat) (hk : 5 ≤ k) : impl_MixNumber.f k n salt = some (mix n salt) := by
  unfold impl_MixNumber.f impl_rest.f
  rw [if_neg (by decide), if_neg (by decide), mod_is salt 10007 (by decide) (by decide), mod_is n 4294967296 (by decide) (by decide)]
  simp only [Option.bind_some]
  rw [w64 (by omega) (by omega)]
  exact impl_MixNumber_l0 _ _ (by omega) (by omega) (by omega) (by omega) k hk
theorem spec_l3Hash_l0 (a b c d e : Int) (k : Nat) (hk : 12 ≤ k) : spec_l3Hash.f k a b c d e = some (mix e (mix d (mix c (mix b (mix a 7))))) := by
  obtain ⟨k, rfl⟩ : ∃ j, k = j + 1 + 1 + 1 + 1 + 1 + 1 := ⟨k - 6, by omega⟩
  have w0 : wrap64 ((0 : Int) + 1) = 1 := w64 (by omega) (by omega)
  have w1 : wrap64 ((1 : Int) + 1) = 2 := w64 (by omega) (by omega)
  have w2 : wrap64 ((2 : Int) + 1) = 3 := w64 (by omega) (by omega)
  have w3 : wrap64 ((3 : Int) + 1) = 4 := w64 (by omega) (by omega)
  have w4 : wrap64 ((4 : Int) + 1) = 5 := w64 (by omega) (by omega)
  have r0 : rd [a, b, c, d, e] 0 = a := rfl
  have r1 : rd [a, b, c, d, e] 1 = b := rfl
  have r2 : rd [a, b, c, d, e] 2 = c := rfl
  have r3 : rd [a, b, c, d, e] 3 = d := rfl
  have r4 : rd [a, b, c, d, e] 4 = e := rfl
  unfold spec_l3Hash.f
  rw [spec_l3Hash.l0.eq_2, if_pos (by simp), if_pos (by omega), r0, spec_MixNumber_is _ _ _ (by omega), bind_s, w0]
  rw [spec_l3Hash.l0.eq_2, if_pos (by simp), if_pos (by omega), r1, spec_MixNumber_is _ _ _ (by omega), bind_s, w1]
  rw [spec_l3Hash.l0.eq_2, if_pos (by simp), if_pos (by omega), r2, spec_MixNumber_is _ _ _ (by omega), bind_s, w2]
  rw [spec_l3Hash.l0.eq_2, if_pos (by simp), if_pos (by omega), r3, spec_MixNumber_is _ _ _ (by omega), bind_s, w3]
  rw [spec_l3Hash.l0.eq_2, if_pos (by simp), if_pos (by omega), r4, spec_MixNumber_is _ _ _ (by omega), bind_s, w4]
  rw [spec_l3Hash.l0.eq_2, if_neg (by simp)]
theorem impl_hash_is (a b c d e : Int) (k : Nat) (hk : 12 ≤ k) : impl_Flow_hash.f k a b c d e = some (mix e (mix d (mix c (mix b (mix a 7))))) := by
  obtain ⟨k, rfl⟩ : ∃ j, k = j + 1 + 1 + 1 + 1 + 1 + 1 := ⟨k - 6, by omega⟩
  have w0 : wrap64 ((0 : Int) + 1) = 1 := w64 (by omega) (by omega)
  have w1 : wrap64 ((1 : Int) + 1) = 2 := w64 (by omega) (by omega)
  have w2 : wrap64 ((2 : Int) + 1) = 3 := w64 (by omega) (by omega)
  have w3 : wrap64 ((3 : Int) + 1) = 4 := w64 (by omega) (by omega)
  have w4 : wrap64 ((4 : Int) + 1) = 5 := w64 (by omega) (by omega)
  have r0 : [a, b, c, d, e].getD (0 : Int).toNat 0 = a := rfl
  have r1 : [a, b, c, d, e].getD (1 : Int).toNat 0 = b := rfl
  have r2 : [a, b, c, d, e].getD (2 : Int).toNat 0 = c := rfl
  have r3 : [a, b, c, d, e].getD (3 : Int).toNat 0 = d := rfl
  have r4 : [a, b, c, d, e].getD (4 : Int).toNat 0 = e := rfl
  unfold impl_Flow_hash.f
  rw [impl_Flow_hash.l0.eq_2, if_pos (by omega), if_pos (by omega), r0, impl_MixNumber_is _ _ _ (by omega), bind_s, w0]
  rw [impl_Flow_hash.l0.eq_2, if_pos (by omega), if_pos (by omega), r1, impl_MixNumber_is _ _ _ (by omega), bind_s, w1]
  rw [impl_Flow_hash.l0.eq_2, if_pos (by omega), if_pos (by omega), r2, impl_MixNumber_is _ _ _ (by omega), bind_s, w2]
  rw [impl_Flow_hash.l0.eq_2, if_pos (by omega), if_pos (by omega), r3, impl_MixNumber_is _ _ _ (by omega), bind_s, w3]
  rw [impl_Flow_hash.l0.eq_2, if_pos (by omega), if_pos (by omega), r4, impl_MixNumber_is _ _ _ (by omega), bind_s, w4]
  rw [impl_Flow_hash.l0.eq_2, if_neg (by omega)]
def flowB (a b c d e : Int) : Bool := inB a 0 4294967295 && (inB b 0 4294967295 && (protoB c && (inB d 0 65535 && inB e 0 65535)))
theorem spec_l3Flow_is (a b c d e : Int) : spec_l3Flow.f a b c d e = some (flowB a b c d e) := by
  unfold spec_l3Flow.f flowB
  simp only [spec_l2Address_is, spec_l2Port_is, bind_s]
  have hp : protoB c = (decide (c = 6) || decide (c = 17)) := rfl
  rw [hp]
  generalize inB a 0 4294967295 = x1
  generalize inB b 0 4294967295 = x2
  generalize inB d 0 65535 = x4
  generalize inB e 0 65535 = x5
  by_cases h6 : c = 6
  · simp only [h6, if_true]; cases x1 <;> cases x2 <;> cases x4 <;> cases x5 <;> rfl
  · by_cases h7 : c = 17
    · simp only [h7]; cases x1 <;> cases x2 <;> cases x4 <;> cases x5 <;> rfl
    · simp only [h6, h7, if_false, decide_false]; cases x1 <;> cases x2 <;> cases x4 <;> cases x5 <;> rfl
theorem impl_isFlow_is (a b c d e : Int) (k : Nat) (hk : 0 < k) : impl_isFlow.f k a b c d e = some (flowB a b c d e) := by
  unfold impl_isFlow.f
  rw [impl_PacketFault_is a b c d e [] k hk, bind_s]
  unfold pf flowB
  generalize (inB a 0 4294967295 && (inB b 0 4294967295 && (protoB c && (inB d 0 65535 && inB e 0 65535)))) = x
  cases x <;> simp
def hashR (a b c d e : Int) : Int × Int := if flowB a b c d e = true then (0, mix e (mix d (mix c (mix b (mix a 7))))) else (3, 0)
theorem impl_HashFlow_is (a b c d e : Int) (k : Nat) (hk : 12 ≤ k) : impl_HashFlow.f k a b c d e = some (hashR a b c d e) := by
  unfold impl_HashFlow.f hashR
  rw [impl_isFlow_is a b c d e k (by omega), bind_s, impl_hash_is a b c d e k hk, bind_s]
  cases flowB a b c d e <;> rfl
theorem spec_HashFlow_is (a b c d e : Int) (k : Nat) (hk : 12 ≤ k) : spec_HashFlow.f k a b c d e = some (hashR a b c d e) := by
  unfold spec_HashFlow.f hashR
  rw [spec_l3Flow_is, bind_s, spec_l3Hash_l0 a b c d e k hk, bind_s]
  cases flowB a b c d e <;> rfl
theorem FnExactHashFlow : SFnExactHashFlow.Pure := by
  intro a b c d e _ _ _ _ _
  refine ⟨20, ?_⟩
  unfold laws_FnExactHashFlow.f laws_toFlow.f
  simp only [bind_s]
  rw [spec_HashFlow_is a b c d e 20 (by omega), impl_HashFlow_is a b c d e 20 (by omega)]
  simp only [bind_s]
  unfold laws_eqIntResult.f
  rw [if_pos rfl, if_pos rfl, bind_s, if_pos rfl]
end Go.Proofs.Ytaellhlkjjooiaa.Pure
