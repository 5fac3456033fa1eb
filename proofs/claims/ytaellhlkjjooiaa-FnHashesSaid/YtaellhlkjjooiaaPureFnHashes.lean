/- WHAT THIS TEXT PROVES: the pure statement of the law FnHashes, over plain functions on numbers and lists. No condition beyond the statement's own. -/
import Derived.Test.YtaellhlkjjooiaaQFnHashesx6
import Derived.Laws.BitsLemmas
import Derived.IntWalk
namespace Go.Proofs.Ytaellhlkjjooiaa.Pure
open Go.RowKit Go.Proofs.Ytaellhlkjjooiaa.QFnHashes Go.Proofs.YtaellhlkjjooiaaW.PrintWords Go.Proofs.YtaellhlkjjooiaaW.PrintLast Go.Proofs.YtaellhlkjjooiaaW.PrintMore
set_option linter.unusedVariables false
set_option linter.unusedSimpArgs false
theorem w64 {n : Int} (h0 : -9223372036854775808 ≤ n) (h1 : n ≤ 9223372036854775807) : wrap64 n = n := by unfold wrap64; omega
theorem w64n (i : Nat) (h : i < 9223372036854775807) : wrap64 ((i : Int) + 1) = ((i + 1 : Nat) : Int) := by
  rw [w64 (by omega) (by omega)]; omega
theorem rd_nat (xs : List Int) (i : Nat) : rd xs (i : Int) = xs.getD i 0 := by simp [rd]
theorem at_succ {k d : Nat} (h : d < k) : ∃ m, k = m + 1 := ⟨k - 1, by omega⟩
theorem drop_cons (xs : List Int) (i : Nat) (h : i < xs.length) : xs.drop i = xs.getD i 0 :: xs.drop (i + 1) := by
  rw [List.drop_eq_getElem_cons h]; simp [List.getD, h]
theorem set_take (x0 x3 : List Int) (i : Nat) (hl : x3.length = x0.length) (hi : i < x0.length) (ht : x3.take i = x0.take i) :
    (x3.set i (x0.getD i 0)).take (i + 1) = x0.take (i + 1) := by
  apply List.ext_getElem?
  intro j
  by_cases hj : j < i
  · have h1 := congrArg (fun l : List Int => l[j]?) ht
    simp only [List.getElem?_take, hj, if_true] at h1
    simp only [List.getElem?_take, show j < i + 1 by omega, if_true]
    rw [List.getElem?_set_ne (by omega)]; exact h1
  · by_cases e : j = i
    · subst e
      simp only [List.getElem?_take, show j < j + 1 by omega, if_true]
      rw [List.getElem?_set_self (by omega)]
      simp [List.getD, hi]
    · simp only [List.getElem?_take, show ¬ j < i + 1 by omega, if_false]
theorem bind_s {α β : Type} (a : α) (f : α → Option β) : (some a).bind f = f a := Eq.trans (Option.bind_some a f) (Eq.refl _)
theorem wf_i64 {n : Int} (h : (Lit.int .i64 n).wf = true) : -9223372036854775808 ≤ n ∧ n ≤ 9223372036854775807 := by
  simp only [Lit.wf, IntKind.min, IntKind.max, IntKind.signed, IntKind.bits, Bool.and_eq_true, decide_eq_true_eq, if_true] at h
  omega
theorem wf_u8 {n : Int} (h : (Lit.int .u8 n).wf = true) : 0 ≤ n ∧ n ≤ 255 := by
  simpa [Lit.wf, IntKind.min, IntKind.max, IntKind.signed, IntKind.bits] using h
def IsBytes (xs : List Int) : Prop := ∀ x ∈ xs, 0 ≤ x ∧ x ≤ 255
theorem IsBytes.of {xs : List Int} (h : ∀ x ∈ xs, (Lit.int .u8 x).wf = true) : IsBytes xs := fun x hx => wf_u8 (h x hx)
theorem IsBytes.at_ {xs : List Int} (h : IsBytes xs) (i : Nat) : 0 ≤ xs.getD i 0 ∧ xs.getD i 0 ≤ 255 := by
  by_cases hi : i < xs.length
  · have : xs.getD i 0 = xs[i] := by simp [List.getD, hi]
    rw [this]; exact h _ (List.getElem_mem hi)
  · rw [List.getD_eq_getElem?_getD, List.getElem?_eq_none (by omega)]; simp
theorem IsBytes.take_ {xs : List Int} (h : IsBytes xs) (i : Nat) : IsBytes (xs.take i) := fun x hx => h x (List.mem_of_mem_take hx)
theorem IsBytes.drop_ {xs : List Int} (h : IsBytes xs) (i : Nat) : IsBytes (xs.drop i) := fun x hx => h x (List.mem_of_mem_drop hx)
theorem IsBytes.append {xs ys : List Int} (h : IsBytes xs) (k : IsBytes ys) : IsBytes (xs ++ ys) := fun x hx => (List.mem_append.1 hx).elim (h x) (k x)
def inB (a lo hi : Int) : Bool := decide (a ≥ lo) && decide (a ≤ hi)
def protoB (a : Int) : Bool := decide (a = 6) || decide (a = 17)
theorem impl_in_is (a lo hi : Int) : impl_in.f a lo hi = some (inB a lo hi) := by
  unfold impl_in.f inB
  by_cases h : a ≥ lo <;> simp [h]
theorem spec_l1In_is (a lo hi : Int) : spec_l1In.f a lo hi = some (inB a lo hi) := by
  unfold spec_l1In.f inB
  by_cases h : a ≥ lo <;> simp [h]
def pf (a b c d e : Int) (l : List Int) : Int :=
  if (inB a 0 4294967295 && (inB b 0 4294967295 && (protoB c && (inB d 0 65535 && inB e 0 65535)))) = true then (if (l.length : Int) > 200 then 2 else 0) else 3
theorem impl_isAddress_is (a : Int) : impl_isAddress.f a = some (inB a 0 4294967295) := by unfold impl_isAddress.f; rw [impl_in_is, bind_s]
theorem impl_isPort_is (a : Int) : impl_isPort.f a = some (inB a 0 65535) := by unfold impl_isPort.f; rw [impl_in_is, bind_s]
theorem impl_isProto_is (a : Int) : impl_isProto.f a = some (protoB a) := by
  unfold impl_isProto.f protoB
  by_cases h : a = 6
  · rw [if_pos h]; simp [h]
  · rw [if_neg h]
    by_cases h2 : a = 17 <;> simp [h, h2]
theorem impl_PacketFault_is (a b c d e : Int) (l : List Int) (k : Nat) (hk : 0 < k) : impl_PacketFault.f k a b c d e l = some (pf a b c d e l) := by
  obtain ⟨k, rfl⟩ := at_succ hk
  unfold impl_PacketFault.f pf
  rw [impl_isAddress_is, impl_isAddress_is, impl_isProto_is, impl_isPort_is, impl_isPort_is]
  simp only [bind_s, impl_PacketFault.j0]
  generalize inB a 0 4294967295 = x1
  generalize inB b 0 4294967295 = x2
  generalize protoB c = x3
  generalize inB d 0 65535 = x4
  generalize inB e 0 65535 = x5
  by_cases h : (l.length : Int) > 200
  · rw [if_pos h, if_pos h]; cases x1 <;> cases x2 <;> cases x3 <;> cases x4 <;> cases x5 <;> rfl
  · rw [if_neg h, if_neg h]; cases x1 <;> cases x2 <;> cases x3 <;> cases x4 <;> cases x5 <;> rfl
theorem spec_l2Address_is (a : Int) : spec_l2Address.f a = some (inB a 0 4294967295) := by unfold spec_l2Address.f; rw [spec_l1In_is, bind_s]
theorem spec_l2Port_is (a : Int) : spec_l2Port.f a = some (inB a 0 65535) := by unfold spec_l2Port.f; rw [spec_l1In_is, bind_s]
theorem spec_PacketFault_is (a b c d e : Int) (l : List Int) (k : Nat) (hk : 0 < k) : spec_PacketFault.f k a b c d e l = some (pf a b c d e l) := by
  obtain ⟨k, rfl⟩ := at_succ hk
  unfold spec_PacketFault.f pf
  rw [spec_l2Address_is, spec_l2Address_is, spec_l2Port_is, spec_l2Port_is]
  simp only [bind_s, spec_PacketFault.j0]
  generalize inB a 0 4294967295 = x1
  generalize inB b 0 4294967295 = x2
  generalize inB d 0 65535 = x4
  generalize inB e 0 65535 = x5
  by_cases h6 : c = 6
  · have e3 : protoB c = true := by unfold protoB; simp [h6]
    rw [if_pos h6, e3]
    by_cases h : (l.length : Int) > 200
    · rw [if_pos h, if_pos h]; cases x1 <;> cases x2 <;> cases x4 <;> cases x5 <;> rfl
    · rw [if_neg h, if_neg h]; cases x1 <;> cases x2 <;> cases x4 <;> cases x5 <;> rfl
  · rw [if_neg h6]
    by_cases h17 : c = 17
    · have e3 : protoB c = true := by unfold protoB; simp [h17]
      rw [if_pos h17, e3]
      by_cases h : (l.length : Int) > 200
      · rw [if_pos h, if_pos h]; cases x1 <;> cases x2 <;> cases x4 <;> cases x5 <;> rfl
      · rw [if_neg h, if_neg h]; cases x1 <;> cases x2 <;> cases x4 <;> cases x5 <;> rfl
    · have e3 : protoB c = false := by unfold protoB; simp [h6, h17]
      rw [if_neg h17, e3]
      by_cases h : (l.length : Int) > 200
      · rw [if_pos h, if_pos h]; cases x1 <;> cases x2 <;> cases x4 <;> cases x5 <;> rfl
      · rw [if_neg h, if_neg h]; cases x1 <;> cases x2 <;> cases x4 <;> cases x5 <;> rfl
theorem Next_is (code : List Int) (hb : IsBytes code) (hn : code.length ≤ 2097152) (at_ n : Int) (h0 : 0 ≤ at_) (h1 : at_ ≤ 1073741824) (hn1 : n ≤ 4611686018427387904) :
    ∃ v, spec_l1Next.f code at_ n = some (v, at_ + 1) ∧ 0 ≤ v ∧ (1 ≤ n → v < n) ∧ (n < 1 → v = 0) := by
  unfold spec_l1Next.f
  have e1 : wrap64 (at_ + 1) = at_ + 1 := w64 (by omega) (by omega)
  have e2 : wrap64 (at_ + 1 - 1) = at_ := by rw [w64 (by omega) (by omega)]; omega
  rw [e1, e2]
  by_cases c : n < 1
  · rw [if_pos c]; exact ⟨0, rfl, by omega, by omega, fun _ => rfl⟩
  · rw [if_neg c]
    by_cases c2 : (code.length : Int) = 0
    · have e3 : wrap64 (at_ * 7) = at_ * 7 := w64 (by omega) (by omega)
      rw [if_pos c2, if_neg (by omega), e3]
      exact ⟨_, rfl, Int.tmod_nonneg n (by omega), fun _ => Int.tmod_lt_of_pos _ (by omega), fun h => absurd h c⟩
    · have hk : 0 < (code.length : Int) := by omega
      have t0 : 0 ≤ Int.tmod at_ code.length := Int.tmod_nonneg _ h0
      have t1 : Int.tmod at_ code.length < code.length := Int.tmod_lt_of_pos _ hk
      have b1 := hb.at_ (Int.tmod at_ code.length).toNat
      have hd : Int.tdiv at_ code.length = at_ / code.length := Int.tdiv_eq_ediv_of_nonneg h0
      have d0 : 0 ≤ at_ / code.length := Int.ediv_nonneg h0 (by omega)
      have d1 : at_ / code.length ≤ at_ := Int.ediv_le_self _ h0
      have r1 : rd code (Int.tmod at_ code.length) = code.getD (Int.tmod at_ code.length).toNat 0 := rfl
      rw [if_neg c2, if_pos t0, if_pos t1, hd, r1, w64 (n := at_ / code.length) (by omega) (by omega), w64 (n := at_ / code.length * 37) (by omega) (by omega)]
      rw [w64 (n := code.getD (Int.tmod at_ code.length).toNat 0) (by omega) (by omega), w64 (n := code.getD (Int.tmod at_ code.length).toNat 0 + at_ / code.length * 37) (by omega) (by omega)]
      by_cases c3 : n > 200
      · have s0 : 0 ≤ Int.tmod (wrap64 (at_ + 1)) code.length := by rw [e1]; exact Int.tmod_nonneg _ (by omega)
        have s1 : Int.tmod (wrap64 (at_ + 1)) code.length < code.length := Int.tmod_lt_of_pos _ hk
        have b2 := hb.at_ (Int.tmod (wrap64 (at_ + 1)) code.length).toNat
        have r2 : rd code (Int.tmod (wrap64 (at_ + 1)) code.length) = code.getD (Int.tmod (wrap64 (at_ + 1)) code.length).toNat 0 := rfl
        rw [e1] at s0 s1 b2 r2
        rw [if_pos c3, e1, if_pos s0, if_pos s1, if_neg (by omega), r2]
        generalize code.getD (Int.tmod at_ code.length).toNat 0 = x at *
        generalize code.getD (Int.tmod (at_ + 1) code.length).toNat 0 = y at *
        generalize at_ / code.length = q at *
        rw [w64 (n := y) (by omega) (by omega), w64 (n := y * 13) (by omega) (by omega), w64 (n := (x + q * 37) * 251) (by omega) (by omega), w64 (n := (x + q * 37) * 251 + y * 13) (by omega) (by omega), w64 (n := (x + q * 37) * 251 + y * 13 + at_) (by omega) (by omega)]
        exact ⟨_, rfl, Int.tmod_nonneg n (by omega), fun _ => Int.tmod_lt_of_pos _ (by omega), fun h => absurd h c⟩
      · rw [if_neg c3, if_neg (by omega)]
        exact ⟨_, rfl, Int.tmod_nonneg n (by omega), fun _ => Int.tmod_lt_of_pos _ (by omega), fun h => absurd h c⟩
theorem Pick_is (code : List Int) (hb : IsBytes code) (hn : code.length ≤ 2097152) (at_ : Int) (h0 : 0 ≤ at_) (h1 : at_ ≤ 1073741824) (l : List Int) (hl : 0 < l.length) (hl2 : l.length ≤ 1000) :
    ∃ v, spec_l1Pick.f code at_ l = some (v, at_ + 1) ∧ v ∈ l := by
  obtain ⟨v, hv, v0, v1, _⟩ := Next_is code hb hn at_ l.length h0 h1 (by omega)
  have v2 := v1 (by omega)
  unfold spec_l1Pick.f
  rw [hv, Option.bind_some, if_pos v0, if_pos v2]
  refine ⟨_, rfl, ?_⟩
  unfold rd
  have hlt : v.toNat < l.length := by omega
  have : l.getD v.toNat 0 = l[v.toNat] := by simp [List.getD, hlt]
  rw [this]; exact List.getElem_mem hlt
theorem l1Some_l0 (code : List Int) (hb : IsBytes code) (hn : code.length ≤ 2097152) : ∀ (d k : Nat) (out : List Int) (at_ : Nat), at_ + 3 * d ≤ 1073741824 → d < k → out.length + d ≤ 1000000000 →
    ∃ ys, spec_l1Some.l0 k (d : Int) out code (at_ : Int) = some (out ++ ys, ((at_ + 3 * d : Nat) : Int)) ∧ IsBytes ys ∧ ys.length = d := by
  intro d
  induction d with
  | zero =>
    intro k out at_ ha hk ho
    obtain ⟨k, rfl⟩ := at_succ hk
    simp only [spec_l1Some.l0]
    rw [if_neg (by omega)]
    exact ⟨[], by simp, (fun x hx => by cases hx), rfl⟩
  | succ d ih =>
    intro k out at_ ha hk ho
    obtain ⟨k, rfl⟩ := at_succ hk
    simp only [spec_l1Some.l0]
    obtain ⟨v1, e1, a1, b1, _⟩ := Next_is code hb hn at_ 256 (by omega) (by omega) (by omega)
    obtain ⟨v2, e2, a2, b2, _⟩ := Next_is code hb hn ((at_ : Int) + 1) 256 (by omega) (by omega) (by omega)
    obtain ⟨v3, e3, h3⟩ := Pick_is code hb hn ((at_ : Int) + 1 + 1) (by omega) (by omega) [v1, v2, 0, 255] (by simp) (by simp)
    rw [if_pos (by omega), e1, bind_s, e2, bind_s, e3, bind_s, if_pos (by omega)]
    have hw : wrap64 (((d + 1 : Nat) : Int) - 1) = (d : Int) := by rw [w64 (by omega) (by omega)]; omega
    have hat : (at_ : Int) + 1 + 1 + 1 = ((at_ + 3 : Nat) : Int) := by omega
    rw [hw, hat]
    obtain ⟨ys, h4, h5, h6⟩ := ih k (out ++ [v3 % 256]) (at_ + 3) (by omega) (by omega) (by simp; omega)
    refine ⟨v3 % 256 :: ys, ?_, fun x hx => ?_, by simp [h6]⟩
    · rw [h4]; simp; omega
    · rcases List.mem_cons.1 hx with rfl | hx
      · omega
      · exact h5 x hx
theorem l1Some_is (code : List Int) (hb : IsBytes code) (hn : code.length ≤ 2097152) (n : Int) (k : Nat) (at_ : Nat) (h0 : 0 ≤ n) (h1 : n ≤ 100000) (ha : at_ ≤ 1000000) (hk : n.toNat < k) :
    ∃ ys, spec_l1Some.f k code (at_ : Int) n = some (ys, ((at_ + 3 * n.toNat : Nat) : Int)) ∧ IsBytes ys ∧ ys.length = n.toNat := by
  unfold spec_l1Some.f
  obtain ⟨d, rfl⟩ : ∃ d : Nat, n = d := ⟨n.toNat, by omega⟩
  rw [Int.toNat_natCast] at *
  have := l1Some_l0 code hb hn d k [] at_ (by omega) hk (by simp; omega)
  simpa using this
theorem DrawAddress_is (code : List Int) (hb : IsBytes code) (hn : code.length ≤ 2097152) (at_ : Int) (h0 : 0 ≤ at_) (h1 : at_ ≤ 1000000) : ∃ v, spec_l2DrawAddress.f code at_ = some (v, at_ + 3) := by
  unfold spec_l2DrawAddress.f
  obtain ⟨a, e1, _⟩ := Next_is code hb hn at_ 6 (by omega) (by omega) (by omega)
  obtain ⟨b, e2, _⟩ := Next_is code hb hn (at_ + 1) 6 (by omega) (by omega) (by omega)
  obtain ⟨c, e3, _⟩ := Pick_is code hb hn (at_ + 1 + 1) (by omega) (by omega) [wrap64 (167772160 + a), wrap64 (167772160 + b), 5, 0, 4294967295] (by simp) (by simp)
  rw [e1, bind_s, e2, bind_s, e3, bind_s]
  exact ⟨c, by rw [show at_ + 1 + 1 + 1 = at_ + 3 by omega]⟩
theorem Packet_is (code : List Int) (hb : IsBytes code) (hn : code.length ≤ 2097152) (at_ : Int) (h0 : 0 ≤ at_) (h1 : at_ ≤ 1000) (k : Nat) (hk : 10 ≤ k) :
    ∃ a b c d e l s, spec_l2Packet.f k code at_ = some (a, b, c, d, e, l, s) ∧ IsBytes l ∧ l.length ≤ 9 ∧ at_ ≤ s ∧ s ≤ at_ + 100 := by
  unfold spec_l2Packet.f
  obtain ⟨a, e1⟩ := DrawAddress_is code hb hn at_ h0 (by omega)
  obtain ⟨b, e2⟩ := DrawAddress_is code hb hn (at_ + 3) (by omega) (by omega)
  obtain ⟨c, e3, _⟩ := Pick_is code hb hn (at_ + 3 + 3) (by omega) (by omega) [6, 17] (by simp) (by simp)
  obtain ⟨d, e4, _⟩ := Next_is code hb hn (at_ + 3 + 3 + 1) 30 (by omega) (by omega) (by omega)
  obtain ⟨e, e5, _⟩ := Next_is code hb hn (at_ + 3 + 3 + 1 + 1) 65536 (by omega) (by omega) (by omega)
  obtain ⟨f, e6, _⟩ := Pick_is code hb hn (at_ + 3 + 3 + 1 + 1 + 1) (by omega) (by omega) [80, 443, e] (by simp) (by simp)
  obtain ⟨g, e7, g0, g1, _⟩ := Next_is code hb hn (at_ + 3 + 3 + 1 + 1 + 1 + 1) 9 (by omega) (by omega) (by omega)
  have g2 := g1 (by omega)
  obtain ⟨m, hm⟩ : ∃ m : Nat, at_ + 3 + 3 + 1 + 1 + 1 + 1 + 1 = (m : Int) := ⟨(at_ + 3 + 3 + 1 + 1 + 1 + 1 + 1).toNat, by omega⟩
  obtain ⟨ys, e8, h2, h3⟩ := l1Some_is code hb hn g k m g0 (by omega) (by omega) (by omega)
  rw [e1, bind_s, e2, bind_s, e3, bind_s, e4, bind_s, e5, bind_s, e6, bind_s, e7, bind_s]
  simp only [hm]
  rw [e8, bind_s]
  exact ⟨_, _, _, _, _, ys, _, rfl, h2, by omega, by omega, by omega⟩
def mixStep (n h : Int) : Int := (h * 131 + n % 256 + 1) % 1000003
def mix4 (n h : Int) : Int := mixStep (n / 256 / 256 / 256) (mixStep (n / 256 / 256) (mixStep (n / 256) (mixStep n h)))
def mix (n salt : Int) : Int := mix4 (n % 4294967296) (salt % 10007 + 11)
theorem mixStep_bounds (n h : Int) : 0 ≤ mixStep n h ∧ mixStep n h < 1000003 := by unfold mixStep; omega
theorem mix_bounds (n salt : Int) : 0 ≤ mix n salt ∧ mix n salt < 1000003 := mixStep_bounds _ _
theorem mod_is (n m : Int) (h : 0 < m) (hm : m ≤ 4294967296) : Int.tmod (wrap64 (Int.tmod n m + m)) m = n % m := by
  have h1 : -m < Int.tmod n m := by
    have := Int.lt_tmod_of_pos n h; omega
  have h2 : Int.tmod n m < m := Int.tmod_lt_of_pos n h
  rw [w64 (by omega) (by omega), Int.tmod_eq_emod_of_nonneg (by omega), Int.add_emod_right]
  have := Int.mul_tdiv_add_tmod n m
  have e : n = Int.tmod n m + m * Int.tdiv n m := by omega
  conv => rhs; rw [e]
  rw [Int.add_mul_emod_self_left]
theorem mix_round (n h : Int) (h0 : 0 ≤ h) (h1 : h < 1000003) (hn : 0 ≤ n) :
    Int.tmod (wrap64 (wrap64 (wrap64 (h * 131) + Int.tmod n 256) + 1)) 1000003 = mixStep n h := by
  have a := Int.tmod_eq_emod_of_nonneg (b := 256) hn
  rw [a, w64 (n := h * 131) (by omega) (by omega), w64 (n := h * 131 + n % 256) (by omega) (by omega), w64 (by omega) (by omega), Int.tmod_eq_emod_of_nonneg (by omega)]
  rfl
theorem mix_down (n : Int) (hn : 0 ≤ n) (h1 : n ≤ 4294967296) : wrap64 (Int.tdiv n 256) = n / 256 := by
  rw [Int.tdiv_eq_ediv_of_nonneg hn, w64 (by omega) (by omega)]
theorem impl_MixNumber_l0 (n h : Int) (hn : 0 ≤ n) (hm : n ≤ 4294967296) (h0 : 0 ≤ h) (h1 : h < 1000003) (k : Nat) (hk : 5 ≤ k) : impl_MixNumber.l0 k n h 0 = some (mix4 n h) := by
  obtain ⟨k, rfl⟩ : ∃ m, k = m + 1 + 1 + 1 + 1 + 1 := ⟨k - 5, by omega⟩
  have a1 : wrap64 (0 + 1) = 1 := by rw [w64 (by omega) (by omega)]; rfl
  have a2 : wrap64 (1 + 1) = 2 := by rw [w64 (by omega) (by omega)]; rfl
  have a3 : wrap64 (2 + 1) = 3 := by rw [w64 (by omega) (by omega)]; rfl
  have a4 : wrap64 (3 + 1) = 4 := by rw [w64 (by omega) (by omega)]; rfl
  have b1 := mixStep_bounds n h
  have b2 := mixStep_bounds (n / 256) (mixStep n h)
  have b3 := mixStep_bounds (n / 256 / 256) (mixStep (n / 256) (mixStep n h))
  simp only [impl_MixNumber.l0]
  rw [a1, a2, a3, a4, if_pos (by decide), if_pos (by decide), if_pos (by decide), if_pos (by decide), if_neg (by decide)]
  rw [mix_down n hn hm, mix_down (n / 256) (by omega) (by omega), mix_down (n / 256 / 256) (by omega) (by omega)]
  rw [mix_round n h h0 h1 hn, mix_round (n / 256) _ b1.1 b1.2 (by omega), mix_round (n / 256 / 256) _ b2.1 b2.2 (by omega), mix_round (n / 256 / 256 / 256) _ b3.1 b3.2 (by omega)]
  rfl
theorem impl_MixNumber_is (n salt : Int) (k : Nat) (hk : 5 ≤ k) : impl_MixNumber.f k n salt = some (mix n salt) := by
  unfold impl_MixNumber.f impl_rest.f
  rw [if_neg (by decide), if_neg (by decide), mod_is salt 10007 (by decide) (by decide), mod_is n 4294967296 (by decide) (by decide)]
  simp only [Option.bind_some]
  rw [w64 (by omega) (by omega)]
  exact impl_MixNumber_l0 _ _ (by omega) (by omega) (by omega) (by omega) k hk
theorem impl_hash_is (a b c d e : Int) (k : Nat) (hk : 12 ≤ k) : impl_Flow_hash.f k a b c d e = some (mix e (mix d (mix c (mix b (mix a 7))))) := by
  obtain ⟨k, rfl⟩ : ∃ j, k = j + 1 + 1 + 1 + 1 + 1 + 1 := ⟨k - 6, by omega⟩
  have w0 : wrap64 ((0 : Int) + 1) = 1 := w64 (by omega) (by omega)
  have w1 : wrap64 ((1 : Int) + 1) = 2 := w64 (by omega) (by omega)
  have w2 : wrap64 ((2 : Int) + 1) = 3 := w64 (by omega) (by omega)
  have w3 : wrap64 ((3 : Int) + 1) = 4 := w64 (by omega) (by omega)
  have w4 : wrap64 ((4 : Int) + 1) = 5 := w64 (by omega) (by omega)
  have r0 : [a, b, c, d, e].getD (0 : Int).toNat 0 = a := rfl
  have r1 : [a, b, c, d, e].getD (1 : Int).toNat 0 = b := rfl
  have r2 : [a, b, c, d, e].getD (2 : Int).toNat 0 = c := rfl
  have r3 : [a, b, c, d, e].getD (3 : Int).toNat 0 = d := rfl
  have r4 : [a, b, c, d, e].getD (4 : Int).toNat 0 = e := rfl
  unfold impl_Flow_hash.f
  rw [impl_Flow_hash.l0.eq_2, if_pos (by omega), if_pos (by omega), r0, impl_MixNumber_is _ _ _ (by omega), bind_s, w0]
  rw [impl_Flow_hash.l0.eq_2, if_pos (by omega), if_pos (by omega), r1, impl_MixNumber_is _ _ _ (by omega), bind_s, w1]
  rw [impl_Flow_hash.l0.eq_2, if_pos (by omega), if_pos (by omega), r2, impl_MixNumber_is _ _ _ (by omega), bind_s, w2]
  rw [impl_Flow_hash.l0.eq_2, if_pos (by omega), if_pos (by omega), r3, impl_MixNumber_is _ _ _ (by omega), bind_s, w3]
  rw [impl_Flow_hash.l0.eq_2, if_pos (by omega), if_pos (by omega), r4, impl_MixNumber_is _ _ _ (by omega), bind_s, w4]
  rw [impl_Flow_hash.l0.eq_2, if_neg (by omega)]
def flowB (a b c d e : Int) : Bool := inB a 0 4294967295 && (inB b 0 4294967295 && (protoB c && (inB d 0 65535 && inB e 0 65535)))
theorem impl_isFlow_is (a b c d e : Int) (k : Nat) (hk : 0 < k) : impl_isFlow.f k a b c d e = some (flowB a b c d e) := by
  unfold impl_isFlow.f
  rw [impl_PacketFault_is a b c d e [] k hk, bind_s]
  unfold pf flowB
  generalize (inB a 0 4294967295 && (inB b 0 4294967295 && (protoB c && (inB d 0 65535 && inB e 0 65535)))) = x
  cases x <;> simp
def hashR (a b c d e : Int) : Int × Int := if flowB a b c d e = true then (0, mix e (mix d (mix c (mix b (mix a 7))))) else (3, 0)
theorem impl_HashFlow_is (a b c d e : Int) (k : Nat) (hk : 12 ≤ k) : impl_HashFlow.f k a b c d e = some (hashR a b c d e) := by
  unfold impl_HashFlow.f hashR
  rw [impl_isFlow_is a b c d e k (by omega), bind_s, impl_hash_is a b c d e k hk, bind_s]
  cases flowB a b c d e <;> rfl
theorem Bent_is (code : List Int) (hb : IsBytes code) (hn : code.length ≤ 2097152) (k : Nat) (hk : 10 ≤ k) : ∃ a b c d e l s, spec_l2Bent.f k code 0 = some (a, b, c, d, e, l, s) := by
  unfold spec_l2Bent.f
  obtain ⟨a, b, c, d, e, l, s, e1, hl, hl2, s0, s1⟩ := Packet_is code hb hn 0 (by omega) (by omega) k hk
  rw [e1, bind_s]
  obtain ⟨v, e2, v0, v1, _⟩ := Next_is code hb hn s 18 (by omega) (by omega) (by omega)
  simp only [e2, bind_s]
  obtain ⟨p0, q0, _⟩ := Pick_is code hb hn (s + 1) (by omega) (by omega) [(-1), 4294967296] (by simp) (by simp)
  obtain ⟨p1, q1, _⟩ := Pick_is code hb hn (s + 1) (by omega) (by omega) [0, 1, 47, (-1)] (by simp) (by simp)
  obtain ⟨p2, q2, _⟩ := Pick_is code hb hn (s + 1) (by omega) (by omega) [(-1), 65536, 65535] (by simp) (by simp)
  obtain ⟨x, q3, x0, x1, _⟩ := Next_is code hb hn (s + 1) 2 (by omega) (by omega) (by omega)
  have x2 := x1 (by omega)
  simp only [q0, q1, q2, q3, bind_s]
  rw [w64 (n := 200 + x) (by omega) (by omega)]
  by_cases c0 : v = 0
  · rw [if_pos c0]; exact ⟨_, _, _, _, _, _, _, rfl⟩
  · rw [if_neg c0]
    by_cases c1 : v = 1
    · rw [if_pos c1]; exact ⟨_, _, _, _, _, _, _, rfl⟩
    · rw [if_neg c1]
      by_cases c2 : v = 2
      · rw [if_pos c2]; exact ⟨_, _, _, _, _, _, _, rfl⟩
      · rw [if_neg c2]
        by_cases c3 : v = 3
        · rw [if_pos c3]; exact ⟨_, _, _, _, _, _, _, rfl⟩
        · rw [if_neg c3]
          by_cases c4 : v = 4
          · rw [if_pos c4, if_pos (by omega), if_pos (by omega)]; exact ⟨_, _, _, _, _, _, _, rfl⟩
          · rw [if_neg c4]; exact ⟨_, _, _, _, _, _, _, rfl⟩
def flowR (a b c d e : Int) (l : List Int) : Int × Int × Int × Int × Int × Int := if pf a b c d e l = 0 then (0, a, b, c, d, e) else (pf a b c d e l, 0, 0, 0, 0, 0)
theorem impl_FlowOf_is (a b c d e : Int) (l : List Int) (k : Nat) (hk : 0 < k) : impl_FlowOf.f k a b c d e l = some (flowR a b c d e l) := by
  unfold impl_FlowOf.f flowR impl_flowOf.f
  rw [impl_PacketFault_is a b c d e l k hk, bind_s, bind_s]
  by_cases h : pf a b c d e l = 0
  · rw [if_pos h, if_pos h]
  · rw [if_neg h, if_neg h]
theorem spec_FlowOf_is (a b c d e : Int) (l : List Int) (k : Nat) (hk : 0 < k) : spec_FlowOf.f k a b c d e l = some (flowR a b c d e l) := by
  unfold spec_FlowOf.f flowR spec_l3Of.f
  rw [spec_PacketFault_is a b c d e l k hk, bind_s, bind_s]
  by_cases h : pf a b c d e l = 0
  · rw [if_pos h, if_pos h]
  · rw [if_neg h, if_neg h]
theorem pf_zero {a b c d e : Int} {l : List Int} (h : pf a b c d e l = 0) : flowB a b c d e = true := by
  unfold pf at h
  unfold flowB
  split at h
  · assumption
  · cases h
theorem pf_short {a b c d e : Int} (h : flowB a b c d e = true) : pf a b c d e [1, 2] = 0 := by
  unfold flowB at h
  unfold pf
  rw [if_pos h]; rfl
theorem FnHashes : laws_FnHashes.Pure := by
  intro l _ _ hb
  have hb := IsBytes.of hb
  refine ⟨300, ?_⟩
  unfold laws_FnHashes.f laws_lwBig.f
  rw [bind_s]
  by_cases h : (l.length : Int) > 1048576
  · rw [decide_eq_true h, if_pos rfl]
  · rw [decide_eq_false h, if_neg (by decide)]
    obtain ⟨a, b, c, d, e, y, s, e1⟩ := Bent_is l hb (by omega) 300 (by omega)
    have e2 : spec_DrawFlowOf.f 300 l = some (a, b, c, d, e, y) := by
      unfold spec_DrawFlowOf.f spec_l1Source.f
      rw [bind_s]
      simp only []
      rw [e1, bind_s]
    rw [e2, bind_s]
    simp only []
    rw [impl_FlowOf_is a b c d e y 300 (by omega), bind_s]
    by_cases h0 : pf a b c d e y = 0
    · have hf : flowR a b c d e y = (0, a, b, c, d, e) := by unfold flowR; rw [if_pos h0]
      have hB := pf_zero h0
      have hf2 : flowR a b c d e [1, 2] = (0, a, b, c, d, e) := by unfold flowR; rw [if_pos (pf_short hB)]
      have hm := mix_bounds e (mix d (mix c (mix b (mix a 7))))
      have hh : hashR a b c d e = (0, mix e (mix d (mix c (mix b (mix a 7))))) := by unfold hashR; rw [if_pos hB]
      rw [hf]
      simp only [if_true, bind_s]
      rw [impl_HashFlow_is a b c d e 300 (by omega), hh, bind_s, impl_FlowOf_is a b c d e [1, 2] 300 (by omega), hf2, bind_s]
      simp only [beq_self_eq_true, Bool.and_self, if_true]
      rw [if_pos hm.1, if_pos hm.2, bind_s, impl_HashFlow_is a b c d e 300 (by omega), hh, bind_s]
      simp only [beq_self_eq_true, Bool.and_self, if_true]
    · have hf : flowR a b c d e y = (pf a b c d e y, 0, 0, 0, 0, 0) := by unfold flowR; rw [if_neg h0]
      rw [hf]
      simp only []
      rw [if_neg h0, spec_FlowOf_is a b c d e y 300 (by omega), bind_s, hf]
      simp only [beq_self_eq_true]
end Go.Proofs.Ytaellhlkjjooiaa.Pure
