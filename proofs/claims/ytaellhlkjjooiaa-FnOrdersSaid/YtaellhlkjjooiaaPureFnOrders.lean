/- WHAT THIS TEXT PROVES: the pure statement of the law FnOrders, over plain functions on numbers and lists. No condition beyond the statement's own. -/
import Derived.Test.YtaellhlkjjooiaaQFnOrdersx3
import Derived.Laws.BitsLemmas
import Derived.IntWalk
namespace Go.Proofs.Ytaellhlkjjooiaa.Pure
open Go.RowKit Go.Proofs.Ytaellhlkjjooiaa.QFnOrders Go.Proofs.YtaellhlkjjooiaaW.PrintWords Go.Proofs.YtaellhlkjjooiaaW.PrintLast Go.Proofs.YtaellhlkjjooiaaW.PrintMore
set_option linter.unusedVariables false
set_option linter.unusedSimpArgs false
theorem w64 {n : Int} (h0 : -9223372036854775808 ≤ n) (h1 : n ≤ 9223372036854775807) : wrap64 n = n := by unfold wrap64; omega
theorem w64n (i : Nat) (h : i < 9223372036854775807) : wrap64 ((i : Int) + 1) = ((i + 1 : Nat) : Int) := by
  rw [w64 (by omega) (by omega)]; omega
theorem rd_nat (xs : List Int) (i : Nat) : rd xs (i : Int) = xs.getD i 0 := by simp [rd]
theorem at_succ {k d : Nat} (h : d < k) : ∃ m, k = m + 1 := ⟨k - 1, by omega⟩
theorem drop_cons (xs : List Int) (i : Nat) (h : i < xs.length) : xs.drop i = xs.getD i 0 :: xs.drop (i + 1) := by
  rw [List.drop_eq_getElem_cons h]; simp [List.getD, h]
theorem set_take (x0 x3 : List Int) (i : Nat) (hl : x3.length = x0.length) (hi : i < x0.length) (ht : x3.take i = x0.take i) :
    (x3.set i (x0.getD i 0)).take (i + 1) = x0.take (i + 1) := by
  apply List.ext_getElem?
  intro j
  by_cases hj : j < i
  · have h1 := congrArg (fun l : List Int => l[j]?) ht
    simp only [List.getElem?_take, hj, if_true] at h1
    simp only [List.getElem?_take, show j < i + 1 by omega, if_true]
    rw [List.getElem?_set_ne (by omega)]; exact h1
  · by_cases e : j = i
    · subst e
      simp only [List.getElem?_take, show j < j + 1 by omega, if_true]
      rw [List.getElem?_set_self (by omega)]
      simp [List.getD, hi]
    · simp only [List.getElem?_take, show ¬ j < i + 1 by omega, if_false]
theorem bind_s {α β : Type} (a : α) (f : α → Option β) : (some a).bind f = f a := Eq.trans (Option.bind_some a f) (Eq.refl _)
theorem wf_i64 {n : Int} (h : (Lit.int .i64 n).wf = true) : -9223372036854775808 ≤ n ∧ n ≤ 9223372036854775807 := by
  simp only [Lit.wf, IntKind.min, IntKind.max, IntKind.signed, IntKind.bits, Bool.and_eq_true, decide_eq_true_eq, if_true] at h
  omega
theorem wf_u8 {n : Int} (h : (Lit.int .u8 n).wf = true) : 0 ≤ n ∧ n ≤ 255 := by
  simpa [Lit.wf, IntKind.min, IntKind.max, IntKind.signed, IntKind.bits] using h
def IsBytes (xs : List Int) : Prop := ∀ x ∈ xs, 0 ≤ x ∧ x ≤ 255
theorem IsBytes.of {xs : List Int} (h : ∀ x ∈ xs, (Lit.int .u8 x).wf = true) : IsBytes xs := fun x hx => wf_u8 (h x hx)
theorem IsBytes.at_ {xs : List Int} (h : IsBytes xs) (i : Nat) : 0 ≤ xs.getD i 0 ∧ xs.getD i 0 ≤ 255 := by
  by_cases hi : i < xs.length
  · have : xs.getD i 0 = xs[i] := by simp [List.getD, hi]
    rw [this]; exact h _ (List.getElem_mem hi)
  · rw [List.getD_eq_getElem?_getD, List.getElem?_eq_none (by omega)]; simp
theorem IsBytes.take_ {xs : List Int} (h : IsBytes xs) (i : Nat) : IsBytes (xs.take i) := fun x hx => h x (List.mem_of_mem_take hx)
theorem IsBytes.drop_ {xs : List Int} (h : IsBytes xs) (i : Nat) : IsBytes (xs.drop i) := fun x hx => h x (List.mem_of_mem_drop hx)
theorem IsBytes.append {xs ys : List Int} (h : IsBytes xs) (k : IsBytes ys) : IsBytes (xs ++ ys) := fun x hx => (List.mem_append.1 hx).elim (h x) (k x)
theorem Next_is (code : List Int) (hb : IsBytes code) (hn : code.length ≤ 2097152) (at_ n : Int) (h0 : 0 ≤ at_) (h1 : at_ ≤ 1073741824) (hn1 : n ≤ 4611686018427387904) :
    ∃ v, spec_l1Next.f code at_ n = some (v, at_ + 1) ∧ 0 ≤ v ∧ (1 ≤ n → v < n) ∧ (n < 1 → v = 0) := by
  unfold spec_l1Next.f
  have e1 : wrap64 (at_ + 1) = at_ + 1 := w64 (by omega) (by omega)
  have e2 : wrap64 (at_ + 1 - 1) = at_ := by rw [w64 (by omega) (by omega)]; omega
  rw [e1, e2]
  by_cases c : n < 1
  · rw [if_pos c]; exact ⟨0, rfl, by omega, by omega, fun _ => rfl⟩
  · rw [if_neg c]
    by_cases c2 : (code.length : Int) = 0
    · have e3 : wrap64 (at_ * 7) = at_ * 7 := w64 (by omega) (by omega)
      rw [if_pos c2, if_neg (by omega), e3]
      exact ⟨_, rfl, Int.tmod_nonneg n (by omega), fun _ => Int.tmod_lt_of_pos _ (by omega), fun h => absurd h c⟩
    · have hk : 0 < (code.length : Int) := by omega
      have t0 : 0 ≤ Int.tmod at_ code.length := Int.tmod_nonneg _ h0
      have t1 : Int.tmod at_ code.length < code.length := Int.tmod_lt_of_pos _ hk
      have b1 := hb.at_ (Int.tmod at_ code.length).toNat
      have hd : Int.tdiv at_ code.length = at_ / code.length := Int.tdiv_eq_ediv_of_nonneg h0
      have d0 : 0 ≤ at_ / code.length := Int.ediv_nonneg h0 (by omega)
      have d1 : at_ / code.length ≤ at_ := Int.ediv_le_self _ h0
      have r1 : rd code (Int.tmod at_ code.length) = code.getD (Int.tmod at_ code.length).toNat 0 := rfl
      rw [if_neg c2, if_pos t0, if_pos t1, hd, r1, w64 (n := at_ / code.length) (by omega) (by omega), w64 (n := at_ / code.length * 37) (by omega) (by omega)]
      rw [w64 (n := code.getD (Int.tmod at_ code.length).toNat 0) (by omega) (by omega), w64 (n := code.getD (Int.tmod at_ code.length).toNat 0 + at_ / code.length * 37) (by omega) (by omega)]
      by_cases c3 : n > 200
      · have s0 : 0 ≤ Int.tmod (wrap64 (at_ + 1)) code.length := by rw [e1]; exact Int.tmod_nonneg _ (by omega)
        have s1 : Int.tmod (wrap64 (at_ + 1)) code.length < code.length := Int.tmod_lt_of_pos _ hk
        have b2 := hb.at_ (Int.tmod (wrap64 (at_ + 1)) code.length).toNat
        have r2 : rd code (Int.tmod (wrap64 (at_ + 1)) code.length) = code.getD (Int.tmod (wrap64 (at_ + 1)) code.length).toNat 0 := rfl
        rw [e1] at s0 s1 b2 r2
        rw [if_pos c3, e1, if_pos s0, if_pos s1, if_neg (by omega), r2]
        generalize code.getD (Int.tmod at_ code.length).toNat 0 = x at *
        generalize code.getD (Int.tmod (at_ + 1) code.length).toNat 0 = y at *
        generalize at_ / code.length = q at *
        rw [w64 (n := y) (by omega) (by omega), w64 (n := y * 13) (by omega) (by omega), w64 (n := (x + q * 37) * 251) (by omega) (by omega), w64 (n := (x + q * 37) * 251 + y * 13) (by omega) (by omega), w64 (n := (x + q * 37) * 251 + y * 13 + at_) (by omega) (by omega)]
        exact ⟨_, rfl, Int.tmod_nonneg n (by omega), fun _ => Int.tmod_lt_of_pos _ (by omega), fun h => absurd h c⟩
      · rw [if_neg c3, if_neg (by omega)]
        exact ⟨_, rfl, Int.tmod_nonneg n (by omega), fun _ => Int.tmod_lt_of_pos _ (by omega), fun h => absurd h c⟩
theorem Pick_is (code : List Int) (hb : IsBytes code) (hn : code.length ≤ 2097152) (at_ : Int) (h0 : 0 ≤ at_) (h1 : at_ ≤ 1073741824) (l : List Int) (hl : 0 < l.length) (hl2 : l.length ≤ 1000) :
    ∃ v, spec_l1Pick.f code at_ l = some (v, at_ + 1) ∧ v ∈ l := by
  obtain ⟨v, hv, v0, v1, _⟩ := Next_is code hb hn at_ l.length h0 h1 (by omega)
  have v2 := v1 (by omega)
  unfold spec_l1Pick.f
  rw [hv, Option.bind_some, if_pos v0, if_pos v2]
  refine ⟨_, rfl, ?_⟩
  unfold rd
  have hlt : v.toNat < l.length := by omega
  have : l.getD v.toNat 0 = l[v.toNat] := by simp [List.getD, hlt]
  rw [this]; exact List.getElem_mem hlt
theorem lwHas_l0 (x0 : List Int) (v : Int) (hn : x0.length ≤ 1048576) : ∀ (d k i : Nat), i + d = x0.length → d < k → laws_lwHas.l0 k x0 v (i : Int) = some (decide (v ∈ x0.drop i)) := by
  intro d
  induction d with
  | zero =>
    intro k i hi hk
    obtain ⟨k, rfl⟩ := at_succ hk
    simp only [laws_lwHas.l0]
    rw [if_neg (by omega), List.drop_of_length_le (by omega)]
    simp
  | succ d ih =>
    intro k i hi hk
    obtain ⟨k, rfl⟩ := at_succ hk
    simp only [laws_lwHas.l0]
    rw [if_pos (by omega), if_pos (by omega), rd_nat, w64n i (by omega), drop_cons x0 i (by omega)]
    by_cases e : x0.getD i 0 = v
    · rw [if_pos e, e]; simp
    · rw [if_neg e, ih k (i + 1) (by omega) (by omega)]
      congr 1
      have : (v ∈ x0.getD i 0 :: x0.drop (i + 1)) ↔ v ∈ x0.drop (i + 1) := by
        rw [List.mem_cons]
        exact ⟨fun h => h.resolve_left (fun h => e h.symm), Or.inr⟩
      exact decide_eq_decide.2 this.symm
theorem lwHas_is (x0 : List Int) (v : Int) (hn : x0.length ≤ 1048576) (k : Nat) (hk : x0.length < k) : laws_lwHas.f k x0 v = some (decide (v ∈ x0)) := by
  unfold laws_lwHas.f
  have := lwHas_l0 x0 v hn x0.length k 0 (by omega) hk
  simpa using this
def mixStep (n h : Int) : Int := (h * 131 + n % 256 + 1) % 1000003
def mix4 (n h : Int) : Int := mixStep (n / 256 / 256 / 256) (mixStep (n / 256 / 256) (mixStep (n / 256) (mixStep n h)))
def mix (n salt : Int) : Int := mix4 (n % 4294967296) (salt % 10007 + 11)
theorem mixStep_bounds (n h : Int) : 0 ≤ mixStep n h ∧ mixStep n h < 1000003 := by unfold mixStep; omega
theorem mix_bounds (n salt : Int) : 0 ≤ mix n salt ∧ mix n salt < 1000003 := mixStep_bounds _ _
theorem mod_is (n m : Int) (h : 0 < m) (hm : m ≤ 4294967296) : Int.tmod (wrap64 (Int.tmod n m + m)) m = n % m := by
  have h1 : -m < Int.tmod n m := by
    have := Int.lt_tmod_of_pos n h; omega
  have h2 : Int.tmod n m < m := Int.tmod_lt_of_pos n h
  rw [w64 (by omega) (by omega), Int.tmod_eq_emod_of_nonneg (by omega), Int.add_emod_right]
  have := Int.mul_tdiv_add_tmod n m
  have e : n = Int.tmod n m + m * Int.tdiv n m := by omega
  conv => rhs; rw [e]
  rw [Int.add_mul_emod_self_left]
theorem mix_round (n h : Int) (h0 : 0 ≤ h) (h1 : h < 1000003) (hn : 0 ≤ n) :
    Int.tmod (wrap64 (wrap64 (wrap64 (h * 131) + Int.tmod n 256) + 1)) 1000003 = mixStep n h := by
  have a := Int.tmod_eq_emod_of_nonneg (b := 256) hn
  rw [a, w64 (n := h * 131) (by omega) (by omega), w64 (n := h * 131 + n % 256) (by omega) (by omega), w64 (by omega) (by omega), Int.tmod_eq_emod_of_nonneg (by omega)]
  rfl
theorem mix_down (n : Int) (hn : 0 ≤ n) (h1 : n ≤ 4294967296) : wrap64 (Int.tdiv n 256) = n / 256 := by
  rw [Int.tdiv_eq_ediv_of_nonneg hn, w64 (by omega) (by omega)]
theorem spec_MixNumber_l0 (n h : Int) (hn : 0 ≤ n) (hm : n ≤ 4294967296) (h0 : 0 ≤ h) (h1 : h < 1000003) (k : Nat) (hk : 5 ≤ k) : spec_MixNumber.l0 k n h 0 = some (mix4 n h) := by
  obtain ⟨k, rfl⟩ : ∃ m, k = m + 1 + 1 + 1 + 1 + 1 := ⟨k - 5, by omega⟩
  have a1 : wrap64 (0 + 1) = 1 := by rw [w64 (by omega) (by omega)]; rfl
  have a2 : wrap64 (1 + 1) = 2 := by rw [w64 (by omega) (by omega)]; rfl
  have a3 : wrap64 (2 + 1) = 3 := by rw [w64 (by omega) (by omega)]; rfl
  have a4 : wrap64 (3 + 1) = 4 := by rw [w64 (by omega) (by omega)]; rfl
  have b1 := mixStep_bounds n h
  have b2 := mixStep_bounds (n / 256) (mixStep n h)
  have b3 := mixStep_bounds (n / 256 / 256) (mixStep (n / 256) (mixStep n h))
  simp only [spec_MixNumber.l0]
  rw [a1, a2, a3, a4, if_pos (by decide), if_pos (by decide), if_pos (by decide), if_pos (by decide), if_neg (by decide)]
  rw [mix_down n hn hm, mix_down (n / 256) (by omega) (by omega), mix_down (n / 256 / 256) (by omega) (by omega)]
  rw [mix_round n h h0 h1 hn, mix_round (n / 256) _ b1.1 b1.2 (by omega), mix_round (n / 256 / 256) _ b2.1 b2.2 (by omega), mix_round (n / 256 / 256 / 256) _ b3.1 b3.2 (by omega)]
  rfl
theorem spec_MixNumber_is (n salt : Int) (k : Nat) (hk : 5 ≤ k) : spec_MixNumber.f k n salt = some (mix n salt) := by
  unfold spec_MixNumber.f spec_l3Mod.f
  rw [if_neg (by decide), if_neg (by decide), mod_is salt 10007 (by decide) (by decide), mod_is n 4294967296 (by decide) (by decide)]
  simp only [Option.bind_some]
  rw [w64 (by omega) (by omega)]
  exact spec_MixNumber_l0 _ _ (by omega) (by omega) (by omega) (by omega) k hk
theorem impl_MixNumber_l0 (n h : Int) (hn : 0 ≤ n) (hm : n ≤ 4294967296) (h0 : 0 ≤ h) (h1 : h < 1000003) (k : Nat) (hk : 5 ≤ k) : impl_MixNumber.l0 k n h 0 = some (mix4 n h) := by
  obtain ⟨k, rfl⟩ : ∃ m, k = m + 1 + 1 + 1 + 1 + 1 := ⟨k - 5, by omega⟩
  have a1 : wrap64 (0 + 1) = 1 := by rw [w64 (by omega) (by omega)]; rfl
  have a2 : wrap64 (1 + 1) = 2 := by rw [w64 (by omega) (by omega)]; rfl
  have a3 : wrap64 (2 + 1) = 3 := by rw [w64 (by omega) (by omega)]; rfl
  have a4 : wrap64 (3 + 1) = 4 := by rw [w64 (by omega) (by omega)]; rfl
  have b1 := mixStep_bounds n h
  have b2 := mixStep_bounds (n / 256) (mixStep n h)
  have b3 := mixStep_bounds (n / 256 / 256) (mixStep (n / 256) (mixStep n h))
  simp only [impl_MixNumber.l0]
  rw [a1, a2, a3, a4, if_pos (by decide), if_pos (by decide), if_pos (by decide), if_pos (by decide), if_neg (by decide)]
  rw [mix_down n hn hm, mix_down (n / 256) (by omega) (by omega), mix_down (n / 256 / 256) (by omega) (by omega)]
  rw [mix_round n h h0 h1 hn, mix_round (n / 256) _ b1.1 b1.2 (by omega), mix_round (n / 256 / 256) _ b2.1 b2.2 (by omega), mix_round (n / 256 / 256 / 256) _ b3.1 b3.2 (by omega)]
  rfl
theorem impl_MixNumber_is (n salt : Int) (k : Nat) (hk : 5 ≤ k) : impl_MixNumber.f k n salt = some (mix n salt) := by
  unfold impl_MixNumber.f impl_rest.f
  rw [if_neg (by decide), if_neg (by decide), mod_is salt 10007 (by decide) (by decide), mod_is n 4294967296 (by decide) (by decide)]
  simp only [Option.bind_some]
  rw [w64 (by omega) (by omega)]
  exact impl_MixNumber_l0 _ _ (by omega) (by omega) (by omega) (by omega) k hk
def off (name : Int) : Int := mix name 3 % 31
def skp (name : Int) : Int := 1 + mix name 5 % 30
def place (name : Int) (k : Nat) : Int := (off name + k * skp name) % 31
def perm (name : Int) : List Int := (List.range 31).map (place name)
theorem off_bounds (name : Int) : 0 ≤ off name ∧ off name < 31 := by unfold off; omega
theorem skp_bounds (name : Int) : 1 ≤ skp name ∧ skp name ≤ 30 := by unfold skp; omega
theorem perm_length (name : Int) : (perm name).length = 31 := by simp [perm]
theorem place_is (name : Int) (k : Nat) (hk : k ≤ 40) : Int.tmod (wrap64 (off name + wrap64 ((k : Int) * skp name))) 31 = place name k := by
  have h1 := off_bounds name
  have h2 := skp_bounds name
  have h3 : (k : Int) * skp name ≤ 40 * 30 := Int.mul_le_mul (by omega) h2.2 (by omega) (by omega)
  have h4 : 0 ≤ (k : Int) * skp name := Int.mul_nonneg (by omega) (by omega)
  rw [w64 (n := (k : Int) * skp name) (by omega) (by omega), w64 (by omega) (by omega), Int.tmod_eq_emod_of_nonneg (by omega)]
  rfl
def permR (name : Int) : Int × List Int := if 1 ≤ name ∧ name ≤ 999 then (0, perm name) else (3, [])
theorem permR_length (name : Int) : (permR name).2.length ≤ 31 := by
  unfold permR
  split
  · rw [perm_length]; exact Nat.le_refl _
  · simp
theorem impl_offset_is (name : Int) (k : Nat) (hk : 5 ≤ k) : impl_offset.f k name = some (off name) := by
  unfold impl_offset.f off
  have h := mix_bounds name 3
  rw [impl_MixNumber_is name 3 k hk, Option.bind_some, Int.tmod_eq_emod_of_nonneg h.1]
theorem impl_skip_is (name : Int) (k : Nat) (hk : 5 ≤ k) : impl_skip.f k name = some (skp name) := by
  unfold impl_skip.f skp
  have h := mix_bounds name 5
  rw [impl_MixNumber_is name 5 k hk, Option.bind_some, Int.tmod_eq_emod_of_nonneg h.1, w64 (by omega) (by omega)]
theorem impl_permutation_l0 (name : Int) : ∀ (d k i : Nat) (out : List Int), i + d = 31 → d + 6 ≤ k → out = (List.range i).map (place name) → impl_permutation.l0 k name out (i : Int) = some (perm name) := by
  intro d
  induction d with
  | zero =>
    intro k i out hi hk ho
    obtain ⟨k, rfl⟩ : ∃ m, k = m + 1 := ⟨k - 1, by omega⟩
    simp only [impl_permutation.l0]
    obtain rfl : i = 31 := by omega
    rw [if_neg (by omega), ho]; rfl
  | succ d ih =>
    intro k i out hi hk ho
    obtain ⟨k, rfl⟩ : ∃ m, k = m + 1 := ⟨k - 1, by omega⟩
    simp only [impl_permutation.l0]
    have hl : out.length = i := by rw [ho]; simp
    rw [if_pos (by omega), impl_offset_is name k (by omega), Option.bind_some, impl_skip_is name k (by omega), Option.bind_some, if_pos (by omega), place_is name i (by omega), w64n i (by omega)]
    exact ih k (i + 1) _ (by omega) (by omega) (by rw [ho, List.range_succ]; simp)
theorem impl_permutation_is (name : Int) (k : Nat) (hk : 40 ≤ k) : impl_permutation.f k name = some (perm name) := by
  unfold impl_permutation.f
  exact impl_permutation_l0 name 31 k 0 [] (by omega) (by omega) rfl
theorem impl_Permutation_is (name : Int) (k : Nat) (hk : 40 ≤ k) : impl_Permutation.f k name = some (permR name) := by
  unfold impl_Permutation.f impl_isName.f impl_in.f permR
  by_cases h1 : name ≥ 1
  · by_cases h2 : name ≤ 999
    · rw [if_pos h1, decide_eq_true h2, Option.bind_some, Option.bind_some, if_pos rfl, impl_permutation_is name k hk, if_pos ⟨h1, h2⟩]; rfl
    · rw [if_pos h1, decide_eq_false h2, Option.bind_some, Option.bind_some, if_neg (by decide), if_neg (by omega)]
  · rw [if_neg h1, Option.bind_some, Option.bind_some, if_neg (by decide), if_neg (by omega)]
theorem spec_l3Offset_is (name : Int) (k : Nat) (hk : 5 ≤ k) : spec_l3Offset.f k name = some (off name) := by
  unfold spec_l3Offset.f off
  have h := mix_bounds name 3
  rw [spec_MixNumber_is name 3 k hk, Option.bind_some, Int.tmod_eq_emod_of_nonneg h.1]
theorem spec_l3Skip_is (name : Int) (k : Nat) (hk : 5 ≤ k) : spec_l3Skip.f k name = some (skp name) := by
  unfold spec_l3Skip.f skp
  have h := mix_bounds name 5
  rw [spec_MixNumber_is name 5 k hk, Option.bind_some, Int.tmod_eq_emod_of_nonneg h.1, w64 (by omega) (by omega)]
theorem spec_l3Place_is (name : Int) (i : Nat) (hi : i ≤ 40) (k : Nat) (hk : 5 ≤ k) : spec_l3Place.f k name (i : Int) = some (place name i) := by
  unfold spec_l3Place.f
  rw [spec_l3Offset_is name k hk, Option.bind_some, spec_l3Skip_is name k hk, Option.bind_some, place_is name i hi]
theorem spec_Permutation_l0 (name : Int) : ∀ (d k i : Nat) (out : List Int), i + d = 31 → d + 6 ≤ k → out = (List.range i).map (place name) → spec_Permutation.l0 k name (i : Int) 0 out = some (0, perm name) := by
  intro d
  induction d with
  | zero =>
    intro k i out hi hk ho
    obtain ⟨k, rfl⟩ : ∃ m, k = m + 1 := ⟨k - 1, by omega⟩
    simp only [spec_Permutation.l0]
    obtain rfl : i = 31 := by omega
    rw [if_neg (by omega), ho]; rfl
  | succ d ih =>
    intro k i out hi hk ho
    obtain ⟨k, rfl⟩ : ∃ m, k = m + 1 := ⟨k - 1, by omega⟩
    simp only [spec_Permutation.l0]
    have hl : out.length = i := by rw [ho]; simp
    rw [if_pos (by omega), spec_l3Place_is name i (by omega) k (by omega), Option.bind_some, if_pos (by omega), w64n i (by omega)]
    exact ih k (i + 1) _ (by omega) (by omega) (by rw [ho, List.range_succ]; simp)
theorem spec_Permutation_is (name : Int) (k : Nat) (hk : 40 ≤ k) : spec_Permutation.f k name = some (permR name) := by
  unfold spec_Permutation.f spec_l3Name.f spec_l1In.f permR
  by_cases h1 : name ≥ 1
  · by_cases h2 : name ≤ 999
    · rw [if_pos h1, decide_eq_true h2, Option.bind_some, Option.bind_some, if_pos rfl, if_pos ⟨h1, h2⟩]
      exact spec_Permutation_l0 name 31 k 0 [] (by omega) (by omega) rfl
    · rw [if_pos h1, decide_eq_false h2, Option.bind_some, Option.bind_some, if_neg (by decide), if_neg (by omega)]
  · rw [if_neg h1, Option.bind_some, Option.bind_some, if_neg (by decide), if_neg (by omega)]
theorem all_places0 : ∀ (s : Fin 30) (a : Fin 31), ∃ k : Fin 31, (k.val * (1 + s.val)) % 31 = a.val := by decide +kernel
theorem all_places (o : Fin 31) (s : Fin 30) (a : Fin 31) : ∃ k : Fin 31, (o.val + k.val * (1 + s.val)) % 31 = a.val := by
  obtain ⟨k, hk⟩ := all_places0 s ⟨(a.val + 31 - o.val) % 31, Nat.mod_lt _ (by decide)⟩
  refine ⟨k, ?_⟩
  have hk' : (k.val * (1 + s.val)) % 31 = (a.val + 31 - o.val) % 31 := hk
  generalize k.val * (1 + s.val) = X at *
  have := o.isLt
  have := a.isLt
  omega
theorem perm_has (name : Int) (a : Nat) (ha : a < 31) : (a : Int) ∈ perm name := by
  have h1 := off_bounds name
  have h2 := skp_bounds name
  obtain ⟨k, hk⟩ := all_places ⟨(off name).toNat, by omega⟩ ⟨(skp name - 1).toNat, by omega⟩ ⟨a, ha⟩
  refine List.mem_map.2 ⟨k.val, List.mem_range.2 k.isLt, ?_⟩
  unfold place
  have e1 : off name = ((off name).toNat : Int) := by omega
  have e2 : skp name = ((1 + (skp name - 1).toNat : Nat) : Int) := by omega
  rw [e1, e2]
  have hk' : ((off name).toNat + k.val * (1 + (skp name - 1).toNat)) % 31 = a := hk
  have := congrArg (fun n : Nat => (n : Int)) hk'
  simpa using this
theorem perm_at (name : Int) (i : Nat) (hi : i < 31) : (perm name).getD i 0 = place name i := by
  simp [perm, List.getD, hi]
theorem impl_OffsetOf_is (name : Int) (h1 : 1 ≤ name) (h2 : name ≤ 999) (k : Nat) (hk : 5 ≤ k) : impl_OffsetOf.f k name = some (0, off name) := by
  unfold impl_OffsetOf.f impl_isName.f impl_in.f
  rw [if_pos h1, decide_eq_true h2, Option.bind_some, Option.bind_some, if_pos rfl, impl_offset_is name k hk]; rfl
theorem impl_SkipOf_is (name : Int) (h1 : 1 ≤ name) (h2 : name ≤ 999) (k : Nat) (hk : 5 ≤ k) : impl_SkipOf.f k name = some (0, skp name) := by
  unfold impl_SkipOf.f impl_isName.f impl_in.f
  rw [if_pos h1, decide_eq_true h2, Option.bind_some, Option.bind_some, if_pos rfl, impl_skip_is name k hk]; rfl
theorem DrawName_is (code : List Int) (hb : IsBytes code) (hn : code.length ≤ 1048576) : ∃ name, spec_DrawPermutation.f code = some name := by
  unfold spec_DrawPermutation.f spec_l3DrawName.f spec_l1Source.f
  simp only [Option.bind_some]
  obtain ⟨v1, e1, a1, b1, _⟩ := Next_is code hb (by omega) 0 40 (by omega) (by omega) (by omega)
  rw [e1]; simp only [Option.bind_some]
  obtain ⟨v2, e2, a2, b2, _⟩ := Next_is code hb (by omega) (0 + 1) 999 (by omega) (by omega) (by omega)
  rw [e2]; simp only [Option.bind_some]
  obtain ⟨v3, e3, _⟩ := Pick_is code hb (by omega) (0 + 1 + 1) (by omega) (by omega) [wrap64 (1 + v1), wrap64 (1 + v2), 999, 0, 1000, (-1)] (by simp) (by simp)
  rw [e3]; exact ⟨v3, rfl⟩
theorem FnOrders_l0 (name : Int) (h1 : 1 ≤ name) (h2 : name ≤ 999) : ∀ (d k i : Nat), i + d = 31 → d + 40 ≤ k → laws_FnOrders.l0 k name (i : Int) 0 (perm name) = some true := by
  intro d
  have hl := perm_length name
  induction d with
  | zero =>
    intro k i hi hk
    obtain ⟨k, rfl⟩ : ∃ m, k = m + 1 := ⟨k - 1, by omega⟩
    simp only [laws_FnOrders.l0]
    have ho := off_bounds name
    have hs := skp_bounds name
    have p0 : rd (perm name) 0 = off name := by
      show (perm name).getD 0 0 = _
      rw [perm_at name 0 (by omega)]; unfold place
      rw [show ((0 : Nat) : Int) * skp name = 0 by simp, Int.add_zero]
      exact Int.emod_eq_of_lt ho.1 ho.2
    have p1 : rd (perm name) 1 = (off name + skp name) % 31 := by
      show (perm name).getD 1 0 = _
      rw [perm_at name 1 (by omega)]; unfold place
      rw [show ((1 : Nat) : Int) * skp name = skp name by simp]
    rw [if_neg (by omega), if_pos (by omega), if_pos (by omega), impl_OffsetOf_is name h1 h2 k (by omega), p0, p1]
    simp only [Option.bind_some, if_true]
    rw [impl_SkipOf_is name h1 h2 k (by omega)]
    simp only [Option.bind_some]
    rw [if_pos (by omega), w64 (by omega) (by omega), Int.tmod_eq_emod_of_nonneg (by omega)]
    simp
  | succ d ih =>
    intro k i hi hk
    obtain ⟨k, rfl⟩ : ∃ m, k = m + 1 := ⟨k - 1, by omega⟩
    simp only [laws_FnOrders.l0]
    rw [if_pos (by omega), lwHas_is _ _ (by omega) k (by omega), decide_eq_true (perm_has name i (by omega)), w64n i (by omega)]
    simp only [Option.bind_some, if_true]
    exact ih k (i + 1) (by omega) (by omega)
theorem FnOrders : laws_FnOrders.Pure := by
  intro l _ _ hb
  have hb := IsBytes.of hb
  refine ⟨100, ?_⟩
  unfold laws_FnOrders.f laws_lwBig.f
  simp only [Option.bind_some]
  by_cases h : (l.length : Int) > 1048576
  · rw [decide_eq_true h, if_pos rfl]
  · obtain ⟨name, hd⟩ := DrawName_is l hb (by omega)
    rw [decide_eq_false h, if_neg (by decide), hd]
    simp only [Option.bind_some]
    rw [impl_Permutation_is name 100 (by omega), spec_Permutation_is name 100 (by omega)]
    simp only [Option.bind_some]
    by_cases c : 1 ≤ name ∧ name ≤ 999
    · have e : permR name = (0, perm name) := if_pos c
      rw [e, if_pos rfl]
      exact FnOrders_l0 name c.1 c.2 31 100 0 (by omega) (by omega)
    · have e : permR name = (3, []) := if_neg c
      rw [e, if_neg (by decide)]; rfl
end Go.Proofs.Ytaellhlkjjooiaa.Pure
