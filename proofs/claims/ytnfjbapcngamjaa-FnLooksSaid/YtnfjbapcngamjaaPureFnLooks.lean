/- WHAT THIS TEXT PROVES: the pure statement of the law FnLooks, over plain functions on numbers and lists. No condition beyond the statement's own. -/
import Derived.Test.YtnfjbapcngamjaaQFnLooksx7
import Derived.Laws.BitsLemmas
import Derived.IntWalk
namespace Go.Proofs.Ytnfjbapcngamjaa.Pure
open Go.RowKit Go.Proofs.Ytnfjbapcngamjaa.QFnLooks Go.Proofs.YtnfjbapcngamjaaW.PrintWords Go.Proofs.YtnfjbapcngamjaaW.PrintLast Go.Proofs.YtnfjbapcngamjaaW.PrintMore
set_option linter.unusedVariables false
set_option linter.unusedSimpArgs false
theorem w64 {n : Int} (h0 : -9223372036854775808 ≤ n) (h1 : n ≤ 9223372036854775807) : wrap64 n = n := by unfold wrap64; omega
theorem w64n (i : Nat) (h : i < 9223372036854775807) : wrap64 ((i : Int) + 1) = ((i + 1 : Nat) : Int) := by
  rw [w64 (by omega) (by omega)]; omega
theorem rd_nat (xs : List Int) (i : Nat) : rd xs (i : Int) = xs.getD i 0 := by simp [rd]
theorem at_succ {k d : Nat} (h : d < k) : ∃ m, k = m + 1 := ⟨k - 1, by omega⟩
theorem drop_cons (xs : List Int) (i : Nat) (h : i < xs.length) : xs.drop i = xs.getD i 0 :: xs.drop (i + 1) := by
  rw [List.drop_eq_getElem_cons h]; simp [List.getD, h]
theorem set_take (x0 x3 : List Int) (i : Nat) (hl : x3.length = x0.length) (hi : i < x0.length) (ht : x3.take i = x0.take i) :
    (x3.set i (x0.getD i 0)).take (i + 1) = x0.take (i + 1) := by
  apply List.ext_getElem?
  intro j
  by_cases hj : j < i
  · have h1 := congrArg (fun l : List Int => l[j]?) ht
    simp only [List.getElem?_take, hj, if_true] at h1
    simp only [List.getElem?_take, show j < i + 1 by omega, if_true]
    rw [List.getElem?_set_ne (by omega)]; exact h1
  · by_cases e : j = i
    · subst e
      simp only [List.getElem?_take, show j < j + 1 by omega, if_true]
      rw [List.getElem?_set_self (by omega)]
      simp [List.getD, hi]
    · simp only [List.getElem?_take, show ¬ j < i + 1 by omega, if_false]
theorem bind_s {α β : Type} (a : α) (f : α → Option β) : (some a).bind f = f a := Eq.trans (Option.bind_some a f) (Eq.refl _)
theorem wf_i64 {n : Int} (h : (Lit.int .i64 n).wf = true) : -9223372036854775808 ≤ n ∧ n ≤ 9223372036854775807 := by
  simp only [Lit.wf, IntKind.min, IntKind.max, IntKind.signed, IntKind.bits, Bool.and_eq_true, decide_eq_true_eq, if_true] at h
  omega
theorem wf_u8 {n : Int} (h : (Lit.int .u8 n).wf = true) : 0 ≤ n ∧ n ≤ 255 := by
  simpa [Lit.wf, IntKind.min, IntKind.max, IntKind.signed, IntKind.bits] using h
def IsBytes (xs : List Int) : Prop := ∀ x ∈ xs, 0 ≤ x ∧ x ≤ 255
theorem IsBytes.of {xs : List Int} (h : ∀ x ∈ xs, (Lit.int .u8 x).wf = true) : IsBytes xs := fun x hx => wf_u8 (h x hx)
theorem IsBytes.at_ {xs : List Int} (h : IsBytes xs) (i : Nat) : 0 ≤ xs.getD i 0 ∧ xs.getD i 0 ≤ 255 := by
  by_cases hi : i < xs.length
  · have : xs.getD i 0 = xs[i] := by simp [List.getD, hi]
    rw [this]; exact h _ (List.getElem_mem hi)
  · rw [List.getD_eq_getElem?_getD, List.getElem?_eq_none (by omega)]; simp
theorem IsBytes.take_ {xs : List Int} (h : IsBytes xs) (i : Nat) : IsBytes (xs.take i) := fun x hx => h x (List.mem_of_mem_take hx)
theorem IsBytes.drop_ {xs : List Int} (h : IsBytes xs) (i : Nat) : IsBytes (xs.drop i) := fun x hx => h x (List.mem_of_mem_drop hx)
theorem IsBytes.append {xs ys : List Int} (h : IsBytes xs) (k : IsBytes ys) : IsBytes (xs ++ ys) := fun x hx => (List.mem_append.1 hx).elim (h x) (k x)
theorem Next_is (code : List Int) (hb : IsBytes code) (hn : code.length ≤ 2097152) (at_ n : Int) (h0 : 0 ≤ at_) (h1 : at_ ≤ 1073741824) (hn1 : n ≤ 4611686018427387904) :
    ∃ v, spec_l1Next.f code at_ n = some (v, at_ + 1) ∧ 0 ≤ v ∧ (1 ≤ n → v < n) ∧ (n < 1 → v = 0) := by
  unfold spec_l1Next.f
  have e1 : wrap64 (at_ + 1) = at_ + 1 := w64 (by omega) (by omega)
  have e2 : wrap64 (at_ + 1 - 1) = at_ := by rw [w64 (by omega) (by omega)]; omega
  rw [e1, e2]
  by_cases c : n < 1
  · rw [if_pos c]; exact ⟨0, rfl, by omega, by omega, fun _ => rfl⟩
  · rw [if_neg c]
    by_cases c2 : (code.length : Int) = 0
    · have e3 : wrap64 (at_ * 7) = at_ * 7 := w64 (by omega) (by omega)
      rw [if_pos c2, if_neg (by omega), e3]
      exact ⟨_, rfl, Int.tmod_nonneg n (by omega), fun _ => Int.tmod_lt_of_pos _ (by omega), fun h => absurd h c⟩
    · have hk : 0 < (code.length : Int) := by omega
      have t0 : 0 ≤ Int.tmod at_ code.length := Int.tmod_nonneg _ h0
      have t1 : Int.tmod at_ code.length < code.length := Int.tmod_lt_of_pos _ hk
      have b1 := hb.at_ (Int.tmod at_ code.length).toNat
      have hd : Int.tdiv at_ code.length = at_ / code.length := Int.tdiv_eq_ediv_of_nonneg h0
      have d0 : 0 ≤ at_ / code.length := Int.ediv_nonneg h0 (by omega)
      have d1 : at_ / code.length ≤ at_ := Int.ediv_le_self _ h0
      have r1 : rd code (Int.tmod at_ code.length) = code.getD (Int.tmod at_ code.length).toNat 0 := rfl
      rw [if_neg c2, if_pos t0, if_pos t1, hd, r1, w64 (n := at_ / code.length) (by omega) (by omega), w64 (n := at_ / code.length * 37) (by omega) (by omega)]
      rw [w64 (n := code.getD (Int.tmod at_ code.length).toNat 0) (by omega) (by omega), w64 (n := code.getD (Int.tmod at_ code.length).toNat 0 + at_ / code.length * 37) (by omega) (by omega)]
      by_cases c3 : n > 200
      · have s0 : 0 ≤ Int.tmod (wrap64 (at_ + 1)) code.length := by rw [e1]; exact Int.tmod_nonneg _ (by omega)
        have s1 : Int.tmod (wrap64 (at_ + 1)) code.length < code.length := Int.tmod_lt_of_pos _ hk
        have b2 := hb.at_ (Int.tmod (wrap64 (at_ + 1)) code.length).toNat
        have r2 : rd code (Int.tmod (wrap64 (at_ + 1)) code.length) = code.getD (Int.tmod (wrap64 (at_ + 1)) code.length).toNat 0 := rfl
        rw [e1] at s0 s1 b2 r2
        rw [if_pos c3, e1, if_pos s0, if_pos s1, if_neg (by omega), r2]
        generalize code.getD (Int.tmod at_ code.length).toNat 0 = x at *
        generalize code.getD (Int.tmod (at_ + 1) code.length).toNat 0 = y at *
        generalize at_ / code.length = q at *
        rw [w64 (n := y) (by omega) (by omega), w64 (n := y * 13) (by omega) (by omega), w64 (n := (x + q * 37) * 251) (by omega) (by omega), w64 (n := (x + q * 37) * 251 + y * 13) (by omega) (by omega), w64 (n := (x + q * 37) * 251 + y * 13 + at_) (by omega) (by omega)]
        exact ⟨_, rfl, Int.tmod_nonneg n (by omega), fun _ => Int.tmod_lt_of_pos _ (by omega), fun h => absurd h c⟩
      · rw [if_neg c3, if_neg (by omega)]
        exact ⟨_, rfl, Int.tmod_nonneg n (by omega), fun _ => Int.tmod_lt_of_pos _ (by omega), fun h => absurd h c⟩
theorem Pick_is (code : List Int) (hb : IsBytes code) (hn : code.length ≤ 2097152) (at_ : Int) (h0 : 0 ≤ at_) (h1 : at_ ≤ 1073741824) (l : List Int) (hl : 0 < l.length) (hl2 : l.length ≤ 1000) :
    ∃ v, spec_l1Pick.f code at_ l = some (v, at_ + 1) ∧ v ∈ l := by
  obtain ⟨v, hv, v0, v1, _⟩ := Next_is code hb hn at_ l.length h0 h1 (by omega)
  have v2 := v1 (by omega)
  unfold spec_l1Pick.f
  rw [hv, Option.bind_some, if_pos v0, if_pos v2]
  refine ⟨_, rfl, ?_⟩
  unfold rd
  have hlt : v.toNat < l.length := by omega
  have : l.getD v.toNat 0 = l[v.toNat] := by simp [List.getD, hlt]
  rw [this]; exact List.getElem_mem hlt
theorem count_step (l : List Int) (i : Nat) (a : Int) (h : i < l.length) : ((l.drop i).count a : Int) = (if l.getD i 0 = a then 1 else 0) + ((l.drop (i + 1)).count a : Int) := by
  rw [drop_cons l i h, List.count_cons]
  simp only [beq_iff_eq]
  split <;> omega
theorem impl_CountOf_l0 (x0 : List Int) (a : Int) (hn : x0.length ≤ 1048576) : ∀ (d k i : Nat) (c : Int), i + d = x0.length → d < k → 0 ≤ c → c ≤ i →
    impl_CountOf.l0 k a c x0 (x0.length : Int) (i : Int) = some (c + ((x0.drop i).count a : Int)) := by
  intro d
  induction d with
  | zero =>
    intro k i c hi hk h0 h1
    obtain ⟨k, rfl⟩ := at_succ hk
    simp only [impl_CountOf.l0]
    rw [if_neg (by omega), List.drop_of_length_le (by omega)]
    simp
  | succ d ih =>
    intro k i c hi hk h0 h1
    obtain ⟨k, rfl⟩ := at_succ hk
    simp only [impl_CountOf.l0]
    rw [if_pos (by omega), if_pos (by omega), if_pos (by omega), w64n i (by omega), rd_nat, count_step x0 i a (by omega)]
    by_cases e : x0.getD i 0 = a
    · rw [if_pos e, if_pos e, w64 (by omega) (by omega), ih k (i + 1) (c + 1) (by omega) (by omega) (by omega) (by omega)]
      congr 1; omega
    · rw [if_neg e, if_neg e, ih k (i + 1) c (by omega) (by omega) (by omega) (by omega)]
      congr 1; omega
theorem impl_CountOf_is (l : List Int) (a : Int) (hn : l.length ≤ 1048576) (k : Nat) (hk : l.length < k) : impl_CountOf.f k l a = some (l.count a : Int) := by
  unfold impl_CountOf.f
  rw [show (0 : Int) = ((0 : Nat) : Int) from rfl, impl_CountOf_l0 l a hn l.length k 0 _ (by omega) hk (by omega) (by omega)]
  simp
def moved : List Int → List Int → Int
  | x :: xs, y :: ys => (if x = y then 0 else 1) + moved xs ys
  | _, _ => 0
theorem moved_nil (b : List Int) : moved [] b = 0 := by unfold moved; rfl
theorem moved_bounds : ∀ a b : List Int, 0 ≤ moved a b ∧ moved a b ≤ a.length
  | [], b => by rw [moved_nil]; simp
  | x :: xs, [] => by simp only [moved]; simp; omega
  | x :: xs, y :: ys => by
    have h := moved_bounds xs ys
    simp only [moved, List.length_cons]
    split <;> omega
theorem moved_step (a b : List Int) (i : Nat) (h : i < a.length) (h' : i < b.length) : moved (a.drop i) (b.drop i) = (if a.getD i 0 = b.getD i 0 then 0 else 1) + moved (a.drop (i + 1)) (b.drop (i + 1)) := by
  rw [drop_cons a i h, drop_cons b i h']; rfl
theorem impl_MovedOf_l0 (a b : List Int) (hn : a.length ≤ 1048576) (hb : b.length = a.length) : ∀ (d k i : Nat) (c : Int), i + d = a.length → d < k → 0 ≤ c → c ≤ i →
    impl_MovedOf.l0 k b c a (a.length : Int) (i : Int) = some (0, c + moved (a.drop i) (b.drop i)) := by
  intro d
  induction d with
  | zero =>
    intro k i c hi hk h0 h1
    obtain ⟨k, rfl⟩ := at_succ hk
    simp only [impl_MovedOf.l0]
    rw [if_neg (by omega), List.drop_of_length_le (by omega), moved_nil]
    simp
  | succ d ih =>
    intro k i c hi hk h0 h1
    obtain ⟨k, rfl⟩ := at_succ hk
    simp only [impl_MovedOf.l0]
    rw [if_pos (by omega), if_pos (by omega), if_pos (by omega), if_pos (by omega), w64n i (by omega), rd_nat, rd_nat, moved_step a b i (by omega) (by omega)]
    by_cases e : a.getD i 0 = b.getD i 0
    · rw [if_pos e, if_pos e, ih k (i + 1) c (by omega) (by omega) (by omega) (by omega), Int.zero_add]
    · rw [if_neg e, if_neg e, w64 (by omega) (by omega), ih k (i + 1) (c + 1) (by omega) (by omega) (by omega) (by omega), Int.add_assoc]
def movedR (a b : List Int) : Int × Int := if a.length = 31 ∧ b.length = 31 then (0, moved a b) else (1, 0)
theorem impl_MovedOf_is (a b : List Int) (k : Nat) (hk : 40 ≤ k) : impl_MovedOf.f k a b = some (movedR a b) := by
  unfold impl_MovedOf.f movedR
  obtain ⟨k, rfl⟩ : ∃ m, k = m + 1 := ⟨k - 1, by omega⟩
  by_cases h : (a.length : Int) = 31
  · rw [if_pos h]
    simp only [impl_MovedOf.j0]
    by_cases h2 : b.length = 31
    · rw [if_neg (by simp; omega), if_pos ⟨by omega, h2⟩, show (0 : Int) = ((0 : Nat) : Int) from rfl, impl_MovedOf_l0 a b (by omega) (by omega) 31 k 0 _ (by omega) (by omega) (by omega) (by omega)]
      simp
    · rw [if_pos (by simp; omega), if_neg (by omega)]
  · rw [if_neg h]
    simp only [impl_MovedOf.j0]
    rw [if_pos trivial, if_neg (by omega)]
theorem Chance_is (code : List Int) (hb : IsBytes code) (hn : code.length ≤ 2097152) (at_ : Int) (h0 : 0 ≤ at_) (h1 : at_ ≤ 1073741824) (n : Int) (hn1 : n ≤ 1000) : ∃ v, spec_l1Chance.f code at_ n = some (v, at_ + 1) := by
  obtain ⟨v, e, _⟩ := Next_is code hb hn at_ n h0 h1 (by omega)
  unfold spec_l1Chance.f
  rw [e, bind_s]
  exact ⟨_, rfl⟩
theorem drop_consG {α : Type} (xs : List α) (d : α) (i : Nat) (h : i < xs.length) : xs.drop i = xs.getD i d :: xs.drop (i + 1) := by
  rw [List.drop_eq_getElem_cons h]; simp [List.getD, h]
theorem set_snocG {α : Type} (x : List α) (i : Nat) (v : α) (h : i < x.length) : (x.set i v).take (i + 1) = x.take i ++ [v] := by
  apply List.ext_getElem?
  intro j
  by_cases hj : j < i
  · rw [List.getElem?_append_left (by rw [List.length_take]; omega)]
    simp only [List.getElem?_take, hj, show j < i + 1 by omega, if_true]
    rw [List.getElem?_set_ne (by omega)]
  · by_cases e : j = i
    · subst e
      rw [List.getElem?_append_right (by rw [List.length_take]; omega)]
      simp only [List.getElem?_take, show j < j + 1 by omega, if_true, List.length_take]
      rw [List.getElem?_set_self h, show j - min j x.length = 0 by omega]; rfl
    · simp only [List.getElem?_take, show ¬ j < i + 1 by omega, if_false]
      rw [List.getElem?_eq_none (by rw [List.length_append, List.length_take, List.length_singleton]; omega)]
theorem take_snocG {α : Type} (x : List α) (d : α) (i : Nat) (h : i < x.length) : x.take (i + 1) = x.take i ++ [x.getD i d] := by
  rw [List.take_succ_eq_append_getElem h]; simp [List.getD, h]
def inB (a lo hi : Int) : Bool := decide (a ≥ lo) && decide (a ≤ hi)
def protoB (a : Int) : Bool := decide (a = 6) || decide (a = 17)
theorem impl_in_is (a lo hi : Int) : impl_in.f a lo hi = some (inB a lo hi) := by
  unfold impl_in.f inB
  by_cases h : a ≥ lo <;> simp [h]
theorem spec_l1In_is (a lo hi : Int) : spec_l1In.f a lo hi = some (inB a lo hi) := by
  unfold spec_l1In.f inB
  by_cases h : a ≥ lo <;> simp [h]
theorem rdI_nat (xs : List S53) (i : Nat) : rd_T53 xs (i : Int) = xs.getD i z53 := by simp [rd_T53]
def goodShare (s : S53) : Bool := inB s.f0 1 999 && inB s.f1 0 9
def sfrom (prev : Int) : List S53 → Int
  | [] => 0
  | s :: t => if goodShare s = true then (if s.f0 ≤ prev then 1 else sfrom s.f0 t) else 3
def sfault (l : List S53) : Int := if (l.length : Int) > 8 then 2 else sfrom 0 l
theorem goodShare_name {s : S53} (h : goodShare s = true) : 1 ≤ s.f0 ∧ s.f0 ≤ 999 ∧ 0 ≤ s.f1 ∧ s.f1 ≤ 9 := by
  simp only [goodShare, inB, Bool.and_eq_true, decide_eq_true_eq] at h; omega
def prevOf (l : List S53) (i : Nat) : Int := if i = 0 then 0 else (l.getD (i - 1) z53).f0
theorem prevOf_succ (l : List S53) (i : Nat) : prevOf l (i + 1) = (l.getD i z53).f0 := by simp [prevOf]
theorem impl_isName_is (a : Int) : impl_isName.f a = some (inB a 1 999) := by unfold impl_isName.f; rw [impl_in_is, bind_s]
theorem impl_SharesFault_l0 (x0 : List S53) (hn : x0.length ≤ 8) : ∀ (d k i : Nat), i + d = x0.length → 2 * d + 2 ≤ k →
    impl_SharesFault.l0 k x0 x0 (x0.length : Int) (i : Int) = some (sfrom (prevOf x0 i) (x0.drop i)) := by
  intro d
  induction d with
  | zero =>
    intro k i hi hk
    obtain ⟨k, rfl⟩ : ∃ m, k = m + 1 := ⟨k - 1, by omega⟩
    simp only [impl_SharesFault.l0]
    rw [if_neg (by omega), List.drop_of_length_le (by omega)]; rfl
  | succ d ih =>
    intro k i hi hk
    obtain ⟨k, rfl⟩ : ∃ m, k = m + 1 + 1 := ⟨k - 2, by omega⟩
    have hnext := ih k (i + 1) (by omega) (by omega)
    simp only [impl_SharesFault.l0]
    rw [if_pos (by omega), if_pos (by omega), if_pos (by omega), rdI_nat, impl_isName_is, bind_s, impl_in_is, bind_s, drop_consG x0 z53 i (by omega)]
    simp only [impl_SharesFault.j1, sfrom, goodShare]
    rw [prevOf_succ, ← w64n i (by omega)] at hnext
    rcases Bool.eq_false_or_eq_true (inB (x0.getD i z53).f0 1 999) with h1 | h1
    case inr => simp only [h1, Bool.false_eq_true, if_false, Bool.false_and, if_true]
    case inl =>
      rcases Bool.eq_false_or_eq_true (inB (x0.getD i z53).f1 0 9) with h2 | h2
      case inr => simp only [h1, h2, Bool.false_eq_true, if_false, Bool.and_false, Bool.not_false, if_true]
      case inl =>
        simp only [h1, h2, if_true, Bool.not_true, Bool.false_eq_true, if_false, Bool.and_self]
        have hg := goodShare_name (s := x0.getD i z53) (by unfold goodShare; rw [h1, h2]; rfl)
        by_cases h0 : i = 0
        · subst h0
          rw [if_neg (by omega), if_neg (by show ¬ _ ≤ (0 : Int); omega)]
          exact hnext
        · have hw : wrap64 ((i : Int) - 1) = ((i - 1 : Nat) : Int) := by rw [w64 (by omega) (by omega)]; omega
          have hp : prevOf x0 i = (x0.getD (i - 1) z53).f0 := by simp [prevOf, h0]
          rw [if_pos (by omega), hw, if_pos (by omega), if_pos (by omega), rdI_nat, hp]
          by_cases h3 : (x0.getD i z53).f0 ≤ (x0.getD (i - 1) z53).f0
          · rw [if_pos h3, if_pos h3]
          · rw [if_neg h3, if_neg h3]; exact hnext
theorem impl_SharesFault_is (l : List S53) (k : Nat) (hk : 20 ≤ k) : impl_SharesFault.f k l = some (sfault l) := by
  unfold impl_SharesFault.f sfault
  by_cases h : (l.length : Int) > 8
  · rw [if_pos h, if_pos h]
  · rw [if_neg h, if_neg h]
    exact impl_SharesFault_l0 l (by omega) l.length k 0 (by omega) (by omega)
theorem spec_l3Name_is (a : Int) : spec_l3Name.f a = some (inB a 1 999) := by unfold spec_l3Name.f; rw [spec_l1In_is, bind_s]
theorem spec_SharesFault_l0 (x0 : List S53) (hn : x0.length ≤ 8) : ∀ (d k i : Nat), i + d = x0.length → 2 * d + 2 ≤ k →
    spec_SharesFault.l0 k x0 (i : Int) = some (sfrom (prevOf x0 i) (x0.drop i)) := by
  intro d
  induction d with
  | zero =>
    intro k i hi hk
    obtain ⟨k, rfl⟩ : ∃ m, k = m + 1 := ⟨k - 1, by omega⟩
    simp only [spec_SharesFault.l0]
    rw [if_neg (by omega), List.drop_of_length_le (by omega)]; rfl
  | succ d ih =>
    intro k i hi hk
    obtain ⟨k, rfl⟩ : ∃ m, k = m + 1 + 1 := ⟨k - 2, by omega⟩
    have hnext := ih k (i + 1) (by omega) (by omega)
    simp only [spec_SharesFault.l0]
    rw [if_pos (by omega), if_pos (by omega), rdI_nat, spec_l3Name_is, bind_s, spec_l1In_is, bind_s, drop_consG x0 z53 i (by omega)]
    simp only [spec_SharesFault.j1, sfrom, goodShare]
    rw [prevOf_succ, ← w64n i (by omega)] at hnext
    rcases Bool.eq_false_or_eq_true (inB (x0.getD i z53).f0 1 999) with h1 | h1
    case inr => simp only [h1, Bool.false_eq_true, if_false, Bool.false_and, if_true]
    case inl =>
      rcases Bool.eq_false_or_eq_true (inB (x0.getD i z53).f1 0 9) with h2 | h2
      case inr => simp only [h1, h2, Bool.false_eq_true, if_false, Bool.and_false, Bool.not_false, if_true]
      case inl =>
        simp only [h1, h2, if_true, Bool.not_true, Bool.false_eq_true, if_false, Bool.and_self]
        have hg := goodShare_name (s := x0.getD i z53) (by unfold goodShare; rw [h1, h2]; rfl)
        by_cases h0 : i = 0
        · subst h0
          rw [if_neg (by omega), if_neg (by show ¬ _ ≤ (0 : Int); omega)]
          exact hnext
        · have hw : wrap64 ((i : Int) - 1) = ((i - 1 : Nat) : Int) := by rw [w64 (by omega) (by omega)]; omega
          have hp : prevOf x0 i = (x0.getD (i - 1) z53).f0 := by simp [prevOf, h0]
          rw [if_pos (by omega), if_pos (by omega), if_pos (by omega), hw, if_pos (by omega), if_pos (by omega), rdI_nat, rdI_nat, hp]
          by_cases h3 : (x0.getD i z53).f0 ≤ (x0.getD (i - 1) z53).f0
          · rw [if_pos h3, if_pos h3]
          · rw [if_neg h3, if_neg h3]; exact hnext
theorem spec_SharesFault_is (l : List S53) (k : Nat) (hk : 20 ≤ k) : spec_SharesFault.f k l = some (sfault l) := by
  unfold spec_SharesFault.f sfault
  by_cases h : (l.length : Int) > 8
  · rw [if_pos h, if_pos h]
  · rw [if_neg h, if_neg h]
    exact spec_SharesFault_l0 l (by omega) l.length k 0 (by omega) (by omega)
def mixStep (n h : Int) : Int := (h * 131 + n % 256 + 1) % 1000003
def mix4 (n h : Int) : Int := mixStep (n / 256 / 256 / 256) (mixStep (n / 256 / 256) (mixStep (n / 256) (mixStep n h)))
def mix (n salt : Int) : Int := mix4 (n % 4294967296) (salt % 10007 + 11)
theorem mixStep_bounds (n h : Int) : 0 ≤ mixStep n h ∧ mixStep n h < 1000003 := by unfold mixStep; omega
theorem mix_bounds (n salt : Int) : 0 ≤ mix n salt ∧ mix n salt < 1000003 := mixStep_bounds _ _
theorem mod_is (n m : Int) (h : 0 < m) (hm : m ≤ 4294967296) : Int.tmod (wrap64 (Int.tmod n m + m)) m = n % m := by
  have h1 : -m < Int.tmod n m := by
    have := Int.lt_tmod_of_pos n h; omega
  have h2 : Int.tmod n m < m := Int.tmod_lt_of_pos n h
  rw [w64 (by omega) (by omega), Int.tmod_eq_emod_of_nonneg (by omega), Int.add_emod_right]
  have := Int.mul_tdiv_add_tmod n m
  have e : n = Int.tmod n m + m * Int.tdiv n m := by omega
  conv => rhs; rw [e]
  rw [Int.add_mul_emod_self_left]
theorem mix_round (n h : Int) (h0 : 0 ≤ h) (h1 : h < 1000003) (hn : 0 ≤ n) :
    Int.tmod (wrap64 (wrap64 (wrap64 (h * 131) + Int.tmod n 256) + 1)) 1000003 = mixStep n h := by
  have a := Int.tmod_eq_emod_of_nonneg (b := 256) hn
  rw [a, w64 (n := h * 131) (by omega) (by omega), w64 (n := h * 131 + n % 256) (by omega) (by omega), w64 (by omega) (by omega), Int.tmod_eq_emod_of_nonneg (by omega)]
  rfl
theorem mix_down (n : Int) (hn : 0 ≤ n) (h1 : n ≤ 4294967296) : wrap64 (Int.tdiv n 256) = n / 256 := by
  rw [Int.tdiv_eq_ediv_of_nonneg hn, w64 (by omega) (by omega)]
theorem impl_MixNumber_l0 (n h : Int) (hn : 0 ≤ n) (hm : n ≤ 4294967296) (h0 : 0 ≤ h) (h1 : h < 1000003) (k : Nat) (hk : 5 ≤ k) : impl_MixNumber.l0 k n h 0 = some (mix4 n h) := by
  obtain ⟨k, rfl⟩ : ∃ m, k = m + 1 + 1 + 1 + 1 + 1 := ⟨k - 5, by omega⟩
  have a1 : wrap64 (0 + 1) = 1 := by rw [w64 (by omega) (by omega)]; rfl
  have a2 : wrap64 (1 + 1) = 2 := by rw [w64 (by omega) (by omega)]; rfl
  have a3 : wrap64 (2 + 1) = 3 := by rw [w64 (by omega) (by omega)]; rfl
  have a4 : wrap64 (3 + 1) = 4 := by rw [w64 (by omega) (by omega)]; rfl
  have b1 := mixStep_bounds n h
  have b2 := mixStep_bounds (n / 256) (mixStep n h)
  have b3 := mixStep_bounds (n / 256 / 256) (mixStep (n / 256) (mixStep n h))
  simp only [impl_MixNumber.l0]
  rw [a1, a2, a3, a4, if_pos (by decide), if_pos (by decide), if_pos (by decide), if_pos (by decide), if_neg (by decide)]
  rw [mix_down n hn hm, mix_down (n / 256) (by omega) (by omega), mix_down (n / 256 / 256) (by omega) (by omega)]
  rw [mix_round n h h0 h1 hn, mix_round (n / 256) _ b1.1 b1.2 (by omega), mix_round (n / 256 / 256) _ b2.1 b2.2 (by omega), mix_round (n / 256 / 256 / 256) _ b3.1 b3.2 (by omega)]
  rfl
theorem impl_MixNumber_is (n salt : Int) (k : Nat) (hk : 5 ≤ k) : impl_MixNumber.f k n salt = some (mix n salt) := by
  unfold impl_MixNumber.f impl_rest.f
  rw [if_neg (by decide), if_neg (by decide), mod_is salt 10007 (by decide) (by decide), mod_is n 4294967296 (by decide) (by decide)]
  simp only [Option.bind_some]
  rw [w64 (by omega) (by omega)]
  exact impl_MixNumber_l0 _ _ (by omega) (by omega) (by omega) (by omega) k hk
def off (name : Int) : Int := mix name 3 % 31
def skp (name : Int) : Int := 1 + mix name 5 % 30
def place (name : Int) (k : Nat) : Int := (off name + k * skp name) % 31
def perm (name : Int) : List Int := (List.range 31).map (place name)
theorem off_bounds (name : Int) : 0 ≤ off name ∧ off name < 31 := by unfold off; omega
theorem skp_bounds (name : Int) : 1 ≤ skp name ∧ skp name ≤ 30 := by unfold skp; omega
theorem perm_length (name : Int) : (perm name).length = 31 := by simp [perm]
theorem place_is (name : Int) (k : Nat) (hk : k ≤ 40) : Int.tmod (wrap64 (off name + wrap64 ((k : Int) * skp name))) 31 = place name k := by
  have h1 := off_bounds name
  have h2 := skp_bounds name
  have h3 : (k : Int) * skp name ≤ 40 * 30 := Int.mul_le_mul (by omega) h2.2 (by omega) (by omega)
  have h4 : 0 ≤ (k : Int) * skp name := Int.mul_nonneg (by omega) (by omega)
  rw [w64 (n := (k : Int) * skp name) (by omega) (by omega), w64 (by omega) (by omega), Int.tmod_eq_emod_of_nonneg (by omega)]
  rfl
def permR (name : Int) : Int × List Int := if 1 ≤ name ∧ name ≤ 999 then (0, perm name) else (3, [])
theorem permR_length (name : Int) : (permR name).2.length ≤ 31 := by
  unfold permR
  split
  · rw [perm_length]; exact Nat.le_refl _
  · simp
theorem impl_offset_is (name : Int) (k : Nat) (hk : 5 ≤ k) : impl_offset.f k name = some (off name) := by
  unfold impl_offset.f off
  have h := mix_bounds name 3
  rw [impl_MixNumber_is name 3 k hk, Option.bind_some, Int.tmod_eq_emod_of_nonneg h.1]
theorem impl_skip_is (name : Int) (k : Nat) (hk : 5 ≤ k) : impl_skip.f k name = some (skp name) := by
  unfold impl_skip.f skp
  have h := mix_bounds name 5
  rw [impl_MixNumber_is name 5 k hk, Option.bind_some, Int.tmod_eq_emod_of_nonneg h.1, w64 (by omega) (by omega)]
theorem impl_permutation_l0 (name : Int) : ∀ (d k i : Nat) (out : List Int), i + d = 31 → d + 6 ≤ k → out = (List.range i).map (place name) → impl_permutation.l0 k name out (i : Int) = some (perm name) := by
  intro d
  induction d with
  | zero =>
    intro k i out hi hk ho
    obtain ⟨k, rfl⟩ : ∃ m, k = m + 1 := ⟨k - 1, by omega⟩
    simp only [impl_permutation.l0]
    obtain rfl : i = 31 := by omega
    rw [if_neg (by omega), ho]; rfl
  | succ d ih =>
    intro k i out hi hk ho
    obtain ⟨k, rfl⟩ : ∃ m, k = m + 1 := ⟨k - 1, by omega⟩
    simp only [impl_permutation.l0]
    have hl : out.length = i := by rw [ho]; simp
    rw [if_pos (by omega), impl_offset_is name k (by omega), Option.bind_some, impl_skip_is name k (by omega), Option.bind_some, if_pos (by omega), place_is name i (by omega), w64n i (by omega)]
    exact ih k (i + 1) _ (by omega) (by omega) (by rw [ho, List.range_succ]; simp)
theorem impl_permutation_is (name : Int) (k : Nat) (hk : 40 ≤ k) : impl_permutation.f k name = some (perm name) := by
  unfold impl_permutation.f
  exact impl_permutation_l0 name 31 k 0 [] (by omega) (by omega) rfl
def fr (t : List Int) (p : Int) : Bool := decide (rd t p = 0)
def firstF (t : List Int) (n : Int) : Option Int := (perm n).find? (fr t)
def pl : List Int → List Int → List Int
  | t, [] => t
  | t, n :: s => pl (t.set ((firstF t n).getD 0).toNat n) s
def names : List S53 → List Int
  | [] => []
  | s :: l => List.replicate s.f1.toNat s.f0 ++ names l
def rounds (l : List S53) : Nat → List Int
  | 0 => []
  | R + 1 => names l ++ rounds l R
def fillM (l : List S53) : List Int := if (names l).length = 0 then List.replicate 31 0 else pl (List.replicate 31 0) ((rounds l 31).take 31)
def seqF (l : List S53) (R i c : Nat) : List Int := List.replicate ((l.getD i z53).f1.toNat - c) (l.getD i z53).f0 ++ (names (l.drop (i + 1)) ++ rounds l R)
def goodShares (l : List S53) : Prop := l.length ≤ 8 ∧ ∀ s ∈ l, goodShare s = true
theorem sfrom_good : ∀ (l : List S53) (prev : Int), sfrom prev l = 0 → ∀ s ∈ l, goodShare s = true
  | [], _, _ => fun s hs => by cases hs
  | x :: l, prev, h => by
    simp only [sfrom] at h
    split at h
    · rename_i hg
      split at h
      · cases h
      · intro s hs
        rcases List.mem_cons.1 hs with rfl | hs
        · exact hg
        · exact sfrom_good l _ h s hs
    · cases h
theorem sfault_good {l : List S53} (h : sfault l = 0) : goodShares l := by
  unfold sfault at h
  split at h
  · cases h
  · exact ⟨by omega, sfrom_good l 0 h⟩
theorem goodShares.at_ {l : List S53} (h : goodShares l) (i : Nat) (hi : i < l.length) : 1 ≤ (l.getD i z53).f0 ∧ (l.getD i z53).f0 ≤ 999 ∧ 0 ≤ (l.getD i z53).f1 ∧ (l.getD i z53).f1 ≤ 9 := by
  have : l.getD i z53 = l[i] := by simp [List.getD, hi]
  rw [this]; exact goodShare_name (h.2 _ (List.getElem_mem hi))
theorem place_bounds (n : Int) (k : Nat) : 0 ≤ place n k ∧ place n k < 31 := by unfold place; omega
theorem perm_bounds {n p : Int} (h : p ∈ perm n) : 0 ≤ p ∧ p < 31 := by
  obtain ⟨k, _, rfl⟩ := List.mem_map.1 h
  exact place_bounds n k
theorem all_places0 : ∀ (s : Fin 30) (a : Fin 31), ∃ k : Fin 31, (k.val * (1 + s.val)) % 31 = a.val := by decide +kernel
theorem all_places (o : Fin 31) (s : Fin 30) (a : Fin 31) : ∃ k : Fin 31, (o.val + k.val * (1 + s.val)) % 31 = a.val := by
  obtain ⟨k, hk⟩ := all_places0 s ⟨(a.val + 31 - o.val) % 31, Nat.mod_lt _ (by decide)⟩
  refine ⟨k, ?_⟩
  have hk' : (k.val * (1 + s.val)) % 31 = (a.val + 31 - o.val) % 31 := hk
  generalize k.val * (1 + s.val) = X at *
  have := o.isLt
  have := a.isLt
  omega
theorem perm_has (name : Int) (a : Nat) (ha : a < 31) : (a : Int) ∈ perm name := by
  have h1 := off_bounds name
  have h2 := skp_bounds name
  obtain ⟨k, hk⟩ := all_places ⟨(off name).toNat, by omega⟩ ⟨(skp name - 1).toNat, by omega⟩ ⟨a, ha⟩
  refine List.mem_map.2 ⟨k.val, List.mem_range.2 k.isLt, ?_⟩
  unfold place
  have e1 : off name = ((off name).toNat : Int) := by omega
  have e2 : skp name = ((1 + (skp name - 1).toNat : Nat) : Int) := by omega
  rw [e1, e2]
  have hk' : ((off name).toNat + k.val * (1 + (skp name - 1).toNat)) % 31 = a := hk
  have := congrArg (fun n : Nat => (n : Int)) hk'
  simpa using this
theorem rd_mem {t : List Int} {p : Int} (h0 : 0 ≤ p) (h1 : p < t.length) : rd t p ∈ t := by
  have : rd t p = t[p.toNat]'(by omega) := by
    unfold rd
    rw [List.getD_eq_getElem?_getD, List.getElem?_eq_getElem (by omega)]; rfl
  rw [this]; exact List.getElem_mem _
theorem first_some {t : List Int} (ht : t.length = 31) (n : Int) (hc : 0 < t.count 0) : ∃ p, firstF t n = some p ∧ 0 ≤ p ∧ p < 31 ∧ rd t p = 0 := by
  cases h : firstF t n with
  | none =>
    exfalso
    have hn := List.find?_eq_none.1 h
    obtain ⟨i, hi, e⟩ := List.getElem_of_mem (List.count_pos_iff.1 hc)
    refine hn (i : Int) (perm_has n i (by omega)) ?_
    unfold fr
    rw [rd_nat]
    simp [List.getD, hi, e]
  | some p =>
    have h1 := List.find?_some h
    have h2 := perm_bounds (List.mem_of_find?_eq_some h)
    exact ⟨p, rfl, h2.1, h2.2, by simpa [fr] using h1⟩
theorem first_none {t : List Int} (ht : t.length = 31) (n : Int) (hc : t.count 0 = 0) : firstF t n = none := by
  refine List.find?_eq_none.2 (fun p hp => ?_)
  have hb := perm_bounds hp
  intro hf
  have h0 : rd t p = 0 := by simpa [fr] using hf
  have := rd_mem (t := t) hb.1 (by omega)
  rw [h0] at this
  exact List.count_eq_zero.1 hc this
theorem count_put {t : List Int} {p n : Int} (h0 : 0 ≤ p) (h1 : p < t.length) (hz : rd t p = 0) (hn : n ≠ 0) : (t.set p.toNat n).count 0 + 1 = t.count 0 := by
  have hi : p.toNat < t.length := by omega
  have e : t[p.toNat] = 0 := by
    have : rd t p = t[p.toNat] := by
      unfold rd
      rw [List.getD_eq_getElem?_getD, List.getElem?_eq_getElem hi]; rfl
    rw [← this]; exact hz
  have hm : 0 < t.count 0 := List.count_pos_iff.2 (by rw [← e]; exact List.getElem_mem hi)
  rw [List.count_set hi, e]
  have hb : (n == 0) = false := beq_eq_false_iff_ne.2 hn
  simp only [hb, beq_self_eq_true, if_true]
  simp; omega
theorem rd_set {t : List Int} {p q n : Int} (hq : 0 ≤ q) (hp : 0 ≤ p) (hn : n ≠ 0) (h : rd t q ≠ 0) : rd (t.set p.toNat n) q ≠ 0 := by
  unfold rd at *
  rw [List.getD_eq_getElem?_getD] at *
  by_cases e : p.toNat = q.toNat
  · by_cases hl : q.toNat < t.length
    · rw [e, List.getElem?_set_self hl]; exact hn
    · rw [List.set_eq_of_length_le (by omega)]; exact h
  · rw [List.getElem?_set_ne e]; exact h
theorem pl_length : ∀ (s t : List Int), (pl t s).length = t.length
  | [], t => rfl
  | n :: s, t => by simp only [pl]; rw [pl_length s, List.length_set]
theorem take_cons1 (n : Int) (s : List Int) (z : Nat) (hz : 0 < z) : (n :: s).take z = n :: s.take (z - 1) := by
  obtain ⟨y, rfl⟩ : ∃ y, z = y + 1 := ⟨z - 1, by omega⟩
  rfl
theorem seqF_step (l : List S53) (R i c : Nat) (hc : c < (l.getD i z53).f1.toNat) : seqF l R i c = (l.getD i z53).f0 :: seqF l R i (c + 1) := by
  unfold seqF
  obtain ⟨m, hm⟩ : ∃ m, (l.getD i z53).f1.toNat - c = m + 1 := ⟨(l.getD i z53).f1.toNat - c - 1, by omega⟩
  have hm' : (l.getD i z53).f1.toNat - (c + 1) = m := by omega
  rw [hm, hm', List.replicate_succ]; rfl
theorem seqF_next (l : List S53) (R i : Nat) (hi : i + 1 < l.length) : seqF l R i (l.getD i z53).f1.toNat = seqF l R (i + 1) 0 := by
  unfold seqF
  rw [Nat.sub_self, List.replicate_zero, List.nil_append, drop_consG l z53 (i + 1) hi, names, Nat.sub_zero, List.append_assoc]
theorem seqF_end (l : List S53) (R i : Nat) (hi : i + 1 = l.length) : seqF l R i (l.getD i z53).f1.toNat = rounds l R := by
  unfold seqF
  rw [Nat.sub_self, List.replicate_zero, List.nil_append, List.drop_of_length_le (by omega)]; rfl
theorem rounds_succ (l : List S53) (R : Nat) (hl : 0 < l.length) : rounds l (R + 1) = seqF l R 0 0 := by
  unfold seqF
  simp only [rounds]
  have e : names l = List.replicate (l.getD 0 z53).f1.toNat (l.getD 0 z53).f0 ++ names (l.drop 1) := by
    have := drop_consG l z53 0 hl
    rw [List.drop_zero] at this
    rw [this]; simp [names]
  rw [e, Nat.sub_zero, List.append_assoc]
theorem rounds_length (l : List S53) : ∀ R, (rounds l R).length = R * (names l).length
  | 0 => by simp [rounds]
  | R + 1 => by simp only [rounds, List.length_append]; rw [rounds_length l R, Nat.succ_mul]; omega
theorem names_pos {l : List S53} (h : (names l).length ≠ 0) : 0 < l.length := by
  cases l with
  | nil => exact absurd rfl h
  | cons x l => simp
def Ord (t : List Int) (n : Int) (o : List Int) : Prop := ∃ pre, perm n = pre ++ o ∧ ∀ p ∈ pre, rd t p ≠ 0
def Ords (t : List Int) (l : List S53) (x : List (List Int)) : Prop := x.length = l.length ∧ ∀ j, j < l.length → Ord t (l.getD j z53).f0 (x.getD j [])
theorem rdL3_nat (xs : List (List Int)) (i : Nat) : rd_L2 xs (i : Int) = xs.getD i [] := by simp [rd_L2]
theorem Ord.step {t : List Int} {n q : Int} {o : List Int} (h : Ord t n (q :: o)) (hq : rd t q ≠ 0) : Ord t n o := by
  obtain ⟨pre, e, hp⟩ := h
  refine ⟨pre ++ [q], by rw [e]; simp, fun p hm => ?_⟩
  rcases List.mem_append.1 hm with hm | hm
  · exact hp p hm
  · rw [List.mem_singleton.1 hm]; exact hq
theorem Ord.find {t : List Int} {n : Int} {o : List Int} (h : Ord t n o) : o.find? (fr t) = firstF t n := by
  obtain ⟨pre, e, hp⟩ := h
  unfold firstF
  rw [e, List.find?_append]
  have : pre.find? (fr t) = none := List.find?_eq_none.2 (fun p hm => by
    have := hp p hm
    simp [fr, this])
  rw [this]; rfl
theorem Ord.mem {t : List Int} {n : Int} {o : List Int} (h : Ord t n o) {q : Int} (hq : q ∈ o) : 0 ≤ q ∧ q < 31 := by
  obtain ⟨pre, e, _⟩ := h
  exact perm_bounds (n := n) (by rw [e]; exact List.mem_append_right _ hq)
theorem Ord.put {t : List Int} {n : Int} {o : List Int} (h : Ord t n o) {p a : Int} (hp : 0 ≤ p) (ha : a ≠ 0) : Ord (t.set p.toNat a) n o := by
  obtain ⟨pre, e, hq⟩ := h
  refine ⟨pre, e, fun q hm => rd_set (perm_bounds (n := n) (by rw [e]; exact List.mem_append_left _ hm)).1 hp ha (hq q hm)⟩
theorem Ords.put {t : List Int} {l : List S53} {x : List (List Int)} (h : Ords t l x) {p a : Int} (hp : 0 ≤ p) (ha : a ≠ 0) (i : Nat) (o : List Int) (ho : Ord t (l.getD i z53).f0 o) : Ords (t.set p.toNat a) l (x.set i o) := by
  refine ⟨by rw [List.length_set]; exact h.1, fun j hj => ?_⟩
  by_cases e : i = j
  · subst e
    have : (x.set i o).getD i [] = o := by rw [List.getD_eq_getElem?_getD, List.getElem?_set_self (by rw [h.1]; exact hj)]; rfl
    rw [this]; exact ho.put hp ha
  · have : (x.set i o).getD j [] = x.getD j [] := by rw [List.getD_eq_getElem?_getD, List.getElem?_set_ne e, ← List.getD_eq_getElem?_getD]
    rw [this]; exact (h.2 j hj).put hp ha
set_option maxRecDepth 20000 in
theorem impl_fill_l4 (x0 x29 : List S53) (x30 x31 w c a b z : Int) (t : List Int) (ht : t.length = 31) (n p : Int) (i : Nat) (hp : firstF t n = some p) :
    ∀ (o : List Int) (k : Nat) (x5 : List (List Int)), i < x5.length → x5.getD i [] = o → Ord t n o → o.length < k →
      ∃ k' o', k ≤ k' + o.length ∧ Ord t n o' ∧ impl_fill.l4 k x0 t z x5 (i : Int) x29 x30 x31 w c a b = (if (wrap64 (z - 1)) = 0 then (some (t.set p.toNat a)) else (impl_fill.l3 k' x0 (t.set p.toNat a) (wrap64 (z - 1)) (x5.set i o') (i : Int) x29 x30 x31 w (wrap64 (c + 1)) a b)) := by
  intro o
  induction o with
  | nil =>
    intro k x5 hi ho hO hk
    have := hO.find
    rw [hp] at this; cases this
  | cons q o ih =>
    intro k x5 hi ho hO hk
    obtain ⟨k, rfl⟩ : ∃ m, k = m + 1 := ⟨k - 1, by omega⟩
    have hq := hO.mem (List.mem_cons_self ..)
    have hf := hO.find
    rw [hp, List.find?_cons] at hf
    have r0 : rd (q :: o) 0 = q := rfl
    by_cases hz : rd t q = 0
    · have hfr : fr t q = true := decide_eq_true hz
      rw [hfr] at hf
      obtain rfl : q = p := by simpa using hf
      refine ⟨k, q :: o, by simp only [List.length_cons]; omega, hO, ?_⟩
      have hx : x5.set i (q :: o) = x5 := by
        have e : x5[i] = q :: o := by rw [← ho]; simp [List.getD, hi]
        rw [← e]; exact List.set_getElem_self hi
      rw [hx]
      simp only [impl_fill.l4]
      rw [if_pos (by omega), if_pos (by omega), rdL3_nat, ho, if_pos (by simp only [List.length_cons]; omega), r0, if_pos hq.1, if_pos (by omega), if_pos hz, bind_s]
    · have hfr : fr t q = false := decide_eq_false hz
      simp only [List.length_cons] at hk
      obtain ⟨k', o', h1, h2, h3⟩ := ih k (x5.set i o) (by rw [List.length_set]; exact hi) (by rw [List.getD_eq_getElem?_getD, List.getElem?_set_self hi]; rfl) (hO.step hz) (by omega)
      refine ⟨k', o', by simp only [List.length_cons]; omega, h2, ?_⟩
      simp only [impl_fill.l4]
      rw [if_pos (by omega), if_pos (by omega), rdL3_nat, ho, if_pos (by simp only [List.length_cons]; omega), r0, if_pos hq.1, if_pos (by omega), if_neg hz, if_pos (by simp only [List.length_cons]; omega), Int.toNat_natCast]
      rw [List.set_set] at h3
      exact h3
set_option maxRecDepth 20000 in
theorem impl_fill_l3 (l : List S53) (hg : goodShares l) (R : Nat)
    (IH : ∀ R', R = R' + 1 → ∀ (t : List Int) (x : List (List Int)) (z k : Nat), t.length = 31 → t.count 0 = z → 0 < z → Ords t l x → z ≤ (seqF l R' 0 0).length → 2490 * R' + 2530 ≤ k →
      impl_fill.l3 k l t (z : Int) x 0 l (l.length : Int) 0 (l.getD 0 z53).f1 0 (l.getD 0 z53).f0 (l.getD 0 z53).f1 = some (pl t ((seqF l R' 0 0).take z))) :
    ∀ (d i : Nat), i + d + 1 = l.length → ∀ (e c k z : Nat) (t : List Int) (x : List (List Int)), c + e = (l.getD i z53).f1.toNat → t.length = 31 → t.count 0 = z → 0 < z → Ords t l x → z ≤ (seqF l R i c).length → 34 * e + 310 * d + 2490 * R + 50 ≤ k →
      impl_fill.l3 k l t (z : Int) x (i : Int) l (l.length : Int) (i : Int) (l.getD i z53).f1 (c : Int) (l.getD i z53).f0 (l.getD i z53).f1 = some (pl t ((seqF l R i c).take z)) := by
  have step : ∀ (i e d : Nat), i < l.length → (∀ (c k z : Nat) (t : List Int) (x : List (List Int)), c + e = (l.getD i z53).f1.toNat → t.length = 31 → t.count 0 = z → 0 < z → Ords t l x → z ≤ (seqF l R i c).length → 34 * e + 310 * d + 2490 * R + 50 ≤ k →
      impl_fill.l3 k l t (z : Int) x (i : Int) l (l.length : Int) (i : Int) (l.getD i z53).f1 (c : Int) (l.getD i z53).f0 (l.getD i z53).f1 = some (pl t ((seqF l R i c).take z))) →
    ∀ (c k z : Nat) (t : List Int) (x : List (List Int)), c + (e + 1) = (l.getD i z53).f1.toNat → t.length = 31 → t.count 0 = z → 0 < z → Ords t l x → z ≤ (seqF l R i c).length → 34 * (e + 1) + 310 * d + 2490 * R + 50 ≤ k →
      impl_fill.l3 k l t (z : Int) x (i : Int) l (l.length : Int) (i : Int) (l.getD i z53).f1 (c : Int) (l.getD i z53).f0 (l.getD i z53).f1 = some (pl t ((seqF l R i c).take z)) := by
    intro i e d hi ihe c k z t x hc ht hz hz0 hx hs hk
    obtain ⟨k, rfl⟩ : ∃ m, k = m + 1 := ⟨k - 1, by omega⟩
    have hw := hg.at_ i hi
    obtain ⟨p, hp, p0, p1, pz⟩ := first_some ht (l.getD i z53).f0 (by omega)
    have hcp := count_put (n := (l.getD i z53).f0) p0 (by omega) pz (by omega)
    have hOi := hx.2 i hi
    have hlen : (x.getD i []).length ≤ 31 := by
      obtain ⟨pre, e_, _⟩ := hOi
      have := congrArg List.length e_
      rw [perm_length, List.length_append] at this; omega
    have hzl : z ≤ 31 := by rw [← hz, ← ht]; exact List.count_le_length
    obtain ⟨k', o', h1, h2, h3⟩ := impl_fill_l4 l l (l.length : Int) (i : Int) (l.getD i z53).f1 (c : Int) (l.getD i z53).f0 (l.getD i z53).f1 (z : Int) t ht (l.getD i z53).f0 p i hp (x.getD i []) k x (by rw [hx.1]; exact hi) rfl hOi (by omega)
    rw [seqF_step l R i c (by omega)] at hs ⊢
    simp only [impl_fill.l3]
    rw [if_pos (by omega), h3, take_cons1 _ _ _ hz0, pl, hp, Option.getD_some, w64 (n := (z : Int) - 1) (by omega) (by omega), w64n c (by omega)]
    by_cases e1 : z = 1
    · rw [if_pos (by omega), e1]; rfl
    · rw [if_neg (by omega), show (z : Int) - 1 = ((z - 1 : Nat) : Int) by omega]
      exact ihe (c + 1) k' (z - 1) _ _ (by omega) (by rw [List.length_set]; exact ht) (by omega) (by omega) (hx.put p0 (by omega) i o' h2) (by simp only [List.length_cons] at hs; omega) (by omega)
  intro d
  induction d with
  | zero =>
    intro i hi e
    induction e with
    | zero =>
      intro c k z t x hc ht hz hz0 hx hs hk
      obtain ⟨k, rfl⟩ : ∃ m, k = m + 1 + 1 + 1 + 1 := ⟨k - 4, by omega⟩
      have hw := hg.at_ i (by omega)
      have h8 := hg.1
      obtain rfl : c = (l.getD i z53).f1.toNat := by omega
      rw [seqF_end l R i (by omega)] at hs ⊢
      simp only [impl_fill.l3]
      rw [if_neg (by omega), w64n i (by omega)]
      simp only [impl_fill.l2]
      rw [if_neg (by omega)]
      simp only [impl_fill.l1]
      simp only [impl_fill.l2]
      rw [if_pos (by omega), if_pos (by omega), if_pos (by omega), show rd_T53 l 0 = l.getD 0 z53 from rfl]
      cases R with
      | zero => simp [rounds] at hs; omega
      | succ R' =>
        rw [rounds_succ l R' (by omega)] at hs ⊢
        exact IH R' rfl t x z k ht hz hz0 hx hs (by omega)
    | succ e ihe => exact step i e 0 (by omega) ihe
  | succ d ihd =>
    intro i hi e
    induction e with
    | zero =>
      intro c k z t x hc ht hz hz0 hx hs hk
      obtain ⟨k, rfl⟩ : ∃ m, k = m + 1 + 1 := ⟨k - 2, by omega⟩
      have hw := hg.at_ i (by omega)
      have hw' := hg.at_ (i + 1) (by omega)
      have h8 := hg.1
      obtain rfl : c = (l.getD i z53).f1.toNat := by omega
      rw [seqF_next l R i (by omega)] at hs ⊢
      simp only [impl_fill.l3]
      rw [if_neg (by omega), w64n i (by omega)]
      simp only [impl_fill.l2]
      rw [if_pos (by omega), if_pos (by omega), if_pos (by omega), rdI_nat]
      exact ihd (i + 1) (by omega) _ 0 k z t x (Nat.zero_add _) ht hz hz0 hx hs (by omega)
    | succ e ihe => exact step i e (d + 1) (by omega) ihe
set_option maxRecDepth 20000 in
theorem impl_fill_round (l : List S53) (hg : goodShares l) (hl : 0 < l.length) : ∀ (R : Nat) (t : List Int) (x : List (List Int)) (z k : Nat), t.length = 31 → t.count 0 = z → 0 < z → Ords t l x → z ≤ (seqF l R 0 0).length → 2490 * R + 2530 ≤ k →
    impl_fill.l3 k l t (z : Int) x 0 l (l.length : Int) 0 (l.getD 0 z53).f1 0 (l.getD 0 z53).f0 (l.getD 0 z53).f1 = some (pl t ((seqF l R 0 0).take z)) := by
  intro R
  have hw := hg.at_ 0 hl
  have h8 := hg.1
  induction R with
  | zero =>
    intro t x z k ht hz hz0 hx hs hk
    exact impl_fill_l3 l hg 0 (fun R' h => by omega) (l.length - 1) 0 (by omega) _ 0 k z t x (Nat.zero_add _) ht hz hz0 hx hs (by omega)
  | succ R ih =>
    intro t x z k ht hz hz0 hx hs hk
    exact impl_fill_l3 l hg (R + 1) (fun R' h => by cases (Nat.succ.inj h); exact ih) (l.length - 1) 0 (by omega) _ 0 k z t x (Nat.zero_add _) ht hz hz0 hx hs (by omega)
set_option maxRecDepth 20000 in
theorem impl_fill_l0 (l : List S53) (hg : goodShares l) (t : List Int) (z : Int) : ∀ (d k i : Nat) (x : List (List Int)), i + d = l.length → d + 50 ≤ k → x = (l.take i).map (fun s => perm s.f0) →
    ∃ k', k ≤ k' + d + 1 ∧ impl_fill.l0 k l t z x l (l.length : Int) (i : Int) = impl_fill.l1 k' l t z (l.map (fun s => perm s.f0)) := by
  intro d
  have h8 := hg.1
  induction d with
  | zero =>
    intro k i x hi hk hx
    obtain ⟨k, rfl⟩ : ∃ m, k = m + 1 := ⟨k - 1, by omega⟩
    refine ⟨k, by omega, ?_⟩
    simp only [impl_fill.l0]
    rw [if_neg (by omega), hx, List.take_of_length_le (by omega)]
  | succ d ih =>
    intro k i x hi hk hx
    obtain ⟨k, rfl⟩ : ∃ m, k = m + 1 := ⟨k - 1, by omega⟩
    have hl : x.length = i := by rw [hx, List.length_map, List.length_take]; omega
    obtain ⟨k', h1, h2⟩ := ih k (i + 1) (x ++ [perm (l.getD i z53).f0]) (by omega) (by omega) (by rw [hx, take_snocG l z53 i (by omega), List.map_append]; rfl)
    refine ⟨k', by omega, ?_⟩
    simp only [impl_fill.l0]
    rw [if_pos (by omega), if_pos (by omega), if_pos (by omega), rdI_nat, impl_permutation_is _ k (by omega), bind_s, if_pos (by omega), w64n i (by omega)]
    exact h2
theorem names_any (l : List S53) (h : ∀ s ∈ l, goodShare s = true) : (l.any fun s => decide (0 < s.f1)) = decide ((names l).length ≠ 0) := by
  induction l with
  | nil => rfl
  | cons x l ih =>
    have hx := goodShare_name (h x (List.mem_cons_self ..))
    rw [List.any_cons, ih (fun s hs => h s (List.mem_cons_of_mem _ hs))]
    simp only [names, List.length_append, List.length_replicate]
    by_cases c : 0 < x.f1
    · have h1 : decide (0 < x.f1) = true := decide_eq_true c
      have h2 : decide (x.f1.toNat + (names l).length ≠ 0) = true := decide_eq_true (by omega)
      rw [h1, h2]; rfl
    · have h1 : decide (0 < x.f1) = false := decide_eq_false c
      have e : x.f1.toNat = 0 := by omega
      rw [h1, e, Nat.zero_add]; rfl
set_option maxRecDepth 20000 in
theorem impl_fill_is (l : List S53) (hg : goodShares l) (k : Nat) (hk : 80000 ≤ k) : impl_fill.f k l = some (fillM l) := by
  have h8 := hg.1
  unfold impl_fill.f fillM
  rw [if_pos (by omega), bind_s]
  unfold impl_Share_60.f
  rw [bind_s, names_any l hg.2]
  by_cases h : (names l).length = 0
  · rw [if_pos h, if_neg (by simp [h])]
  · rw [if_neg h, if_pos (decide_eq_true h)]
    have hl := names_pos h
    have hw := hg.at_ 0 hl
    obtain ⟨k', h1, h2⟩ := impl_fill_l0 l hg (List.replicate 31 0) 31 l.length k 0 [] (by omega) (by omega) rfl
    have h2' : impl_fill.l0 k l (List.replicate 31 0) 31 ([] : List (List Int)) l (l.length : Int) 0 = _ := h2
    rw [h2']
    obtain ⟨k', rfl⟩ : ∃ m, k' = m + 1 + 1 := ⟨k' - 2, by omega⟩
    simp only [impl_fill.l1]
    simp only [impl_fill.l2]
    rw [if_pos (by omega), if_pos (by omega), if_pos (by omega), show rd_T53 l 0 = l.getD 0 z53 from rfl, rounds_succ l 30 hl]
    have hlen := rounds_length l 31
    rw [rounds_succ l 30 hl] at hlen
    refine impl_fill_round l hg hl 30 _ _ 31 k' (by simp) (by simp) (by omega) ⟨by simp, fun j hj => ⟨[], ?_, fun p hp => by cases hp⟩⟩ (by omega) (by omega)
    simp [List.getD, hj]
def fillR (l : List S53) : Int × List Int := if sfault l = 0 then (0, fillM l) else (sfault l, [])
theorem fillM_length (l : List S53) : (fillM l).length = 31 := by
  unfold fillM
  split
  · simp
  · rw [pl_length]; simp
theorem fillR_length (l : List S53) : (fillR l).2.length ≤ 31 := by
  unfold fillR
  split
  · rw [fillM_length]; exact Nat.le_refl _
  · simp
theorem impl_FillTable_is (l : List S53) (k : Nat) (hk : 80000 ≤ k) : impl_FillTable.f k l = some (fillR l) := by
  unfold impl_FillTable.f fillR
  rw [impl_SharesFault_is l k (by omega), bind_s]
  by_cases h : sfault l = 0
  · rw [if_pos h, if_pos h, impl_fill_is l (sfault_good h) k hk, bind_s]
  · rw [if_neg h, if_neg h]
theorem sfrom_sorted : ∀ (l : List S53) (prev : Int), sfrom prev l = 0 → (∀ s ∈ l, prev < s.f0) ∧ (l.map (fun s => s.f0)).Nodup
  | [], _, _ => ⟨fun s hs => (by cases hs), List.nodup_nil⟩
  | x :: l, prev, h => by
    simp only [sfrom] at h
    split at h
    · split at h
      · cases h
      · rename_i h1 h2
        obtain ⟨i1, i2⟩ := sfrom_sorted l _ h
        refine ⟨fun s hs => ?_, ?_⟩
        · rcases List.mem_cons.1 hs with rfl | hs
          · omega
          · have := i1 s hs; omega
        · rw [List.map_cons, List.nodup_cons]
          refine ⟨fun hm => ?_, i2⟩
          obtain ⟨s, hs, e⟩ := List.mem_map.1 hm
          have e' : s.f0 = x.f0 := e
          have := i1 s hs; omega
    · cases h
theorem sfault_nodup {l : List S53} (h : sfault l = 0) : (l.map (fun s => s.f0)).Nodup := by
  unfold sfault at h
  split at h
  · cases h
  · exact (sfrom_sorted l 0 h).2
theorem names_mem {l : List S53} {y : Int} (h : y ∈ names l) : y ∈ l.map (fun s => s.f0) := by
  induction l with
  | nil => cases h
  | cons x l ih =>
    rw [names] at h
    rw [List.map_cons]
    rcases List.mem_append.1 h with h | h
    · rw [List.eq_of_mem_replicate h]; exact List.mem_cons_self ..
    · exact List.mem_cons_of_mem _ (ih h)
theorem rounds_mem {l : List S53} {y : Int} : ∀ {R : Nat}, y ∈ rounds l R → y ∈ l.map (fun s => s.f0)
  | 0, h => by cases h
  | R + 1, h => by
    rw [rounds] at h
    rcases List.mem_append.1 h with h | h
    · exact names_mem h
    · exact rounds_mem h
theorem pl_count : ∀ (s t : List Int), t.length = 31 → s.length ≤ t.count 0 → (∀ y ∈ s, y ≠ 0) → (pl t s).count 0 = t.count 0 - s.length ∧ ∀ n, n ≠ 0 → (pl t s).count n = t.count n + s.count n
  | [], t, _, _, _ => ⟨by simp [pl], fun n _ => by simp [pl]⟩
  | y :: s, t, ht, hs, hy => by
    have hy0 := hy y (List.mem_cons_self ..)
    simp only [List.length_cons] at hs
    obtain ⟨p, hp, p0, p1, pz⟩ := first_some ht y (by omega)
    have hc := count_put (n := y) p0 (by omega) pz hy0
    obtain ⟨i1, i2⟩ := pl_count s (t.set p.toNat y) (by rw [List.length_set]; exact ht) (by omega) (fun z hz => hy z (List.mem_cons_of_mem _ hz))
    rw [pl, hp, Option.getD_some]
    refine ⟨by rw [i1, List.length_cons]; omega, fun n hn => ?_⟩
    rw [i2 n hn, List.count_cons]
    have hi : p.toNat < t.length := by omega
    have e : t[p.toNat] = 0 := by
      have : rd t p = t[p.toNat] := by
        unfold rd
        rw [List.getD_eq_getElem?_getD, List.getElem?_eq_getElem hi]; rfl
      rw [← this]; exact pz
    rw [List.count_set hi, e]
    have h1 : ((0 : Int) == n) = false := beq_eq_false_iff_ne.2 (fun h => hn h.symm)
    rw [h1]
    simp only [Bool.false_eq_true, if_false, Nat.sub_zero]
    omega
theorem names_count {l : List S53} (hn : (l.map (fun s => s.f0)).Nodup) : ∀ s ∈ l, (names l).count s.f0 = s.f1.toNat := by
  induction l with
  | nil => intro s hs; cases hs
  | cons x l ih =>
    intro s hs
    rw [List.map_cons, List.nodup_cons] at hn
    rw [names, List.count_append, List.count_replicate]
    rcases List.mem_cons.1 hs with rfl | hs
    · have : (names l).count s.f0 = 0 := List.count_eq_zero.2 (fun h => hn.1 (names_mem h))
      rw [this]; simp
    · have hne : x.f0 ≠ s.f0 := fun e => hn.1 (by rw [e]; exact List.mem_map.2 ⟨s, hs, rfl⟩)
      have hb : (x.f0 == s.f0) = false := beq_eq_false_iff_ne.2 hne
      rw [hb, ih hn.2 s hs]; simp
theorem rounds_count {l : List S53} (n : Int) : ∀ R, (rounds l R).count n = R * (names l).count n
  | 0 => by simp [rounds]
  | R + 1 => by rw [rounds, List.count_append, rounds_count n R, Nat.succ_mul]; omega
theorem rounds_cut (l : List S53) : ∀ (q R : Nat), q ≤ R → rounds l R = rounds l q ++ rounds l (R - q)
  | 0, R, _ => by simp [rounds]
  | q + 1, 0, h => by omega
  | q + 1, R + 1, h => by
    rw [rounds, rounds, rounds_cut l q R (by omega), List.append_assoc, show R + 1 - (q + 1) = R - q by omega]
def seq31 (l : List S53) : List Int := (rounds l 31).take 31
theorem seq31_length (l : List S53) (h : (names l).length ≠ 0) : (seq31 l).length = 31 := by
  unfold seq31
  rw [List.length_take, rounds_length]; omega
theorem seq31_is (l : List S53) (h : (names l).length ≠ 0) : seq31 l = rounds l (31 / (names l).length) ++ (names l).take (31 % (names l).length) := by
  have hW : 0 < (names l).length := by omega
  have hq : 31 / (names l).length ≤ 31 := Nat.div_le_self _ _
  have hd := Nat.div_add_mod 31 (names l).length
  have hr := Nat.mod_lt 31 hW
  unfold seq31
  rw [rounds_cut l (31 / (names l).length) 31 hq, List.take_append, rounds_length]
  have e1 : (rounds l (31 / (names l).length)).take 31 = rounds l (31 / (names l).length) := List.take_of_length_le (by rw [rounds_length, Nat.mul_comm]; omega)
  have e2 : 31 - 31 / (names l).length * (names l).length = 31 % (names l).length := by rw [Nat.mul_comm]; omega
  rw [e1, e2]
  congr 1
  by_cases hz : 31 - 31 / (names l).length = 0
  · have h31 : 31 / (names l).length = 31 := by omega
    have hm : 31 % (names l).length = 0 := by
      have : (names l).length * 31 ≤ 31 := by rw [h31] at hd; omega
      have h1 : (names l).length = 1 := by omega
      rw [h1]
    rw [hm, List.take_zero, List.take_zero]
  · obtain ⟨m, hm⟩ : ∃ m, 31 - 31 / (names l).length = m + 1 := ⟨31 - 31 / (names l).length - 1, by omega⟩
    rw [hm, rounds, List.take_append, show 31 % (names l).length - (names l).length = 0 by omega, List.take_zero, List.append_nil]
theorem seq31_mem {l : List S53} {y : Int} (h : y ∈ seq31 l) : y ∈ l.map (fun s => s.f0) := rounds_mem (List.mem_of_mem_take h)
theorem seq31_count {l : List S53} (h : (names l).length ≠ 0) (hn : (l.map (fun s => s.f0)).Nodup) : ∀ s ∈ l, 31 / (names l).length * s.f1.toNat ≤ (seq31 l).count s.f0 ∧ (seq31 l).count s.f0 ≤ (31 / (names l).length + 1) * s.f1.toNat := by
  intro s hs
  have hc := names_count hn s hs
  have ht : ((names l).take (31 % (names l).length)).count s.f0 ≤ (names l).count s.f0 := List.Sublist.count_le _ (List.take_sublist _ _)
  rw [seq31_is l h, List.count_append, rounds_count, hc, Nat.succ_mul]
  omega
theorem fillM_count0 {l : List S53} (hg : goodShares l) (h : (names l).length ≠ 0) : (fillM l).count 0 = 0 ∧ ∀ n, n ≠ 0 → (fillM l).count n = (seq31 l).count n := by
  have hl := seq31_length l h
  have hy : ∀ y ∈ seq31 l, y ≠ 0 := fun y hy => by
    obtain ⟨s, hs, e⟩ := List.mem_map.1 (seq31_mem hy)
    have e' : s.f0 = y := e
    have := goodShare_name (hg.2 s hs); omega
  have hp := pl_count (seq31 l) (List.replicate 31 0) (by simp) (by rw [hl]; simp) hy
  unfold fillM
  rw [if_neg h]
  refine ⟨?_, fun n hn => ?_⟩
  · have := hp.1
    rw [hl] at this
    simpa [seq31] using this
  · have := hp.2 n hn
    have h0 : (List.replicate 31 (0 : Int)).count n = 0 := List.count_eq_zero.2 (fun hm => hn (List.eq_of_mem_replicate hm))
    rw [h0, Nat.zero_add] at this
    exact this
def sumCnt (t : List Int) : List S53 → Nat
  | [] => 0
  | s :: l => t.count s.f0 + sumCnt t l
theorem sumCnt_nil (l : List S53) : sumCnt [] l = 0 := by
  induction l with
  | nil => rfl
  | cons x l ih => simp [sumCnt, ih]
theorem sumCnt_cons (y : Int) (ys : List Int) (l : List S53) : sumCnt (y :: ys) l = sumCnt ys l + (l.map (fun s => s.f0)).count y := by
  induction l with
  | nil => rfl
  | cons x l ih =>
    simp only [sumCnt, List.map_cons, List.count_cons]
    rw [ih]
    have : (y == x.f0) = (x.f0 == y) := by
      by_cases h : y = x.f0
      · rw [h]
      · rw [beq_eq_false_iff_ne.2 h, beq_eq_false_iff_ne.2 (fun q => h q.symm)]
    rw [this]; omega
theorem sumCnt_is (l : List S53) (hn : (l.map (fun s => s.f0)).Nodup) : ∀ (ys : List Int), (∀ y ∈ ys, y ∈ l.map (fun s => s.f0)) → sumCnt ys l = ys.length
  | [], _ => sumCnt_nil l
  | y :: ys, h => by
    have h1 : (l.map (fun s => s.f0)).count y = 1 := by
      have a := List.nodup_iff_count.1 hn y
      have b := List.count_pos_iff.2 (h y (List.mem_cons_self ..))
      omega
    rw [sumCnt_cons, sumCnt_is l hn ys (fun z hz => h z (List.mem_cons_of_mem _ hz)), h1, List.length_cons]
theorem sumCnt_congr (t s : List Int) (l : List S53) (h : ∀ x ∈ l, t.count x.f0 = s.count x.f0) : sumCnt t l = sumCnt s l := by
  induction l with
  | nil => rfl
  | cons x l ih =>
    simp only [sumCnt]
    rw [h x (List.mem_cons_self ..), ih (fun z hz => h z (List.mem_cons_of_mem _ hz))]
def fl (a : Int) (l : List S53) : List S53 := l.filter (fun s => !(s.f0 == a))
theorem fl_length (a : Int) (l : List S53) : (fl a l).length ≤ l.length := List.length_filter_le _ _
theorem fl_snoc (a : Int) (l : List S53) (i : Nat) (hi : i < l.length) : fl a (l.take (i + 1)) = fl a (l.take i) ++ (if ((l.getD i z53).f0 == a) = true then [] else [l.getD i z53]) := by
  unfold fl
  rw [take_snocG l z53 i hi, List.filter_append]
  congr 1
  rw [List.filter_cons, List.filter_nil]
  cases ((l.getD i z53).f0 == a) <;> rfl
def withoutR (l : List S53) (a : Int) : Int × List S53 := if sfault l = 0 then (if (fl a l).length = l.length then (4, []) else (0, fl a l)) else (sfault l, [])
theorem withoutR_length (l : List S53) (a : Int) : (withoutR l a).2.length ≤ 8 := by
  unfold withoutR
  split
  · rename_i h
    have h8 : l.length ≤ 8 := by
      unfold sfault at h
      split at h
      · cases h
      · omega
    split
    · simp
    · have := fl_length a l; show (fl a l).length ≤ 8; omega
  · simp
theorem sfault_len8 {l : List S53} (h : sfault l = 0) : l.length ≤ 8 := by
  unfold sfault at h
  split at h
  · cases h
  · omega
theorem spec_WithoutShare_l0 (l : List S53) (h8 : l.length ≤ 8) (a : Int) : ∀ (d k i : Nat), i + d = l.length → d < k → spec_WithoutShare.l0 k l a (i : Int) 0 (fl a (l.take i)) = some (if (fl a l).length = l.length then (4, []) else (0, fl a l)) := by
  intro d
  induction d with
  | zero =>
    intro k i hi hk
    obtain ⟨k, rfl⟩ := at_succ hk
    simp only [spec_WithoutShare.l0]
    rw [if_neg (by omega), List.take_of_length_le (by omega)]
    by_cases e : (fl a l).length = l.length
    · rw [if_pos e, if_pos (by omega)]
    · rw [if_neg e, if_neg (by omega)]
  | succ d ih =>
    intro k i hi hk
    obtain ⟨k, rfl⟩ := at_succ hk
    have hn := ih k (i + 1) (by omega) (by omega)
    have hlen := fl_length a (l.take i)
    rw [List.length_take] at hlen
    simp only [spec_WithoutShare.l0]
    rw [if_pos (by omega), if_pos (by omega), rdI_nat, w64n i (by omega)]
    rw [fl_snoc a l i (by omega)] at hn
    by_cases e : (l.getD i z53).f0 = a
    · have e' : ((l.getD i z53).f0 == a) = true := beq_iff_eq.2 e
      rw [e', if_pos rfl, List.append_nil] at hn
      rw [if_pos e]; exact hn
    · have e' : ((l.getD i z53).f0 == a) = false := beq_eq_false_iff_ne.2 e
      rw [e', if_neg (by decide)] at hn
      rw [if_neg e, if_pos (by omega)]; exact hn
theorem spec_WithoutShare_is (l : List S53) (a : Int) (k : Nat) (hk : 20 ≤ k) : spec_WithoutShare.f k l a = some (withoutR l a) := by
  unfold spec_WithoutShare.f withoutR
  rw [spec_SharesFault_is l k hk, bind_s]
  by_cases h : sfault l = 0
  · rw [if_pos h, if_pos h]
    have h8 := sfault_len8 h
    exact spec_WithoutShare_l0 l h8 a l.length k 0 (by omega) (by omega)
  · rw [if_neg h, if_neg h]
theorem impl_Delete_l0 (l : List S53) (h8 : l.length ≤ 8) (a : Int) : ∀ (d k j : Nat) (x : List S53), j + d = l.length → d < k → x.length = l.length → x.take (fl a (l.take j)).length = fl a (l.take j) → x.drop j = l.drop j →
    impl_Share_42.l0 k x a (((fl a (l.take j)).length : Nat) : Int) (j : Int) = some (fl a l) := by
  intro d
  induction d with
  | zero =>
    intro k j x hj hk hx ht hd
    obtain ⟨k, rfl⟩ := at_succ hk
    have e : l.take j = l := List.take_of_length_le (by omega)
    rw [e] at ht ⊢
    have hlen := fl_length a l
    simp only [impl_Share_42.l0]
    rw [if_neg (by omega), if_pos (by omega), if_pos (by omega), Int.toNat_natCast, ht]
  | succ d ih =>
    intro k j x hj hk hx ht hd
    obtain ⟨k, rfl⟩ := at_succ hk
    have hlen := fl_length a (l.take j)
    rw [List.length_take] at hlen
    have hr : x.getD j z53 = l.getD j z53 := by
      have h1 := drop_consG x z53 j (by omega)
      have h2 := drop_consG l z53 j (by omega)
      rw [h1, h2] at hd
      exact (List.cons.inj hd).1
    have hd' : x.drop (j + 1) = l.drop (j + 1) := by
      have h1 := drop_consG x z53 j (by omega)
      have h2 := drop_consG l z53 j (by omega)
      rw [h1, h2] at hd
      exact (List.cons.inj hd).2
    have hs := fl_snoc a l j (by omega)
    simp only [impl_Share_42.l0]
    rw [if_pos (by omega), if_pos (by omega), rdI_nat, hr]
    simp only [laws_FnExactFillTable.f, bind_s]
    rw [w64n j (by omega)]
    by_cases e : ((l.getD j z53).f0 == a) = true
    · rw [if_pos e]
      rw [if_pos e, List.append_nil] at hs
      have := ih k (j + 1) x (by omega) (by omega) hx (by rw [hs]; exact ht) hd'
      rw [hs] at this
      exact this
    · rw [if_neg e, if_pos (by omega), if_pos (by omega), Int.toNat_natCast, w64n _ (by omega)]
      rw [if_neg e] at hs
      have hl1 : (fl a (l.take (j + 1))).length = (fl a (l.take j)).length + 1 := by rw [hs, List.length_append]; rfl
      have := ih k (j + 1) (x.set (fl a (l.take j)).length (l.getD j z53)) (by omega) (by omega) (by rw [List.length_set]; exact hx)
        (by rw [hl1, set_snocG x _ _ (by omega), ht, hs]) (by rw [List.drop_set_of_lt (by omega)]; exact hd')
      rw [hl1] at this
      exact this
theorem impl_Delete_is (l : List S53) (h8 : l.length ≤ 8) (a : Int) (k : Nat) (hk : 20 ≤ k) : impl_Share_42.f k l a = some (fl a l) := by
  unfold impl_Share_42.f impl_Share_57.f
  rw [bind_s]
  by_cases hany : ∃ i, i < l.length ∧ ((l.getD i z53).f0 == a) = true
  · -- the first place
    have hex : ∃ i, i < l.length ∧ ((l.getD i z53).f0 == a) = true ∧ ∀ j, j < i → ((l.getD j z53).f0 == a) = false := by
      obtain ⟨i, hi, hp⟩ := hany
      induction i using Nat.strongRecOn with
      | ind i ih =>
        by_cases hq : ∃ j, j < i ∧ ((l.getD j z53).f0 == a) = true
        · obtain ⟨j, hj, hp2⟩ := hq
          exact ih j hj (by omega) hp2
        · exact ⟨i, hi, hp, fun j hj => by
            cases hb : ((l.getD j z53).f0 == a)
            · rfl
            · exact absurd ⟨j, hj, hb⟩ hq⟩
    obtain ⟨i, hi, hp, hn⟩ := hex
    have he := Go.Proofs.Ytnfjbapcngamjaa.Ix.ixFrom_hit (fun s : S53 => s.f0 == a) z53 l 0 i hi hp hn
    rw [he, Int.zero_add, if_neg (by omega), w64n i (by omega)]
    have hf : fl a (l.take (i + 1)) = l.take i := by
      rw [fl_snoc a l i hi, if_pos hp, List.append_nil]
      unfold fl
      refine List.filter_eq_self.2 (fun s hs => ?_)
      obtain ⟨j, hj, e⟩ := List.getElem_of_mem hs
      rw [List.length_take] at hj
      have := hn j (by omega)
      rw [List.getElem_take] at e
      have e2 : l.getD j z53 = s := by rw [← e]; simp [List.getD, show j < l.length by omega]
      rw [e2] at this
      rw [this]; rfl
    have hlen : (fl a (l.take (i + 1))).length = i := by rw [hf, List.length_take]; omega
    have := impl_Delete_l0 l h8 a (l.length - (i + 1)) k (i + 1) l (by omega) (by omega) rfl (by rw [hlen, hf]) rfl
    rw [hlen] at this
    exact this
  · have hn : ∀ j, j < l.length → ((fun s : S53 => s.f0 == a) (l.getD j z53)) = false := fun j hj => by
      cases hb : ((l.getD j z53).f0 == a)
      · exact hb
      · exact absurd ⟨j, hj, hb⟩ hany
    rw [Go.Proofs.Ytnfjbapcngamjaa.Ix.ixFrom_miss _ z53 l 0 hn, if_pos rfl]
    have : fl a l = l := by
      unfold fl
      refine List.filter_eq_self.2 (fun s hs => ?_)
      obtain ⟨j, hj, e⟩ := List.getElem_of_mem hs
      have h2 := hn j hj
      have e2 : l.getD j z53 = s := by rw [← e]; simp [List.getD, hj]
      simp only [e2] at h2
      rw [h2]; rfl
    rw [this]
theorem impl_WithoutShare_is (l : List S53) (a : Int) (k : Nat) (hk : 20 ≤ k) : impl_WithoutShare.f k l a = some (withoutR l a) := by
  unfold impl_WithoutShare.f withoutR
  rw [impl_SharesFault_is l k hk, bind_s]
  by_cases h : sfault l = 0
  · have h8 := sfault_len8 h
    rw [if_pos h, if_pos h]
    unfold impl_Share_43.f
    rw [bind_s, if_pos (by simp; omega), bind_s, List.nil_append, impl_Delete_is l h8 a k hk, bind_s]
    by_cases e : (fl a l).length = l.length
    · rw [if_pos e, if_pos (by omega)]
    · rw [if_neg e, if_neg (by omega)]
  · rw [if_neg h, if_neg h]
theorem l4Shares_l0 (code : List Int) (hb : IsBytes code) (hn : code.length ≤ 2097152) : ∀ (d : Nat) (k : Nat) (x : List S53) (v s : Int), d < k → x.length + d ≤ 100 → d ≤ 100 → 0 ≤ s → s + 2 * d ≤ 1000000 →
    ∃ l, spec_l4Shares.l0 k x v (d : Int) code s = some (l, s + 2 * d) ∧ l.length = x.length + d := by
  intro d
  induction d with
  | zero =>
    intro k x v s hk hx hd h0 h1
    obtain ⟨k, rfl⟩ := at_succ hk
    simp only [spec_l4Shares.l0]
    rw [if_neg (by omega)]
    exact ⟨x, by simp, by simp⟩
  | succ d ih =>
    intro k x v s hk hx hd h0 h1
    obtain ⟨k, rfl⟩ := at_succ hk
    obtain ⟨a, e1, _⟩ := Next_is code hb hn s 60 h0 (by omega) (by omega)
    obtain ⟨w, e2, _⟩ := Pick_is code hb hn (s + 1) (by omega) (by omega) [1, 1, 1, 2, 3, 0, 9] (by simp) (by simp)
    simp only [spec_l4Shares.l0]
    rw [if_pos (by omega), e1, bind_s]
    simp only []
    rw [e2, bind_s, if_pos (by omega), w64 (n := ((d + 1 : Nat) : Int) - 1) (by omega) (by omega), show ((d + 1 : Nat) : Int) - 1 = (d : Int) by omega]
    simp only []
    obtain ⟨l, e3, hl⟩ := ih k (x ++ [(⟨wrap64 (wrap64 (v + 1) + a), w⟩ : S53)]) (wrap64 (wrap64 (v + 1) + a)) (s + 1 + 1) (by omega) (by rw [List.length_append, List.length_singleton]; omega) (by omega) (by omega) (by omega)
    refine ⟨l, by rw [e3]; congr 2; omega, ?_⟩
    rw [hl, List.length_append, List.length_singleton]; omega
theorem l4Shares_is (code : List Int) (hb : IsBytes code) (hn : code.length ≤ 2097152) (s : Int) (h0 : 0 ≤ s) (h1 : s ≤ 1000) (k : Nat) (hk : 20 ≤ k) : ∃ l s', spec_l4Shares.f k code s = some (l, s') ∧ l.length ≤ 8 ∧ s ≤ s' ∧ s' ≤ s + 20 := by
  unfold spec_l4Shares.f
  obtain ⟨w, e, hw⟩ := Pick_is code hb hn s h0 (by omega) [1, 2, 3, 4, 5, 8, 0] (by simp) (by simp)
  have hw2 : 0 ≤ w ∧ w ≤ 8 := by
    simp only [List.mem_cons, List.not_mem_nil, or_false] at hw; omega
  rw [e, bind_s]
  simp only []
  obtain ⟨d, rfl⟩ : ∃ d : Nat, w = (d : Int) := ⟨w.toNat, by omega⟩
  obtain ⟨l, e2, hl⟩ := l4Shares_l0 code hb hn d k [] 0 (s + 1) (by omega) (by simp; omega) (by omega) (by omega) (by omega)
  exact ⟨l, _, e2, by rw [hl]; simp; omega, by omega, by omega⟩
theorem l4Bent_is (code : List Int) (hb : IsBytes code) (hn : code.length ≤ 2097152) (s : Int) (h0 : 0 ≤ s) (h1 : s ≤ 1000) (k : Nat) (hk : 20 ≤ k) : ∃ l s', spec_l4Bent.f k code s = some (l, s') ∧ l.length ≤ 9 ∧ s ≤ s' ∧ s' ≤ s + 30 := by
  unfold spec_l4Bent.f
  obtain ⟨l, s1, e1, hl, a0, a1⟩ := l4Shares_is code hb hn s h0 h1 k hk
  rw [e1, bind_s]
  simp only []
  by_cases hz : (l.length : Int) = 0
  · rw [if_pos hz]; exact ⟨l, s1, rfl, by omega, by omega, by omega⟩
  · obtain ⟨i, e2, i0, i1, _⟩ := Next_is code hb hn s1 l.length (by omega) (by omega) (by omega)
    obtain ⟨v, e3, _⟩ := Next_is code hb hn (s1 + 1) 16 (by omega) (by omega) (by omega)
    obtain ⟨p, e4, _⟩ := Pick_is code hb hn (s1 + 1 + 1) (by omega) (by omega) [0, 1000, 999, 1] (by simp) (by simp)
    obtain ⟨p', e5, _⟩ := Pick_is code hb hn (s1 + 1 + 1) (by omega) (by omega) [(-1), 10, 9] (by simp) (by simp)
    have i2 := i1 (by omega)
    rw [if_neg hz, e2, bind_s]
    simp only []
    rw [e3, bind_s]
    simp only []
    by_cases c0 : v = 0
    · rw [if_pos c0, e4, bind_s, if_pos i0, if_pos i2]; exact ⟨_, _, rfl, by rw [List.length_set]; omega, by omega, by omega⟩
    · rw [if_neg c0]
      by_cases c1 : v = 1
      · rw [if_pos c1, e5, bind_s, if_pos i0, if_pos i2]; exact ⟨_, _, rfl, by rw [List.length_set]; omega, by omega, by omega⟩
      · rw [if_neg c1]
        by_cases c2 : v = 2
        · rw [if_pos c2, if_pos (by omega)]; exact ⟨_, _, rfl, by simp, by omega, by omega⟩
        · rw [if_neg c2]; exact ⟨_, _, rfl, by omega, by omega, by omega⟩
theorem sfrom_iff : ∀ (l : List S53) (prev : Int), sfrom prev l = 0 ↔ (∀ s ∈ l, goodShare s = true ∧ prev < s.f0) ∧ l.Pairwise (fun a b => a.f0 < b.f0)
  | [], prev => by simp [sfrom]
  | x :: l, prev => by
    simp only [sfrom]
    constructor
    · intro h
      split at h
      · rename_i hg
        split at h
        · cases h
        · rename_i hp
          obtain ⟨h1, h2⟩ := (sfrom_iff l x.f0).1 h
          refine ⟨fun s hs => ?_, List.pairwise_cons.2 ⟨fun s hs => (h1 s hs).2, h2⟩⟩
          rcases List.mem_cons.1 hs with rfl | hs
          · exact ⟨hg, by omega⟩
          · have := h1 s hs; exact ⟨this.1, by omega⟩
      · cases h
    · rintro ⟨h1, h2⟩
      have hx := h1 x (List.mem_cons_self ..)
      rw [if_pos hx.1, if_neg (by omega)]
      rw [List.pairwise_cons] at h2
      exact (sfrom_iff l x.f0).2 ⟨fun s hs => ⟨(h1 s (List.mem_cons_of_mem _ hs)).1, h2.1 s hs⟩, h2.2⟩
theorem sfault_fl {l : List S53} (h : sfault l = 0) (a : Int) : sfault (fl a l) = 0 := by
  have h8 := sfault_len8 h
  have hl := fl_length a l
  unfold sfault at h ⊢
  rw [if_neg (by omega)] at h
  rw [if_neg (by omega)]
  obtain ⟨h1, h2⟩ := (sfrom_iff l 0).1 h
  exact (sfrom_iff _ 0).2 ⟨fun s hs => h1 s (List.mem_filter.1 hs).1, List.Pairwise.filter _ h2⟩
theorem fl_none (a : Int) (l : List S53) : a ∉ (fl a l).map (fun s => s.f0) := by
  intro h
  obtain ⟨s, hs, e⟩ := List.mem_map.1 h
  have h2 := (List.mem_filter.1 hs).2
  have e' : s.f0 = a := e
  rw [e'] at h2
  simp at h2
theorem fl_sub {a : Int} : ∀ (l : List S53), (l.map (fun s => s.f0)).Nodup → (fl a l).length ≠ l.length → (∃ s ∈ l, s.f0 = a) ∧ (fl a l).length + 1 = l.length
  | [], _, h => absurd rfl h
  | x :: l, hn, h => by
    rw [List.map_cons, List.nodup_cons] at hn
    have hfc : fl a (x :: l) = if (!(x.f0 == a)) = true then x :: fl a l else fl a l := List.filter_cons
    by_cases e : x.f0 = a
    · have eb : (!(x.f0 == a)) = false := by rw [e]; simp
      rw [eb, if_neg (by decide)] at hfc
      have hall : fl a l = l := by
        unfold fl
        refine List.filter_eq_self.2 (fun s hs => ?_)
        have hne : s.f0 ≠ a := fun q => hn.1 (by rw [e, ← q]; exact List.mem_map.2 ⟨s, hs, rfl⟩)
        simp [hne]
      rw [hfc, hall]
      exact ⟨⟨x, List.mem_cons_self .., e⟩, rfl⟩
    · have eb : (!(x.f0 == a)) = true := by simp [e]
      rw [eb, if_pos rfl] at hfc
      rw [hfc] at h ⊢
      simp only [List.length_cons] at h ⊢
      obtain ⟨⟨s, hs, e2⟩, h2⟩ := fl_sub l hn.2 (fun q => h (by rw [q]))
      exact ⟨⟨s, List.mem_cons_of_mem _ hs, e2⟩, by omega⟩
theorem names_has {l : List S53} {y : Int} (h : y ∈ names l) : ∃ s ∈ l, s.f0 = y ∧ 0 < s.f1 := by
  induction l with
  | nil => cases h
  | cons x l ih =>
    rw [names] at h
    rcases List.mem_append.1 h with h | h
    · have hy := List.eq_of_mem_replicate h
      have hx : x.f1.toNat ≠ 0 := fun e => by rw [e] at h; cases h
      exact ⟨x, List.mem_cons_self .., hy.symm, by omega⟩
    · obtain ⟨s, hs, e⟩ := ih h
      exact ⟨s, List.mem_cons_of_mem _ hs, e⟩
theorem rounds_has {l : List S53} {y : Int} : ∀ {R : Nat}, y ∈ rounds l R → y ∈ names l
  | 0, h => by cases h
  | R + 1, h => by
    rw [rounds] at h
    rcases List.mem_append.1 h with h | h
    · exact h
    · exact rounds_has h
theorem fillM_has {l : List S53} (hg : goodShares l) {y : Int} (h : y ∈ fillM l) (hy : y ≠ 0) : ∃ s ∈ l, s.f0 = y ∧ 0 < s.f1 := by
  by_cases hz : (names l).length = 0
  · unfold fillM at h
    rw [if_pos hz] at h
    exact absurd (List.eq_of_mem_replicate h) hy
  · have hc := (fillM_count0 hg hz).2 y hy
    have h1 := List.count_pos_iff.2 h
    rw [hc] at h1
    exact names_has (rounds_has (List.mem_of_mem_take (List.count_pos_iff.1 h1)))
theorem fillM_hasnt {l : List S53} (hg : goodShares l) {y : Int} (hy : y ≠ 0) (h : y ∉ l.map (fun s => s.f0)) : (fillM l).count y = 0 := by
  refine List.count_eq_zero.2 (fun hm => ?_)
  obtain ⟨s, hs, e, _⟩ := fillM_has hg hm hy
  exact h (List.mem_map.2 ⟨s, hs, e⟩)
theorem moved_count (y : Int) : ∀ (a b : List Int), a.length = b.length → b.count y = 0 → ((a.count y : Nat) : Int) ≤ moved a b
  | [], b, _, _ => by rw [moved_nil]; simp
  | x :: a, [], h, _ => by simp at h
  | x :: a, z :: b, h, hb => by
    rw [List.count_cons] at hb
    have hb0 : b.count y = 0 := by omega
    have hzy : z ≠ y := fun e => by rw [e] at hb; simp at hb
    have ih := moved_count y a b (by simpa using h) hb0
    simp only [moved]
    rw [List.count_cons]
    by_cases hx : x = y
    · have hb1 : (x == y) = true := beq_iff_eq.2 hx
      rw [hb1, if_pos rfl, if_neg (by rw [hx]; exact fun e => hzy e.symm)]; omega
    · have hb1 : (x == y) = false := beq_eq_false_iff_ne.2 hx
      rw [hb1, if_neg (by decide)]
      split <;> omega
def okF (y : Int) : List S53 → Bool → Bool
  | [], b => b
  | s :: l, b => okF y l (if b = true then true else if s.f0 = y then decide (s.f1 > 0) else false)
theorem okF_true (y : Int) : ∀ (l : List S53), okF y l true = true
  | [] => rfl
  | s :: l => by simp only [okF, if_true]; exact okF_true y l
theorem okF_has (y : Int) : ∀ (l : List S53) (b : Bool), (∃ s ∈ l, s.f0 = y ∧ 0 < s.f1) → okF y l b = true
  | [], b, h => by obtain ⟨s, hs, _⟩ := h; cases hs
  | x :: l, b, h => by
    simp only [okF]
    obtain ⟨s, hs, e, w⟩ := h
    rcases List.mem_cons.1 hs with rfl | hs
    · have : (if b = true then true else if s.f0 = y then decide (s.f1 > 0) else false) = true := by
        rw [if_pos e, decide_eq_true w]; cases b <;> rfl
      rw [this]; exact okF_true y l
    · exact okF_has y l _ ⟨s, hs, e, w⟩
theorem LookTable_at (l : List Int) (hl : l.length = 31) (a : Int) (h : 0 ≤ a) : ∃ v, (v = 0 ∨ v ∈ l) ∧ impl_LookTable.f l a = some (if v = 0 then (4, 0) else (0, v)) := by
  have e : Int.tmod a 31 = a % 31 := Int.tmod_eq_emod_of_nonneg h
  have h0 : 0 ≤ a % 31 := by omega
  have h1 : a % 31 < 31 := by omega
  refine ⟨rd l (a % 31), .inr (rd_mem h0 (by omega)), ?_⟩
  unfold impl_LookTable.f
  rw [if_pos (by omega), if_neg (by omega), e, if_pos h0, if_pos (by omega)]
  by_cases hz : rd l (a % 31) = 0
  · rw [if_pos hz, if_pos hz]
  · rw [if_neg hz, if_neg hz]
theorem FnLooks_l1 (l : List S53) (h8 : l.length ≤ 8) (t : List Int) (c1 c2 : Int) (ws : List S53) (cd v : Int) (hcd : cd = 0 ∨ cd = 4) (n : Int) (KK : Nat)
    (hok : cd = 0 → ∃ s ∈ l, s.f0 = v ∧ 0 < s.f1) (hnext : ∀ k, KK ≤ k → laws_FnLooks.l0 k l (wrap64 (n + 1)) c1 ws c2 t = some true) : ∀ (d k i : Nat) (b : Bool), i + d = l.length → KK + d + 1 ≤ k → (cd = 0 → okF v (l.drop i) b = true) →
    laws_FnLooks.l1 k l n b (i : Int) c1 ws c2 t cd v = some true := by
  intro d
  induction d with
  | zero =>
    intro k i b hi hk hb
    obtain ⟨k, rfl⟩ : ∃ m, k = m + 1 := ⟨k - 1, by omega⟩
    rw [List.drop_of_length_le (by omega)] at hb
    simp only [laws_FnLooks.l1]
    rw [if_neg (by omega)]
    rcases hcd with rfl | rfl
    · have hb' : b = true := hb rfl
      rw [if_pos rfl, if_pos hb']; exact hnext k (by omega)
    · rw [if_neg (by decide), if_pos rfl]; exact hnext k (by omega)
  | succ d ih =>
    intro k i b hi hk hb
    obtain ⟨k, rfl⟩ : ∃ m, k = m + 1 := ⟨k - 1, by omega⟩
    have hd := drop_consG l z53 i (by omega)
    rw [hd] at hb
    simp only [okF] at hb
    simp only [laws_FnLooks.l1]
    rw [if_pos (by omega), rdI_nat, w64n i (by omega)]
    cases b with
    | true =>
      rw [if_pos rfl]
      exact ih k (i + 1) true (by omega) (by omega) (fun h => hb h)
    | false =>
      rw [if_neg (by decide), if_pos (by omega)]
      by_cases e : (l.getD i z53).f0 = v
      · rw [if_pos e]
        exact ih k (i + 1) _ (by omega) (by omega) (fun h => by have := hb h; rw [if_neg (by decide), if_pos e] at this; exact this)
      · rw [if_neg e]
        exact ih k (i + 1) false (by omega) (by omega) (fun h => by have := hb h; rw [if_neg (by decide), if_neg e] at this; exact this)
theorem FnLooks_l0 (l : List S53) (hf : sfault l = 0) (c1 c2 : Int) (ws : List S53) (hw : ws.length + 1 = l.length) : ∀ (d k n : Nat), n + d = 40 → 20 * d + 20 ≤ k → laws_FnLooks.l0 k l (n : Int) c1 ws c2 (fillM l) = some true := by
  intro d
  have hg := sfault_good hf
  have h8 := hg.1
  induction d with
  | zero =>
    intro k n hn hk
    obtain ⟨k, rfl⟩ : ∃ m, k = m + 1 := ⟨k - 1, by omega⟩
    simp only [laws_FnLooks.l0]
    rw [if_neg (by omega), w64 (by omega) (by omega)]
    have : ((ws.length : Int) == (l.length : Int) - 1) = true := beq_iff_eq.2 (by omega)
    rw [this]
  | succ d ih =>
    intro k n hn hk
    obtain ⟨k, rfl⟩ : ∃ m, k = m + 1 := ⟨k - 1, by omega⟩
    simp only [laws_FnLooks.l0]
    rw [if_pos (by omega), w64 (n := (n : Int) * 7919) (by omega) (by omega)]
    obtain ⟨v, hv, e⟩ := LookTable_at (fillM l) (fillM_length l) ((n : Int) * 7919) (by omega)
    rw [e, bind_s]
    have hnext : ∀ k, 20 * d + 20 ≤ k → laws_FnLooks.l0 k l (wrap64 ((n : Int) + 1)) c1 ws c2 (fillM l) = some true := fun k hk => by rw [w64n n (by omega)]; exact ih k (n + 1) (by omega) hk
    by_cases hz : v = 0
    · rw [if_pos hz]
      exact FnLooks_l1 l h8 (fillM l) c1 c2 ws 4 0 (.inr rfl) n (20 * d + 20) (fun h => by cases h) hnext l.length k 0 false (by omega) (by omega) (fun h => by cases h)
    · rw [if_neg hz]
      have hm : v ∈ fillM l := by rcases hv with h | h; exact absurd h hz; exact h
      have hh := fillM_has hg hm hz
      exact FnLooks_l1 l h8 (fillM l) c1 c2 ws 0 v (.inl rfl) n (20 * d + 20) (fun _ => hh) hnext l.length k 0 false (by omega) (by omega) (fun _ => by rw [List.drop_zero]; exact okF_has v l false hh)
theorem DrawWithoutShare_is (code : List Int) (hb : IsBytes code) (hn : code.length ≤ 1048576) (k : Nat) (hk : 20 ≤ k) : ∃ l a, spec_DrawWithoutShare.f k code = some (l, a) := by
  unfold spec_DrawWithoutShare.f spec_l1Source.f
  obtain ⟨l, s, e1, hl, s0, s1⟩ := l4Bent_is code hb (by omega) 0 (by omega) (by omega) k hk
  rw [bind_s]
  simp only []
  rw [e1, bind_s]
  simp only []
  by_cases hz : (l.length : Int) > 0
  · obtain ⟨q, e2⟩ := Chance_is code hb (by omega) s (by omega) (by omega) 3 (by omega)
    rw [if_pos hz, e2, bind_s]
    cases q with
    | true => exact ⟨_, _, rfl⟩
    | false =>
      obtain ⟨i, e3, i0, i1, _⟩ := Next_is code hb (by omega) (s + 1) l.length (by omega) (by omega) (by omega)
      have i2 := i1 (by omega)
      simp only [Bool.false_eq_true, if_false]
      rw [e3, bind_s, if_pos i0, if_pos i2]
      exact ⟨_, _, rfl⟩
  · rw [if_neg hz]; exact ⟨_, _, rfl⟩
theorem FnLooks : laws_FnLooks.Pure := by
  intro code _ _ hb
  have hb := IsBytes.of hb
  obtain ⟨K, hK⟩ : ∃ K : Nat, 200000 ≤ K := ⟨_, Nat.le_refl _⟩
  refine ⟨K + 1, ?_⟩
  unfold laws_FnLooks.f laws_lwBig.f
  rw [bind_s]
  by_cases h : (code.length : Int) > 1048576
  · rw [decide_eq_true h, if_pos rfl]
  · rw [decide_eq_false h, if_neg (by decide)]
    obtain ⟨l, a, e⟩ := DrawWithoutShare_is code hb (by omega) (K + 1) (by omega)
    rw [e, bind_s]
    simp only []
    rw [impl_WithoutShare_is l a (K + 1) (by omega), bind_s]
    by_cases hf : sfault l = 0
    · by_cases hl : (fl a l).length = l.length
      · have hr : withoutR l a = (4, []) := by unfold withoutR; rw [if_pos hf, if_pos hl]
        rw [hr]
        simp only []
        rw [if_neg (by decide), spec_WithoutShare_is l a (K + 1) (by omega), bind_s, hr]; rfl
      · have hr : withoutR l a = (0, fl a l) := by unfold withoutR; rw [if_pos hf, if_neg hl]
        have hf2 := sfault_fl hf a
        have hg := sfault_good hf
        have hg2 := sfault_good hf2
        have hA : fillR l = (0, fillM l) := by unfold fillR; rw [if_pos hf]
        have hB : fillR (fl a l) = (0, fillM (fl a l)) := by unfold fillR; rw [if_pos hf2]
        obtain ⟨⟨s, hs, hsa⟩, hlen⟩ := fl_sub l (sfault_nodup hf) hl
        have ha : a ≠ 0 := by have := goodShare_name (hg.2 s hs); omega
        have hc := fillM_hasnt hg2 ha (fl_none a l)
        have hl1 := fillM_length l
        have hl2 := fillM_length (fl a l)
        have hmv : movedR (fillM l) (fillM (fl a l)) = (0, moved (fillM l) (fillM (fl a l))) := by unfold movedR; rw [if_pos ⟨hl1, hl2⟩]
        have hle := moved_count a (fillM l) (fillM (fl a l)) (by rw [hl1, hl2]) hc
        rw [hr]
        simp only [if_true]
        rw [impl_FillTable_is l (K + 1) (by omega), bind_s, impl_FillTable_is (fl a l) (K + 1) (by omega), bind_s, hA, hB]
        simp only [if_true]
        rw [impl_MovedOf_is _ _ (K + 1) (by omega), bind_s, hmv, impl_CountOf_is _ a (by omega) (K + 1) (by omega), bind_s, hc, if_pos (by rfl)]
        simp only [if_true]
        rw [impl_CountOf_is _ a (by omega) (K + 1) (by omega), bind_s, decide_eq_false (by omega), laws_FnLooks.j0.eq_2, if_neg (by decide)]
        exact FnLooks_l0 l hf 0 0 (fl a l) hlen 40 K 0 (by omega) (by omega)
    · have hr : withoutR l a = (sfault l, []) := by unfold withoutR; rw [if_neg hf]
      rw [hr]
      simp only []
      rw [if_neg hf, spec_WithoutShare_is l a (K + 1) (by omega), bind_s, hr]
      simp only [beq_self_eq_true]
end Go.Proofs.Ytnfjbapcngamjaa.Pure
