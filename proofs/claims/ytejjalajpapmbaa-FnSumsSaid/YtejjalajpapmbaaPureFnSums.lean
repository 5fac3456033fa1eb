/- WHAT THIS TEXT PROVES: the pure statement of the law FnSums, over plain functions on numbers and lists. No condition beyond the statement's own. -/
import Derived.Test.YtejjalajpapmbaaQFnSumsx2
import Derived.Laws.BitsLemmas
import Derived.IntWalk
namespace Go.Proofs.Ytejjalajpapmbaa.Pure
open Go.RowKit Go.Proofs.Ytejjalajpapmbaa.QFnSums Go.Proofs.YtejjalajpapmbaaW.PrintWords Go.Proofs.YtejjalajpapmbaaW.PrintLast Go.Proofs.YtejjalajpapmbaaW.PrintMore
set_option linter.unusedVariables false
set_option linter.unusedSimpArgs false
theorem w64 {n : Int} (h0 : -9223372036854775808 ≤ n) (h1 : n ≤ 9223372036854775807) : wrap64 n = n := by unfold wrap64; omega
theorem w64n (i : Nat) (h : i < 9223372036854775807) : wrap64 ((i : Int) + 1) = ((i + 1 : Nat) : Int) := by
  rw [w64 (by omega) (by omega)]; omega
theorem rd_nat (xs : List Int) (i : Nat) : rd xs (i : Int) = xs.getD i 0 := by simp [rd]
theorem at_succ {k d : Nat} (h : d < k) : ∃ m, k = m + 1 := ⟨k - 1, by omega⟩
theorem drop_cons (xs : List Int) (i : Nat) (h : i < xs.length) : xs.drop i = xs.getD i 0 :: xs.drop (i + 1) := by
  rw [List.drop_eq_getElem_cons h]; simp [List.getD, h]
theorem set_take (x0 x3 : List Int) (i : Nat) (hl : x3.length = x0.length) (hi : i < x0.length) (ht : x3.take i = x0.take i) :
    (x3.set i (x0.getD i 0)).take (i + 1) = x0.take (i + 1) := by
  apply List.ext_getElem?
  intro j
  by_cases hj : j < i
  · have h1 := congrArg (fun l : List Int => l[j]?) ht
    simp only [List.getElem?_take, hj, if_true] at h1
    simp only [List.getElem?_take, show j < i + 1 by omega, if_true]
    rw [List.getElem?_set_ne (by omega)]; exact h1
  · by_cases e : j = i
    · subst e
      simp only [List.getElem?_take, show j < j + 1 by omega, if_true]
      rw [List.getElem?_set_self (by omega)]
      simp [List.getD, hi]
    · simp only [List.getElem?_take, show ¬ j < i + 1 by omega, if_false]
theorem bind_s {α β : Type} (a : α) (f : α → Option β) : (some a).bind f = f a := Eq.trans (Option.bind_some a f) (Eq.refl _)
theorem wf_i64 {n : Int} (h : (Lit.int .i64 n).wf = true) : -9223372036854775808 ≤ n ∧ n ≤ 9223372036854775807 := by
  simp only [Lit.wf, IntKind.min, IntKind.max, IntKind.signed, IntKind.bits, Bool.and_eq_true, decide_eq_true_eq, if_true] at h
  omega
theorem wf_u8 {n : Int} (h : (Lit.int .u8 n).wf = true) : 0 ≤ n ∧ n ≤ 255 := by
  simpa [Lit.wf, IntKind.min, IntKind.max, IntKind.signed, IntKind.bits] using h
def IsBytes (xs : List Int) : Prop := ∀ x ∈ xs, 0 ≤ x ∧ x ≤ 255
theorem IsBytes.of {xs : List Int} (h : ∀ x ∈ xs, (Lit.int .u8 x).wf = true) : IsBytes xs := fun x hx => wf_u8 (h x hx)
theorem IsBytes.at_ {xs : List Int} (h : IsBytes xs) (i : Nat) : 0 ≤ xs.getD i 0 ∧ xs.getD i 0 ≤ 255 := by
  by_cases hi : i < xs.length
  · have : xs.getD i 0 = xs[i] := by simp [List.getD, hi]
    rw [this]; exact h _ (List.getElem_mem hi)
  · rw [List.getD_eq_getElem?_getD, List.getElem?_eq_none (by omega)]; simp
theorem IsBytes.take_ {xs : List Int} (h : IsBytes xs) (i : Nat) : IsBytes (xs.take i) := fun x hx => h x (List.mem_of_mem_take hx)
theorem IsBytes.drop_ {xs : List Int} (h : IsBytes xs) (i : Nat) : IsBytes (xs.drop i) := fun x hx => h x (List.mem_of_mem_drop hx)
theorem IsBytes.append {xs ys : List Int} (h : IsBytes xs) (k : IsBytes ys) : IsBytes (xs ++ ys) := fun x hx => (List.mem_append.1 hx).elim (h x) (k x)
open Go.Proofs.Ytejjalajpapmbaa.SumWords Go.Proofs.Ytejjalajpapmbaa.Chunk
theorem IsBytes.in_ {l : List Int} (h : IsBytes l) : inBytes l := h
/-- The sum over the first k words. -/
def sumsN (l : List Int) : Nat → Int
  | 0 => 0
  | k + 1 => add1 (sumsN l k) (word l k)
theorem sums_take (l : List Int) : ∀ k, k ≤ (l.length + 1) / 2 → sums l ((all ((l.length + 1) / 2)).take k) = sumsN l k := by
  intro k
  induction k with
  | zero => intro _; simp [sums, sumsN]
  | succ k ih => intro h; rw [all_take _ k (by omega), sums_snoc, ih (by omega)]; rfl
theorem sumW_N (l : List Int) : sumW l = 65535 - sumsN l ((l.length + 1) / 2) := by
  unfold sumW
  rw [← sums_take l _ (Nat.le_refl _), List.take_of_length_le (by rw [all_length]; exact Nat.le_refl _)]
theorem sumsN_bounds (l : List Int) (h : IsBytes l) (k : Nat) (hk : k ≤ (l.length + 1) / 2) : 0 ≤ sumsN l k ∧ sumsN l k ≤ 65535 := by
  rw [← sums_take l k hk]; exact sums_bounds l h.in_ _
theorem sumW_bounds (l : List Int) (h : IsBytes l) : 0 ≤ sumW l ∧ sumW l ≤ 65535 := by
  have := sumsN_bounds l h _ (Nat.le_refl _)
  rw [sumW_N]; omega
theorem sumF_is (l : List Int) (h : IsBytes l) (hn : l.length ≤ 1099511627776) : sumF l = some (sumW l) := by
  unfold sumF; rw [if_pos (okB_mk h.in_ hn)]
theorem impl_SumWords_is (l : List Int) (h : IsBytes l) (hn : l.length ≤ 1099511627776) (k : Nat) : impl_SumWords.f k l = some (sumW l) := sumF_is l h hn
theorem spec_SumWords_l0 (x0 : List Int) (hb : IsBytes x0) (hn : x0.length ≤ 1099511627776) : ∀ (d k i : Nat), i + d = (x0.length + 1) / 2 → 4 * d + 1 ≤ k →
    spec_SumWords.l0 k x0 (sumsN x0 i) ((2 * i : Nat) : Int) = some (sumW x0) := by
  intro d
  induction d with
  | zero =>
    intro k i hi hk
    obtain ⟨k, rfl⟩ : ∃ m, k = m + 1 := ⟨k - 1, by omega⟩
    have hs := sumsN_bounds x0 hb i (by omega)
    simp only [spec_SumWords.l0]
    rw [if_neg (by omega), w64 (by omega) (by omega), sumW_N, show i = (x0.length + 1) / 2 by omega]
  | succ d ih =>
    intro k i hi hk
    obtain ⟨k, rfl⟩ : ∃ m, k = m + 1 + 1 + 1 + 1 := ⟨k - 4, by omega⟩
    have hs := sumsN_bounds x0 hb i (by omega)
    have hs1 := sumsN_bounds x0 hb (i + 1) (by omega)
    have b0 := hb.at_ (2 * i)
    have b1 := hb.at_ (2 * i + 1)
    have hnext := fun m (hm : 4 * d + 1 ≤ m) => ih m (i + 1) (by omega) hm
    have he : sumsN x0 (i + 1) = add1 (sumsN x0 i) (word x0 i) := rfl
    have h2 : wrap64 (((2 * i : Nat) : Int) + 1) = ((2 * i + 1 : Nat) : Int) := w64n _ (by omega)
    have h3 : wrap64 (((2 * i : Nat) : Int) + 2) = ((2 * (i + 1) : Nat) : Int) := by rw [w64 (by omega) (by omega)]; omega
    have fin : ∀ v, 0 ≤ v → v ≤ 131070 → sumsN x0 (i + 1) = (if v > 65535 then v - 65535 else v) → spec_SumWords.j1 (k + 1 + 1 + 1) x0 v ((2 * i : Nat) : Int) = some (sumW x0) := by
      intro v v0 v1 hv
      simp only [spec_SumWords.j1, spec_SumWords.l1]
      by_cases c : v > 65535
      · rw [if_pos c] at hv
        rw [if_pos c, w64 (n := v - 65535) (by omega) (by omega), if_neg (by omega), h3, ← hv]
        exact hnext k (by omega)
      · rw [if_neg c] at hv
        rw [if_neg c, h3, ← hv]
        exact hnext (k + 1) (by omega)
    rw [spec_SumWords.l0.eq_2]
    rw [if_pos (by omega), if_pos (by omega), h2, rd_nat, rd_nat]
    rw [w64 (n := x0.getD (2 * i) 0) (by omega) (by omega), w64 (n := 256 * x0.getD (2 * i) 0) (by omega) (by omega), w64 (n := sumsN x0 i + 256 * x0.getD (2 * i) 0) (by omega) (by omega)]
    by_cases c : 2 * i + 1 < x0.length
    · rw [if_pos (by omega), if_pos (by omega), w64 (n := x0.getD (2 * i + 1) 0) (by omega) (by omega), w64 (n := sumsN x0 i + 256 * x0.getD (2 * i) 0 + x0.getD (2 * i + 1) 0) (by omega) (by omega)]
      refine fin _ (by omega) (by omega) ?_
      rw [he]; unfold word add1
      rw [if_pos c, show sumsN x0 i + (x0.getD (2 * i) 0 * 256 + x0.getD (2 * i + 1) 0) = sumsN x0 i + 256 * x0.getD (2 * i) 0 + x0.getD (2 * i + 1) 0 by omega]
    · rw [if_neg (by omega)]
      refine fin _ (by omega) (by omega) ?_
      rw [he]; unfold word add1
      rw [if_neg c, show sumsN x0 i + x0.getD (2 * i) 0 * 256 = sumsN x0 i + 256 * x0.getD (2 * i) 0 by omega]
theorem spec_SumWords_is (l : List Int) (h : IsBytes l) (hn : l.length ≤ 1099511627776) (k : Nat) (hk : 2 * l.length + 3 ≤ k) : spec_SumWords.f k l = some (sumW l) := by
  unfold spec_SumWords.f
  exact spec_SumWords_l0 l h hn ((l.length + 1) / 2) k 0 (by omega) (by omega)
theorem Next_is (code : List Int) (hb : IsBytes code) (hn : code.length ≤ 2097152) (at_ n : Int) (h0 : 0 ≤ at_) (h1 : at_ ≤ 1073741824) (hn1 : n ≤ 4611686018427387904) :
    ∃ v, spec_l1Next.f code at_ n = some (v, at_ + 1) ∧ 0 ≤ v ∧ (1 ≤ n → v < n) ∧ (n < 1 → v = 0) := by
  unfold spec_l1Next.f
  have e1 : wrap64 (at_ + 1) = at_ + 1 := w64 (by omega) (by omega)
  have e2 : wrap64 (at_ + 1 - 1) = at_ := by rw [w64 (by omega) (by omega)]; omega
  rw [e1, e2]
  by_cases c : n < 1
  · rw [if_pos c]; exact ⟨0, rfl, by omega, by omega, fun _ => rfl⟩
  · rw [if_neg c]
    by_cases c2 : (code.length : Int) = 0
    · have e3 : wrap64 (at_ * 7) = at_ * 7 := w64 (by omega) (by omega)
      rw [if_pos c2, if_neg (by omega), e3]
      exact ⟨_, rfl, Int.tmod_nonneg n (by omega), fun _ => Int.tmod_lt_of_pos _ (by omega), fun h => absurd h c⟩
    · have hk : 0 < (code.length : Int) := by omega
      have t0 : 0 ≤ Int.tmod at_ code.length := Int.tmod_nonneg _ h0
      have t1 : Int.tmod at_ code.length < code.length := Int.tmod_lt_of_pos _ hk
      have b1 := hb.at_ (Int.tmod at_ code.length).toNat
      have hd : Int.tdiv at_ code.length = at_ / code.length := Int.tdiv_eq_ediv_of_nonneg h0
      have d0 : 0 ≤ at_ / code.length := Int.ediv_nonneg h0 (by omega)
      have d1 : at_ / code.length ≤ at_ := Int.ediv_le_self _ h0
      have r1 : rd code (Int.tmod at_ code.length) = code.getD (Int.tmod at_ code.length).toNat 0 := rfl
      rw [if_neg c2, if_pos t0, if_pos t1, hd, r1, w64 (n := at_ / code.length) (by omega) (by omega), w64 (n := at_ / code.length * 37) (by omega) (by omega)]
      rw [w64 (n := code.getD (Int.tmod at_ code.length).toNat 0) (by omega) (by omega), w64 (n := code.getD (Int.tmod at_ code.length).toNat 0 + at_ / code.length * 37) (by omega) (by omega)]
      by_cases c3 : n > 200
      · have s0 : 0 ≤ Int.tmod (wrap64 (at_ + 1)) code.length := by rw [e1]; exact Int.tmod_nonneg _ (by omega)
        have s1 : Int.tmod (wrap64 (at_ + 1)) code.length < code.length := Int.tmod_lt_of_pos _ hk
        have b2 := hb.at_ (Int.tmod (wrap64 (at_ + 1)) code.length).toNat
        have r2 : rd code (Int.tmod (wrap64 (at_ + 1)) code.length) = code.getD (Int.tmod (wrap64 (at_ + 1)) code.length).toNat 0 := rfl
        rw [e1] at s0 s1 b2 r2
        rw [if_pos c3, e1, if_pos s0, if_pos s1, if_neg (by omega), r2]
        generalize code.getD (Int.tmod at_ code.length).toNat 0 = x at *
        generalize code.getD (Int.tmod (at_ + 1) code.length).toNat 0 = y at *
        generalize at_ / code.length = q at *
        rw [w64 (n := y) (by omega) (by omega), w64 (n := y * 13) (by omega) (by omega), w64 (n := (x + q * 37) * 251) (by omega) (by omega), w64 (n := (x + q * 37) * 251 + y * 13) (by omega) (by omega), w64 (n := (x + q * 37) * 251 + y * 13 + at_) (by omega) (by omega)]
        exact ⟨_, rfl, Int.tmod_nonneg n (by omega), fun _ => Int.tmod_lt_of_pos _ (by omega), fun h => absurd h c⟩
      · rw [if_neg c3, if_neg (by omega)]
        exact ⟨_, rfl, Int.tmod_nonneg n (by omega), fun _ => Int.tmod_lt_of_pos _ (by omega), fun h => absurd h c⟩
theorem Pick_is (code : List Int) (hb : IsBytes code) (hn : code.length ≤ 2097152) (at_ : Int) (h0 : 0 ≤ at_) (h1 : at_ ≤ 1073741824) (l : List Int) (hl : 0 < l.length) (hl2 : l.length ≤ 1000) :
    ∃ v, spec_l1Pick.f code at_ l = some (v, at_ + 1) ∧ v ∈ l := by
  obtain ⟨v, hv, v0, v1, _⟩ := Next_is code hb hn at_ l.length h0 h1 (by omega)
  have v2 := v1 (by omega)
  unfold spec_l1Pick.f
  rw [hv, Option.bind_some, if_pos v0, if_pos v2]
  refine ⟨_, rfl, ?_⟩
  unfold rd
  have hlt : v.toNat < l.length := by omega
  have : l.getD v.toNat 0 = l[v.toNat] := by simp [List.getD, hlt]
  rw [this]; exact List.getElem_mem hlt
theorem l1Some_l0 (code : List Int) (hb : IsBytes code) (hn : code.length ≤ 2097152) : ∀ (d k : Nat) (out : List Int) (at_ : Nat), at_ + 3 * d ≤ 1073741824 → d < k → out.length + d ≤ 1000000000 →
    ∃ ys, spec_l1Some.l0 k (d : Int) out code (at_ : Int) = some (out ++ ys, ((at_ + 3 * d : Nat) : Int)) ∧ IsBytes ys ∧ ys.length = d := by
  intro d
  induction d with
  | zero =>
    intro k out at_ ha hk ho
    obtain ⟨k, rfl⟩ := at_succ hk
    simp only [spec_l1Some.l0]
    rw [if_neg (by omega)]
    exact ⟨[], by simp, (fun x hx => by cases hx), rfl⟩
  | succ d ih =>
    intro k out at_ ha hk ho
    obtain ⟨k, rfl⟩ := at_succ hk
    simp only [spec_l1Some.l0]
    obtain ⟨v1, e1, a1, b1, _⟩ := Next_is code hb hn at_ 256 (by omega) (by omega) (by omega)
    obtain ⟨v2, e2, a2, b2, _⟩ := Next_is code hb hn ((at_ : Int) + 1) 256 (by omega) (by omega) (by omega)
    obtain ⟨v3, e3, h3⟩ := Pick_is code hb hn ((at_ : Int) + 1 + 1) (by omega) (by omega) [v1, v2, 0, 255] (by simp) (by simp)
    rw [if_pos (by omega), e1, bind_s, e2, bind_s, e3, bind_s, if_pos (by omega)]
    have hw : wrap64 (((d + 1 : Nat) : Int) - 1) = (d : Int) := by rw [w64 (by omega) (by omega)]; omega
    have hat : (at_ : Int) + 1 + 1 + 1 = ((at_ + 3 : Nat) : Int) := by omega
    rw [hw, hat]
    obtain ⟨ys, h4, h5, h6⟩ := ih k (out ++ [v3 % 256]) (at_ + 3) (by omega) (by omega) (by simp; omega)
    refine ⟨v3 % 256 :: ys, ?_, fun x hx => ?_, by simp [h6]⟩
    · rw [h4]; simp; omega
    · rcases List.mem_cons.1 hx with rfl | hx
      · omega
      · exact h5 x hx
theorem l1Some_is (code : List Int) (hb : IsBytes code) (hn : code.length ≤ 2097152) (n : Int) (k : Nat) (at_ : Nat) (h0 : 0 ≤ n) (h1 : n ≤ 100000) (ha : at_ ≤ 1000000) (hk : n.toNat < k) :
    ∃ ys, spec_l1Some.f k code (at_ : Int) n = some (ys, ((at_ + 3 * n.toNat : Nat) : Int)) ∧ IsBytes ys ∧ ys.length = n.toNat := by
  unfold spec_l1Some.f
  obtain ⟨d, rfl⟩ : ∃ d : Nat, n = d := ⟨n.toNat, by omega⟩
  rw [Int.toNat_natCast] at *
  have := l1Some_l0 code hb hn d k [] at_ (by omega) hk (by simp; omega)
  simpa using this
theorem word_left (l m : List Int) (k : Nat) (h : 2 * k + 1 < l.length) : word (l ++ m) k = word l k := by
  unfold word
  rw [if_pos (by simp; omega), if_pos h]
  have g : ∀ j, j < l.length → (l ++ m).getD j 0 = l.getD j 0 := fun j hj => by simp [List.getD, List.getElem?_append_left hj]
  rw [g _ (by omega), g _ h]
theorem sumsN_left (l m : List Int) : ∀ h, 2 * h ≤ l.length → sumsN (l ++ m) h = sumsN l h := by
  intro h
  induction h with
  | zero => intro _; rfl
  | succ h ih => intro hh; simp only [sumsN]; rw [ih (by omega), word_left l m h (by omega)]
theorem word_right (l m : List Int) (h : Nat) (hl : l.length = 2 * h) (hm : 2 ≤ m.length) : word (l ++ m) h = m.getD 0 0 * 256 + m.getD 1 0 := by
  unfold word
  rw [if_pos (by simp; omega)]
  have g : ∀ j, (l ++ m).getD (2 * h + j) 0 = m.getD j 0 := fun j => by
    rw [List.getD_eq_getElem?_getD, List.getElem?_append_right (by omega), hl, List.getD_eq_getElem?_getD]
    congr 2; omega
  have g0 := g 0
  have g1 := g 1
  rw [Nat.add_zero] at g0
  rw [g0, g1]
theorem DrawSum_is (code : List Int) (hb : IsBytes code) (hn : code.length ≤ 1048576) (k : Nat) (hk : 40 ≤ k) : ∃ l, spec_DrawSumWords.f k code = some l ∧ IsBytes l ∧ l.length ≤ 40 := by
  unfold spec_DrawSumWords.f spec_l1Source.f
  simp only [bind_s]
  obtain ⟨v, e, a, b, _⟩ := Next_is code hb (by omega) 0 30 (by omega) (by omega) (by omega)
  have hv := b (by omega)
  obtain ⟨ys, e2, h2, h3⟩ := l1Some_is code hb (by omega) v k 1 a (by omega) (by omega) (by omega)
  rw [e, bind_s]
  have e3 : spec_l1Some.f k code (0 + 1) v = some (ys, ((1 + 3 * v.toNat : Nat) : Int)) := e2
  rw [e3, bind_s]
  exact ⟨ys, rfl, h2, by omega⟩
theorem FnSums_j0 (x : List Int) (hx : IsBytes x) (hl : x.length ≤ 41) (h : Nat) (hh : x.length = 2 * h) (k : Nat) (hk : 200 ≤ k) : laws_FnSums.j0 k x = some true := by
  obtain ⟨k, rfl⟩ : ∃ m, k = m + 1 + 1 := ⟨k - 2, by omega⟩
  have sb := sumW_bounds x hx
  simp only [laws_FnSums.j0, laws_FnSums.j1]
  rw [impl_SumWords_is x hx (by omega)]
  simp only [bind_s]
  generalize hS : sumW x = S at *
  have hdec : (decide (S > 65535)) = false := decide_eq_false (by omega)
  rw [if_neg (by omega), hdec, if_neg (by decide)]
  simp only [List.nil_append, List.length_nil]
  have hd1 : (wrap64 (Int.tdiv S 256)) % 256 = S / 256 := by
    rw [Int.tdiv_eq_ediv_of_nonneg sb.1, w64 (by omega) (by omega)]; omega
  have hd2 : (Int.tmod S 256) % 256 = S % 256 := by
    rw [Int.tmod_eq_emod_of_nonneg sb.1]; omega
  rw [hd1, hd2, if_pos (by omega)]
  generalize hm : ([S / 256, S % 256] : List Int) = m at *
  have hml : m.length = 2 := by rw [← hm]; rfl
  have hmb : IsBytes m := by
    intro y hy
    rw [← hm] at hy
    simp only [List.mem_cons, List.not_mem_nil, or_false] at hy
    omega
  have hw1 : IsBytes (x ++ m) := hx.append hmb
  have hlen : (x ++ m).length = 2 * (h + 1) := by rw [List.length_append, hml]; omega
  have hsum1 : sumsN (x ++ m) (h + 1) = 65535 := by
    simp only [sumsN]
    rw [sumsN_left x m h (by omega), word_right x m h hh (by omega), ← hm]
    have := sumW_N x
    rw [hS, show (x.length + 1) / 2 = h by omega] at this
    have g0 : ([S / 256, S % 256] : List Int).getD 0 0 = S / 256 := rfl
    have g1 : ([S / 256, S % 256] : List Int).getD 1 0 = S % 256 := rfl
    unfold add1
    rw [g0, g1, if_neg (by omega)]; omega
  have hW1 : sumW (x ++ m) = 0 := by rw [sumW_N, hlen, show (2 * (h + 1) + 1) / 2 = h + 1 by omega, hsum1]; rfl
  rw [if_pos (by omega)]
  unfold impl_WholeSum.f
  rw [impl_SumWords_is (x ++ m) hw1 (by omega), hW1]
  simp only [bind_s]
  rw [if_pos (by decide), if_pos (by omega)]
  generalize hy : x ++ m = y at *
  have hq : IsBytes ([0, 1] : List Int) := by
    intro z hz
    simp only [List.mem_cons, List.not_mem_nil, or_false] at hz
    omega
  rw [if_pos (by simp; omega)]
  have hsum2 : sumsN (y ++ [0, 1]) (h + 1 + 1) = 1 := by
    simp only [sumsN]
    have e := sumsN_left y [0, 1] (h + 1) (by omega)
    simp only [sumsN] at e hsum1
    rw [e, hsum1, word_right y [0, 1] (h + 1) hlen (by simp)]
    decide
  have hW2 : sumW (y ++ [0, 1]) = 65534 := by rw [sumW_N, List.length_append, hlen, show (2 * (h + 1) + ([0, 1] : List Int).length + 1) / 2 = h + 1 + 1 by simp; omega, hsum2]; rfl
  rw [impl_SumWords_is (y ++ [0, 1]) (hw1.append hq) (by simp; omega), hW2]
  simp only [bind_s]
  rw [if_neg (by decide), spec_SumWords_is x hx (by omega) k (by omega), hS]
  simp
theorem FnSums : laws_FnSums.Pure := by
  intro l _ _ hb
  have hb := IsBytes.of hb
  refine ⟨300, ?_⟩
  unfold laws_FnSums.f laws_lwBig.f
  simp only [bind_s]
  by_cases h : (l.length : Int) > 1048576
  · rw [decide_eq_true h, if_pos rfl]
  · obtain ⟨x, hd, hx, hxl⟩ := DrawSum_is l hb (by omega) 300 (by omega)
    rw [decide_eq_false h, if_neg (by decide), hd]
    simp only [bind_s]
    by_cases c : (x.length : Int) % 2 = 1
    · rw [if_pos c, if_pos (by omega)]
      refine FnSums_j0 (x ++ [0]) (hx.append (fun z hz => ?_)) (by simp; omega) ((x.length + 1) / 2) (by simp; omega) 300 (by omega)
      simp only [List.mem_cons, List.not_mem_nil, or_false] at hz
      omega
    · rw [if_neg c]
      exact FnSums_j0 x hx (by omega) (x.length / 2) (by omega) 300 (by omega)
end Go.Proofs.Ytejjalajpapmbaa.Pure
