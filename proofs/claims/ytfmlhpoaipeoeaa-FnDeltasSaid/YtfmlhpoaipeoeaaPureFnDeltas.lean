/- WHAT THIS TEXT PROVES: the pure statement of the law FnDeltas, over plain functions on numbers and lists. No condition beyond the statement's own. -/
import Derived.Test.YtfmlhpoaipeoeaaQFnDeltasxl
import Derived.Laws.BitsLemmas
import Derived.IntWalk
namespace Go.Proofs.Ytfmlhpoaipeoeaa.Pure
open Go.RowKit Go.Proofs.Ytfmlhpoaipeoeaa.QFnDeltas Go.Proofs.YtfmlhpoaipeoeaaW.PrintWords Go.Proofs.YtfmlhpoaipeoeaaW.PrintLast Go.Proofs.YtfmlhpoaipeoeaaW.PrintMore
set_option linter.unusedVariables false
set_option linter.unusedSimpArgs false
theorem w64 {n : Int} (h0 : -9223372036854775808 ≤ n) (h1 : n ≤ 9223372036854775807) : wrap64 n = n := by unfold wrap64; omega
theorem w64n (i : Nat) (h : i < 9223372036854775807) : wrap64 ((i : Int) + 1) = ((i + 1 : Nat) : Int) := by
  rw [w64 (by omega) (by omega)]; omega
theorem rd_nat (xs : List Int) (i : Nat) : rd xs (i : Int) = xs.getD i 0 := by simp [rd]
theorem at_succ {k d : Nat} (h : d < k) : ∃ m, k = m + 1 := ⟨k - 1, by omega⟩
theorem drop_cons (xs : List Int) (i : Nat) (h : i < xs.length) : xs.drop i = xs.getD i 0 :: xs.drop (i + 1) := by
  rw [List.drop_eq_getElem_cons h]; simp [List.getD, h]
theorem set_take (x0 x3 : List Int) (i : Nat) (hl : x3.length = x0.length) (hi : i < x0.length) (ht : x3.take i = x0.take i) :
    (x3.set i (x0.getD i 0)).take (i + 1) = x0.take (i + 1) := by
  apply List.ext_getElem?
  intro j
  by_cases hj : j < i
  · have h1 := congrArg (fun l : List Int => l[j]?) ht
    simp only [List.getElem?_take, hj, if_true] at h1
    simp only [List.getElem?_take, show j < i + 1 by omega, if_true]
    rw [List.getElem?_set_ne (by omega)]; exact h1
  · by_cases e : j = i
    · subst e
      simp only [List.getElem?_take, show j < j + 1 by omega, if_true]
      rw [List.getElem?_set_self (by omega)]
      simp [List.getD, hi]
    · simp only [List.getElem?_take, show ¬ j < i + 1 by omega, if_false]
theorem bind_s {α β : Type} (a : α) (f : α → Option β) : (some a).bind f = f a := Eq.trans (Option.bind_some a f) (Eq.refl _)
theorem drop_consG {α : Type} (xs : List α) (d : α) (i : Nat) (h : i < xs.length) : xs.drop i = xs.getD i d :: xs.drop (i + 1) := by
  rw [List.drop_eq_getElem_cons h]; simp [List.getD, h]
theorem set_snocG {α : Type} (x : List α) (i : Nat) (v : α) (h : i < x.length) : (x.set i v).take (i + 1) = x.take i ++ [v] := by
  apply List.ext_getElem?
  intro j
  by_cases hj : j < i
  · rw [List.getElem?_append_left (by rw [List.length_take]; omega)]
    simp only [List.getElem?_take, hj, show j < i + 1 by omega, if_true]
    rw [List.getElem?_set_ne (by omega)]
  · by_cases e : j = i
    · subst e
      rw [List.getElem?_append_right (by rw [List.length_take]; omega)]
      simp only [List.getElem?_take, show j < j + 1 by omega, if_true, List.length_take]
      rw [List.getElem?_set_self h, show j - min j x.length = 0 by omega]; rfl
    · simp only [List.getElem?_take, show ¬ j < i + 1 by omega, if_false]
      rw [List.getElem?_eq_none (by rw [List.length_append, List.length_take, List.length_singleton]; omega)]
theorem take_snocG {α : Type} (x : List α) (d : α) (i : Nat) (h : i < x.length) : x.take (i + 1) = x.take i ++ [x.getD i d] := by
  rw [List.take_succ_eq_append_getElem h]; simp [List.getD, h]
theorem lwHas_l0 (x0 : List Int) (v : Int) (hn : x0.length ≤ 1048576) : ∀ (d k i : Nat), i + d = x0.length → d < k → laws_lwHas.l0 k x0 v (i : Int) = some (decide (v ∈ x0.drop i)) := by
  intro d
  induction d with
  | zero =>
    intro k i hi hk
    obtain ⟨k, rfl⟩ := at_succ hk
    simp only [laws_lwHas.l0]
    rw [if_neg (by omega), List.drop_of_length_le (by omega)]
    simp
  | succ d ih =>
    intro k i hi hk
    obtain ⟨k, rfl⟩ := at_succ hk
    simp only [laws_lwHas.l0]
    rw [if_pos (by omega), if_pos (by omega), rd_nat, w64n i (by omega), drop_cons x0 i (by omega)]
    by_cases e : x0.getD i 0 = v
    · rw [if_pos e, e]; simp
    · rw [if_neg e, ih k (i + 1) (by omega) (by omega)]
      congr 1
      have : (v ∈ x0.getD i 0 :: x0.drop (i + 1)) ↔ v ∈ x0.drop (i + 1) := by
        rw [List.mem_cons]
        exact ⟨fun h => h.resolve_left (fun h => e h.symm), Or.inr⟩
      exact decide_eq_decide.2 this.symm
theorem lwHas_is (x0 : List Int) (v : Int) (hn : x0.length ≤ 1048576) (k : Nat) (hk : x0.length < k) : laws_lwHas.f k x0 v = some (decide (v ∈ x0)) := by
  unfold laws_lwHas.f
  have := lwHas_l0 x0 v hn x0.length k 0 (by omega) hk
  simpa using this
theorem dfirst_zero (g : Nat → Int) : ∀ (m i : Nat), Cf.first g i m = 0 → ∀ j, j < m → g (i + j) = 0
  | 0, _, _, j, hj => absurd hj (Nat.not_lt_zero _)
  | m + 1, i, h, j, hj => by
    simp only [Cf.first] at h
    by_cases h0 : g i = 0
    · rw [if_pos h0] at h
      match j with
      | 0 => exact h0
      | j + 1 =>
        have := dfirst_zero g m (i + 1) h j (by omega)
        rwa [show i + 1 + j = i + (j + 1) by omega] at this
    · rw [if_neg h0] at h; exact absurd h h0
theorem dplace_name (l : List S36) (n : Int) (h : ¬ Cf.place l n < 0) : (rd_T36 l (Cf.place l n)).f0 = n := by
  have key : ∀ (l : List S36) (i : Int), 0 ≤ i → ∀ q, q = Go.Proofs.Ytfmlhpoaipeoeaa.Ix.ixFrom (Cf.named n) l i → ¬ q < 0 → i ≤ q ∧ (l.getD (q - i).toNat z36).f0 = n := by
    intro l
    induction l with
    | nil => intro i hi q hq hn; rw [hq] at hn; exact absurd (show Go.Proofs.Ytfmlhpoaipeoeaa.Ix.ixFrom (Cf.named n) [] i < 0 from by simp [Go.Proofs.Ytfmlhpoaipeoeaa.Ix.ixFrom]) hn
    | cons x l ih =>
      intro i hi q hq hn
      by_cases hx : Cf.named n x = true
      · have e : q = i := hq.trans (if_pos hx)
        subst e
        refine ⟨Int.le_refl _, ?_⟩
        rw [show (q - q).toNat = 0 by omega]
        simpa [Cf.named] using hx
      · have e : q = Go.Proofs.Ytfmlhpoaipeoeaa.Ix.ixFrom (Cf.named n) l (i + 1) := hq.trans (if_neg hx)
        obtain ⟨h1, h2⟩ := ih (i + 1) (by omega) q e hn
        refine ⟨by omega, ?_⟩
        rw [show (q - i).toNat = (q - (i + 1)).toNat + 1 by omega]
        simpa using h2
  obtain ⟨_, h2⟩ := key l 0 (Int.le_refl _) _ rfl h
  have h3 : (l.getD (Cf.place l n - 0).toNat z36).f0 = n := h2
  rw [Int.sub_zero] at h3
  exact h3

theorem asc_ext : ∀ (l1 l2 : List Int), l1.Pairwise (· < ·) → l2.Pairwise (· < ·) → (∀ x, x ∈ l1 ↔ x ∈ l2) → l1 = l2
  | [], [], _, _, _ => rfl
  | [], y :: l2, _, _, h => absurd ((h y).2 (List.mem_cons_self ..)) (by simp)
  | x :: l1, [], _, _, h => absurd ((h x).1 (List.mem_cons_self ..)) (by simp)
  | x :: l1, y :: l2, h1, h2, h => by
    rw [List.pairwise_cons] at h1 h2
    have hxy : x = y := by
      have a := (h x).1 (List.mem_cons_self ..)
      have b := (h y).2 (List.mem_cons_self ..)
      rw [List.mem_cons] at a b
      rcases a with a | a
      · exact a
      · rcases b with b | b
        · exact b.symm
        · have := h1.1 y b
          have := h2.1 x a
          omega
    subst hxy
    rw [asc_ext l1 l2 h1.2 h2.2 (fun z => ?_)]
    have hz := h z
    rw [List.mem_cons, List.mem_cons] at hz
    constructor
    · intro a
      rcases hz.1 (.inr a) with e | e
      · have := h1.1 z a
        omega
      · exact e
    · intro a
      rcases hz.2 (.inr a) with e | e
      · have := h2.1 z a
        omega
      · exact e
theorem rise_lt {n x : Int} (l : List Int) (h : x < n) : Dl.rise n (x :: l) = x :: Dl.rise n l := by
  have e : Dl.rk n (x :: l) = Dl.rk n l + 1 := by rw [Dl.rk, if_pos h]
  unfold Dl.rise
  rw [e, List.getElem?_cons_succ, List.take_succ_cons, List.drop_succ_cons]
  split <;> rfl
theorem rise_ge {n x : Int} (l : List Int) (h : ¬ x < n) : Dl.rise n (x :: l) = if x = n then x :: l else n :: x :: l := by
  have e : Dl.rk n (x :: l) = 0 := by rw [Dl.rk, if_neg h]
  unfold Dl.rise
  rw [e]
  simp
theorem mem_rise (n m : Int) : ∀ l, m ∈ Dl.rise n l ↔ m = n ∨ m ∈ l
  | [] => by simp [Dl.rise, Dl.rk]
  | x :: l => by
    by_cases h : x < n
    · rw [rise_lt l h, List.mem_cons, mem_rise n m l, List.mem_cons]
      constructor
      · rintro (h | h | h) <;> simp [h]
      · rintro (h | h | h) <;> simp [h]
    · rw [rise_ge l h]
      by_cases e : x = n
      · rw [if_pos e]
        subst e
        simp
      · rw [if_neg e, List.mem_cons]
theorem asc_rise (n : Int) : ∀ l : List Int, l.Pairwise (· < ·) → (Dl.rise n l).Pairwise (· < ·)
  | [], _ => by simp [Dl.rise, Dl.rk]
  | x :: l, h => by
    have h' := h
    rw [List.pairwise_cons] at h
    by_cases c : x < n
    · rw [rise_lt l c, List.pairwise_cons]
      refine ⟨fun y hy => ?_, asc_rise n l h.2⟩
      rcases (mem_rise n y l).1 hy with e | e
      · omega
      · exact h.1 y e
    · rw [rise_ge l c]
      by_cases e : x = n
      · rw [if_pos e]; exact h'
      · rw [if_neg e, List.pairwise_cons]
        refine ⟨fun y hy => ?_, h'⟩
        rw [List.mem_cons] at hy
        rcases hy with e2 | e2
        · omega
        · have := h.1 y e2
          omega
theorem fold_asc (p : S36 → Bool) : ∀ (l : List S36) (out : List Int), out.Pairwise (· < ·) → (l.foldl (Dl.add p) out).Pairwise (· < ·)
  | [], _, h => h
  | x :: l, out, h => by
    rw [List.foldl_cons]
    refine fold_asc p l _ ?_
    unfold Dl.add
    split
    · exact asc_rise _ _ h
    · exact h
theorem fold_mem (p : S36 → Bool) (m : Int) : ∀ (l : List S36) (out : List Int), m ∈ l.foldl (Dl.add p) out ↔ m ∈ out ∨ ∃ x, x ∈ l ∧ p x = true ∧ x.f0 = m
  | [], _ => by simp
  | x :: l, out => by
    rw [List.foldl_cons, fold_mem p m l]
    have hm : m ∈ Dl.add p out x ↔ m ∈ out ∨ (p x = true ∧ x.f0 = m) := by
      unfold Dl.add
      by_cases c : p x = true
      · rw [if_pos c, mem_rise]
        constructor
        · rintro (h | h)
          · exact .inr ⟨c, h.symm⟩
          · exact .inl h
        · rintro (h | h)
          · exact .inr h
          · exact .inl h.2.symm
      · rw [if_neg c]
        exact ⟨.inl, fun h => h.elim id (fun h => absurd h.1 c)⟩
    rw [hm]
    constructor
    · rintro ((h | h) | ⟨y, hy, h⟩)
      · exact .inl h
      · exact .inr ⟨x, List.mem_cons_self .., h⟩
      · exact .inr ⟨y, List.mem_cons_of_mem _ hy, h⟩
    · rintro (h | ⟨y, hy, h⟩)
      · exact .inl (.inl h)
      · rw [List.mem_cons] at hy
        rcases hy with e | hy
        · subst e; exact .inl (.inr h)
        · exact .inr ⟨y, hy, h⟩
theorem get_toArray (l : List Int) (i : Nat) (h : i < l.length) : l.toArray[i]! = l[i] := by simp [getElem!_pos, h]
theorem compact_mem (l : List Int) (m : Int) : m ∈ Lib.compact l ↔ m ∈ l := by
  unfold Lib.compact Lib.compactUpTo
  simp only [List.mem_map, List.mem_filter, List.mem_range]
  constructor
  · rintro ⟨j, ⟨hj, _⟩, e⟩
    rw [get_toArray l j hj] at e
    rw [← e]
    exact List.getElem_mem hj
  · intro h
    obtain ⟨j, hj, e⟩ := List.getElem_of_mem h
    rw [← get_toArray l j hj] at e
    clear h
    induction j with
    | zero => exact ⟨0, ⟨hj, Lib.keeps_lt_one _ 0 (by omega)⟩, e⟩
    | succ j ih =>
      by_cases c : l.toArray[j + 1]! = l.toArray[j]!
      · exact ih (by omega) (by rw [← c]; exact e)
      · exact ⟨j + 1, ⟨hj, Lib.keeps_pos (by simpa using c)⟩, e⟩
theorem compact_asc (l : List Int) (h : l.Pairwise (· ≤ ·)) : (Lib.compact l).Pairwise (· < ·) := by
  unfold Lib.compact Lib.compactUpTo
  rw [List.pairwise_map, List.pairwise_filter]
  refine List.Pairwise.imp_of_mem ?_ (List.pairwise_lt_range (n := l.length))
  intro i j hi hj hij _ hk
  rw [List.mem_range] at hi hj
  rw [List.pairwise_iff_getElem] at h
  simp only [Lib.keeps, decide_eq_true_eq] at hk
  rcases hk with hk | hk
  · omega
  · rw [get_toArray l j hj, get_toArray l (j - 1) (by omega)] at hk
    rw [get_toArray l i hi, get_toArray l j hj]
    have h1 : l[i] ≤ l[j - 1]'(by omega) := by
      by_cases e : i = j - 1
      · subst e; omega
      · exact h i (j - 1) _ _ (by omega)
    have h2 := h (j - 1) j (by omega) hj (by omega)
    omega
theorem srt_asc (l : List Int) : (Dl.srt l).Pairwise (· ≤ ·) := by
  have h := List.pairwise_mergeSort (le := fun x y : Int => decide (x ≤ y)) (fun a b c h1 h2 => by simp at *; omega) (fun a b => by simp; omega) l
  unfold Dl.srt
  exact h.imp (fun h => of_decide_eq_true h)
theorem code_asc {v : Int} {l1 : List S36} {l2 : List S64} (h : Cf.code v l1 l2 = 0) : l1.Pairwise (fun x y => x.f0 < y.f0) := by
  have hz : Cf.first (Cf.bcode l1) 0 l1.length = 0 := by
    unfold Cf.code at h
    split at h
    · cases h
    · split at h
      · cases h
      · split at h
        · assumption
        · exact h
  have hb : ∀ j, j + 1 < l1.length → (l1.getD j z36).f0 < (l1.getD (j + 1) z36).f0 := by
    intro j hj
    have hv := dfirst_zero _ _ _ hz (j + 1) hj
    rw [Nat.zero_add] at hv
    unfold Cf.bcode at hv
    split at hv
    · cases hv
    · split at hv
      · cases hv
      · rename_i hg
        simp only [Nat.zero_lt_succ, decide_true, Bool.true_and, decide_eq_true_eq, Nat.add_sub_cancel] at hg
        omega
  have ha : ∀ (d i : Nat), i + (d + 1) < l1.length → (l1.getD i z36).f0 < (l1.getD (i + (d + 1)) z36).f0 := by
    intro d
    induction d with
    | zero => intro i hi; exact hb i hi
    | succ d ih =>
      intro i hi
      have h1 := ih i (by omega)
      have h2 := hb (i + (d + 1)) (by omega)
      rw [show i + (d + 1 + 1) = i + (d + 1) + 1 by omega]
      omega
  rw [List.pairwise_iff_getElem]
  intro i j hi hj hij
  have h1 := ha (j - i - 1) i (by omega)
  rw [show i + (j - i - 1 + 1) = j by omega] at h1
  have e1 : l1.getD i z36 = l1[i] := by simp [List.getD, hi]
  have e2 : l1.getD j z36 = l1[j] := by simp [List.getD, hj]
  rw [e1, e2] at h1
  exact h1
theorem uniq {l : List S36} (h : l.Pairwise (fun x y => x.f0 < y.f0)) {x y : S36} (hx : x ∈ l) (hy : y ∈ l) (e : x.f0 = y.f0) : x = y := by
  rw [List.pairwise_iff_getElem] at h
  obtain ⟨i, hi, rfl⟩ := List.getElem_of_mem hx
  obtain ⟨j, hj, rfl⟩ := List.getElem_of_mem hy
  by_cases c : i = j
  · subst c; rfl
  · exfalso
    by_cases c2 : i < j
    · have := h i j hi hj c2
      omega
    · have := h j i hj hi (by omega)
      omega
theorem place_neg (l : List S36) (n : Int) : Cf.place l n < 0 ↔ ∀ x, x ∈ l → x.f0 ≠ n := by
  have h := Go.Proofs.Ytfmlhpoaipeoeaa.Ix.ixFrom_ge (Cf.named n) l 0 (by omega)
  unfold Cf.place
  constructor
  · intro hn x hx e
    have h2 : decide (0 ≤ Go.Proofs.Ytfmlhpoaipeoeaa.Ix.ixFrom (Cf.named n) l 0) = true := by
      rw [h, List.any_eq_true]
      exact ⟨x, hx, by simp [Cf.named, e]⟩
    have := of_decide_eq_true h2
    omega
  · intro hn
    have h2 : decide (0 ≤ Go.Proofs.Ytfmlhpoaipeoeaa.Ix.ixFrom (Cf.named n) l 0) = false := by
      rw [h]
      cases hc : l.any (Cf.named n) with
      | false => rfl
      | true =>
        rw [List.any_eq_true] at hc
        obtain ⟨x, hx, e⟩ := hc
        exact absurd (by simpa [Cf.named] using e) (hn x hx)
    have := of_decide_eq_false h2
    omega
theorem same_is (x y : S36) : Dl.same x y = true ↔ x = y := by
  cases x; cases y
  simp [Dl.same]
theorem has_mem (l : List S36) (x : S36) : Dl.has l x = true ↔ x ∈ l := by
  unfold Dl.has
  rw [List.any_eq_true]
  constructor
  · rintro ⟨y, hy, e⟩
    rw [(same_is x y).1 e]; exact hy
  · intro h
    exact ⟨x, h, (same_is x x).2 rfl⟩
theorem s1_is (l : List S36) (h : l.Pairwise (fun x y => x.f0 < y.f0)) (x : S36) : Dl.s1 l x = true ↔ ¬ x ∈ l := by
  unfold Dl.s1
  by_cases c : Cf.place l x.f0 < 0
  · simp only [c, decide_true, Bool.true_or, true_iff]
    exact fun hx => (place_neg l x.f0).1 c x hx rfl
  · have hn := dplace_name l x.f0 c
    have hl := Cf.place_lt l x.f0 c
    have hm : rd_T36 l (Cf.place l x.f0) ∈ l := by
      have e : rd_T36 l (Cf.place l x.f0) = l[(Cf.place l x.f0).toNat]'(by omega) := by simp [rd_T36, List.getD, show (Cf.place l x.f0).toNat < l.length by omega]
      rw [e]
      exact List.getElem_mem _
    simp only [c, decide_false, Bool.false_or, Bool.not_eq_true']
    rw [← Bool.not_eq_true, same_is]
    constructor
    · intro hne hx
      exact hne (uniq h hm hx hn)
    · intro hx e
      exact hx (e ▸ hm)
theorem mem_left (l o : List S36) (m : Int) : m ∈ Dl.left l o ↔ ∃ x, x ∈ l ∧ ¬ x ∈ o ∧ x.f0 = m := by
  unfold Dl.left
  simp only [List.mem_map, List.mem_filter, Bool.not_eq_true', ← Bool.not_eq_true, has_mem]
  constructor
  · rintro ⟨x, ⟨a, b⟩, c⟩; exact ⟨x, a, b, c⟩
  · rintro ⟨x, a, b, c⟩; exact ⟨x, ⟨a, b⟩, c⟩
theorem dsp_dim (va : Int) (la : List S36) (la2 : List S64) (vb : Int) (lb : List S36) (lb2 : List S64) : Dl.dsp va la la2 vb lb lb2 = Dl.dim va la la2 vb lb lb2 := by
  unfold Dl.dsp Dl.dim
  by_cases c : Dl.dcd va la la2 vb lb lb2 ≠ 0
  · rw [if_pos c, if_pos c]
  · rw [if_neg c, if_neg c]
    have ha : Cf.code va la la2 = 0 := by
      unfold Dl.dcd at c
      split at c
      · exact absurd ‹_› c
      · rename_i h; simpa using h
    have hb : Cf.code vb lb lb2 = 0 := by
      unfold Dl.dcd at c
      rw [if_neg (by simpa using ha)] at c
      simpa using c
    have ua := code_asc ha
    have ub := code_asc hb
    refine asc_ext _ _ (fold_asc _ _ _ (fold_asc _ _ _ List.Pairwise.nil)) (compact_asc _ (srt_asc _)) (fun m => ?_)
    rw [fold_mem, fold_mem, compact_mem]
    unfold Dl.srt
    rw [List.mem_mergeSort, List.mem_append, mem_left, mem_left]
    have e2 : ∀ y, Dl.s2 la y = true ↔ ∀ x, x ∈ la → x.f0 ≠ y.f0 := fun y => by
      unfold Dl.s2
      rw [decide_eq_true_eq, place_neg]
    constructor
    · rintro ((h | ⟨x, hx, h, e⟩) | ⟨y, hy, h, e⟩)
      · cases h
      · exact .inl ⟨x, hx, (s1_is lb ub x).1 h, e⟩
      · exact .inr ⟨y, hy, fun h2 => (e2 y).1 h y h2 rfl, e⟩
    · rintro (⟨x, hx, h, e⟩ | ⟨y, hy, h, e⟩)
      · exact .inl (.inr ⟨x, hx, (s1_is lb ub x).2 h, e⟩)
      · by_cases hq : ∀ x, x ∈ la → x.f0 ≠ y.f0
        · exact .inr ⟨y, hy, (e2 y).2 hq, e⟩
        · simp only [Classical.not_forall, Classical.not_not] at hq
          obtain ⟨x, hx, hxy⟩ := hq
          refine .inl (.inr ⟨x, hx, (s1_is lb ub x).2 (fun hx2 => ?_), by omega⟩)
          exact h (uniq ub hx2 hy hxy ▸ hx)
theorem dim_len (va : Int) (la : List S36) (la2 : List S64) (vb : Int) (lb : List S36) (lb2 : List S64) : (Dl.dim va la la2 vb lb lb2).length ≤ la.length + lb.length := by
  unfold Dl.dim
  split
  · simp
  · refine Nat.le_trans (Dl.compact_len _) ?_
    rw [Dl.srt_len, List.length_append]
    have := Dl.left_len la lb
    have := Dl.left_len lb la
    omega
theorem lwNums_l0 (x0 : List Int) (hn : x0.length ≤ 1048576) : ∀ (d k i : Nat), i + d = x0.length → d < k → laws_lwNums.l0 k x0 x0 (i : Int) = some true := by
  intro d
  induction d with
  | zero =>
    intro k i hi hk
    obtain ⟨k, rfl⟩ := at_succ hk
    simp only [laws_lwNums.l0]
    rw [if_neg (by omega)]
  | succ d ih =>
    intro k i hi hk
    obtain ⟨k, rfl⟩ := at_succ hk
    simp only [laws_lwNums.l0]
    rw [if_pos (by omega), if_pos (by omega), if_pos (by omega), w64n i (by omega)]
    simpa using ih k (i + 1) (by omega) (by omega)
theorem lwNums_self (x0 : List Int) (hn : x0.length ≤ 1048576) (k : Nat) (hk : x0.length < k) : laws_lwNums.f k x0 x0 = some true := by
  unfold laws_lwNums.f
  rw [if_pos rfl]
  exact lwNums_l0 x0 hn x0.length k 0 (by omega) hk
theorem eat_bcd {v : Int} {l1 : List S36} {l2 : List S64} (h : Cf.code v l1 l2 = 0) (n : Int) (hp : ¬ Cf.place l1 n < 0) : Cf.bcd v l1 l2 n = 0 ∧ Cf.bval v l1 l2 n = rd_T36 l1 (Cf.place l1 n) := by
  unfold Cf.bcd Cf.bval
  rw [if_neg (by simp [h]), if_neg hp, if_neg (by simp [h]), if_neg hp]
  exact ⟨rfl, rfl⟩
theorem eat_gone {v : Int} {l1 : List S36} {l2 : List S64} (h : Cf.code v l1 l2 = 0) (n : Int) (hp : Cf.place l1 n < 0) : Cf.bcd v l1 l2 n = 4 := by
  unfold Cf.bcd
  rw [if_neg (by simp [h]), if_pos hp]
theorem rd_mem (l : List S36) (n : Int) (h : ¬ Cf.place l n < 0) : rd_T36 l (Cf.place l n) ∈ l := by
  have h2 := Cf.place_lt l n h
  have hlt : (Cf.place l n).toNat < l.length := by omega
  have e : rd_T36 l (Cf.place l n) = l[(Cf.place l n).toNat] := by simp [rd_T36, List.getD, hlt]
  rw [e]; exact List.getElem_mem hlt
theorem srt_mem (l : List Int) (m : Int) : m ∈ Dl.srt l ↔ m ∈ l := by unfold Dl.srt; exact List.mem_mergeSort
theorem dim_is {a : Int} {k1 : List S36} {k2 : List S64} {b : Int} {l1 : List S36} {l2 : List S64} (ha : Cf.code a k1 k2 = 0) (hb : Cf.code b l1 l2 = 0) : Dl.dim a k1 k2 b l1 l2 = Lib.compact (Dl.srt (Dl.left k1 l1 ++ Dl.left l1 k1)) := by
  unfold Dl.dim Dl.dcd
  rw [if_neg (by simp [ha, hb])]
theorem mem_dim {a : Int} {k1 : List S36} {k2 : List S64} {b : Int} {l1 : List S36} {l2 : List S64} (ha : Cf.code a k1 k2 = 0) (hb : Cf.code b l1 l2 = 0) (m : Int) : m ∈ Dl.dim a k1 k2 b l1 l2 ↔ (∃ x, x ∈ k1 ∧ ¬ x ∈ l1 ∧ x.f0 = m) ∨ ∃ x, x ∈ l1 ∧ ¬ x ∈ k1 ∧ x.f0 = m := by
  rw [dim_is ha hb, compact_mem, srt_mem, List.mem_append, mem_left, mem_left]
theorem dim_asc {a : Int} {k1 : List S36} {k2 : List S64} {b : Int} {l1 : List S36} {l2 : List S64} (ha : Cf.code a k1 k2 = 0) (hb : Cf.code b l1 l2 = 0) : (Dl.dim a k1 k2 b l1 l2).Pairwise (· < ·) := by
  rw [dim_is ha hb]; exact compact_asc _ (srt_asc _)
theorem dim_sym {a : Int} {k1 : List S36} {k2 : List S64} {b : Int} {l1 : List S36} {l2 : List S64} (ha : Cf.code a k1 k2 = 0) (hb : Cf.code b l1 l2 = 0) : Dl.dim b l1 l2 a k1 k2 = Dl.dim a k1 k2 b l1 l2 := by
  refine asc_ext _ _ (dim_asc hb ha) (dim_asc ha hb) (fun m => ?_)
  rw [mem_dim ha hb, mem_dim hb ha]
  exact Or.comm
theorem dim_same {a : Int} {k1 : List S36} {k2 : List S64} (ha : Cf.code a k1 k2 = 0) : Dl.dim a k1 k2 a k1 k2 = [] := by
  refine List.eq_nil_iff_forall_not_mem.2 (fun m hm => ?_)
  rw [mem_dim ha ha] at hm
  rcases hm with ⟨x, h1, h2, _⟩ | ⟨x, h1, h2, _⟩ <;> exact h2 h1
theorem name_dim {a : Int} {k1 : List S36} {k2 : List S64} {b : Int} {l1 : List S36} {l2 : List S64} (ha : Cf.code a k1 k2 = 0) (hb : Cf.code b l1 l2 = 0) (x : S36) (hx : x ∈ k1) : x.f0 ∈ Dl.dim a k1 k2 b l1 l2 ↔ ¬ x ∈ l1 := by
  rw [mem_dim ha hb]
  constructor
  · rintro (⟨y, h1, h2, h3⟩ | ⟨y, h1, h2, h3⟩)
    · rw [← uniq (code_asc ha) h1 hx h3]; exact h2
    · intro hxl
      exact h2 (by rw [uniq (code_asc hb) h1 hxl h3]; exact hx)
  · intro h; exact .inl ⟨x, hx, h, rfl⟩
theorem deltas_l0 {a : Int} {k1 : List S36} {k2 : List S64} {b : Int} {l1 : List S36} {l2 : List S64} (ha : Cf.code a k1 k2 = 0) (hb : Cf.code b l1 l2 = 0) (h1 : k1.length ≤ 9) (h2 : l1.length ≤ 9) (c : Int) : ∀ (d k i : Nat), i + d = k1.length → 60 + d ≤ k →
    laws_FnDeltas.l0 k (i : Int) a k1 k2 b l1 l2 c (Dl.dim a k1 k2 b l1 l2) = some true := by
  have hD := dim_len a k1 k2 b l1 l2
  intro d
  induction d with
  | zero =>
    intro k i hi hk
    obtain ⟨k, rfl⟩ : ∃ m, k = m + 1 := ⟨k - 1, by omega⟩
    simp only [laws_FnDeltas.l0]
    rw [if_neg (by omega)]
    unfold impl_DeltaOf.f spec_DeltaOf.f
    simp only [bind_s]
    rw [dim_sym ha hb, lwNums_self _ (by omega) k (by omega), bind_s, if_pos rfl, dim_same ha, dsp_dim]
    simp
  | succ d ih =>
    intro k i hi hk
    obtain ⟨k, rfl⟩ : ∃ m, k = m + 1 := ⟨k - 1, by omega⟩
    have hlt : i < k1.length := by omega
    have hnext := ih k (i + 1) (by omega) (by omega)
    rw [← w64n i (by omega)] at hnext
    have ex : rd_T36 k1 (i : Int) = k1[i] := by simp [rd_T36, List.getD, hlt]
    have hx : k1[i] ∈ k1 := List.getElem_mem hlt
    simp only [laws_FnDeltas.l0]
    rw [if_pos (by omega), if_pos (by omega), ex]
    generalize k1[i] = x at hx
    have hpa : ¬ Cf.place k1 x.f0 < 0 := fun h => (place_neg k1 x.f0).1 h x hx rfl
    obtain ⟨a1, a2⟩ := eat_bcd ha _ hpa
    have ea : rd_T36 k1 (Cf.place k1 x.f0) = x := uniq (code_asc ha) (rd_mem k1 _ hpa) hx (dplace_name k1 _ hpa)
    rw [ea] at a2
    have hnd := name_dim ha hb x hx
    unfold impl_BackendAt.f
    simp only [bind_s]
    rw [a2, a1, lwHas_is _ _ (by omega) k (by omega), bind_s, if_neg]
    · exact hnext
    · intro hq
      have hq2 := beq_iff_eq.1 hq
      by_cases hpb : Cf.place l1 x.f0 < 0
      · have hxl : ¬ x ∈ l1 := fun h => (place_neg l1 x.f0).1 hpb x h rfl
        rw [eat_gone hb _ hpb, decide_eq_true (hnd.2 hxl)] at hq2
        simp at hq2
      · obtain ⟨b1, b2⟩ := eat_bcd hb _ hpb
        have hy := rd_mem l1 _ hpb
        have hyn := dplace_name l1 _ hpb
        rw [b1, b2] at hq2
        generalize rd_T36 l1 (Cf.place l1 x.f0) = y at hq2 hy hyn
        by_cases hxy : y = x
        · subst hxy
          rw [decide_eq_false (fun h => (hnd.1 h) hy)] at hq2
          simp at hq2
        · have hxl : ¬ x ∈ l1 := fun h => hxy (uniq (code_asc hb) hy h hyn)
          rw [decide_eq_true (hnd.2 hxl)] at hq2
          have hs := (same_is y x).1 (by
            unfold Dl.same
            simpa using hq2)
          exact hxy hs
theorem deltas_g (a : Int) (k1 : List S36) (k2 : List S64) (b : Int) (l1 : List S36) (l2 : List S64) (h1 : k1.length ≤ 9) (h2 : l1.length ≤ 9) : laws_FnDeltas.g 200 a k1 k2 b l1 l2 = some true := by
  unfold laws_FnDeltas.g
  have e1 : impl_DeltaOf.f a k1 k2 b l1 l2 = some (Dl.dcd a k1 k2 b l1 l2, Dl.dim a k1 k2 b l1 l2) := rfl
  have e2 : spec_DeltaOf.f a k1 k2 b l1 l2 = some (Dl.dcd a k1 k2 b l1 l2, Dl.dsp a k1 k2 b l1 l2) := rfl
  rw [e1, bind_s, e2, bind_s]
  by_cases c : Dl.dcd a k1 k2 b l1 l2 = 0
  · simp only [c, if_true]
    have ha : Cf.code a k1 k2 = 0 := by
      unfold Dl.dcd at c
      split at c
      · exact absurd c ‹_›
      · rename_i h; simpa using h
    have hb : Cf.code b l1 l2 = 0 := by
      unfold Dl.dcd at c
      rw [if_neg (by simpa using ha)] at c
      exact c
    exact deltas_l0 ha hb h1 h2 0 k1.length 200 0 (by omega) (by omega)
  · rw [if_neg c]
    simp
theorem FnDeltas : laws_FnDeltas.Pure := by
  intro l0 _ _ hb
  refine ⟨200, ?_⟩
  unfold laws_FnDeltas.f laws_lwBig.f
  rw [bind_s]
  by_cases hl : (l0.length : Int) > 1048576
  · rw [if_pos (decide_eq_true hl)]
  · rw [if_neg (by simp [hl])]
    unfold laws_FnDeltas.rest
    rw [if_pos ⟨Dr.IsBytes.of hb, fun a k1 k2 b l1 l2 h1 _ _ h2 _ _ => deltas_g a k1 k2 b l1 l2 h1 h2⟩]
end Go.Proofs.Ytfmlhpoaipeoeaa.Pure
