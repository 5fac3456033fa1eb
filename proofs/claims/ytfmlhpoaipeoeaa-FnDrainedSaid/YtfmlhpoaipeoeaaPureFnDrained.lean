/- WHAT THIS TEXT PROVES: the pure statement of the law FnDrained, over plain functions on numbers and lists. No condition beyond the statement's own. -/
import Derived.Test.YtfmlhpoaipeoeaaQFnDrainedxi
import Derived.Laws.BitsLemmas
import Derived.IntWalk
namespace Go.Proofs.Ytfmlhpoaipeoeaa.Pure
open Go.RowKit Go.Proofs.Ytfmlhpoaipeoeaa.QFnDrained Go.Proofs.YtfmlhpoaipeoeaaW.PrintWords Go.Proofs.YtfmlhpoaipeoeaaW.PrintLast Go.Proofs.YtfmlhpoaipeoeaaW.PrintMore
set_option linter.unusedVariables false
set_option linter.unusedSimpArgs false
theorem w64 {n : Int} (h0 : -9223372036854775808 ≤ n) (h1 : n ≤ 9223372036854775807) : wrap64 n = n := by unfold wrap64; omega
theorem w64n (i : Nat) (h : i < 9223372036854775807) : wrap64 ((i : Int) + 1) = ((i + 1 : Nat) : Int) := by
  rw [w64 (by omega) (by omega)]; omega
theorem rd_nat (xs : List Int) (i : Nat) : rd xs (i : Int) = xs.getD i 0 := by simp [rd]
theorem at_succ {k d : Nat} (h : d < k) : ∃ m, k = m + 1 := ⟨k - 1, by omega⟩
theorem drop_cons (xs : List Int) (i : Nat) (h : i < xs.length) : xs.drop i = xs.getD i 0 :: xs.drop (i + 1) := by
  rw [List.drop_eq_getElem_cons h]; simp [List.getD, h]
theorem set_take (x0 x3 : List Int) (i : Nat) (hl : x3.length = x0.length) (hi : i < x0.length) (ht : x3.take i = x0.take i) :
    (x3.set i (x0.getD i 0)).take (i + 1) = x0.take (i + 1) := by
  apply List.ext_getElem?
  intro j
  by_cases hj : j < i
  · have h1 := congrArg (fun l : List Int => l[j]?) ht
    simp only [List.getElem?_take, hj, if_true] at h1
    simp only [List.getElem?_take, show j < i + 1 by omega, if_true]
    rw [List.getElem?_set_ne (by omega)]; exact h1
  · by_cases e : j = i
    · subst e
      simp only [List.getElem?_take, show j < j + 1 by omega, if_true]
      rw [List.getElem?_set_self (by omega)]
      simp [List.getD, hi]
    · simp only [List.getElem?_take, show ¬ j < i + 1 by omega, if_false]
theorem bind_s {α β : Type} (a : α) (f : α → Option β) : (some a).bind f = f a := Eq.trans (Option.bind_some a f) (Eq.refl _)
theorem drop_consG {α : Type} (xs : List α) (d : α) (i : Nat) (h : i < xs.length) : xs.drop i = xs.getD i d :: xs.drop (i + 1) := by
  rw [List.drop_eq_getElem_cons h]; simp [List.getD, h]
theorem set_snocG {α : Type} (x : List α) (i : Nat) (v : α) (h : i < x.length) : (x.set i v).take (i + 1) = x.take i ++ [v] := by
  apply List.ext_getElem?
  intro j
  by_cases hj : j < i
  · rw [List.getElem?_append_left (by rw [List.length_take]; omega)]
    simp only [List.getElem?_take, hj, show j < i + 1 by omega, if_true]
    rw [List.getElem?_set_ne (by omega)]
  · by_cases e : j = i
    · subst e
      rw [List.getElem?_append_right (by rw [List.length_take]; omega)]
      simp only [List.getElem?_take, show j < j + 1 by omega, if_true, List.length_take]
      rw [List.getElem?_set_self h, show j - min j x.length = 0 by omega]; rfl
    · simp only [List.getElem?_take, show ¬ j < i + 1 by omega, if_false]
      rw [List.getElem?_eq_none (by rw [List.length_append, List.length_take, List.length_singleton]; omega)]
theorem take_snocG {α : Type} (x : List α) (d : α) (i : Nat) (h : i < x.length) : x.take (i + 1) = x.take i ++ [x.getD i d] := by
  rw [List.take_succ_eq_append_getElem h]; simp [List.getD, h]
def inB (a lo hi : Int) : Bool := decide (a ≥ lo) && decide (a ≤ hi)
def protoB (a : Int) : Bool := decide (a = 6) || decide (a = 17)
theorem impl_in_is (a lo hi : Int) : impl_in.f a lo hi = some (inB a lo hi) := by
  unfold impl_in.f inB
  by_cases h : a ≥ lo <;> simp [h]
theorem lwHas_l0 (x0 : List Int) (v : Int) (hn : x0.length ≤ 1048576) : ∀ (d k i : Nat), i + d = x0.length → d < k → laws_lwHas.l0 k x0 v (i : Int) = some (decide (v ∈ x0.drop i)) := by
  intro d
  induction d with
  | zero =>
    intro k i hi hk
    obtain ⟨k, rfl⟩ := at_succ hk
    simp only [laws_lwHas.l0]
    rw [if_neg (by omega), List.drop_of_length_le (by omega)]
    simp
  | succ d ih =>
    intro k i hi hk
    obtain ⟨k, rfl⟩ := at_succ hk
    simp only [laws_lwHas.l0]
    rw [if_pos (by omega), if_pos (by omega), rd_nat, w64n i (by omega), drop_cons x0 i (by omega)]
    by_cases e : x0.getD i 0 = v
    · rw [if_pos e, e]; simp
    · rw [if_neg e, ih k (i + 1) (by omega) (by omega)]
      congr 1
      have : (v ∈ x0.getD i 0 :: x0.drop (i + 1)) ↔ v ∈ x0.drop (i + 1) := by
        rw [List.mem_cons]
        exact ⟨fun h => h.resolve_left (fun h => e h.symm), Or.inr⟩
      exact decide_eq_decide.2 this.symm
theorem lwHas_is (x0 : List Int) (v : Int) (hn : x0.length ≤ 1048576) (k : Nat) (hk : x0.length < k) : laws_lwHas.f k x0 v = some (decide (v ∈ x0)) := by
  unfold laws_lwHas.f
  have := lwHas_l0 x0 v hn x0.length k 0 (by omega) hk
  simpa using this
theorem rdI_nat (xs : List S67) (i : Nat) : rd_T67 xs (i : Int) = xs.getD i z67 := by simp [rd_T67]
def goodShare (s : S67) : Bool := inB s.f0 1 999 && inB s.f1 0 9
def sfrom (prev : Int) : List S67 → Int
  | [] => 0
  | s :: t => if goodShare s = true then (if s.f0 ≤ prev then 1 else sfrom s.f0 t) else 3
def sfault (l : List S67) : Int := if (l.length : Int) > 8 then 2 else sfrom 0 l
theorem goodShare_name {s : S67} (h : goodShare s = true) : 1 ≤ s.f0 ∧ s.f0 ≤ 999 ∧ 0 ≤ s.f1 ∧ s.f1 ≤ 9 := by
  simp only [goodShare, inB, Bool.and_eq_true, decide_eq_true_eq] at h; omega
def prevOf (l : List S67) (i : Nat) : Int := if i = 0 then 0 else (l.getD (i - 1) z67).f0
theorem prevOf_succ (l : List S67) (i : Nat) : prevOf l (i + 1) = (l.getD i z67).f0 := by simp [prevOf]
theorem impl_isName_is (a : Int) : impl_isName.f a = some (inB a 1 999) := by unfold impl_isName.f; rw [impl_in_is, bind_s]
theorem impl_SharesFault_l0 (x0 : List S67) (hn : x0.length ≤ 8) : ∀ (d k i : Nat), i + d = x0.length → 2 * d + 2 ≤ k →
    impl_SharesFault.l0 k x0 x0 (x0.length : Int) (i : Int) = some (sfrom (prevOf x0 i) (x0.drop i)) := by
  intro d
  induction d with
  | zero =>
    intro k i hi hk
    obtain ⟨k, rfl⟩ : ∃ m, k = m + 1 := ⟨k - 1, by omega⟩
    simp only [impl_SharesFault.l0]
    rw [if_neg (by omega), List.drop_of_length_le (by omega)]; rfl
  | succ d ih =>
    intro k i hi hk
    obtain ⟨k, rfl⟩ : ∃ m, k = m + 1 + 1 := ⟨k - 2, by omega⟩
    have hnext := ih k (i + 1) (by omega) (by omega)
    simp only [impl_SharesFault.l0]
    rw [if_pos (by omega), if_pos (by omega), if_pos (by omega), rdI_nat, impl_isName_is, bind_s, impl_in_is, bind_s, drop_consG x0 z67 i (by omega)]
    simp only [impl_SharesFault.j1, sfrom, goodShare]
    rw [prevOf_succ, ← w64n i (by omega)] at hnext
    rcases Bool.eq_false_or_eq_true (inB (x0.getD i z67).f0 1 999) with h1 | h1
    case inr => simp only [h1, Bool.false_eq_true, if_false, Bool.false_and, if_true]
    case inl =>
      rcases Bool.eq_false_or_eq_true (inB (x0.getD i z67).f1 0 9) with h2 | h2
      case inr => simp only [h1, h2, Bool.false_eq_true, if_false, Bool.and_false, Bool.not_false, if_true]
      case inl =>
        simp only [h1, h2, if_true, Bool.not_true, Bool.false_eq_true, if_false, Bool.and_self]
        have hg := goodShare_name (s := x0.getD i z67) (by unfold goodShare; rw [h1, h2]; rfl)
        by_cases h0 : i = 0
        · subst h0
          rw [if_neg (by omega), if_neg (by show ¬ _ ≤ (0 : Int); omega)]
          exact hnext
        · have hw : wrap64 ((i : Int) - 1) = ((i - 1 : Nat) : Int) := by rw [w64 (by omega) (by omega)]; omega
          have hp : prevOf x0 i = (x0.getD (i - 1) z67).f0 := by simp [prevOf, h0]
          rw [if_pos (by omega), hw, if_pos (by omega), if_pos (by omega), rdI_nat, hp]
          by_cases h3 : (x0.getD i z67).f0 ≤ (x0.getD (i - 1) z67).f0
          · rw [if_pos h3, if_pos h3]
          · rw [if_neg h3, if_neg h3]; exact hnext
theorem impl_SharesFault_is (l : List S67) (k : Nat) (hk : 20 ≤ k) : impl_SharesFault.f k l = some (sfault l) := by
  unfold impl_SharesFault.f sfault
  by_cases h : (l.length : Int) > 8
  · rw [if_pos h, if_pos h]
  · rw [if_neg h, if_neg h]
    exact impl_SharesFault_l0 l (by omega) l.length k 0 (by omega) (by omega)
theorem sfrom_iff : ∀ (l : List S67) (prev : Int), sfrom prev l = 0 ↔ (∀ s ∈ l, goodShare s = true ∧ prev < s.f0) ∧ l.Pairwise (fun a b => a.f0 < b.f0)
  | [], prev => by simp [sfrom]
  | x :: l, prev => by
    simp only [sfrom]
    constructor
    · intro h
      split at h
      · rename_i hg
        split at h
        · cases h
        · rename_i hp
          obtain ⟨h1, h2⟩ := (sfrom_iff l x.f0).1 h
          refine ⟨fun s hs => ?_, List.pairwise_cons.2 ⟨fun s hs => (h1 s hs).2, h2⟩⟩
          rcases List.mem_cons.1 hs with rfl | hs
          · exact ⟨hg, by omega⟩
          · have := h1 s hs; exact ⟨this.1, by omega⟩
      · cases h
    · rintro ⟨h1, h2⟩
      have hx := h1 x (List.mem_cons_self ..)
      rw [if_pos hx.1, if_neg (by omega)]
      rw [List.pairwise_cons] at h2
      exact (sfrom_iff l x.f0).2 ⟨fun s hs => ⟨(h1 s (List.mem_cons_of_mem _ hs)).1, h2.1 s hs⟩, h2.2⟩
theorem dfirst_zero (g : Nat → Int) : ∀ (m i : Nat), Cf.first g i m = 0 → ∀ j, j < m → g (i + j) = 0
  | 0, _, _, j, hj => absurd hj (Nat.not_lt_zero _)
  | m + 1, i, h, j, hj => by
    simp only [Cf.first] at h
    by_cases h0 : g i = 0
    · rw [if_pos h0] at h
      match j with
      | 0 => exact h0
      | j + 1 =>
        have := dfirst_zero g m (i + 1) h j (by omega)
        rwa [show i + 1 + j = i + (j + 1) by omega] at this
    · rw [if_neg h0] at h; exact absurd h h0
theorem code_asc {v : Int} {l1 : List S36} {l2 : List S64} (h : Cf.code v l1 l2 = 0) : l1.Pairwise (fun x y => x.f0 < y.f0) := by
  have hz : Cf.first (Cf.bcode l1) 0 l1.length = 0 := by
    unfold Cf.code at h
    split at h
    · cases h
    · split at h
      · cases h
      · split at h
        · assumption
        · exact h
  have hb : ∀ j, j + 1 < l1.length → (l1.getD j z36).f0 < (l1.getD (j + 1) z36).f0 := by
    intro j hj
    have hv := dfirst_zero _ _ _ hz (j + 1) hj
    rw [Nat.zero_add] at hv
    unfold Cf.bcode at hv
    split at hv
    · cases hv
    · split at hv
      · cases hv
      · rename_i hg
        simp only [Nat.zero_lt_succ, decide_true, Bool.true_and, decide_eq_true_eq, Nat.add_sub_cancel] at hg
        omega
  have ha : ∀ (d i : Nat), i + (d + 1) < l1.length → (l1.getD i z36).f0 < (l1.getD (i + (d + 1)) z36).f0 := by
    intro d
    induction d with
    | zero => intro i hi; exact hb i hi
    | succ d ih =>
      intro i hi
      have h1 := ih i (by omega)
      have h2 := hb (i + (d + 1)) (by omega)
      rw [show i + (d + 1 + 1) = i + (d + 1) + 1 by omega]
      omega
  rw [List.pairwise_iff_getElem]
  intro i j hi hj hij
  have h1 := ha (j - i - 1) i (by omega)
  rw [show i + (j - i - 1 + 1) = j by omega] at h1
  have e1 : l1.getD i z36 = l1[i] := by simp [List.getD, hi]
  have e2 : l1.getD j z36 = l1[j] := by simp [List.getD, hj]
  rw [e1, e2] at h1
  exact h1
theorem asc_le : ∀ (ys xs : List Int), xs.Pairwise (· < ·) → ys.Pairwise (· < ·) → (∀ x, x ∈ xs → x ∈ ys) → xs.length ≤ ys.length
  | [], [], _, _, _ => Nat.le_refl _
  | [], x :: xs, _, _, h => absurd (h x (List.mem_cons_self ..)) (by simp)
  | y :: ys, [], _, _, _ => Nat.zero_le _
  | y :: ys, x :: xs, h1, h2, h => by
    rw [List.pairwise_cons] at h1 h2
    by_cases e : x = y
    · subst e
      have := asc_le ys xs h1.2 h2.2 (fun z hz => by
        rcases List.mem_cons.1 (h z (List.mem_cons_of_mem _ hz)) with rfl | hz'
        · exact absurd (h1.1 _ hz) (Int.lt_irrefl _)
        · exact hz')
      simp only [List.length_cons]; omega
    · have hx : x ∈ ys := by
        rcases List.mem_cons.1 (h x (List.mem_cons_self ..)) with e' | hx
        · exact absurd e' e
        · exact hx
      have hxy := h2.1 x hx
      have := asc_le ys (x :: xs) (List.pairwise_cons.2 h1) h2.2 (fun z hz => by
        rcases List.mem_cons.1 (h z hz) with rfl | hz'
        · rcases List.mem_cons.1 hz with rfl | hz2
          · exact absurd rfl e
          · have := h1.1 _ hz2; omega
        · exact hz')
      simp only [List.length_cons] at this ⊢; omega
/-- In a right configuration the names of a vip rise. -/
theorem names_asc {v : Int} {l1 : List S36} {l2 : List S64} (h : Cf.code v l1 l2 = 0) (i : Nat) (hi : i < l2.length) : (l2.getD i z64).f3.Pairwise (· < ·) := by
  unfold Cf.code at h
  split at h
  · cases h
  · split at h
    · cases h
    · split at h
      · have hv := dfirst_zero _ _ _ h i hi
        rw [Nat.zero_add] at hv
        unfold Cf.vcode at hv
        split at hv
        · cases hv
        · split at hv
          · cases hv
          · split at hv
            · cases hv
            · split at hv
              · cases hv
              · rename_i hf
                have hf2 : ∀ j, j < (l2.getD i z64).f3.length → Cf.falls (l2.getD i z64).f3 j = false := by
                  intro j hj
                  cases hq : Cf.falls (l2.getD i z64).f3 j with
                  | false => rfl
                  | true => exact absurd (Cf.range_hit _ _ j hj hq) hf
                generalize (l2.getD i z64).f3 = ns at hf2
                have hb : ∀ j, j + 1 < ns.length → ns.getD j 0 < ns.getD (j + 1) 0 := by
                  intro j hj
                  have := hf2 (j + 1) hj
                  unfold Cf.falls at this
                  simp at this
                  simp only [List.getD_eq_getElem?_getD]
                  omega
                have ha : ∀ (d i : Nat), i + (d + 1) < ns.length → ns.getD i 0 < ns.getD (i + (d + 1)) 0 := by
                  intro d
                  induction d with
                  | zero => intro i hi; exact hb i hi
                  | succ d ih =>
                    intro i hi
                    have h1 := ih i (by omega)
                    have h2 := hb (i + (d + 1)) (by omega)
                    rw [show i + (d + 1 + 1) = i + (d + 1) + 1 by omega]
                    omega
                rw [List.pairwise_iff_getElem]
                intro i j hi hj hij
                have h1 := ha (j - i - 1) i (by omega)
                rw [show i + (j - i - 1 + 1) = j by omega] at h1
                have e1 : ns.getD i 0 = ns[i] := by simp [List.getD, hi]
                have e2 : ns.getD j 0 = ns[j] := by simp [List.getD, hj]
                rw [e1, e2] at h1
                exact h1
      · rename_i h1; exact absurd h h1
theorem code_len8 {v : Int} {l1 : List S36} {l2 : List S64} (h : Cf.code v l1 l2 = 0) : l1.length ≤ 8 := by
  unfold Cf.code at h
  split at h
  · cases h
  · split at h
    · cases h
    · rename_i hg
      simp only [Bool.or_eq_true, decide_eq_true_eq, not_or] at hg
      omega
theorem code_isb {v : Int} {l1 : List S36} {l2 : List S64} (h : Cf.code v l1 l2 = 0) (j : Nat) (hj : j < l1.length) : Cf.isb (l1.getD j z36) = true := by
  have hz : Cf.first (Cf.bcode l1) 0 l1.length = 0 := by
    unfold Cf.code at h
    split at h
    · cases h
    · split at h
      · cases h
      · split at h
        · assumption
        · exact h
  have hv := dfirst_zero _ _ _ hz j hj
  rw [Nat.zero_add] at hv
  unfold Cf.bcode at hv
  split at hv
  · cases hv
  · rename_i hg; simpa using hg
theorem place_mem (l : List S36) (n : Int) (h : ¬ Cf.place l n < 0) : ∃ j : Nat, j < l.length ∧ Cf.place l n = (j : Int) := by
  have := Cf.place_lt l n h
  exact ⟨(Cf.place l n).toNat, by omega, by omega⟩
/-- The shares of rising names: rising, and of these names. -/
theorem shr_mem (l1 : List S36) (ns : List Int) (s : S67) (h : s ∈ Cf.shr l1 ns) (hp : ∀ n ∈ ns, ¬ Cf.place l1 n < 0) : s.f0 ∈ ns ∧ s.f1 = (rd_T36 l1 (Cf.place l1 s.f0)).f2 := by
  unfold Cf.shr at h
  obtain ⟨n, hn, hs⟩ := List.mem_flatMap.1 h
  unfold Cf.sh1 at hs
  split at hs
  · have e := List.mem_singleton.1 hs
    have e0 := Cf.place_name l1 n (hp n hn)
    subst e
    simp only [e0]
    first | exact ⟨hn, rfl⟩ | exact ⟨hn, trivial⟩
  · simp at hs
theorem shr_asc (l1 : List S36) : ∀ (ns : List Int), (∀ n ∈ ns, ¬ Cf.place l1 n < 0) → ns.Pairwise (· < ·) → (Cf.shr l1 ns).Pairwise (fun a b => a.f0 < b.f0)
  | [], _, _ => by simp [Cf.shr]
  | n :: ns, hp, h => by
    rw [List.pairwise_cons] at h
    have hp' : ∀ m ∈ ns, ¬ Cf.place l1 m < 0 := fun m hm => hp m (List.mem_cons_of_mem _ hm)
    have ih := shr_asc l1 ns hp' h.2
    unfold Cf.shr at ih ⊢
    rw [List.flatMap_cons, List.pairwise_append]
    refine ⟨?_, ih, fun a ha b hb => ?_⟩
    · unfold Cf.sh1; split
      · simp
      · simp
    · have hbn := (shr_mem l1 ns b hb hp').1
      unfold Cf.sh1 at ha
      split at ha
      · have e := List.mem_singleton.1 ha
        subst e
        simp only [Cf.place_name l1 n (hp n (List.mem_cons_self ..))]
        exact h.1 _ hbn
      · simp at ha
/-- The shares of a right configuration have no fault. -/
theorem shares_right {v : Int} {l1 : List S36} {l2 : List S64} (h : Cf.code v l1 l2 = 0) (i : Nat) (hi : i < l2.length) : sfault (Cf.shr l1 (l2.getD i z64).f3) = 0 := by
  have hp : ∀ n ∈ (l2.getD i z64).f3, ¬ Cf.place l1 n < 0 := Cf.code_found h i hi
  have ha := names_asc h i hi
  have hl8 : (l2.getD i z64).f3.length ≤ 8 := by
    refine Nat.le_trans (Nat.le_trans (asc_le (l1.map (·.f0)) _ ha ?_ ?_) (Nat.le_of_eq (List.length_map ..))) (code_len8 h)
    · rw [List.pairwise_map]; exact code_asc h
    · intro n hn
      obtain ⟨j, hj, e⟩ := place_mem l1 n (hp n hn)
      have e0 := Cf.place_name l1 n (hp n hn)
      rw [e] at e0
      have e1 : rd_T36 l1 (j : Int) = l1[j] := by simp [rd_T36, List.getD, hj]
      rw [e1] at e0
      exact List.mem_map.2 ⟨l1[j], List.getElem_mem hj, e0⟩
  have hs := Cf.shr_len l1 (l2.getD i z64).f3
  unfold sfault
  rw [if_neg (by omega)]
  refine (sfrom_iff _ 0).2 ⟨fun s hsm => ?_, shr_asc l1 _ hp ha⟩
  obtain ⟨m1, m2⟩ := shr_mem l1 _ s hsm hp
  obtain ⟨j, hj, e⟩ := place_mem l1 s.f0 (hp _ m1)
  have e0 := Cf.place_name l1 s.f0 (hp _ m1)
  have hb := code_isb h j hj
  have e1 : rd_T36 l1 (j : Int) = l1.getD j z36 := by simp [rd_T36]
  rw [e, e1] at e0
  rw [e, e1] at m2
  unfold Cf.isb Cf.inB at hb
  simp only [Bool.and_eq_true, decide_eq_true_eq] at hb
  unfold goodShare inB
  simp only [Bool.and_eq_true, decide_eq_true_eq]
  omega
theorem bcd_of {v : Int} {l1 : List S36} {l2 : List S64} (h : Cf.code v l1 l2 = 0) (n : Int) (hp : ¬ Cf.place l1 n < 0) : Cf.bcd v l1 l2 n = 0 ∧ Cf.bval v l1 l2 n = rd_T36 l1 (Cf.place l1 n) := by
  unfold Cf.bcd Cf.bval
  rw [if_neg (by simp [h]), if_neg hp, if_neg (by simp [h]), if_neg hp]
  exact ⟨rfl, rfl⟩
theorem drained_l0 (v : Int) (l1 : List S36) (l2 : List S64) (h : Cf.code v l1 l2 = 0) (ns : List Int) (hp : ∀ n ∈ ns, ¬ Cf.place l1 n < 0) (hn : ns.length ≤ 24) (c : Int) (S : List S67) (R : Option Bool) (K : Nat)
    (hR : ∀ k, K ≤ k → laws_FnDrained.l1 k ((Cf.shr l1 ns).length : Int) ns 0 v l1 l2 c S = R) : ∀ (d k i : Nat), i + d = ns.length → K + d + 1 ≤ k → laws_FnDrained.l0 k ((Cf.shr l1 (ns.take i)).length : Int) ns (i : Int) v l1 l2 c S = R := by
  intro d
  induction d with
  | zero =>
    intro k i hi hk
    obtain ⟨k, rfl⟩ : ∃ m, k = m + 1 := ⟨k - 1, by omega⟩
    simp only [laws_FnDrained.l0]
    rw [if_neg (by omega), List.take_of_length_le (by omega)]
    exact hR k (by omega)
  | succ d ih =>
    intro k i hi hk
    obtain ⟨k, rfl⟩ : ∃ m, k = m + 1 := ⟨k - 1, by omega⟩
    have hlt : i < ns.length := by omega
    have hnext := ih k (i + 1) (by omega) (by omega)
    have e : ns.getD i 0 = ns[i] := by simp [List.getD, hlt]
    have hm : ns.getD i 0 ∈ ns := by rw [e]; exact List.getElem_mem hlt
    obtain ⟨b1, b2⟩ := bcd_of h _ (hp _ hm)
    rw [Cf.shr_step l1 ns i hlt, List.length_append, ← w64n i (by omega)] at hnext
    have hsl := Cf.shr_len l1 (ns.take i)
    rw [List.length_take] at hsl
    simp only [laws_FnDrained.l0]
    rw [if_pos (by omega), if_pos (by omega), rd_nat]
    unfold impl_BackendAt.f
    rw [bind_s, b2]
    simp only [b1, if_true]
    unfold Cf.sh1 Cf.on at hnext
    cases h4 : (rd_T36 l1 (Cf.place l1 (ns.getD i 0))).f4 with
    | false =>
      rw [h4] at hnext
      rw [if_neg Bool.false_ne_true]
      simpa using hnext
    | true =>
      rw [h4] at hnext
      rw [if_pos rfl]
      by_cases h3 : (rd_T36 l1 (Cf.place l1 (ns.getD i 0))).f3 = 1
      · rw [if_pos h3, w64 (n := (((Cf.shr l1 (ns.take i)).length : Int) + 1)) (by omega) (by omega)]
        have h3b : ((rd_T36 l1 (Cf.place l1 (ns.getD i 0))).f3 == 1) = true := beq_iff_eq.mpr h3
        simp only [h3b, Bool.true_and, if_true, List.length_singleton] at hnext
        exact_mod_cast hnext
      · rw [if_neg h3]
        have h3b : ((rd_T36 l1 (Cf.place l1 (ns.getD i 0))).f3 == 1) = false := beq_eq_false_iff_ne.mpr h3
        simp only [h3b, Bool.true_and, Bool.false_eq_true, if_false, List.length_nil, Nat.add_zero] at hnext
        exact hnext
theorem drained_l1 (v : Int) (l1 : List S36) (l2 : List S64) (h : Cf.code v l1 l2 = 0) (ns : List Int) (hp : ∀ n ∈ ns, ¬ Cf.place l1 n < 0) (hn : ns.length ≤ 24) (c : Int) (hf : sfault (Cf.shr l1 ns) = 0) : ∀ (d k i : Nat), i + d = (Cf.shr l1 ns).length → 30 + d + 1 ≤ k →
    laws_FnDrained.l1 k ((Cf.shr l1 ns).length : Int) ns (i : Int) v l1 l2 c (Cf.shr l1 ns) = some true := by
  have hsl := Cf.shr_len l1 ns
  intro d
  induction d with
  | zero =>
    intro k i hi hk
    obtain ⟨k, rfl⟩ : ∃ m, k = m + 1 := ⟨k - 1, by omega⟩
    simp only [laws_FnDrained.l1]
    rw [if_neg (by omega), impl_SharesFault_is _ k (by omega), bind_s, hf]
    simp
  | succ d ih =>
    intro k i hi hk
    obtain ⟨k, rfl⟩ : ∃ m, k = m + 1 := ⟨k - 1, by omega⟩
    have hlt : i < (Cf.shr l1 ns).length := by omega
    have hnext := ih k (i + 1) (by omega) (by omega)
    rw [← w64n i (by omega)] at hnext
    have e : (Cf.shr l1 ns).getD i z67 = (Cf.shr l1 ns)[i] := by simp [List.getD, hlt]
    have hm : (Cf.shr l1 ns).getD i z67 ∈ Cf.shr l1 ns := by rw [e]; exact List.getElem_mem hlt
    have er : rd_T67 (Cf.shr l1 ns) (i : Int) = (Cf.shr l1 ns).getD i z67 := by simp [rd_T67]
    obtain ⟨m1, m2⟩ := shr_mem l1 ns _ hm hp
    obtain ⟨b1, b2⟩ := bcd_of h _ (hp _ m1)
    simp only [laws_FnDrained.l1]
    rw [if_pos (by omega), if_pos (by omega), er, lwHas_is ns _ (by omega) k (by omega), bind_s, if_pos (decide_eq_true m1)]
    unfold impl_BackendAt.f
    rw [bind_s, b2]
    rw [if_pos m2.symm]
    exact hnext
theorem drained_g (v : Int) (l1 : List S36) (l2 : List S64) (n : Int) (h1 : l1.length ≤ 9) (h2 : l2.length ≤ 5) (h3 : ∀ y, y ∈ l2 → y.f3.length ≤ 24) : laws_FnDrained.g 200 v l1 l2 n = some true := by
  have hm : ∀ y ∈ l2, y.f3.length ≤ 1048576 := fun y hy => Nat.le_trans (h3 y hy) (by omega)
  unfold laws_FnDrained.g impl_SharesFor.f spec_SharesFor.f
  rw [if_pos hm, bind_s, bind_s]
  by_cases hc : Cf.scd v l1 l2 n = 0
  · simp only [hc, if_true]
    unfold Cf.scd at hc
    split at hc
    · exact absurd hc ‹_›
    · rename_i hcode
      split at hc
      · cases hc
      · rename_i hin
        have hcd : Cf.code v l1 l2 = 0 := by simpa using hcode
        have hin2 : Cf.inB n 0 ((l2.length : Int) - 1) = true := by simpa using hin
        have hin3 := hin2
        unfold Cf.inB at hin3
        simp only [Bool.and_eq_true, decide_eq_true_eq] at hin3
        obtain ⟨i, rfl⟩ : ∃ i : Nat, n = (i : Int) := ⟨n.toNat, by omega⟩
        have hi : i < l2.length := by omega
        have es : Cf.sval v l1 l2 (i : Int) = Cf.shr l1 (rd_T64 l2 (i : Int)).f3 := by
          unfold Cf.sval
          rw [if_neg (by simp [hcd]), if_neg (by simp [hin2])]
        have er : rd_T64 l2 (i : Int) = l2.getD i z64 := by simp [rd_T64]
        have hlen : (l2.getD i z64).f3.length ≤ 24 := by
          have e : l2.getD i z64 = l2[i] := by simp [List.getD, hi]
          rw [e]; exact h3 _ (List.getElem_mem hi)
        rw [if_pos (by omega), if_pos (by omega), es, er]
        have hp : ∀ n ∈ (l2.getD i z64).f3, ¬ Cf.place l1 n < 0 := Cf.code_found hcd i hi
        have hsl := Cf.shr_len l1 (l2.getD i z64).f3
        have := drained_l0 v l1 l2 hcd (l2.getD i z64).f3 hp hlen 0 (Cf.shr l1 (l2.getD i z64).f3) (some true) 100 (fun k hk => drained_l1 v l1 l2 hcd _ hp hlen 0 (shares_right hcd i hi) (Cf.shr l1 (l2.getD i z64).f3).length k 0 (by omega) (by omega)) (l2.getD i z64).f3.length 200 0 (by omega) (by omega)
        simpa [Cf.shr] using this
  · rw [if_neg hc]
    simp
theorem FnDrained : laws_FnDrained.Pure := by
  intro l0 _ _ hb
  refine ⟨200, ?_⟩
  unfold laws_FnDrained.f laws_lwBig.f
  rw [bind_s]
  by_cases hl : (l0.length : Int) > 1048576
  · rw [if_pos (decide_eq_true hl)]
  · rw [if_neg (by simp [hl])]
    unfold laws_FnDrained.rest
    rw [if_pos ⟨Dr.IsBytes.of hb, fun v l1 l2 n h1 h2 h3 => drained_g v l1 l2 n h1 h2 h3⟩]
end Go.Proofs.Ytfmlhpoaipeoeaa.Pure
