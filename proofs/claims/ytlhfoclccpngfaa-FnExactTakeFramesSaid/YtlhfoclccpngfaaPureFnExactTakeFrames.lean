/- WHAT THIS TEXT PROVES: the pure statement of the law FnExactTakeFrames, over plain functions on numbers and lists. No condition beyond the statement's own. -/
import Derived.Test.YtlhfoclccpngfaaQFnExactTakeFramesx4
import Derived.Laws.BitsLemmas
import Derived.IntWalk
namespace Go.Proofs.Ytlhfoclccpngfaa.Pure
open Go.RowKit Go.Proofs.Ytlhfoclccpngfaa.QFnExactTakeFrames Go.Proofs.YtlhfoclccpngfaaW.PrintWords Go.Proofs.YtlhfoclccpngfaaW.PrintLast Go.Proofs.YtlhfoclccpngfaaW.PrintMore
set_option linter.unusedVariables false
set_option linter.unusedSimpArgs false
theorem w64 {n : Int} (h0 : -9223372036854775808 ≤ n) (h1 : n ≤ 9223372036854775807) : wrap64 n = n := by unfold wrap64; omega
theorem w64n (i : Nat) (h : i < 9223372036854775807) : wrap64 ((i : Int) + 1) = ((i + 1 : Nat) : Int) := by
  rw [w64 (by omega) (by omega)]; omega
theorem rd_nat (xs : List Int) (i : Nat) : rd xs (i : Int) = xs.getD i 0 := by simp [rd]
theorem at_succ {k d : Nat} (h : d < k) : ∃ m, k = m + 1 := ⟨k - 1, by omega⟩
theorem drop_cons (xs : List Int) (i : Nat) (h : i < xs.length) : xs.drop i = xs.getD i 0 :: xs.drop (i + 1) := by
  rw [List.drop_eq_getElem_cons h]; simp [List.getD, h]
theorem set_take (x0 x3 : List Int) (i : Nat) (hl : x3.length = x0.length) (hi : i < x0.length) (ht : x3.take i = x0.take i) :
    (x3.set i (x0.getD i 0)).take (i + 1) = x0.take (i + 1) := by
  apply List.ext_getElem?
  intro j
  by_cases hj : j < i
  · have h1 := congrArg (fun l : List Int => l[j]?) ht
    simp only [List.getElem?_take, hj, if_true] at h1
    simp only [List.getElem?_take, show j < i + 1 by omega, if_true]
    rw [List.getElem?_set_ne (by omega)]; exact h1
  · by_cases e : j = i
    · subst e
      simp only [List.getElem?_take, show j < j + 1 by omega, if_true]
      rw [List.getElem?_set_self (by omega)]
      simp [List.getD, hi]
    · simp only [List.getElem?_take, show ¬ j < i + 1 by omega, if_false]
theorem bind_s {α β : Type} (a : α) (f : α → Option β) : (some a).bind f = f a := Eq.trans (Option.bind_some a f) (Eq.refl _)
theorem drop_consG {α : Type} (xs : List α) (d : α) (i : Nat) (h : i < xs.length) : xs.drop i = xs.getD i d :: xs.drop (i + 1) := by
  rw [List.drop_eq_getElem_cons h]; simp [List.getD, h]
theorem set_snocG {α : Type} (x : List α) (i : Nat) (v : α) (h : i < x.length) : (x.set i v).take (i + 1) = x.take i ++ [v] := by
  apply List.ext_getElem?
  intro j
  by_cases hj : j < i
  · rw [List.getElem?_append_left (by rw [List.length_take]; omega)]
    simp only [List.getElem?_take, hj, show j < i + 1 by omega, if_true]
    rw [List.getElem?_set_ne (by omega)]
  · by_cases e : j = i
    · subst e
      rw [List.getElem?_append_right (by rw [List.length_take]; omega)]
      simp only [List.getElem?_take, show j < j + 1 by omega, if_true, List.length_take]
      rw [List.getElem?_set_self h, show j - min j x.length = 0 by omega]; rfl
    · simp only [List.getElem?_take, show ¬ j < i + 1 by omega, if_false]
      rw [List.getElem?_eq_none (by rw [List.length_append, List.length_take, List.length_singleton]; omega)]
theorem take_snocG {α : Type} (x : List α) (d : α) (i : Nat) (h : i < x.length) : x.take (i + 1) = x.take i ++ [x.getD i d] := by
  rw [List.take_succ_eq_append_getElem h]; simp [List.getD, h]
theorem toByteS_l0 (x0 : List Int) (hn : x0.length ≤ 1048576) : ∀ (d k i : Nat) (x3 : List Int), x3.length = x0.length → i + d = x0.length → d < k → x3.take i = x0.take i → laws_toByteS.l0 k x0 x3 (i : Int) = some x0 := by
  intro d
  induction d with
  | zero =>
    intro k i x3 hl hi hk ht
    obtain ⟨k, rfl⟩ := at_succ hk
    simp only [laws_toByteS.l0]
    rw [if_neg (by omega)]
    have : x3 = x0 := by
      rw [List.take_of_length_le (by omega), List.take_of_length_le (by omega)] at ht; exact ht
    rw [this]
  | succ d ih =>
    intro k i x3 hl hi hk ht
    obtain ⟨k, rfl⟩ := at_succ hk
    simp only [laws_toByteS.l0]
    rw [if_pos (by omega), if_pos (by omega), if_pos (by omega), w64n i (by omega), rd_nat, Int.toNat_natCast]
    exact ih k (i + 1) _ (by simp [hl]) (by omega) (by omega) (set_take x0 x3 i hl (by omega) ht)
theorem toByteS_self (l : List Int) (hn : l.length ≤ 1048576) (k : Nat) (hk : l.length < k) : laws_toByteS.f k l = some l := by
  unfold laws_toByteS.f
  rw [if_pos (by omega), if_pos (by omega)]
  exact toByteS_l0 l hn l.length k 0 _ (by simp) (by omega) hk (by simp)
theorem eqByteS_l0 (x0 : List Int) (hn : x0.length ≤ 1048576) : ∀ (d k i : Nat), i + d = x0.length → d < k → laws_eqByteS.l0 k x0 x0 (i : Int) = some true := by
  intro d
  induction d with
  | zero =>
    intro k i hi hk
    obtain ⟨k, rfl⟩ := at_succ hk
    simp only [laws_eqByteS.l0]
    rw [if_neg (by omega)]
  | succ d ih =>
    intro k i hi hk
    obtain ⟨k, rfl⟩ := at_succ hk
    simp only [laws_eqByteS.l0]
    rw [if_pos (by omega), if_pos (by omega), if_pos (by omega), w64n i (by omega)]
    simp only [if_true]
    exact ih k (i + 1) (by omega) (by omega)
theorem eqByteS_self (l : List Int) (hn : l.length ≤ 1048576) (k : Nat) (hk : l.length < k) : laws_eqByteS.f k l l = some true := by
  unfold laws_eqByteS.f
  rw [if_pos rfl]
  exact eqByteS_l0 l hn l.length k 0 (by omega) hk
theorem set_snocByteS (x : List Int) (i : Nat) (v : Int) (h : i < x.length) : (x.set i v).take (i + 1) = x.take i ++ [v] := by
  apply List.ext_getElem?
  intro j
  by_cases hj : j < i
  · rw [List.getElem?_append_left (by rw [List.length_take]; omega)]
    simp only [List.getElem?_take, hj, show j < i + 1 by omega, if_true]
    rw [List.getElem?_set_ne (by omega)]
  · by_cases e : j = i
    · subst e
      rw [List.getElem?_append_right (by rw [List.length_take]; omega)]
      simp only [List.getElem?_take, show j < j + 1 by omega, if_true, List.length_take]
      rw [List.getElem?_set_self h, show j - min j x.length = 0 by omega]; rfl
    · simp only [List.getElem?_take, show ¬ j < i + 1 by omega, if_false]
      rw [List.getElem?_eq_none (by rw [List.length_append, List.length_take, List.length_singleton]; omega)]
def markedByteS (a n : Nat) : List Int := (List.range n).map fun (j : Nat) => ((a + j : Nat) : Int) % 256
theorem markedByteS_succ (a n : Nat) : markedByteS a (n + 1) = markedByteS a n ++ [(fun (j : Nat) => ((a + j : Nat) : Int) % 256) n] := by simp [markedByteS, List.range_succ]
theorem markedByteS_length (a n : Nat) : (markedByteS a n).length = n := by simp [markedByteS]
theorem markedByteS_at (a n i : Nat) (h : i < n) : (markedByteS a n).getD i 0 = (fun (j : Nat) => ((a + j : Nat) : Int) % 256) i := by simp [markedByteS, List.getD, h]
theorem markByteS_l0 (n a : Nat) (hn : n ≤ 4194304) (ha : a ≤ 2000000000) : ∀ (d k i : Nat) (x : List Int), x.length = n → i + d = n → d < k → x.take i = markedByteS a i → laws_markByteS.l0 k x ((a + i : Nat) : Int) (i : Int) = some (((a + n : Nat) : Int), markedByteS a n) := by
  intro d
  induction d with
  | zero =>
    intro k i x hl hi hk ht
    obtain ⟨k, rfl⟩ := at_succ hk
    simp only [laws_markByteS.l0]
    rw [if_neg (by omega)]
    obtain rfl : i = n := by omega
    rw [List.take_of_length_le (by omega)] at ht
    rw [ht]
  | succ d ih =>
    intro k i x hl hi hk ht
    obtain ⟨k, rfl⟩ := at_succ hk
    simp only [laws_markByteS.l0]
    rw [if_pos (by omega), if_pos (by omega), w64n i (by omega), w64n (a + i) (by omega), Int.toNat_natCast, show a + i + 1 = a + (i + 1) by omega]
    exact ih k (i + 1) _ (by simp [hl]) (by omega) (by omega) (by rw [set_snocByteS x i _ (by omega), ht, markedByteS_succ])
theorem markByteS_is (l : List Int) (a : Nat) (hn : l.length ≤ 4194304) (ha : a ≤ 2000000000) (k : Nat) (hk : l.length < k) : laws_markByteS.f k l (a : Int) = some (((a + l.length : Nat) : Int), markedByteS a l.length) := by
  unfold laws_markByteS.f
  exact markByteS_l0 l.length a hn ha l.length k 0 l rfl (by omega) hk (by simp [markedByteS])
theorem heldByteS_l0 (n a : Nat) (hn : n ≤ 4194304) (ha : a ≤ 2000000000) : ∀ (d k i : Nat), i + d = n → d < k → laws_heldByteS.l0 k (Tf.markedByteS a n) ((a + i : Nat) : Int) (i : Int) = some ((a + n : Nat) : Int) := by
  intro d
  induction d with
  | zero =>
    intro k i hi hk
    obtain ⟨k, rfl⟩ := at_succ hk
    simp only [laws_heldByteS.l0]
    rw [if_neg (by rw [Tf.markedByteS_length]; omega), show i = n by omega]
  | succ d ih =>
    intro k i hi hk
    obtain ⟨k, rfl⟩ := at_succ hk
    simp only [laws_heldByteS.l0]
    rw [if_pos (by rw [Tf.markedByteS_length]; omega), if_pos (by omega), rd_nat, Tf.markedByteS_at a n i (by omega)]
    rw [if_pos rfl, w64n i (by omega), w64n (a + i) (by omega), show a + i + 1 = a + (i + 1) by omega]
    exact ih k (i + 1) (by omega) (by omega)
theorem heldByteS_is (n a : Nat) (hn : n ≤ 4194304) (ha : a ≤ 2000000000) (k : Nat) (hk : n < k) : laws_heldByteS.f k (Tf.markedByteS a n) (a : Int) = some ((a + n : Nat) : Int) := by
  unfold laws_heldByteS.f
  exact heldByteS_l0 n a hn ha n k 0 (by omega) hk
theorem tfIsBytes {l : List Int} (h : ∀ x ∈ l, (Lit.int .u8 x).wf = true) : Tf.IsBytes l := Tf.IsBytes.of h
theorem spec_step {x0 : List Int} (hx : Tf.IsBytes x0) (hn : x0.length ≤ 600) (k : Nat) (hk : 2000 ≤ k) (c : Int) (u : Nat) (hu : u ≤ x0.length) (fr : List (List Int)) (hf : fr.length ≤ 1000000) :
    spec_TakeFrames.l0 (k + 1) x0 c (u : Int) fr = if Tf.ok (x0.drop u) = true then spec_TakeFrames.l0 k x0 c ((u : Int) + 4 + Tf.nx (x0.drop u)) (fr ++ [Tf.body (x0.drop u)]) else some (c, (u : Int), fr) := by
  simp only [spec_TakeFrames.l0, Int.toNat_natCast]
  rw [if_pos (by omega), if_pos (by omega)]
  obtain ⟨l, hl⟩ : ∃ l, l = x0.drop u := ⟨_, rfl⟩
  have hb : Tf.IsBytes l := by rw [hl]; exact hx.drop_ _
  have hln : l.length ≤ 600 := by rw [hl, List.length_drop]; omega
  have hlu : l.length = x0.length - u := by rw [hl, List.length_drop]
  rw [← hl]
  by_cases h4 : (l.length : Int) < 4
  · rw [if_pos h4]
    have e : Tf.ok l = false := by
      unfold Tf.ok
      rw [decide_eq_false (p := 4 ≤ l.length) (by omega)]
      rfl
    rw [e, if_neg (by decide)]
  · rw [if_neg h4, show spec_l1Take.f k l 0 2 = some (Tf.nx l) from Tf.l1Take_is l hb (by omega) 0 2 (by omega) (by omega) k (by omega), bind_s]
    have hnb := Tf.nx_bounds hb (by omega)
    by_cases h5 : Tf.nx l > 250
    · rw [if_pos h5]
      have e : Tf.ok l = false := by
        unfold Tf.ok
        rw [decide_eq_false (p := Tf.nx l ≤ 250) (by omega)]
        simp
      rw [e, if_neg (by decide)]
    · rw [if_neg h5, w64 (n := 4 + Tf.nx l) (by omega) (by omega)]
      by_cases h6 : 4 + Tf.nx l > (l.length : Int)
      · rw [if_pos h6]
        have e : Tf.ok l = false := by
          unfold Tf.ok
          rw [decide_eq_false (p := 4 + Tf.nx l ≤ (l.length : Int)) (by omega)]
          simp
        rw [e, if_neg (by decide)]
      · rw [if_neg h6, if_pos (by omega), if_pos (by omega)]
        have hbb : Tf.IsBytes (Tf.body l) := (hb.take_ _).drop_ _
        have hbl := Tf.body_length hnb.1 (by omega : 4 + Tf.nx l ≤ (l.length : Int))
        rw [show spec_SumWords.f k (List.drop 4 (List.take (4 + Tf.nx l).toNat l)) = some (Go.Proofs.Ytlhfoclccpngfaa.SumWords.sumW (Tf.body l)) from Tf.spec_SumWords_is (Tf.body l) hbb (by omega) k (by omega), bind_s]
        rw [show spec_l1Take.f k l 2 2 = some (Tf.num ((l.take 4).drop 2)) from by rw [← Tf.take_l]; exact Tf.l1Take_is l hb (by omega) 2 2 (by omega) (by omega) k (by omega), bind_s]
        by_cases h7 : Go.Proofs.Ytlhfoclccpngfaa.SumWords.sumW (Tf.body l) = Tf.num ((l.take 4).drop 2)
        · rw [if_pos h7, bind_s]
          have hB : (List.drop 4 (List.take (4 + Tf.nx l).toNat l)).length ≤ 600 := by
            have h0 : (Tf.body l).length ≤ 600 := by omega
            exact h0
          rw [if_pos (by simp only [List.length_nil]; omega), if_pos (by omega), List.nil_append, w64 (n := (u : Int) + 4) (by omega) (by omega), w64 (n := (u : Int) + 4 + Tf.nx l) (by omega) (by omega)]
          have e : Tf.ok l = true := by
            unfold Tf.ok
            rw [decide_eq_true (p := 4 ≤ l.length) (by omega), decide_eq_true (p := Tf.nx l ≤ 250) (by omega), decide_eq_true (p := 4 + Tf.nx l ≤ (l.length : Int)) (by omega), decide_eq_true h7]
            rfl
          rw [e, if_pos rfl]
          rfl
        · rw [if_neg h7]
          have e : Tf.ok l = false := by
            unfold Tf.ok
            rw [decide_eq_false h7]
            simp
          rw [e, if_neg (by decide)]
theorem ok_facts {l : List Int} (h : Tf.ok l = true) : 4 ≤ l.length ∧ Tf.nx l ≤ 250 ∧ 4 + Tf.nx l ≤ (l.length : Int) := by
  unfold Tf.ok at h
  simp only [Bool.and_eq_true, decide_eq_true_eq] at h
  exact ⟨h.1, h.2.1, h.2.2.1⟩
theorem impl_step {x0 : List Int} (hx : Tf.IsBytes x0) (hn : x0.length ≤ 600) (k : Nat) (c : Int) (u : Nat) (hu : u ≤ x0.length) (fr : List (List Int)) (hf : fr.length ≤ 1000000) :
    impl_TakeFrames.l0 (k + 1) x0 c (u : Int) fr = if Tf.ok (x0.drop u) = true then impl_TakeFrames.l0 k x0 c ((u : Int) + 4 + Tf.nx (x0.drop u)) (fr ++ [Tf.body (x0.drop u)]) else some (c, (u : Int), fr) := by
  simp only [impl_TakeFrames.l0, Int.toNat_natCast]
  rw [if_pos (by omega), if_pos (by omega)]
  obtain ⟨l, hl⟩ : ∃ l, l = x0.drop u := ⟨_, rfl⟩
  have hb : Tf.IsBytes l := by rw [hl]; exact hx.drop_ _
  have hln : l.length ≤ 600 := by rw [hl, List.length_drop]; omega
  rw [← hl]
  have e1 : impl_nextFrame.f l = some (if Tf.ok l = true then Tf.nx l else -1) := by
    unfold impl_nextFrame.f
    rw [if_pos ⟨hb, hln⟩]
  rw [e1, bind_s]
  cases ho : Tf.ok l with
  | false => simp only [Bool.false_eq_true, if_false]; rw [if_neg (by decide)]
  | true =>
    obtain ⟨h4, h5, h6⟩ := ok_facts ho
    have hnb := Tf.nx_bounds hb h4
    have hbl := Tf.body_length hnb.1 h6
    simp only [if_true]
    rw [if_pos (by omega), w64 (n := 4 + Tf.nx l) (by omega) (by omega), if_pos (by omega), if_pos (by omega)]
    have hB : (List.drop 4 (List.take (4 + Tf.nx l).toNat l)) = Tf.body l := rfl
    rw [hB]
    have e2 : slices_Clone_byte_byte.f (Tf.body l) = some (Tf.body l) := by
      unfold slices_Clone_byte_byte.f
      rw [bind_s, if_pos (by simp only [List.length_nil]; omega), List.nil_append]
    have e3 : impl_size_byte.f (Tf.body l) = some (((Tf.body l).length : Nat) : Int) := rfl
    rw [e2, bind_s, if_pos (by omega), e3, bind_s, hbl, w64 (n := 4 + Tf.nx l) (by omega) (by omega), w64 (n := (u : Int) + (4 + Tf.nx l)) (by omega) (by omega), show (u : Int) + (4 + Tf.nx l) = (u : Int) + 4 + Tf.nx l by omega]
theorem tf_run {x0 : List Int} (hx : Tf.IsBytes x0) (hn : x0.length ≤ 600) : ∀ (d u : Nat) (fr : List (List Int)), u ≤ x0.length → x0.length ≤ u + d → 4 * fr.length ≤ u → (∀ y ∈ fr, y.length ≤ 250) →
    ∃ (r2 : Int) (r3 : List (List Int)), (∀ k, 2001 + d ≤ k → spec_TakeFrames.l0 k x0 0 (u : Int) fr = some (0, r2, r3)) ∧ (∀ k, 2001 + d ≤ k → impl_TakeFrames.l0 k x0 0 (u : Int) fr = some (0, r2, r3)) ∧ 4 * r3.length ≤ 600 ∧ ∀ y ∈ r3, y.length ≤ 250 := by
  intro d
  induction d using Nat.strongRecOn with
  | _ d ih =>
    intro u fr hu hd hf hy
    cases ho : Tf.ok (x0.drop u) with
    | false =>
      refine ⟨(u : Int), fr, fun k hk => ?_, fun k hk => ?_, by omega, hy⟩
      · obtain ⟨k, rfl⟩ : ∃ j, k = j + 1 := ⟨k - 1, by omega⟩
        rw [spec_step hx hn k (by omega) 0 u hu fr (by omega), ho, if_neg (by decide)]
      · obtain ⟨k, rfl⟩ : ∃ j, k = j + 1 := ⟨k - 1, by omega⟩
        rw [impl_step hx hn k 0 u hu fr (by omega), ho, if_neg (by decide)]
    | true =>
      obtain ⟨h4, h5, h6⟩ := ok_facts ho
      have hnb := Tf.nx_bounds (hx.drop_ u) h4
      have hbl := Tf.body_length hnb.1 h6
      rw [List.length_drop] at h4 h6
      obtain ⟨n, hnn⟩ : ∃ n : Nat, (n : Int) = Tf.nx (x0.drop u) := ⟨(Tf.nx (x0.drop u)).toNat, by omega⟩
      obtain ⟨r2, r3, hs, hi, h7, h8⟩ := ih (d - 4) (by omega) (u + 4 + n) (fr ++ [Tf.body (x0.drop u)]) (by omega) (by omega) (by simp only [List.length_append, List.length_cons, List.length_nil]; omega) (fun y hm => by
        rcases List.mem_append.1 hm with hm | hm
        · exact hy y hm
        · rw [List.mem_singleton] at hm
          rw [hm]; omega)
      have eu : (u : Int) + 4 + Tf.nx (x0.drop u) = ((u + 4 + n : Nat) : Int) := by rw [← hnn]; omega
      refine ⟨r2, r3, fun k hk => ?_, fun k hk => ?_, h7, h8⟩
      · obtain ⟨k, rfl⟩ : ∃ j, k = j + 1 := ⟨k - 1, by omega⟩
        rw [spec_step hx hn k (by omega) 0 u hu fr (by omega), ho, if_pos rfl, eu, hs k (by omega)]
      · obtain ⟨k, rfl⟩ : ∃ j, k = j + 1 := ⟨k - 1, by omega⟩
        rw [impl_step hx hn k 0 u hu fr (by omega), ho, if_pos rfl, eu, hi k (by omega)]
theorem TakeFrames_both (x0 : List Int) (hx : Tf.IsBytes x0) : ∃ (r1 r2 : Int) (r3 : List (List Int)), (∀ k, 3000 ≤ k → spec_TakeFrames.f k x0 = some (r1, r2, r3)) ∧ (∀ k, 3000 ≤ k → impl_TakeFrames.f k x0 = some (r1, r2, r3)) ∧ r3.length ≤ 1000 ∧ ∀ y ∈ r3, y.length ≤ 1000 := by
  by_cases h : (x0.length : Int) > 600
  · refine ⟨2, 0, [], fun k _ => ?_, fun k _ => ?_, by simp, by simp⟩
    · unfold spec_TakeFrames.f; rw [if_pos h]
    · unfold impl_TakeFrames.f; rw [if_pos h]
  · obtain ⟨r2, r3, hs, hi, h7, h8⟩ := tf_run hx (by omega) x0.length 0 [] (by omega) (by omega) (by simp) (by simp)
    refine ⟨0, r2, r3, fun k hk => ?_, fun k hk => ?_, by omega, fun y hy => Nat.le_trans (h8 y hy) (by omega)⟩
    · unfold spec_TakeFrames.f
      rw [if_neg h]
      exact hs k (by omega)
    · unfold impl_TakeFrames.f
      rw [if_neg h]
      exact hi k (by omega)
theorem rdL1_nat (xs : List (List Int)) (i : Nat) : rd_L1 xs (i : Int) = xs.getD i [] := by simp [rd_L1]
theorem getD_memL (xs : List (List Int)) (i : Nat) (h : i < xs.length) : xs.getD i [] ∈ xs := by
  have : xs.getD i [] = xs[i] := by simp [List.getD, h]
  rw [this]; exact List.getElem_mem h
theorem eqByteSS_l0 (x : List (List Int)) (hn : x.length ≤ 1000) (hm : ∀ y ∈ x, y.length ≤ 1000) : ∀ (d k i : Nat), i + d = x.length → d + 1001 < k → laws_eqByteSS.l0 k x x (i : Int) = some true := by
  intro d
  induction d with
  | zero =>
    intro k i hi hk
    obtain ⟨k, rfl⟩ : ∃ j, k = j + 1 := ⟨k - 1, by omega⟩
    simp only [laws_eqByteSS.l0]
    rw [if_neg (by omega)]
  | succ d ih =>
    intro k i hi hk
    obtain ⟨k, rfl⟩ : ∃ j, k = j + 1 := ⟨k - 1, by omega⟩
    have hl := hm _ (getD_memL x i (by omega))
    simp only [laws_eqByteSS.l0]
    rw [if_pos (by omega), if_pos (by omega), if_pos (by omega), rdL1_nat, eqByteS_self _ (by omega) k (by omega), bind_s, if_pos rfl, w64n i (by omega)]
    exact ih k (i + 1) (by omega) (by omega)
theorem eqFramesResult_self (a b : Int) (x : List (List Int)) (hn : x.length ≤ 1000) (hm : ∀ y ∈ x, y.length ≤ 1000) (k : Nat) (hk : 3000 ≤ k) : laws_eqFramesResult.f k a b x a b x = some true := by
  unfold laws_eqFramesResult.f laws_eqByteSS.f
  rw [if_pos rfl, if_pos rfl, if_pos rfl, show laws_eqByteSS.l0 k x x 0 = some true from eqByteSS_l0 x hn hm x.length k 0 (by omega) (by omega), bind_s, if_pos rfl]
theorem heldByteSS_l0 : ∀ (y : List (List Int)) (x : List (List Int)) (k i a : Nat), x.drop i = Tf.ss a y → i + y.length = x.length → x.length ≤ 1000 → (∀ z ∈ y, z.length ≤ 1000) → y.length + 1001 < k → a + Tf.tot y ≤ 2000000 → laws_heldByteSS.l0 k x (a : Int) (i : Int) = some ((a + Tf.tot y : Nat) : Int)
  | [], x, k, i, a, hx, hi, hn, hm, hk, ha => by
    obtain ⟨k, rfl⟩ : ∃ j, k = j + 1 := ⟨k - 1, by omega⟩
    simp only [laws_heldByteSS.l0]
    simp only [List.length_nil] at hi
    rw [if_neg (by omega)]
    simp [Tf.tot]
  | b :: y, x, k, i, a, hx, hi, hn, hm, hk, ha => by
    obtain ⟨k, rfl⟩ : ∃ j, k = j + 1 := ⟨k - 1, by omega⟩
    simp only [List.length_cons] at hi hk
    simp only [Tf.tot] at ha ⊢
    have hb := hm b (List.mem_cons_self ..)
    have hd := drop_consG x [] i (by omega)
    rw [hd, Tf.ss] at hx
    obtain ⟨e1, e2⟩ := List.cons.inj hx
    simp only [laws_heldByteSS.l0]
    rw [if_pos (by omega), if_pos (by omega), rdL1_nat, e1, heldByteS_is b.length a (by omega) (by omega) k (by omega), bind_s, if_neg (by omega), w64n i (by omega)]
    rw [heldByteSS_l0 y x k (i + 1) (a + b.length) e2 (by omega) hn (fun z hz => hm z (List.mem_cons_of_mem _ hz)) (by omega) (by omega), show a + b.length + Tf.tot y = a + (b.length + Tf.tot y) by omega]
theorem heldFramesResult_is (a b : Int) (x : List (List Int)) (hn : x.length ≤ 1000) (hm : ∀ y ∈ x, y.length ≤ 1000) (k : Nat) (hk : 3000 ≤ k) : laws_heldFramesResult.f k a b (Tf.ss 1 x) 1 = some ((1 + Tf.tot x : Nat) : Int) := by
  have ht := Tf.tot_le x 1000 hm
  have hb : Tf.tot x ≤ 1000000 := Nat.le_trans ht (Nat.mul_le_mul_left 1000 hn)
  unfold laws_heldFramesResult.f laws_heldByteSS.f
  rw [show laws_heldByteSS.l0 k (Tf.ss 1 x) 1 0 = some ((1 + Tf.tot x : Nat) : Int) from heldByteSS_l0 x (Tf.ss 1 x) k 0 1 (by rw [List.drop_zero]) (by rw [Tf.ss_length]; omega) (by rw [Tf.ss_length]; omega) hm (by omega) (by omega), bind_s, if_neg (by omega)]
theorem FnExactTakeFrames : laws_FnExactTakeFrames.Pure := by
  intro l _ _ hb
  have hb := tfIsBytes hb
  obtain ⟨K, hK⟩ : ∃ K : Nat, 5000000 ≤ K := ⟨_, Nat.le_refl _⟩
  refine ⟨K + 1, ?_⟩
  unfold laws_FnExactTakeFrames.f
  by_cases h : (l.length : Int) > 1048576
  · rw [if_pos h]
  · obtain ⟨r1, r2, r3, hs, hi, h1, h2⟩ := TakeFrames_both l hb
    have hm := markByteS_is l 1 (by omega) (by omega) (K + 1) (by omega)
    have em : laws_markFramesResult.f r1 r2 r3 1 = some ((1 + Tf.tot r3 : Nat) : Int) := by unfold laws_markFramesResult.f; rw [if_pos ⟨rfl, h1, h2⟩]
    rw [if_neg h, toByteS_self l (by omega) (K + 1) (by omega), bind_s, hs (K + 1) (by omega), bind_s]
    simp only [bind_s]
    rw [hi (K + 1) (by omega)]
    simp only [bind_s]
    rw [eqFramesResult_self r1 r2 r3 h1 h2 (K + 1) (by omega)]
    simp only [bind_s, if_true]
    rw [eqByteS_self l (by omega) (K + 1) (by omega)]
    simp only [bind_s, if_true]
    rw [show laws_markByteS.f (K + 1) l 1 = _ from hm]
    simp only [bind_s]
    rw [if_neg (by omega), laws_FnExactTakeFrames.j0.eq_2]
    rw [if_neg (by decide), em]
    simp only [bind_s]
    rw [heldFramesResult_is r1 r2 r3 h1 h2 K (by omega)]
    simp only [bind_s, if_true]
    rw [if_neg (by omega), toByteS_self l (by omega) K (by omega)]
    simp only [bind_s]
    rw [hi K (by omega)]
    simp only [bind_s]
    rw [eqFramesResult_self r1 r2 r3 h1 h2 K (by omega)]
    simp only [bind_s, if_true]
    rw [if_neg (by omega)]
end Go.Proofs.Ytlhfoclccpngfaa.Pure
