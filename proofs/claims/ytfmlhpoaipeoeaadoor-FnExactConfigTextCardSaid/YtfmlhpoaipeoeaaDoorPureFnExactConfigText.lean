/- WHAT THIS TEXT PROVES: the pure statement of the law FnExactConfigText, over plain functions on numbers and lists. No condition beyond the statement's own. -/
import Derived.Test.YtfmlhpoaipeoeaaDoorSFnExactConfigText
import Derived.Laws.BitsLemmas
import Derived.IntWalk
namespace Go.Proofs.YtfmlhpoaipeoeaaDoor.Pure
open Go.RowKit Go.Proofs.YtfmlhpoaipeoeaaDoor.QFnExactConfigText Go.Proofs.YtfmlhpoaipeoeaaDoorW.PrintWords Go.Proofs.YtfmlhpoaipeoeaaDoorW.PrintLast Go.Proofs.YtfmlhpoaipeoeaaDoorW.PrintMore Go.Proofs.YtfmlhpoaipeoeaaDoor.SFnExactConfigText
set_option linter.unusedVariables false
set_option linter.unusedSimpArgs false
theorem w64 {n : Int} (h0 : -9223372036854775808 ≤ n) (h1 : n ≤ 9223372036854775807) : wrap64 n = n := by unfold wrap64; omega
theorem w64n (i : Nat) (h : i < 9223372036854775807) : wrap64 ((i : Int) + 1) = ((i + 1 : Nat) : Int) := by
  rw [w64 (by omega) (by omega)]; omega
theorem rd_nat (xs : List Int) (i : Nat) : rd xs (i : Int) = xs.getD i 0 := by simp [rd]
theorem at_succ {k d : Nat} (h : d < k) : ∃ m, k = m + 1 := ⟨k - 1, by omega⟩
theorem drop_cons (xs : List Int) (i : Nat) (h : i < xs.length) : xs.drop i = xs.getD i 0 :: xs.drop (i + 1) := by
  rw [List.drop_eq_getElem_cons h]; simp [List.getD, h]
theorem set_take (x0 x3 : List Int) (i : Nat) (hl : x3.length = x0.length) (hi : i < x0.length) (ht : x3.take i = x0.take i) :
    (x3.set i (x0.getD i 0)).take (i + 1) = x0.take (i + 1) := by
  apply List.ext_getElem?
  intro j
  by_cases hj : j < i
  · have h1 := congrArg (fun l : List Int => l[j]?) ht
    simp only [List.getElem?_take, hj, if_true] at h1
    simp only [List.getElem?_take, show j < i + 1 by omega, if_true]
    rw [List.getElem?_set_ne (by omega)]; exact h1
  · by_cases e : j = i
    · subst e
      simp only [List.getElem?_take, show j < j + 1 by omega, if_true]
      rw [List.getElem?_set_self (by omega)]
      simp [List.getD, hi]
    · simp only [List.getElem?_take, show ¬ j < i + 1 by omega, if_false]
theorem bind_s {α β : Type} (a : α) (f : α → Option β) : (some a).bind f = f a := Eq.trans (Option.bind_some a f) (Eq.refl _)
theorem toInt64S_l0 (x0 : List Int) (hn : x0.length ≤ 1048576) : ∀ (d k i : Nat) (x3 : List Int), x3.length = x0.length → i + d = x0.length → d < k → x3.take i = x0.take i → laws_toInt64S.l0 k x0 x3 (i : Int) = some x0 := by
  intro d
  induction d with
  | zero =>
    intro k i x3 hl hi hk ht
    obtain ⟨k, rfl⟩ := at_succ hk
    simp only [laws_toInt64S.l0]
    rw [if_neg (by omega)]
    have : x3 = x0 := by
      rw [List.take_of_length_le (by omega), List.take_of_length_le (by omega)] at ht; exact ht
    rw [this]
  | succ d ih =>
    intro k i x3 hl hi hk ht
    obtain ⟨k, rfl⟩ := at_succ hk
    simp only [laws_toInt64S.l0]
    rw [if_pos (by omega), if_pos (by omega), if_pos (by omega), w64n i (by omega), rd_nat, Int.toNat_natCast]
    exact ih k (i + 1) _ (by simp [hl]) (by omega) (by omega) (set_take x0 x3 i hl (by omega) ht)
theorem toInt64S_self (l : List Int) (hn : l.length ≤ 1048576) (k : Nat) (hk : l.length < k) : laws_toInt64S.f k l = some l := by
  unfold laws_toInt64S.f
  rw [if_pos (by omega), if_pos (by omega)]
  exact toInt64S_l0 l hn l.length k 0 _ (by simp) (by omega) hk (by simp)
theorem eqInt64S_l0 (x0 : List Int) (hn : x0.length ≤ 1048576) : ∀ (d k i : Nat), i + d = x0.length → d < k → laws_eqInt64S.l0 k x0 x0 (i : Int) = some true := by
  intro d
  induction d with
  | zero =>
    intro k i hi hk
    obtain ⟨k, rfl⟩ := at_succ hk
    simp only [laws_eqInt64S.l0]
    rw [if_neg (by omega)]
  | succ d ih =>
    intro k i hi hk
    obtain ⟨k, rfl⟩ := at_succ hk
    simp only [laws_eqInt64S.l0]
    rw [if_pos (by omega), if_pos (by omega), if_pos (by omega), w64n i (by omega)]
    simp only [if_true]
    exact ih k (i + 1) (by omega) (by omega)
theorem eqInt64S_self (l : List Int) (hn : l.length ≤ 1048576) (k : Nat) (hk : l.length < k) : laws_eqInt64S.f k l l = some true := by
  unfold laws_eqInt64S.f
  rw [if_pos rfl]
  exact eqInt64S_l0 l hn l.length k 0 (by omega) hk
theorem drop_consG {α : Type} (xs : List α) (d : α) (i : Nat) (h : i < xs.length) : xs.drop i = xs.getD i d :: xs.drop (i + 1) := by
  rw [List.drop_eq_getElem_cons h]; simp [List.getD, h]
theorem set_snocG {α : Type} (x : List α) (i : Nat) (v : α) (h : i < x.length) : (x.set i v).take (i + 1) = x.take i ++ [v] := by
  apply List.ext_getElem?
  intro j
  by_cases hj : j < i
  · rw [List.getElem?_append_left (by rw [List.length_take]; omega)]
    simp only [List.getElem?_take, hj, show j < i + 1 by omega, if_true]
    rw [List.getElem?_set_ne (by omega)]
  · by_cases e : j = i
    · subst e
      rw [List.getElem?_append_right (by rw [List.length_take]; omega)]
      simp only [List.getElem?_take, show j < j + 1 by omega, if_true, List.length_take]
      rw [List.getElem?_set_self h, show j - min j x.length = 0 by omega]; rfl
    · simp only [List.getElem?_take, show ¬ j < i + 1 by omega, if_false]
      rw [List.getElem?_eq_none (by rw [List.length_append, List.length_take, List.length_singleton]; omega)]
theorem take_snocG {α : Type} (x : List α) (d : α) (i : Nat) (h : i < x.length) : x.take (i + 1) = x.take i ++ [x.getD i d] := by
  rw [List.take_succ_eq_append_getElem h]; simp [List.getD, h]
def cvB (x : S63) : S56 := ⟨x.f0, x.f1, x.f2, x.f3, x.f4⟩
def cvV (x : S52) : S61 := ⟨x.f0, x.f1, x.f2, x.f3⟩
theorem rdB_nat (xs : List S56) (i : Nat) : rd_T56 xs (i : Int) = xs.getD i z56 := by simp [rd_T56]
theorem rdBl_nat (xs : List S63) (i : Nat) : rd_T63 xs (i : Int) = xs.getD i z63 := by simp [rd_T63]
theorem rdV_nat (xs : List S61) (i : Nat) : rd_T61 xs (i : Int) = xs.getD i z61 := by simp [rd_T61]
theorem rdVl_nat (xs : List S52) (i : Nat) : rd_T52 xs (i : Int) = xs.getD i z52 := by simp [rd_T52]
theorem getD_mem {α : Type} (xs : List α) (d : α) (i : Nat) (h : i < xs.length) : xs.getD i d ∈ xs := by
  have : xs.getD i d = xs[i] := by simp [List.getD, h]
  rw [this]; exact List.getElem_mem h
theorem szVipS_l0 (x : List S52) (hn : x.length ≤ 1048576) (hm : ∀ y ∈ x, y.f3.length ≤ maxLen) : ∀ (d k i : Nat) (left : Int), i + d = x.length → d < k → 0 ≤ left → left ≤ 1048576 →
    ∃ v, laws_szVipS.l0 k x left (i : Int) = some v ∧ v ≤ 1048576 ∧ (v < 0 ∨ (0 ≤ v ∧ ∀ j, i ≤ j → j < x.length → (x.getD j z52).f3.length ≤ 1048576)) := by
  intro d
  induction d with
  | zero =>
    intro k i left hi hk h0 h1
    obtain ⟨k, rfl⟩ := at_succ hk
    simp only [laws_szVipS.l0]
    rw [if_neg (by omega)]
    exact ⟨left, rfl, h1, .inr ⟨h0, fun j a b => by omega⟩⟩
  | succ d ih =>
    intro k i left hi hk h0 h1
    obtain ⟨k, rfl⟩ := at_succ hk
    have hl := hm _ (getD_mem x z52 i (by omega))
    simp only [maxLen] at hl
    simp only [laws_szVipS.l0]
    rw [if_pos (by omega), if_pos (by omega), rdVl_nat]
    unfold laws_szVip.f laws_szInt64S.f
    rw [w64 (n := left - _) (by omega) (by omega), w64n i (by omega)]
    by_cases c : left - (((x.getD i z52).f3.length : Nat) : Int) < 0
    · rw [if_pos c, bind_s, if_pos (by decide), bind_s, if_pos (by decide)]
      exact ⟨-1, rfl, by omega, .inl (by omega)⟩
    · rw [if_neg c, bind_s, if_neg c, bind_s, if_neg c]
      obtain ⟨v, e, hv, hc⟩ := ih k (i + 1) (left - (((x.getD i z52).f3.length : Nat) : Int)) (by omega) (by omega) (by omega) (by omega)
      refine ⟨v, e, hv, ?_⟩
      rcases hc with hc | ⟨hc, ha⟩
      · exact .inl hc
      · refine .inr ⟨hc, fun j a b => ?_⟩
        by_cases e : j = i
        · subst e; omega
        · exact ha j (by omega) b
theorem szConfig_is (a : Int) (l1 : List S63) (l2 : List S52) (left : Int) (h0 : 0 ≤ left) (h1 : left ≤ 1048576) (m1 : l1.length ≤ maxLen) (m2 : l2.length ≤ maxLen) (hm : ∀ y ∈ l2, y.f3.length ≤ maxLen) (k : Nat) (hk : 1048577 ≤ k) :
    ∃ v, laws_szConfig.f k a l1 l2 left = some v ∧ v ≤ 1048576 ∧ (v < 0 ∨ (0 ≤ v ∧ l1.length ≤ 1048576 ∧ l2.length ≤ 1048576 ∧ ∀ y ∈ l2, y.f3.length ≤ 1048576)) := by
  simp only [maxLen] at m1 m2
  unfold laws_szConfig.f laws_szBackendS.f laws_szVipS.f
  rw [w64 (n := left - _) (by omega) (by omega)]
  by_cases c1 : left - ((l1.length : Nat) : Int) < 0
  · rw [if_pos c1, bind_s, if_pos (by decide)]; exact ⟨-1, rfl, by omega, .inl (by omega)⟩
  · rw [if_neg c1, bind_s, if_neg c1, w64 (n := left - _ - _) (by omega) (by omega)]
    by_cases c2 : left - ((l1.length : Nat) : Int) - ((l2.length : Nat) : Int) < 0
    · rw [if_pos c2, bind_s, if_pos (by decide)]; exact ⟨-1, rfl, by omega, .inl (by omega)⟩
    · rw [if_neg c2]
      obtain ⟨v, e, hv, hc⟩ := szVipS_l0 l2 (by omega) hm l2.length k 0 (left - ((l1.length : Nat) : Int) - ((l2.length : Nat) : Int)) (by omega) (by omega) (by omega) (by omega)
      have e' : laws_szVipS.l0 k l2 (left - ((l1.length : Nat) : Int) - ((l2.length : Nat) : Int)) 0 = some v := e
      rw [e', bind_s]
      rcases hc with hc | ⟨hc, ha⟩
      · rw [if_pos hc]; exact ⟨-1, rfl, by omega, .inl (by omega)⟩
      · rw [if_neg (by omega)]
        refine ⟨v, rfl, hv, .inr ⟨hc, by omega, by omega, fun y hy => ?_⟩⟩
        obtain ⟨j, hj, e2⟩ := List.getElem_of_mem hy
        have := ha j (by omega) hj
        have e3 : l2.getD j z52 = y := by rw [← e2]; simp [List.getD, hj]
        rw [e3] at this; exact this
theorem toBackendS_l0 (x0 : List S63) (hn : x0.length ≤ 1048576) : ∀ (d k i : Nat) (x3 : List S56), x3.length = x0.length → i + d = x0.length → d < k → x3.take i = (x0.take i).map cvB → laws_toBackendS.l0 k x0 x3 (i : Int) = some (x0.map cvB) := by
  intro d
  induction d with
  | zero =>
    intro k i x3 hl hi hk ht
    obtain ⟨k, rfl⟩ := at_succ hk
    simp only [laws_toBackendS.l0]
    rw [if_neg (by omega)]
    rw [List.take_of_length_le (by omega), List.take_of_length_le (by omega)] at ht
    rw [ht]
  | succ d ih =>
    intro k i x3 hl hi hk ht
    obtain ⟨k, rfl⟩ := at_succ hk
    simp only [laws_toBackendS.l0, laws_toBackend.f, bind_s]
    rw [if_pos (by omega), if_pos (by omega), if_pos (by omega), w64n i (by omega), rdBl_nat, Int.toNat_natCast]
    refine ih k (i + 1) _ (by simp [hl]) (by omega) (by omega) ?_
    rw [set_snocG x3 i _ (by omega), take_snocG x0 z63 i (by omega), List.map_append, ht]; rfl
theorem toVipS_l0 (x0 : List S52) (hn : x0.length ≤ 1048576) (hm : ∀ y ∈ x0, y.f3.length ≤ 1048576) : ∀ (d k i : Nat) (x3 : List S61), x3.length = x0.length → i + d = x0.length → d + 1048577 < k → x3.take i = (x0.take i).map cvV → laws_toVipS.l0 k x0 x3 (i : Int) = some (x0.map cvV) := by
  intro d
  induction d with
  | zero =>
    intro k i x3 hl hi hk ht
    obtain ⟨k, rfl⟩ := at_succ hk
    simp only [laws_toVipS.l0]
    rw [if_neg (by omega)]
    rw [List.take_of_length_le (by omega), List.take_of_length_le (by omega)] at ht
    rw [ht]
  | succ d ih =>
    intro k i x3 hl hi hk ht
    obtain ⟨k, rfl⟩ := at_succ hk
    have hl3 := hm _ (getD_mem x0 z52 i (by omega))
    simp only [laws_toVipS.l0, laws_toVip.f]
    rw [if_pos (by omega), if_pos (by omega), rdVl_nat, toInt64S_self _ hl3 k (by omega)]
    simp only [bind_s]
    rw [if_pos (by omega), w64n i (by omega), Int.toNat_natCast]
    refine ih k (i + 1) _ (by simp [hl]) (by omega) (by omega) ?_
    rw [set_snocG x3 i _ (by omega), take_snocG x0 z52 i (by omega), List.map_append, ht]; rfl
theorem toConfig_is (a : Int) (l1 : List S63) (l2 : List S52) (h1 : l1.length ≤ 1048576) (h2 : l2.length ≤ 1048576) (hm : ∀ y ∈ l2, y.f3.length ≤ 1048576) (k : Nat) (hk : 2097160 ≤ k) : laws_toConfig.f k a l1 l2 = some (a, l1.map cvB, l2.map cvV) := by
  unfold laws_toConfig.f laws_toBackendS.f laws_toVipS.f
  rw [if_pos (by omega), if_pos (by omega), if_pos (by omega), if_pos (by omega)]
  have e1 := toBackendS_l0 l1 h1 l1.length k 0 (List.replicate ((l1.length : Int) : Int).toNat z56) (by simp) (by omega) (by omega) (by simp)
  have e2 := toVipS_l0 l2 h2 hm l2.length k 0 (List.replicate ((l2.length : Int) : Int).toNat z61) (by simp) (by omega) (by omega) (by simp)
  have e1' : laws_toBackendS.l0 k l1 (List.replicate ((l1.length : Int) : Int).toNat z56) 0 = _ := e1
  have e2' : laws_toVipS.l0 k l2 (List.replicate ((l2.length : Int) : Int).toNat z61) 0 = _ := e2
  rw [e1', bind_s, e2', bind_s]
theorem eqBackendS_l0 (x0 : List S56) (hn : x0.length ≤ 1048576) : ∀ (d k i : Nat), i + d = x0.length → d < k → laws_eqBackendS.l0 k x0 x0 (i : Int) = some true := by
  intro d
  induction d with
  | zero =>
    intro k i hi hk
    obtain ⟨k, rfl⟩ := at_succ hk
    simp only [laws_eqBackendS.l0]
    rw [if_neg (by omega)]
  | succ d ih =>
    intro k i hi hk
    obtain ⟨k, rfl⟩ := at_succ hk
    simp only [laws_eqBackendS.l0, laws_eqBackend.f]
    rw [if_pos (by omega), if_pos (by omega), if_pos (by omega)]
    simp only [if_true, bne_self_eq_false, Bool.false_eq_true, if_false, bind_s]
    rw [w64n i (by omega)]
    exact ih k (i + 1) (by omega) (by omega)
theorem eqVipS_l0 (x0 : List S61) (hn : x0.length ≤ 1048576) (hm : ∀ y ∈ x0, y.f3.length ≤ 1048576) : ∀ (d k i : Nat), i + d = x0.length → d + 1048577 < k → laws_eqVipS.l0 k x0 x0 (i : Int) = some true := by
  intro d
  induction d with
  | zero =>
    intro k i hi hk
    obtain ⟨k, rfl⟩ := at_succ hk
    simp only [laws_eqVipS.l0]
    rw [if_neg (by omega)]
  | succ d ih =>
    intro k i hi hk
    obtain ⟨k, rfl⟩ := at_succ hk
    have hl3 := hm _ (getD_mem x0 z61 i (by omega))
    simp only [laws_eqVipS.l0, laws_eqVip.f]
    rw [if_pos (by omega), if_pos (by omega), if_pos (by omega), rdV_nat, eqInt64S_self _ hl3 k (by omega)]
    simp only [if_true, bind_s]
    rw [w64n i (by omega)]
    exact ih k (i + 1) (by omega) (by omega)
theorem eqConfig_self (a : Int) (l1 : List S56) (l2 : List S61) (h1 : l1.length ≤ 1048576) (h2 : l2.length ≤ 1048576) (hm : ∀ y ∈ l2, y.f3.length ≤ 1048576) (k : Nat) (hk : 2097160 ≤ k) : laws_eqConfig.f k a l1 l2 a l1 l2 = some true := by
  unfold laws_eqConfig.f laws_eqBackendS.f laws_eqVipS.f
  have e1 : laws_eqBackendS.l0 k l1 l1 0 = some true := eqBackendS_l0 l1 h1 l1.length k 0 (by omega) (by omega)
  have e2 : laws_eqVipS.l0 k l2 l2 0 = some true := eqVipS_l0 l2 h2 hm l2.length k 0 (by omega) (by omega)
  rw [if_pos rfl, if_pos rfl, e1, bind_s, if_pos rfl, if_pos rfl, e2, bind_s, if_pos rfl]
theorem cvV_len {l : List S52} (h : ∀ y ∈ l, y.f3.length ≤ 1048576) : ∀ y ∈ l.map cvV, y.f3.length ≤ 1048576 := fun y hy => by
  obtain ⟨x, hx, rfl⟩ := List.mem_map.1 hy
  exact h x hx
theorem shr8 (n : Int) (s : Nat) (hs : s ≤ 7) : shr .i64 n ((8 * s : Nat) : Int) = n / 2 ^ (8 * s) := by
  unfold shr
  rw [Int.toNat_natCast, Nat.min_eq_left (by simp only [IntKind.bits]; omega)]
/-- The s lowest bytes of a number, the highest first. -/
def be (n : Int) : Nat → List Int
  | 0 => []
  | s + 1 => (n / 2 ^ (8 * s)) % 256 :: be n s
theorem be_length (n : Int) : ∀ s, (be n s).length = s
  | 0 => rfl
  | s + 1 => by simp [be, be_length n s]
theorem be_bytes (n : Int) : ∀ s, ∀ x ∈ be n s, 0 ≤ x ∧ x ≤ 255
  | 0 => fun x hx => by cases hx
  | s + 1 => fun x hx => by
    rcases List.mem_cons.1 hx with rfl | hx
    · omega
    · exact be_bytes n s x hx
theorem eight (s : Nat) (hs : s ≤ 7) : wrap64 (8 * (s : Int)) = ((8 * s : Nat) : Int) := by rw [w64 (by omega) (by omega)]; omega
theorem eightU (s : Nat) (hs : s ≤ 7) : IntKind.u64.wrap (wrap64 (8 * (s : Int))) = ((8 * s : Nat) : Int) := by
  rw [eight s hs, Go.IntKind.wrap_u64]; omega
theorem spec_l1Bytes_l0 (n : Int) : ∀ (s k : Nat) (out : List Int), s ≤ 7 → s < k → out.length + s ≤ 1000000000 → spec_l1Bytes.l0 k n out ((s : Int) - 1) = some (out ++ be n s) := by
  intro s
  induction s with
  | zero =>
    intro k out hs hk ho
    obtain ⟨k, rfl⟩ := at_succ hk
    simp only [spec_l1Bytes.l0]
    rw [if_neg (by omega)]; simp [be]
  | succ s ih =>
    intro k out hs hk ho
    obtain ⟨k, rfl⟩ := at_succ hk
    simp only [spec_l1Bytes.l0]
    rw [show ((s + 1 : Nat) : Int) - 1 = (s : Int) by omega, if_pos (by omega), eightU s (by omega), if_pos (by omega), if_pos (by omega), shr8 n s (by omega), w64 (by omega) (by omega)]
    rw [ih k _ (by omega) (by omega) (by simp; omega)]; simp [be]
theorem spec_l1Bytes_is (n : Int) (s : Nat) (hs : s ≤ 7) (k : Nat) (hk : s < k) : spec_l1Bytes.f k n (s : Int) = some (be n s) := by
  unfold spec_l1Bytes.f
  rw [w64 (by omega) (by omega)]
  have := spec_l1Bytes_l0 n s k [] hs hk (by simp; omega)
  simpa using this
/-! #### a configuration's text -/
theorem cb_assoc (a b c : ByteArray) : (a ++ b) ++ c = a ++ (b ++ c) := by
  apply ByteArray.ext
  simp [ByteArray.data_append]
theorem cb_nil (t : ByteArray) : (⟨#[]⟩ : ByteArray) ++ t = t := by
  apply ByteArray.ext
  simp [ByteArray.data_append]
theorem ba_app (l1 l2 : List UInt8) : ((⟨l1.toArray⟩ : ByteArray) ++ (⟨l2.toArray⟩ : ByteArray)) = ⟨(l1 ++ l2).toArray⟩ := by
  apply ByteArray.ext
  simp [ByteArray.data_append]
theorem q46 : (⟨#[46]⟩ : ByteArray).size = 1 := rfl
theorem q32 : (⟨#[32]⟩ : ByteArray).size = 1 := rfl
theorem q10 : (⟨#[10]⟩ : ByteArray).size = 1 := rfl
theorem qbk : (⟨#[98, 97, 99, 107, 101, 110, 100, 32]⟩ : ByteArray).size = 8 := rfl
theorem qvip : (⟨#[118, 105, 112, 32]⟩ : ByteArray).size = 4 := rfl
theorem qup : (⟨#[117, 112]⟩ : ByteArray).size = 2 := rfl
theorem qdn : (⟨#[100, 111, 119, 110]⟩ : ByteArray).size = 4 := rfl
theorem qve : (⟨#[118, 101, 114, 115, 105, 111, 110]⟩ : ByteArray).size = 7 := rfl
theorem qves : (⟨#[118, 101, 114, 115, 105, 111, 110, 32]⟩ : ByteArray).size = 8 := rfl
theorem tx_nat (u : Nat) : Ct.tx (u : Int) = ⟨(Lib.decDigits u).toArray⟩ := by
  unfold Ct.tx Lib.itoa
  rw [if_neg (by omega), Int.toNat_natCast]
theorem one_digit (u : Nat) (h : u < 10) : strOfNums [(wrap64 (48 + (u : Int))) % 256] = ⟨#[UInt8.ofNat (48 + u)]⟩ := by
  unfold strOfNums
  rw [w64 (by omega) (by omega), show ((48 + (u : Int)) % 256) = ((48 + u : Nat) : Int) by omega]
  rfl
theorem digits_is : ∀ (k u : Nat), u < 10 ^ k → u ≤ 4294967295 → spec_l2Digits.f (k + 1) (u : Int) = some (Ct.tx (u : Int)) := by
  intro k
  induction k with
  | zero =>
    intro u hu _
    have : u = 0 := by simpa using hu
    subst this
    rw [tx_nat, spec_l2Digits.f.eq_2, if_pos (by decide), one_digit 0 (by decide), Lib.decDigits_one (by decide)]
  | succ k ih =>
    intro u hu hb
    rw [tx_nat, spec_l2Digits.f.eq_2]
    by_cases c : u < 10
    · rw [if_pos (by omega), one_digit u c, Lib.decDigits_one c]
    · rw [if_neg (by omega)]
      have hd : u / 10 < 10 ^ k := by
        rw [Nat.pow_succ] at hu
        exact Nat.div_lt_of_lt_mul (by omega)
      have e1 : wrap64 (Int.tdiv (u : Int) 10) = ((u / 10 : Nat) : Int) := by
        rw [show Int.tdiv (u : Int) 10 = ((u / 10 : Nat) : Int) from rfl, w64 (by omega) (by omega)]
      have e2 : (48 + Int.tmod (u : Int) 10) = 48 + ((u % 10 : Nat) : Int) := rfl
      rw [e1, ih (u / 10) hd (by omega), bind_s, bind_s, e2, one_digit (u % 10) (by omega), tx_nat]
      have hs : ((⟨(Lib.decDigits (u / 10)).toArray⟩ : ByteArray)).size ≤ 21 := by rw [← tx_nat]; exact Ct.tx_size _ (by omega) (by omega)
      have hs2 : ((⟨#[UInt8.ofNat (48 + u % 10)]⟩ : ByteArray)).size = 1 := rfl
      rw [if_pos (by omega)]
      rw [show (⟨#[UInt8.ofNat (48 + u % 10)]⟩ : ByteArray) = ⟨[UInt8.ofNat (48 + u % 10)].toArray⟩ from rfl, ba_app]
      conv => rhs; rw [Lib.decDigits, dif_neg c]
theorem digits (n : Int) (h0 : 0 ≤ n) (h1 : n ≤ 4294967295) (k : Nat) (hk : 11 ≤ k) : spec_l2Digits.f k n = some (Ct.tx n) := by
  obtain ⟨u, rfl⟩ : ∃ u : Nat, n = (u : Int) := ⟨n.toNat, by omega⟩
  obtain ⟨j, rfl⟩ : ∃ j, k = j + 1 := ⟨k - 1, by omega⟩
  have hp : 10 ^ 10 ≤ 10 ^ j := Nat.pow_le_pow_right (by decide) (by omega)
  exact digits_is j u (by omega) (by omega)
def adr (a : Int) : ByteArray := Ct.dj ⟨#[46]⟩ [a / 16777216, a / 65536 % 256, a / 256 % 256, a % 256] 4
theorem adr_size (a : Int) (h0 : 0 ≤ a) (h1 : a ≤ 4294967295) : (adr a).size ≤ 88 :=
  Ct.dj_size ⟨#[46]⟩ [a / 16777216, a / 65536 % 256, a / 256 % 256, a % 256] (by decide) (by simp; omega) 4 (by simp)
theorem be4v (n : Int) : be n 4 = [n / 16777216 % 256, n / 65536 % 256, n / 256 % 256, n / 1 % 256] := rfl
theorem l2Text_is (b0 b1 b2 b3 : Nat) (h0 : b0 ≤ 255) (h1 : b1 ≤ 255) (h2 : b2 ≤ 255) (h3 : b3 ≤ 255) (k : Nat) (hk : 20 ≤ k) :
    spec_l2Text.l0 k [(b0 : Int), b1, b2, b3] (Ct.tx b0) 1 = some (((((Ct.tx b0 ++ ⟨#[46]⟩) ++ Ct.tx b1) ++ ⟨#[46]⟩) ++ Ct.tx b2 ++ ⟨#[46]⟩) ++ Ct.tx b3) := by
  obtain ⟨k, rfl⟩ : ∃ j, k = j + 4 := ⟨k - 4, by omega⟩
  have t0 := Ct.tx_size (b0 : Int) (by omega) (by omega)
  have t1 := Ct.tx_size (b1 : Int) (by omega) (by omega)
  have t2 := Ct.tx_size (b2 : Int) (by omega) (by omega)
  have t3 := Ct.tx_size (b3 : Int) (by omega) (by omega)
  have r1 : rd [(b0 : Int), b1, b2, b3] 1 = (b1 : Int) := rfl
  have r2 : rd [(b0 : Int), b1, b2, b3] 2 = (b2 : Int) := rfl
  have r3 : rd [(b0 : Int), b1, b2, b3] 3 = (b3 : Int) := rfl
  have w1 : wrap64 ((1 : Int) + 1) = 2 := w64 (by omega) (by omega)
  have w2 : wrap64 ((2 : Int) + 1) = 3 := w64 (by omega) (by omega)
  have w3 : wrap64 ((3 : Int) + 1) = 4 := w64 (by omega) (by omega)
  rw [spec_l2Text.l0.eq_2, if_pos (by omega), if_pos (by omega), if_pos (by omega), if_pos (by simp), r1, w64 (by omega) (by omega), digits _ (by omega) (by omega) _ (by omega), bind_s, if_pos (by simp only [Ct.sz, q46, q32, q10, qbk, qvip, qup, qdn, qve, qves]; omega), w1]
  rw [spec_l2Text.l0.eq_2, if_pos (by omega), if_pos (by simp only [Ct.sz, q46, q32, q10, qbk, qvip, qup, qdn, qve, qves]; omega), if_pos (by omega), if_pos (by simp), r2, w64 (by omega) (by omega), digits _ (by omega) (by omega) _ (by omega), bind_s, if_pos (by simp only [Ct.sz, q46, q32, q10, qbk, qvip, qup, qdn, qve, qves]; omega), w2]
  rw [spec_l2Text.l0.eq_2, if_pos (by omega), if_pos (by simp only [Ct.sz, q46, q32, q10, qbk, qvip, qup, qdn, qve, qves]; omega), if_pos (by omega), if_pos (by simp), r3, w64 (by omega) (by omega), digits _ (by omega) (by omega) _ (by omega), bind_s, if_pos (by simp only [Ct.sz, q46, q32, q10, qbk, qvip, qup, qdn, qve, qves]; omega), w3]
  rw [spec_l2Text.l0.eq_2, if_neg (by omega)]
theorem text_is (a : Int) (h0 : 0 ≤ a) (h1 : a ≤ 4294967295) (k : Nat) (hk : 20 ≤ k) : spec_l2Text.f k a = some (adr a) := by
  unfold spec_l2Text.f
  rw [show (4 : Int) = ((4 : Nat) : Int) from rfl, spec_l1Bytes_is a 4 (by omega) k (by omega), bind_s, be4v]
  obtain ⟨b0, e0⟩ : ∃ b : Nat, (b : Int) = a / 16777216 := ⟨(a / 16777216).toNat, by omega⟩
  obtain ⟨b1, e1⟩ : ∃ b : Nat, (b : Int) = a / 65536 % 256 := ⟨(a / 65536 % 256).toNat, by omega⟩
  obtain ⟨b2, e2⟩ : ∃ b : Nat, (b : Int) = a / 256 % 256 := ⟨(a / 256 % 256).toNat, by omega⟩
  obtain ⟨b3, e3⟩ : ∃ b : Nat, (b : Int) = a % 256 := ⟨(a % 256).toNat, by omega⟩
  rw [show a / 16777216 % 256 = (b0 : Int) by omega, show a / 1 % 256 = (b3 : Int) by omega, ← e1, ← e2]
  unfold adr
  rw [← e0, ← e1, ← e2, ← e3, if_pos (by simp)]
  rw [show rd [(b0 : Int), b1, b2, b3] 0 = (b0 : Int) from rfl, w64 (by omega) (by omega), digits _ (by omega) (by omega) _ (by omega), bind_s, l2Text_is b0 b1 b2 b3 (by omega) (by omega) (by omega) (by omega) k (by omega)]
  have : Ct.dj ⟨#[46]⟩ [(b0 : Int), b1, b2, b3] 4 = ((((((⟨#[]⟩ : ByteArray) ++ Ct.tx b0) ++ ⟨#[46]⟩) ++ Ct.tx b1) ++ ⟨#[46]⟩) ++ Ct.tx b2 ++ ⟨#[46]⟩) ++ Ct.tx b3 := rfl
  rw [this, cb_nil]
theorem and255 (x : Int) (h0 : 0 ≤ x) (h1 : x < 9223372036854775808) : Go.bits .and .i64 x 255 = x % 256 := by
  have := bits_mask .i64 63 (by decide) (fun n a b => by rw [IntKind.wrap_i64]; omega) 8 (by decide) x h0 (by omega)
  simpa using this
theorem address_is (a : Int) (h0 : 0 ≤ a) (h1 : a ≤ 4294967295) : impl_addressText.f a = some (adr a) := by
  unfold impl_addressText.f impl_decimals.f
  rw [and255 _ (by omega) (by omega), and255 _ (by omega) (by omega), and255 _ (by omega) (by omega)]
  rw [if_pos ⟨by decide, by simp, by simp; omega⟩, bind_s]
  rfl
theorem dec_is (n : Int) (h0 : 0 ≤ n) (h1 : n ≤ 4294967295) : impl_decimal.f n = some (Ct.tx n) := by
  unfold impl_decimal.f
  rw [if_pos ⟨h0, h1⟩]
/-- A word and numbers behind it. -/
def ln : ByteArray → List Int → ByteArray
  | wd, [] => wd
  | wd, x :: r => ln ((wd ++ ⟨#[32]⟩) ++ Ct.tx x) r
theorem ln_snoc : ∀ (l : List Int) (wd : ByteArray) (x : Int), ln wd (l ++ [x]) = (ln wd l ++ ⟨#[32]⟩) ++ Ct.tx x
  | [], _, _ => rfl
  | y :: r, wd, x => ln_snoc r _ x
theorem ln_size : ∀ (l : List Int) (wd : ByteArray), (∀ x ∈ l, 0 ≤ x ∧ x ≤ 4294967295) → (ln wd l).size ≤ wd.size + 22 * l.length
  | [], wd, _ => Nat.le_refl _
  | y :: r, wd, h => by
    have h1 := ln_size r ((wd ++ ⟨#[32]⟩) ++ Ct.tx y) (fun x hx => h x (List.mem_cons_of_mem _ hx))
    have h2 := h y List.mem_cons_self
    have h3 := Ct.tx_size y h2.1 h2.2
    simp only [Ct.sz, q32] at h1
    simp only [ln, List.length_cons]
    omega
theorem ln_pre : ∀ (l : List Int) (s wd : ByteArray), s ++ ln wd l = ln (s ++ wd) l
  | [], _, _ => rfl
  | y :: r, s, wd => by
    simp only [ln]
    rw [ln_pre r, cb_assoc, cb_assoc, cb_assoc]
theorem dj_ln (p q : Int) (ns : List Int) (X : ByteArray) : ∀ m, m ≤ ns.length → X ++ Ct.dj ⟨#[32]⟩ (p :: q :: ns) (m + 2) = ln (((X ++ Ct.tx p) ++ ⟨#[32]⟩) ++ Ct.tx q) (ns.take m)
  | 0, _ => by
    have : Ct.dj ⟨#[32]⟩ (p :: q :: ns) (0 + 2) = (((⟨#[]⟩ : ByteArray) ++ Ct.tx p) ++ ⟨#[32]⟩) ++ Ct.tx q := rfl
    rw [this, cb_nil, List.take_zero]
    simp only [ln, cb_assoc]
  | m + 1, h => by
    have e : Ct.dj ⟨#[32]⟩ (p :: q :: ns) (m + 1 + 2) = (Ct.dj ⟨#[32]⟩ (p :: q :: ns) (m + 2) ++ ⟨#[32]⟩) ++ Ct.tx (ns.getD m 0) := rfl
    rw [e, ← cb_assoc, ← cb_assoc, dj_ln p q ns X m (by omega), take_snocG ns 0 m (by omega), ln_snoc]
theorem line_l0 (l : List Int) (hl : l.length ≤ 100000) (hv : ∀ x ∈ l, 0 ≤ x ∧ x ≤ 4294967295) : ∀ (d k i : Nat) (wd : ByteArray), i + d = l.length → d + 20 < k → wd.size + 22 * d ≤ 10000000 → spec_l5Line.l0 k wd l (i : Int) = some (ln wd (l.drop i) ++ ⟨#[10]⟩) := by
  intro d
  induction d with
  | zero =>
    intro k i wd hi hk hs
    obtain ⟨k, rfl⟩ := at_succ hk
    simp only [spec_l5Line.l0]
    rw [if_neg (by omega), if_pos (by omega), List.drop_eq_nil_of_le (by omega)]
    rfl
  | succ d ih =>
    intro k i wd hi hk hs
    obtain ⟨k, rfl⟩ := at_succ hk
    have hm := hv _ (getD_mem l 0 i (by omega))
    have ht := Ct.tx_size _ hm.1 hm.2
    simp only [spec_l5Line.l0]
    rw [if_pos (by omega), if_pos (by omega), if_pos (by omega), rd_nat, digits _ hm.1 hm.2 k (by omega), bind_s, if_pos (by simp only [Ct.sz, q46, q32, q10, qbk, qvip, qup, qdn, qve, qves]; omega), w64n i (by omega)]
    rw [ih k (i + 1) _ (by omega) (by omega) (by simp only [Ct.sz, q46, q32, q10, qbk, qvip, qup, qdn, qve, qves]; omega), drop_cons l i (by omega)]
    rfl
theorem line_is (l : List Int) (hl : l.length ≤ 100000) (hv : ∀ x ∈ l, 0 ≤ x ∧ x ≤ 4294967295) (wd : ByteArray) (hw : wd.size ≤ 1000) (k : Nat) (hk : l.length + 20 < k) : spec_l5Line.f k wd l = some (ln wd l ++ ⟨#[10]⟩) := by
  have h := line_l0 l hl hv l.length k 0 wd (by omega) hk (by omega)
  rw [List.drop_zero] at h
  exact h
/-! #### what is right of a good one -/
structure OkB (x : S56) : Prop where
  n0 : 0 ≤ x.f0
  n1 : x.f0 ≤ 999
  a0 : 0 ≤ x.f1
  a1 : x.f1 ≤ 4294967295
  w0 : 0 ≤ x.f2
  w1 : x.f2 ≤ 9
  s0 : 1 ≤ x.f3
  s1 : x.f3 ≤ 3
structure OkV (x : S61) : Prop where
  a0 : 0 ≤ x.f0
  a1 : x.f0 ≤ 4294967295
  p0 : 0 ≤ x.f1
  p1 : x.f1 ≤ 65535
  r0 : 0 ≤ x.f2
  r1 : x.f2 ≤ 17
  nl : x.f3.length ≤ 1000
  nv : ∀ n ∈ x.f3, 0 ≤ n ∧ n ≤ 999
def wordOf (i : Int) : ByteArray := (Ct.stage i).getD ⟨#[]⟩
theorem word_size (i : Int) : (wordOf i).size ≤ 5 := by
  unfold wordOf Ct.stage
  split
  · decide
  · split
    · decide
    · split
      · decide
      · decide
theorem stage_is (i : Int) (h0 : 1 ≤ i) (h1 : i ≤ 3) : Ct.stage i = some (wordOf i) := by
  rcases (show i = 1 ∨ i = 2 ∨ i = 3 by omega) with rfl | rfl | rfl <;> rfl
theorem stage_rd (i : Int) (h0 : 1 ≤ i) (h1 : i ≤ 3) : rdOf ByteArray.empty [(⟨#[]⟩ : ByteArray), (⟨#[111, 110]⟩ : ByteArray), (⟨#[100, 114, 97, 105, 110]⟩ : ByteArray), (⟨#[111, 102, 102]⟩ : ByteArray)] i = wordOf i := by
  rcases (show i = 1 ∨ i = 2 ∨ i = 3 by omega) with rfl | rfl | rfl <;> rfl
def ud (b : Bool) : ByteArray := if b = true then ⟨#[117, 112]⟩ else ⟨#[100, 111, 119, 110]⟩
theorem ud_size (b : Bool) : (ud b).size ≤ 4 := by cases b <;> decide
theorem chosen_is (b : Bool) : impl_chosen.f b ⟨#[117, 112]⟩ ⟨#[100, 111, 119, 110]⟩ = some (ud b) := by cases b <;> rfl
def bl (x : S56) : ByteArray := ((((((((((⟨#[98, 97, 99, 107, 101, 110, 100, 32]⟩ : ByteArray) ++ Ct.tx x.f0) ++ (⟨#[32]⟩ : ByteArray)) ++ adr x.f1) ++ (⟨#[32]⟩ : ByteArray)) ++ Ct.tx x.f2) ++ (⟨#[32]⟩ : ByteArray)) ++ wordOf x.f3) ++ (⟨#[32]⟩ : ByteArray)) ++ ud x.f4) ++ (⟨#[10]⟩ : ByteArray)
def vl (x : S61) : ByteArray := ln ((((((⟨#[118, 105, 112, 32]⟩ : ByteArray) ++ adr x.f0) ++ (⟨#[32]⟩ : ByteArray)) ++ Ct.tx x.f1) ++ (⟨#[32]⟩ : ByteArray)) ++ Ct.tx x.f2) x.f3 ++ (⟨#[10]⟩ : ByteArray)
def cat {α : Type} (f : α → ByteArray) : List α → ByteArray → ByteArray
  | [], s => s
  | x :: r, s => cat f r (s ++ f x)
theorem vl_size (x : S61) (h : OkV x) : (vl x).size ≤ 23000 := by
  have h1 := Ct.tx_size x.f1 h.p0 (by have := h.p1; omega)
  have h2 := Ct.tx_size x.f2 h.r0 (by have := h.r1; omega)
  have h3 := adr_size x.f0 h.a0 h.a1
  have h4 := ln_size x.f3 ((((((⟨#[118, 105, 112, 32]⟩ : ByteArray) ++ adr x.f0) ++ (⟨#[32]⟩ : ByteArray)) ++ Ct.tx x.f1) ++ (⟨#[32]⟩ : ByteArray)) ++ Ct.tx x.f2) (fun n hn => by have := h.nv n hn; omega)
  have h5 := h.nl
  unfold vl
  simp only [Ct.sz, q32, q10, qvip] at h4 ⊢
  omega
/-- The text of a good one. -/
def ctext (v : Int) (l1 : List S56) (l2 : List S61) : ByteArray := cat vl l2 (cat bl l1 (((⟨#[118, 101, 114, 115, 105, 111, 110, 32]⟩ : ByteArray) ++ Ct.tx v) ++ ⟨#[10]⟩))
theorem first_zero (g : Nat → Int) : ∀ (m i : Nat), Cf.first g i m = 0 → ∀ j, j < m → g (i + j) = 0
  | 0, _, _, j, hj => absurd hj (Nat.not_lt_zero _)
  | m + 1, i, h, j, hj => by
    simp only [Cf.first] at h
    split at h
    · rename_i c
      match j with
      | 0 => exact c
      | j + 1 =>
        have := first_zero g m (i + 1) h j (by omega)
        rwa [show i + (j + 1) = i + 1 + j by omega]
    · rename_i c; exact absurd h c
theorem ix_some {α : Type} (p : α → Bool) : ∀ (l : List α) (i : Int), 0 ≤ i → 0 ≤ Go.Proofs.YtfmlhpoaipeoeaaDoor.Ix.ixFrom p l i → ∃ x ∈ l, p x = true := by
  intro l i hi h
  have := Go.Proofs.YtfmlhpoaipeoeaaDoor.Ix.ixFrom_ge p l i hi
  rw [decide_eq_true h] at this
  exact List.any_eq_true.1 this.symm
theorem in_le {a lo hi : Int} (h : Cf.inB a lo hi = true) : lo ≤ a ∧ a ≤ hi := by
  unfold Cf.inB at h
  simp only [Bool.and_eq_true, decide_eq_true_eq] at h
  exact ⟨h.1, h.2⟩
theorem okB_of {x : S56} (h : Cf.isb x = true) : OkB x := by
  unfold Cf.isb at h
  simp only [Bool.and_eq_true] at h
  obtain ⟨⟨⟨h1, h2⟩, h3⟩, h4⟩ := h
  have := in_le h1; have := in_le h2; have := in_le h3; have := in_le h4
  constructor <;> omega
structure Good (v : Int) (l1 : List S56) (l2 : List S61) : Prop where
  v0 : 0 ≤ v
  v1 : v ≤ 1000000
  n1 : l1.length ≤ 8
  n2 : l2.length ≤ 4
  hb : ∀ i, i < l1.length → OkB (l1.getD i z56)
  hv : ∀ i, i < l2.length → OkV (l2.getD i z61)
theorem rises (l : List Int) (h : ∀ j, j < l.length → Cf.falls l j = false) (hp : ∀ n ∈ l, 1 ≤ n ∧ n ≤ 999) : ∀ j, j < l.length → (j : Int) + 1 ≤ l.getD j 0
  | 0, hj => by have := hp _ (getD_mem l 0 0 hj); omega
  | j + 1, hj => by
    have ih := rises l h hp j (by omega)
    have hf := h (j + 1) hj
    unfold Cf.falls at hf
    rw [decide_eq_true (show 1 ≤ j + 1 by omega), Bool.true_and, Nat.add_sub_cancel] at hf
    have := of_decide_eq_false hf
    omega
theorem good_of {v : Int} {l1 : List S56} {l2 : List S61} (h : Cf.code v l1 l2 = 0) : Good v l1 l2 := by
  unfold Cf.code at h
  by_cases h1 : Cf.inB v 0 1000000 = false
  · rw [if_pos h1] at h; exact absurd h (by decide)
  rw [if_neg h1] at h
  by_cases h2 : (decide ((l1.length : Int) > 8) || decide ((l2.length : Int) > 4)) = true
  · rw [if_pos h2] at h; exact absurd h (by decide)
  rw [if_neg h2] at h
  by_cases h3 : Cf.first (Cf.bcode l1) 0 l1.length = 0
  case neg => rw [if_neg h3] at h; exact absurd h h3
  rw [if_pos h3] at h
  have hv := in_le (show Cf.inB v 0 1000000 = true by simpa using h1)
  simp only [Bool.or_eq_true, decide_eq_true_eq, not_or] at h2
  have hb : ∀ i, i < l1.length → OkB (l1.getD i z56) := by
    intro i hi
    have := first_zero _ _ _ h3 i hi
    rw [Nat.zero_add] at this
    unfold Cf.bcode at this
    by_cases c : Cf.isb (l1.getD i z56) = false
    · rw [if_pos c] at this; exact absurd this (by decide)
    · exact okB_of (by simpa using c)
  refine ⟨hv.1, hv.2, by omega, by omega, hb, fun i hi => ?_⟩
  have hc := first_zero _ _ _ h i hi
  rw [Nat.zero_add] at hc
  unfold Cf.vcode at hc
  generalize l2.getD i z61 = x at hc
  by_cases c1 : Cf.vok x = false
  · rw [if_pos c1] at hc; exact absurd hc (by decide)
  rw [if_neg c1] at hc
  by_cases c2 : (decide (0 < i) && !Cf.beh (l2.getD (i - 1) z61) x) = true
  · rw [if_pos c2] at hc; exact absurd hc (by decide)
  rw [if_neg c2] at hc
  by_cases c3 : x.f3.any (Cf.gone l1) = true
  · rw [if_pos c3] at hc; exact absurd hc (by decide)
  rw [if_neg c3] at hc
  by_cases c4 : (List.range x.f3.length).any (Cf.falls x.f3) = true
  · rw [if_pos c4] at hc; exact absurd hc (by decide)
  have hok : Cf.vok x = true := by simpa using c1
  unfold Cf.vok at hok
  simp only [Bool.and_eq_true] at hok
  obtain ⟨⟨k1, k2⟩, k3⟩ := hok
  have := in_le k1; have := in_le k2
  have hpr : x.f2 = 6 ∨ x.f2 = 17 := by unfold Cf.prB at k3; simpa using k3
  have hnm : ∀ n ∈ x.f3, 1 ≤ n ∧ n ≤ 999 := by
    intro n hn
    have hg : Cf.gone l1 n = false := by
      have := List.any_eq_false.1 (by simpa using c3 : x.f3.any (Cf.gone l1) = false) n hn
      simpa using this
    unfold Cf.gone Cf.place at hg
    have hge := of_decide_eq_false hg
    obtain ⟨b, hbm, hbn⟩ := ix_some (Cf.named n) l1 0 (by omega) (by omega)
    obtain ⟨j, hj, rfl⟩ := List.getElem_of_mem hbm
    have hob := hb j hj
    have e : l1.getD j z56 = l1[j] := by simp [List.getD, hj]
    rw [e] at hob
    unfold Cf.named at hbn
    have := eq_of_beq hbn
    have := hob.n0; have := hob.n1
    have h4 := first_zero _ _ _ h3 j hj
    rw [Nat.zero_add] at h4
    unfold Cf.bcode at h4
    by_cases c : Cf.isb (l1.getD j z56) = false
    · rw [if_pos c] at h4; exact absurd h4 (by decide)
    · have c' : Cf.isb (l1.getD j z56) = true := by simpa using c
      rw [e] at c'
      unfold Cf.isb at c'
      simp only [Bool.and_eq_true] at c'
      have := in_le c'.1.1.1
      omega
  have hfl : ∀ j, j < x.f3.length → Cf.falls x.f3 j = false := by
    intro j hj
    have := List.any_eq_false.1 (by simpa using c4 : (List.range x.f3.length).any (Cf.falls x.f3) = false) j (List.mem_range.2 hj)
    simpa using this
  have hlen : x.f3.length ≤ 1000 := by
    by_cases hz : x.f3.length = 0
    · omega
    · have h5 := rises x.f3 hfl hnm (x.f3.length - 1) (by omega)
      have h6 := hnm _ (getD_mem x.f3 0 (x.f3.length - 1) (by omega))
      omega
  exact ⟨by omega, by omega, by omega, by omega, by omega, by omega, hlen, fun n hn => by have := hnm n hn; omega⟩
theorem bl_size (x : S56) (h : OkB x) : (bl x).size ≤ 300 := by
  have h1 := Ct.tx_size x.f0 h.n0 (by have := h.n1; omega)
  have h2 := Ct.tx_size x.f2 h.w0 (by have := h.w1; omega)
  have h3 := adr_size x.f1 h.a0 h.a1
  have h4 := word_size x.f3
  have h5 := ud_size x.f4
  unfold bl
  simp only [Ct.sz, q32, q10, qbk]
  omega
theorem spec_l1 (a : Int) (l1 : List S56) (l2 : List S61) (G : Good a l1 l2) : ∀ (d k i : Nat) (s : ByteArray), i + d = l2.length → d + 2000 < k → s.size + 30000 * d ≤ 10000000 → spec_l5Text.l1 k s (i : Int) a l1 l2 = some (cat vl (l2.drop i) s, a) := by
  intro d
  induction d with
  | zero =>
    intro k i s hi hk hs
    obtain ⟨k, rfl⟩ := at_succ hk
    simp only [spec_l5Text.l1]
    rw [if_neg (by omega), List.drop_eq_nil_of_le (by omega)]
    rfl
  | succ d ih =>
    intro k i s hi hk hs
    obtain ⟨k, rfl⟩ := at_succ hk
    have hn2 := G.n2
    have hx := G.hv i (by omega)
    simp only [spec_l5Text.l1]
    rw [if_pos (by omega), if_pos (by omega), rdV_nat, drop_consG l2 z61 i (by omega)]
    generalize l2.getD i z61 = x at hx
    have z := vl_size x hx
    have z0 := adr_size x.f0 hx.a0 hx.a1
    have z1 := Ct.tx_size x.f1 hx.p0 (by have := hx.p1; omega)
    have z2 := Ct.tx_size x.f2 hx.r0 (by have := hx.r1; omega)
    have hnl := hx.nl
    rw [text_is _ hx.a0 hx.a1 k (by omega), bind_s, if_pos (by omega), if_pos (by simp only [Ct.sz, q46, q32, q10, qbk, qvip, qup, qdn, qve, qves]; omega), digits _ hx.p0 (by have := hx.p1; omega) k (by omega), bind_s, if_pos (by simp only [Ct.sz, q46, q32, q10, qbk, qvip, qup, qdn, qve, qves]; omega), if_pos (by simp only [Ct.sz, q46, q32, q10, qbk, qvip, qup, qdn, qve, qves]; omega), digits _ hx.r0 (by have := hx.r1; omega) k (by omega), bind_s, if_pos (by simp only [Ct.sz, q46, q32, q10, qbk, qvip, qup, qdn, qve, qves]; omega)]
    rw [line_is x.f3 (by omega) (fun n hn => by have := hx.nv n hn; omega) _ (by simp only [Ct.sz, q46, q32, q10, qbk, qvip, qup, qdn, qve, qves]; omega) k (by omega), bind_s]
    show (if s.size + (vl x).size ≤ 9223372036854775807 then spec_l5Text.l1 k (s ++ vl x) (wrap64 ((i : Int) + 1)) a l1 l2 else none) = _
    rw [if_pos (by omega), w64n i (by omega), ih k (i + 1) _ (by omega) (by omega) (by rw [Ct.sz]; omega)]
    rfl
theorem spec_l0 (a : Int) (l1 : List S56) (l2 : List S61) (G : Good a l1 l2) : ∀ (d k i : Nat) (s : ByteArray), i + d = l1.length → d + 3000 < k → s.size + 1000 * d ≤ 1000000 → spec_l5Text.l0 k s (i : Int) a l1 l2 = some (cat vl l2 (cat bl (l1.drop i) s), a) := by
  intro d
  induction d with
  | zero =>
    intro k i s hi hk hs
    obtain ⟨k, rfl⟩ := at_succ hk
    have hn2 := G.n2
    simp only [spec_l5Text.l0]
    rw [if_neg (by omega), List.drop_eq_nil_of_le (by omega)]
    have h := spec_l1 a l1 l2 G l2.length k 0 s (by omega) (by omega) (by omega)
    rw [List.drop_zero] at h
    exact h
  | succ d ih =>
    intro k i s hi hk hs
    obtain ⟨k, rfl⟩ := at_succ hk
    have hn1 := G.n1
    have hx := G.hb i (by omega)
    simp only [spec_l5Text.l0]
    rw [if_pos (by omega), if_pos (by omega), rdB_nat, drop_consG l1 z56 i (by omega)]
    generalize l1.getD i z56 = x at hx
    have z := bl_size x hx
    have z0 := adr_size x.f1 hx.a0 hx.a1
    have z1 := Ct.tx_size x.f0 hx.n0 (by have := hx.n1; omega)
    have z2 := Ct.tx_size x.f2 hx.w0 (by have := hx.w1; omega)
    have z3 := word_size x.f3
    have hs0 := hx.s0
    have hs1 := hx.s1
    by_cases hu : x.f4 = true
    · rw [if_pos hu, if_pos (by omega), digits _ hx.n0 (by have := hx.n1; omega) k (by omega), bind_s, if_pos (by simp only [Ct.sz, q46, q32, q10, qbk, qvip, qup, qdn, qve, qves]; omega), if_pos (by simp only [Ct.sz, q46, q32, q10, qbk, qvip, qup, qdn, qve, qves]; omega), text_is _ hx.a0 hx.a1 k (by omega), bind_s, if_pos (by simp only [Ct.sz, q46, q32, q10, qbk, qvip, qup, qdn, qve, qves]; omega), if_pos (by simp only [Ct.sz, q46, q32, q10, qbk, qvip, qup, qdn, qve, qves]; omega), digits _ hx.w0 (by have := hx.w1; omega) k (by omega), bind_s, if_pos (by simp only [Ct.sz, q46, q32, q10, qbk, qvip, qup, qdn, qve, qves]; omega), if_pos (by simp only [Ct.sz, q46, q32, q10, qbk, qvip, qup, qdn, qve, qves]; omega)]
      rw [bind_s, if_pos (by omega), if_pos (by simp; omega), stage_rd _ hs0 hs1, if_pos (by simp only [Ct.sz, q46, q32, q10, qbk, qvip, qup, qdn, qve, qves]; omega), if_pos (by simp only [Ct.sz, q46, q32, q10, qbk, qvip, qup, qdn, qve, qves]; omega), if_pos (by simp only [Ct.sz, q46, q32, q10, qbk, qvip, qup, qdn, qve, qves]; omega), if_pos (by simp only [Ct.sz, q46, q32, q10, qbk, qvip, qup, qdn, qve, qves]; omega)]
      have e : ((((((((((((s ++ (⟨#[98, 97, 99, 107, 101, 110, 100, 32]⟩ : ByteArray)) ++ Ct.tx x.f0) ++ (⟨#[32]⟩ : ByteArray)) ++ adr x.f1) ++ (⟨#[32]⟩ : ByteArray)) ++ Ct.tx x.f2) ++ (⟨#[32]⟩ : ByteArray)) ++ wordOf x.f3) ++ (⟨#[32]⟩ : ByteArray)) ++ (⟨#[117, 112]⟩ : ByteArray)) ++ (⟨#[10]⟩ : ByteArray))) = s ++ bl x := by
        unfold bl ud
        rw [if_pos hu]
        simp only [cb_assoc]
      rw [e, w64n i (by omega), ih k (i + 1) _ (by omega) (by omega) (by rw [Ct.sz]; omega)]
      rfl
    · rw [if_neg hu, if_pos (by omega), digits _ hx.n0 (by have := hx.n1; omega) k (by omega), bind_s, if_pos (by simp only [Ct.sz, q46, q32, q10, qbk, qvip, qup, qdn, qve, qves]; omega), if_pos (by simp only [Ct.sz, q46, q32, q10, qbk, qvip, qup, qdn, qve, qves]; omega), text_is _ hx.a0 hx.a1 k (by omega), bind_s, if_pos (by simp only [Ct.sz, q46, q32, q10, qbk, qvip, qup, qdn, qve, qves]; omega), if_pos (by simp only [Ct.sz, q46, q32, q10, qbk, qvip, qup, qdn, qve, qves]; omega), digits _ hx.w0 (by have := hx.w1; omega) k (by omega), bind_s, if_pos (by simp only [Ct.sz, q46, q32, q10, qbk, qvip, qup, qdn, qve, qves]; omega), if_pos (by simp only [Ct.sz, q46, q32, q10, qbk, qvip, qup, qdn, qve, qves]; omega)]
      rw [bind_s, if_pos (by omega), if_pos (by simp; omega), stage_rd _ hs0 hs1, if_pos (by simp only [Ct.sz, q46, q32, q10, qbk, qvip, qup, qdn, qve, qves]; omega), if_pos (by simp only [Ct.sz, q46, q32, q10, qbk, qvip, qup, qdn, qve, qves]; omega), if_pos (by simp only [Ct.sz, q46, q32, q10, qbk, qvip, qup, qdn, qve, qves]; omega), if_pos (by simp only [Ct.sz, q46, q32, q10, qbk, qvip, qup, qdn, qve, qves]; omega)]
      have e : ((((((((((((s ++ (⟨#[98, 97, 99, 107, 101, 110, 100, 32]⟩ : ByteArray)) ++ Ct.tx x.f0) ++ (⟨#[32]⟩ : ByteArray)) ++ adr x.f1) ++ (⟨#[32]⟩ : ByteArray)) ++ Ct.tx x.f2) ++ (⟨#[32]⟩ : ByteArray)) ++ wordOf x.f3) ++ (⟨#[32]⟩ : ByteArray)) ++ (⟨#[100, 111, 119, 110]⟩ : ByteArray)) ++ (⟨#[10]⟩ : ByteArray))) = s ++ bl x := by
        unfold bl ud
        rw [if_neg hu]
        simp only [cb_assoc]
      rw [e, w64n i (by omega), ih k (i + 1) _ (by omega) (by omega) (by rw [Ct.sz]; omega)]
      rfl
theorem spec_text (a : Int) (l1 : List S56) (l2 : List S61) (G : Good a l1 l2) (k : Nat) (hk : 5000 ≤ k) : spec_l5Text.f k a l1 l2 = some (ctext a l1 l2, a) := by
  have hn1 := G.n1
  have hv0 := G.v0
  have hv1 := G.v1
  have z := Ct.tx_size a hv0 (by omega)
  unfold spec_l5Text.f
  rw [line_is [a] (by simp) (by simp; omega) _ (by simp only [Ct.sz, q46, q32, q10, qbk, qvip, qup, qdn, qve, qves]; omega) k (by simp; omega), bind_s]
  have e : ln (⟨#[118, 101, 114, 115, 105, 111, 110]⟩ : ByteArray) [a] = (⟨#[118, 101, 114, 115, 105, 111, 110, 32]⟩ : ByteArray) ++ Ct.tx a := by
    show ((⟨#[118, 101, 114, 115, 105, 111, 110]⟩ : ByteArray) ++ (⟨#[32]⟩ : ByteArray)) ++ Ct.tx a = _
    rw [show ((⟨#[118, 101, 114, 115, 105, 111, 110]⟩ : ByteArray) ++ (⟨#[32]⟩ : ByteArray)) = (⟨#[118, 101, 114, 115, 105, 111, 110, 32]⟩ : ByteArray) from by apply ByteArray.ext; simp [ByteArray.data_append]]
  rw [e]
  have h := spec_l0 a l1 l2 G l1.length k 0 (((⟨#[118, 101, 114, 115, 105, 111, 110, 32]⟩ : ByteArray) ++ Ct.tx a) ++ ⟨#[10]⟩) (by omega) (by omega) (by simp only [Ct.sz, q46, q32, q10, qbk, qvip, qup, qdn, qve, qves]; omega)
  rw [List.drop_zero] at h
  exact h
theorem impl_l1 (a : Int) (l1 : List S56) (l2 : List S61) (G : Good a l1 l2) : ∀ (d k i : Nat) (s : ByteArray), i + d = l2.length → d < k → s.size + 30000 * d ≤ 10000000 → impl_configText.l1 k s l2 (l2.length : Int) (i : Int) = some (cat vl (l2.drop i) s) := by
  intro d
  induction d with
  | zero =>
    intro k i s hi hk hs
    obtain ⟨k, rfl⟩ := at_succ hk
    simp only [impl_configText.l1]
    rw [if_neg (by omega), List.drop_eq_nil_of_le (by omega)]
    rfl
  | succ d ih =>
    intro k i s hi hk hs
    obtain ⟨k, rfl⟩ := at_succ hk
    have hn2 := G.n2
    have hx := G.hv i (by omega)
    simp only [impl_configText.l1]
    rw [if_pos (by omega), if_pos (by omega), if_pos (by omega), rdV_nat, drop_consG l2 z61 i (by omega)]
    generalize l2.getD i z61 = x at hx
    have z := vl_size x hx
    have z0 := adr_size x.f0 hx.a0 hx.a1
    have z1 := Ct.tx_size x.f1 hx.p0 (by have := hx.p1; omega)
    have z2 := Ct.tx_size x.f2 hx.r0 (by have := hx.r1; omega)
    have hnl := hx.nl
    have hall : ∀ y ∈ [x.f1, x.f2] ++ x.f3, 0 ≤ y ∧ y ≤ 4294967295 := by
      intro y hy
      simp only [List.cons_append, List.nil_append, List.mem_cons] at hy
      have := hx.p0; have := hx.p1; have := hx.r0; have := hx.r1
      rcases hy with rfl | rfl | hy
      · omega
      · omega
      · have := hx.nv y hy; omega
    have hd : impl_decimals.f (⟨#[32]⟩ : ByteArray) ([x.f1, x.f2] ++ x.f3) = some (Ct.dj ⟨#[32]⟩ ([x.f1, x.f2] ++ x.f3) ([x.f1, x.f2] ++ x.f3).length) := by
      unfold impl_decimals.f
      rw [if_pos ⟨by decide, by simp; omega, hall⟩]
    have hz := Ct.dj_size ⟨#[32]⟩ ([x.f1, x.f2] ++ x.f3) (by decide) hall ([x.f1, x.f2] ++ x.f3).length (Nat.le_refl _)
    have hzl : ([x.f1, x.f2] ++ x.f3).length = x.f3.length + 2 := by simp
    have ev : (((((⟨#[118, 105, 112, 32]⟩ : ByteArray) ++ adr x.f0) ++ (⟨#[32]⟩ : ByteArray)) ++ Ct.dj ⟨#[32]⟩ ([x.f1, x.f2] ++ x.f3) ([x.f1, x.f2] ++ x.f3).length) ++ (⟨#[10]⟩ : ByteArray)) = vl x := by
      have := dj_ln x.f1 x.f2 x.f3 (((⟨#[118, 105, 112, 32]⟩ : ByteArray) ++ adr x.f0) ++ (⟨#[32]⟩ : ByteArray)) x.f3.length (Nat.le_refl _)
      rw [List.take_length] at this
      rw [hzl]
      unfold vl
      rw [← this]
      rfl
    rw [address_is _ hx.a0 hx.a1, bind_s, if_pos (by omega), if_pos (by simp only [Ct.sz, q46, q32, q10, qbk, qvip, qup, qdn, qve, qves]; omega), bind_s, if_pos (by simp only [List.length_cons, List.length_nil]; omega), hd, bind_s]
    rw [hzl] at hz
    rw [if_pos (by rw [hzl]; simp only [Ct.sz, q46, q32, q10, qbk, qvip, qup, qdn, qve, qves]; omega), if_pos (by rw [hzl]; simp only [Ct.sz, q46, q32, q10, qbk, qvip, qup, qdn, qve, qves]; omega), ev, if_pos (by omega), w64n i (by omega), ih k (i + 1) _ (by omega) (by omega) (by rw [Ct.sz]; omega)]
    rfl
theorem impl_l0 (a : Int) (l1 : List S56) (l2 : List S61) (G : Good a l1 l2) : ∀ (d k i : Nat) (s : ByteArray), i + d = l1.length → d + 3000 < k → s.size + 1000 * d ≤ 1000000 → impl_configText.l0 k s l1 (l1.length : Int) (i : Int) a l1 l2 = some (cat vl l2 (cat bl (l1.drop i) s)) := by
  intro d
  induction d with
  | zero =>
    intro k i s hi hk hs
    obtain ⟨k, rfl⟩ := at_succ hk
    have hn2 := G.n2
    simp only [impl_configText.l0]
    rw [if_neg (by omega), List.drop_eq_nil_of_le (by omega)]
    have h := impl_l1 a l1 l2 G l2.length k 0 s (by omega) (by omega) (by omega)
    rw [List.drop_zero] at h
    exact h
  | succ d ih =>
    intro k i s hi hk hs
    obtain ⟨k, rfl⟩ := at_succ hk
    have hn1 := G.n1
    have hx := G.hb i (by omega)
    simp only [impl_configText.l0]
    rw [if_pos (by omega), if_pos (by omega), if_pos (by omega), rdB_nat, drop_consG l1 z56 i (by omega)]
    generalize l1.getD i z56 = x at hx
    have z := bl_size x hx
    have z0 := adr_size x.f1 hx.a0 hx.a1
    have z1 := Ct.tx_size x.f0 hx.n0 (by have := hx.n1; omega)
    have z2 := Ct.tx_size x.f2 hx.w0 (by have := hx.w1; omega)
    have z3 := word_size x.f3
    have z4 := ud_size x.f4
    rw [stage_is _ hx.s0 hx.s1, bind_s, dec_is _ hx.n0 (by have := hx.n1; omega), bind_s, if_pos (by omega), if_pos (by simp only [Ct.sz, q46, q32, q10, qbk, qvip, qup, qdn, qve, qves]; omega), address_is _ hx.a0 hx.a1, bind_s, if_pos (by simp only [Ct.sz, q46, q32, q10, qbk, qvip, qup, qdn, qve, qves]; omega), if_pos (by simp only [Ct.sz, q46, q32, q10, qbk, qvip, qup, qdn, qve, qves]; omega), dec_is _ hx.w0 (by have := hx.w1; omega), bind_s, if_pos (by simp only [Ct.sz, q46, q32, q10, qbk, qvip, qup, qdn, qve, qves]; omega), if_pos (by simp only [Ct.sz, q46, q32, q10, qbk, qvip, qup, qdn, qve, qves]; omega), if_pos (by simp only [Ct.sz, q46, q32, q10, qbk, qvip, qup, qdn, qve, qves]; omega), if_pos (by simp only [Ct.sz, q46, q32, q10, qbk, qvip, qup, qdn, qve, qves]; omega), chosen_is, bind_s, if_pos (by simp only [Ct.sz, q46, q32, q10, qbk, qvip, qup, qdn, qve, qves]; omega), if_pos (by simp only [Ct.sz, q46, q32, q10, qbk, qvip, qup, qdn, qve, qves]; omega)]
    show (if s.size + (bl x).size ≤ 9223372036854775807 then impl_configText.l0 k (s ++ bl x) l1 (l1.length : Int) (wrap64 ((i : Int) + 1)) a l1 l2 else none) = _
    rw [if_pos (by omega), w64n i (by omega), ih k (i + 1) _ (by omega) (by omega) (by rw [Ct.sz]; omega)]
    rfl
theorem impl_text (a : Int) (l1 : List S56) (l2 : List S61) (G : Good a l1 l2) (k : Nat) (hk : 5000 ≤ k) : impl_configText.f k a l1 l2 = some (ctext a l1 l2) := by
  have hn1 := G.n1
  have hv0 := G.v0
  have hv1 := G.v1
  have z := Ct.tx_size a hv0 (by omega)
  unfold impl_configText.f
  rw [dec_is _ hv0 (by omega), bind_s, if_pos (by omega), if_pos (by simp only [Ct.sz, q46, q32, q10, qbk, qvip, qup, qdn, qve, qves]; omega)]
  have h := impl_l0 a l1 l2 G l1.length k 0 (((⟨#[118, 101, 114, 115, 105, 111, 110, 32]⟩ : ByteArray) ++ Ct.tx a) ++ ⟨#[10]⟩) (by omega) (by omega) (by simp only [Ct.sz, q46, q32, q10, qbk, qvip, qup, qdn, qve, qves]; omega)
  rw [List.drop_zero] at h
  exact h
theorem eqTextResult_self (c : Int) (t : ByteArray) : laws_eqTextResult.f c t c t = some true := by
  unfold laws_eqTextResult.f
  rw [if_pos rfl, if_pos rfl]
theorem FnExactConfigText : SFnExactConfigText.Pure := by
  intro a l1 l2 _ hl1 _ hl2 hq2
  obtain ⟨K, hK⟩ : ∃ K : Nat, 5000000 ≤ K := ⟨_, Nat.le_refl _⟩
  refine ⟨K, ?_⟩
  unfold laws_FnExactConfigText.f
  obtain ⟨v, e1, v1, hv⟩ := szConfig_is a l1 l2 1048576 (by omega) (by omega) hl1 hl2 (fun y hy => (hq2 y hy).2.2.2.1) K (by omega)
  rw [e1, bind_s]
  rcases hv with hv | ⟨hv, n1, n2, n3⟩
  · rw [if_pos hv]
  · rw [if_neg (by omega), toConfig_is a l1 l2 n1 n2 n3 K (by omega), bind_s]
    have hE := eqConfig_self a (l1.map cvB) (l2.map cvV) (by rw [List.length_map]; exact n1) (by rw [List.length_map]; exact n2) (cvV_len n3) K (by omega)
    show ((spec_ConfigText.f a (l1.map cvB) (l2.map cvV)).bind _) = _
    unfold spec_ConfigText.f
    generalize l1.map cvB = L1 at hE ⊢
    generalize l2.map cvV = L2 at hE ⊢
    by_cases hc : Cf.code a L1 L2 = 0
    · have hi : impl_ConfigText.f K a L1 L2 = some (0, ctext a L1 L2) := by
        unfold impl_ConfigText.f impl_ConfigFault.f
        rw [bind_s, if_pos hc, impl_text a L1 L2 (good_of hc) K (by omega), bind_s]
      rw [if_pos hc, spec_text a L1 L2 (good_of hc) Ct.big (by unfold Ct.big; omega), bind_s, bind_s, bind_s]
      simp only [hi, bind_s, eqTextResult_self, if_true, hE]
    · have hi : impl_ConfigText.f K a L1 L2 = some (Cf.code a L1 L2, ⟨#[]⟩) := by
        unfold impl_ConfigText.f impl_ConfigFault.f
        rw [bind_s, if_neg hc]
      rw [if_neg hc, bind_s, bind_s]
      simp only [hi, bind_s, eqTextResult_self, if_true, hE]
end Go.Proofs.YtfmlhpoaipeoeaaDoor.Pure
