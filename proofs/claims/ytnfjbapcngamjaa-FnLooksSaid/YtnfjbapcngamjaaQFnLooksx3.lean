-- MADE BY PROGRAM (qprint.py): walks of the functions that the law FnLooks reaches. Lean checks it.
import Derived.Test.YtnfjbapcngamjaaQFnLooksx0
import Derived.Test.YtnfjbapcngamjaaQFnLooksx1
import Derived.Test.YtnfjbapcngamjaaIx
import Derived.Test.YtnfjbapcngamjaaQFnLooksx2
namespace Go.Proofs.Ytnfjbapcngamjaa.QFnLooks
open Go.RowKit Go.Proofs.YtnfjbapcngamjaaW.PrintWords Go.Proofs.YtnfjbapcngamjaaW.PrintLast Go.Proofs.YtnfjbapcngamjaaW.PrintMore
attribute [local go_sem] max2_int min2_int max_two min_two max_three min_three max_four min_four   -- for this text's walks alone
set_option linter.unusedVariables false
set_option linter.unusedSimpArgs false

/-! ### impl_WithoutShare: function 15 -/
def impl_WithoutShare.f (k : Nat) (l0 : List (S53)) (a1 : Int) : Option (Int × (List (S53))) := (impl_SharesFault.f k l0).bind fun t => (if t = 0 then ((impl_Share_43.f l0).bind fun y => ((impl_Share_42.f k y a1).bind fun z => (if (z.length : Int) = (l0.length : Int) then (some (4, ([] : List S53))) else (some (0, z))))) else (some (t, ([] : List S53))))
theorem impl_WithoutShare.mono : ∀ a0 a1 k, LeO (impl_WithoutShare.f k a0 a1) (impl_WithoutShare.f (k + 1) a0 a1) := by
  intro a0 a1 k
  unfold impl_WithoutShare.f
  repeat' first
      | (with_reducible exact impl_SharesFault.mono _ _)
      | (with_reducible exact impl_Share_42.mono _ _ _)
      | (with_reducible exact LeO.refl _)
      | (with_reducible refine LeO.ite ?_ ?_)
      | (with_reducible refine LeO.bind ?_ (fun _ => ?_))
set_option maxHeartbeats 8000000 in
set_option maxRecDepth 100000 in
theorem impl_WithoutShare.calls (k : Nat) (A0 : Option Addr) (c0 : Nat) (l0 : List (S53)) (a1 : Int) (r1 : Int) (r2 : List (S53)) (w : World) (hr0 : Kd.C k53 w A0 l0.length l0) (hc0 : l0.length ≤ c0) (h : impl_WithoutShare.f k l0 a1 = some (r1, r2)) :
    Calls Try.prog 15 #[.slice A0 l0.length c0, .int .i64 a1] w fun e w' => ∃ v1_ : Value, e = .returned (.agg #[.int .i64 r1, v1_]) ∧ Kd.R k53 53 w' w.heap.size (fun _ => True) v1_ r2 ∧ Below w.heap.size w w' := by
  have hu30 := Try.underlying30
  have hu53 := Try.underlying53
  have H : ((impl_SharesFault.f k l0).bind fun t => (if t = 0 then ((impl_Share_43.f l0).bind fun y => ((impl_Share_42.f k y a1).bind fun z => (if (z.length : Int) = (l0.length : Int) then (some (4, ([] : List S53))) else (some (0, z))))) else (some (t, ([] : List S53))))) = some (r1, r2) := h
  clear h
  obtain ⟨t, A2, H⟩ := Option.bind_eq_some_iff.mp H
  obtain ⟨w1, hw1⟩ : ∃ W, W = (w.alloc (.cells #[.int .i64 a1] 2)).alloc (.cells #[.int .i64 0, .slice none 0 0] 30) := ⟨_, rfl⟩
  have hs1 : w1.heap.size = w.heap.size + 2 := by rw [hw1]; simp
  have hB1 : Below w.heap.size w w1 := by rw [hw1]; exact (((Below.refl _ w).alloc (Nat.le_refl _) _).alloc (by simp) _)
  have hbx1 : w1.cell? ⟨w.heap.size, 0, none⟩ = some (.int .i64 a1) := by rw [hw1]; exact Lib.cell?_alloc_some _ (by simp)
  have bk1 : w1.heap[w.heap.size + 1]? = some (.cells #[.int .i64 0, .slice none 0 0] 30 (0, 0)) := by
    rw [hw1]
    have h_ := heap_alloc_new (w.alloc (.cells #[.int .i64 a1] 2)) (.cells #[.int .i64 0, .slice none 0 0] 30)
    rwa [World.size_alloc] at h_
  have hr1 : Kd.C k53 w1 A0 l0.length l0 := Kd.C_below hr0 hB1
  have hcall := impl_SharesFault.calls k A0 c0 l0 t w1 hr1 hc0 A2
  rw [hw1] at hcall
  have goB : ∀ (W W' : World) (n : Nat), Below n W W' → w.heap.size ≤ n → Below w.heap.size w W → Below w.heap.size w W' := fun W W' n h hn hW => hW.trans (h.mono hn)
  go_enter Try.func15, Try.ntmps15
  by_cases ht : t = 0
  · rw [if_pos ht] at H
    subst ht
    obtain ⟨y, A3, H⟩ := Option.bind_eq_some_iff.mp H
    obtain ⟨z, A4, H⟩ := Option.bind_eq_some_iff.mp H
    have hclone := fun (W : World) (hb : Below w1.heap.size w1 W) => impl_Share_43.calls A0 c0 l0 y W (Kd.C_below hr1 hb) hc0 A3
    have hdel := fun (W2 W3 : World) (v : Value) (h2 : Below w1.heap.size w1 W2) (h3 : Below W2.heap.size W2 W3) (hR : Kd.R k53 53 W3 W2.heap.size (fun _ => True) v y) =>
      impl_Share_42.calls k (fun _ => True) v y a1 z w.heap.size W2 W3 (by have := h2.size; omega) ((h2.cell (p := ⟨w.heap.size, 0, none⟩) (by show w.heap.size < w1.heap.size; omega)).trans hbx1) h3 hR A4
    by_cases hz : (z.length : Int) = (l0.length : Int)
    · rw [if_pos hz] at H
      obtain ⟨rfl, rfl⟩ : (4 : Int) = r1 ∧ [] = r2 := by simpa using H
      have hz1 : ((z.length : Int) == (l0.length : Int)) = true := beq_iff_eq.mpr hz
      go_wp2_with (first
        | (go_at_call 12; refine hcall.mono ?_; rintro e w2 ⟨rfl, hb2⟩; rw [← hw1] at hb2; clear hcall)
        | (go_at_call 43; refine (hclone _ hb2).mono ?_; rintro e w3 ⟨v3, rfl, hR3, hb3⟩)
        | (go_at_call 42; refine (hdel _ _ _ hb2 hb3 hR3).mono ?_; rintro e w4 ⟨v4, rfl, hR4, hb4, hk4⟩; obtain ⟨A5, c5, rfl⟩ := Kd.R_slice hR4; have bk4 := blk_below (blk_below bk1 hb2) (hb4.mono (by show _ ≤ _; exact Nat.le_refl _)); have hcz0 := blk_cell bk4 0; have hcz1 := blk_cell bk4 1; have hfz0 := blk_frozen bk4 0; have hfz1 := blk_frozen bk4 1))
      refine bodyPost_ret (results_cell_row rfl _ _ (w.heap.size + 1) 30 #[.int .i64 4, .slice none 0 0] (0, 0) _ rfl (by refine blk_put (cs := #[.int .i64 4, .slice none 0 0]) ?_ 1 _ rfl; refine blk_put (cs := #[.int .i64 0, .slice none 0 0]) ?_ 0 _ rfl; exact bk4) Try.underlying30 rfl (by kernel_rfl)) rfl ?_
      exact ⟨_, rfl, Kd.R_nil _ _ _ _ _, below_set (below_set (goB _ _ _ hb4 (by have := hb2.size; omega) (goB _ _ _ hb2 (by omega) hB1)) (by omega)) (by omega)⟩
    · rw [if_neg hz] at H
      obtain ⟨rfl, rfl⟩ : (0 : Int) = r1 ∧ z = r2 := by simpa using H
      have hz1 : ((z.length : Int) == (l0.length : Int)) = false := beq_eq_false_iff_ne.mpr hz
      go_wp2_with (first
        | (go_at_call 12; refine hcall.mono ?_; rintro e w2 ⟨rfl, hb2⟩; rw [← hw1] at hb2; clear hcall)
        | (go_at_call 43; refine (hclone _ hb2).mono ?_; rintro e w3 ⟨v3, rfl, hR3, hb3⟩)
        | (go_at_call 42; refine (hdel _ _ _ hb2 hb3 hR3).mono ?_; rintro e w4 ⟨v4, rfl, hR4, hb4, hk4⟩; obtain ⟨A5, c5, rfl⟩ := Kd.R_slice hR4; have bk4 := blk_below (blk_below bk1 hb2) (hb4.mono (by show _ ≤ _; exact Nat.le_refl _)); have hcz0 := blk_cell bk4 0; have hcz1 := blk_cell bk4 1; have hfz0 := blk_frozen bk4 0; have hfz1 := blk_frozen bk4 1))
      refine bodyPost_ret (results_cell_row rfl _ _ (w.heap.size + 1) 30 #[.int .i64 0, .slice A5 z.length c5] (0, 0) _ rfl (by refine blk_put (cs := #[.int .i64 0, .slice none 0 0]) ?_ 1 _ rfl; refine blk_put (cs := #[.int .i64 0, .slice none 0 0]) ?_ 0 _ rfl; exact bk4) Try.underlying30 rfl (by kernel_rfl)) rfl ?_
      refine ⟨_, rfl, ?_, below_set (below_set (goB _ _ _ hb4 (by have := hb2.size; omega) (goB _ _ _ hb2 (by omega) hB1)) (by omega)) (by omega)⟩
      have hs2 := hb2.size
      exact Kd.R_lower (Kd.R_mono (Kd.R_far (p := ⟨w.heap.size + 1, 1, none⟩) (Kd.R_far (p := ⟨w.heap.size + 1, 0, none⟩) (Kd.R_bound hR4) (fun k_ hk => by show k_ ≠ w.heap.size + 1; have := hk.2.1; omega) _) (fun k_ hk => by show k_ ≠ w.heap.size + 1; have := hk.2.1; omega) _) (fun _ _ => trivial)) (by omega)
  · rw [if_neg ht] at H
    obtain ⟨rfl, rfl⟩ : t = r1 ∧ [] = r2 := by simpa using H
    have ht1 : (t != 0) = true := bne_iff_ne.mpr ht
    go_wp2_with (go_at_call 12; refine hcall.mono ?_; rintro e w2 ⟨rfl, hb2⟩; rw [← hw1] at hb2; have bk2 := blk_below bk1 hb2; have hcz0 := blk_cell bk2 0; have hcz1 := blk_cell bk2 1; have hfz0 := blk_frozen bk2 0; have hfz1 := blk_frozen bk2 1)
    refine bodyPost_ret (results_cell_row rfl _ _ (w.heap.size + 1) 30 #[.int .i64 t, .slice none 0 0] (0, 0) _ rfl (by refine blk_put (cs := #[.int .i64 t, .slice none 0 0]) ?_ 1 _ rfl; refine blk_put (cs := #[.int .i64 0, .slice none 0 0]) ?_ 0 _ rfl; exact bk2) Try.underlying30 rfl (by kernel_rfl)) rfl ?_
    exact ⟨_, rfl, Kd.R_nil _ _ _ _ _, below_set (below_set (goB _ _ _ hb2 (by omega) hB1) (by omega)) (by omega)⟩

/-! ### impl_Share_60: function 60 -/
set_option maxHeartbeats 2000000 in
/-- slices.IndexFunc over such a slice, whatever the function value, if it says p of each element and turns nothing that lay. -/
theorem impl_Share_60.ix_calls (p : S53 → Bool) (g : Nat) (lb : Array Value) (eg : ∀ args w, (callFunc g args).run Try.prog w = .ok (.enter g args) w) (A0 : Option Addr) (c0 : Nat) (l0 : List (S53)) (w : World) (hr0 : Kd.C k53 w A0 l0.length l0) (hc0 : l0.length ≤ c0)
    (hp : ∀ (W : World) (x : S53), Below w.heap.size w W → Calls Try.prog g (#[.agg #[.int .i64 x.f0, .int .i64 x.f1]] ++ lb) W fun e w' => e = .returned (.bool (p x)) ∧ Below w.heap.size w w') :
    Calls Try.prog 57 #[.slice A0 l0.length c0, .func (.func g) #[] lb] w fun e w' => e = .returned (.int .i64 (Go.Proofs.Ytnfjbapcngamjaa.Ix.ixFrom p l0 0)) ∧ Below w.heap.size w w' := by
  have hbig : l0.length ≤ 9223372036854775807 := by have := hr0.2.1; have hs : (k53).sz = 2 := rfl; (try simp only [maxLen] at this); (try rw [hs] at this); omega
  go_enter Try.func57, Try.ntmps57
  go_wp2
  go_loopg [5, 8] l0.length (fun gg _ s8 wr => ∃ kk : Nat, kk ≤ l0.length ∧ l0.length - kk ≤ gg ∧ s8 = .int .i64 kk ∧ Aside (Below w.heap.size w wr) ∧ Aside (∀ j, j < kk → p (l0.getD j z53) = false))
  case atStart => exact ⟨0, Nat.zero_le _, by omega, rfl, Below.refl _ w, fun j hj => absurd hj (Nat.not_lt_zero _)⟩
  case round =>
    obtain ⟨kk, hkk, hg, rfl, BW, AA⟩ := hrel
    by_cases hlt : kk < l0.length
    · have hltz : (kk : Int) < (l0.length : Int) := by omega
      obtain ⟨ad, eA, hx_0, hx_1⟩ := at_T53 (Kd.C_below hr0 BW.out) (kk : Int) (by omega) hltz
      cases eA
      have hcall := hp wr (rd_T53 l0 (kk : Int)) BW.out
      have hy : l0.getD kk z53 = rd_T53 l0 (kk : Int) := rfl
      generalize rd_T53 l0 (kk : Int) = y at hx_0 hx_1 hcall hy
      have B : Aside (l0.getD kk z53 = y) := hy
      clear hy hp
      simp only [Int.toNat_natCast] at hx_0 hx_1
      cases hq : p y with
      | true =>
        rw [hq] at hcall
        go_wp2_with (go_at_fn g; refine hcall.mono ?_; rintro e w' ⟨rfl, hb'⟩)
        go_ret
        refine ⟨?_, hb'⟩
        rw [Go.Proofs.Ytnfjbapcngamjaa.Ix.ixFrom_hit p z53 l0 0 kk hlt (by rw [B.out]; exact hq) AA.out]
        simp
      | false =>
        rw [hq] at hcall
        go_wp2_with (go_at_fn g; refine hcall.mono ?_; rintro e w' ⟨rfl, hb'⟩)
        go_roundg (l0.length - (kk + 1))
        case measure => omega
        case rel =>
          refine ⟨kk + 1, by omega, by omega, by go_num, hb', (show Aside _ from fun j hj => ?_)⟩
          by_cases e : j = kk
          · subst e
            rw [B.out]; exact hq
          · exact AA.out j (by omega)
    · have hltz : ¬ (kk : Int) < (l0.length : Int) := by omega
      have : kk = l0.length := by omega
      subst this
      go_wp2
      go_ret
      refine ⟨?_, BW.out⟩
      rw [Go.Proofs.Ytnfjbapcngamjaa.Ix.ixFrom_miss p z53 l0 0 AA.out]
      rfl
set_option maxHeartbeats 2000000 in
/-- slices.ContainsFunc over such a slice. -/
theorem impl_Share_60.has_calls (p : S53 → Bool) (g : Nat) (lb : Array Value) (eg : ∀ args w, (callFunc g args).run Try.prog w = .ok (.enter g args) w) (A0 : Option Addr) (c0 : Nat) (l0 : List (S53)) (w : World) (hr0 : Kd.C k53 w A0 l0.length l0) (hc0 : l0.length ≤ c0)
    (hp : ∀ (W : World) (x : S53), Below w.heap.size w W → Calls Try.prog g (#[.agg #[.int .i64 x.f0, .int .i64 x.f1]] ++ lb) W fun e w' => e = .returned (.bool (p x)) ∧ Below w.heap.size w w') :
    Calls Try.prog 60 #[.slice A0 l0.length c0, .func (.func g) #[] lb] w fun e w' => e = .returned (.bool (l0.any p)) ∧ Below w.heap.size w w' := by
  rw [← Go.Proofs.Ytnfjbapcngamjaa.Ix.ixFrom_ge p l0 0 (by omega)]
  have hcon := impl_Share_60.ix_calls p g lb eg A0 c0 l0 w hr0 hc0 hp
  clear hp
  go_enter Try.func60, Try.ntmps60
  go_wp2_with (go_at_call 57; refine hcon.mono ?_; rintro e w' ⟨rfl, hb'⟩)
  go_ret
  exact ⟨rfl, hb'⟩
def impl_Share_60.f (l0 : List (S53)) : Option (Bool) := some (l0.any fun s => decide (0 < s.f1))
set_option maxHeartbeats 2000000 in
theorem impl_Share_60.calls (A0 : Option Addr) (c0 : Nat) (l0 : List (S53)) (r : Bool) (w : World) (hr0 : Kd.C k53 w A0 l0.length l0) (hc0 : l0.length ≤ c0) (h : impl_Share_60.f l0 = some r) :
    Calls Try.prog 60 #[.slice A0 l0.length c0, .func (.func 61) #[] #[]] w fun e w' => e = .returned (.bool r) ∧ Below w.heap.size w w' := by
  obtain rfl := Option.some.inj h
  refine impl_Share_60.has_calls (fun s => decide (0 < s.f1)) 61 #[] (enters_of Try.func61 (by kernel_rfl) rfl) A0 c0 l0 w hr0 hc0 (fun W x hb => ?_)
  show Calls Try.prog 61 #[.agg #[.int .i64 x.f0, .int .i64 x.f1]] W _
  go_enter Try.func61, Try.ntmps61
  go_wp2
  all_goals (go_ret; exact ⟨by first | rfl | simp_all, hb.alloc hb.size _⟩)

/-! ### impl_rest: function 72 -/
def impl_rest.f (a0 : Int) (a1 : Int) : Option (Int) := if a1 = 0 then (none) else (some (Int.tmod (wrap64 ((Int.tmod a0 a1) + a1)) a1))
set_option maxHeartbeats 8000000 in
set_option maxRecDepth 100000 in
theorem impl_rest.calls (a0 : Int) (a1 : Int) (r : Int) (w : World) (h : impl_rest.f a0 a1 = some r) :
    Calls Try.prog 72 #[.int .i64 a0, .int .i64 a1] w fun e w' => e = .returned (.int .i64 r) ∧ Drawn0 w w' := by
  have H : (if a1 = 0 then (none) else (some (Int.tmod (wrap64 ((Int.tmod a0 a1) + a1)) a1))) = some r := h
  clear h
  by_cases c3 : a1 = 0
  · rw [if_pos c3] at H
    exact absurd H (by simp)
  · rw [if_neg c3] at H
    have c3b0 : (a1 == 0) = false := beq_eq_false_iff_ne.mpr c3
    have c3b1 : (a1 != 0) = true := bne_iff_ne.mpr c3
    obtain rfl := Option.some.inj H
    go_enter Try.func72, Try.ntmps72
    go_wp2
    go_ret
    exact ⟨by first | rfl | (simp; done) | (simp [*]; done), by repeat (first | exact Drawn0.refl _ | apply Drawn0.step)⟩

/-! ### impl_MixNumber: function 70 -/
def impl_MixNumber.l0 : Nat → Int → Int → Int → Option (Int)
  | 0, _, _, _ => none
  | k + 1, x0, x5, x11 => if x11 < 4 then (impl_MixNumber.l0 k (wrap64 (Int.tdiv x0 256)) (Int.tmod (wrap64 ((wrap64 ((wrap64 (x5 * 131)) + (Int.tmod x0 256))) + 1)) 1000003) (wrap64 (x11 + 1))) else (some x5)
def impl_MixNumber.f (k : Nat) (a0 : Int) (a1 : Int) : Option (Int) := (impl_rest.f a1 10007).bind fun t148 => ((impl_rest.f a0 4294967296).bind fun t149 => (impl_MixNumber.l0 k t149 (wrap64 (t148 + 11)) 0))
theorem impl_MixNumber.mono_l : ∀ k, (∀ y0 y1 y2, LeO (impl_MixNumber.l0 k y0 y1 y2) (impl_MixNumber.l0 (k + 1) y0 y1 y2))
  | 0 => fun _ _ _ r h => by simp [impl_MixNumber.l0] at h
  | k + 1 => by
    have ih0 := impl_MixNumber.mono_l k
    · intro y0 y1 y2
      unfold impl_MixNumber.l0
      repeat' first
      | (with_reducible exact ih0 _ _ _)
      | (with_reducible exact LeO.refl _)
      | (with_reducible exact LeO.none _)
      | (with_reducible refine LeO.ite ?_ ?_)
      | (with_reducible refine LeO.bind ?_ (fun _ => ?_))
      | exact ih0 _ _ _
      | exact LeO.none _
      | refine LeO.ite ?_ ?_
      | refine LeO.bind ?_ (fun _ => ?_)
theorem impl_MixNumber.mono : ∀ a0 a1 k, LeO (impl_MixNumber.f k a0 a1) (impl_MixNumber.f (k + 1) a0 a1) := by
  intro a0 a1 k
  have ih0 := impl_MixNumber.mono_l k
  unfold impl_MixNumber.f
  repeat' first
      | (with_reducible exact ih0 _ _ _)
      | (with_reducible exact LeO.refl _)
      | (with_reducible exact LeO.none _)
      | (with_reducible refine LeO.ite ?_ ?_)
      | (with_reducible refine LeO.bind ?_ (fun _ => ?_))
      | exact ih0 _ _ _
      | exact LeO.none _
      | refine LeO.ite ?_ ?_
      | refine LeO.bind ?_ (fun _ => ?_)
set_option maxHeartbeats 8000000 in
set_option maxRecDepth 100000 in
theorem impl_MixNumber.calls (k : Nat) (a0 : Int) (a1 : Int) (r : Int) (w : World) (h : impl_MixNumber.f k a0 a1 = some r) :
    Calls Try.prog 70 #[.int .i64 a0, .int .i64 a1] w fun e w' => e = .returned (.int .i64 r) ∧ Drawn0 w w' := by
  have H : ((impl_rest.f a1 10007).bind fun t148 => ((impl_rest.f a0 4294967296).bind fun t149 => (impl_MixNumber.l0 k t149 (wrap64 (t148 + 11)) 0))) = some r := h
  clear h
  replace H := Option.bind_eq_some_iff.mp H
  obtain ⟨t148, A30, H⟩ := H
  replace H : ((impl_rest.f a0 4294967296).bind fun t149 => (impl_MixNumber.l0 k t149 (wrap64 (t148 + 11)) 0)) = some r := H
  have A3 := Aside0.mk A30
  clear A30
  replace H := Option.bind_eq_some_iff.mp H
  obtain ⟨t149, A40, H⟩ := H
  replace H : (impl_MixNumber.l0 k t149 (wrap64 (t148 + 11)) 0) = some r := H
  have A4 := Aside0.mk A40
  clear A40
  have H' := Aside0.mk H
  clear H
  go_enter Try.func70, Try.ntmps70
  go_wp2_with (first | ((with_reducible refine gate_callee (f := 72) rfl ?_); refine goesL_ (some 7) rfl rfl Try.func72 (by kernel_rfl) rfl #[.int .i64 a1, .int .i64 10007] rfl (by (try simp only [List.map_toArray, List.map_cons, List.map_nil]); first | done | rfl | (simp only [List.length_drop, List.length_take]; rfl)) ?_; (with_reducible refine (impl_rest.calls a1 10007 t148 _ A3.out).mono ?_); rintro e w' ⟨rfl, ⟨nd, rfl⟩⟩; refine ⟨_, rfl, ?_⟩) | ((with_reducible refine gate_callee (f := 72) rfl ?_); refine goesL_ (some 10) rfl rfl Try.func72 (by kernel_rfl) rfl #[.int .i64 a0, .int .i64 4294967296] rfl (by (try simp only [List.map_toArray, List.map_cons, List.map_nil]); first | done | rfl | (simp only [List.length_drop, List.length_take]; rfl)) ?_; (with_reducible refine (impl_rest.calls a0 4294967296 t149 _ A4.out).mono ?_); rintro e w' ⟨rfl, ⟨nd, rfl⟩⟩; refine ⟨_, rfl, ?_⟩))
  go_loopg [0, 5, 11] k (fun kq v0 v5 v11 w' => ∃ (x0_1 : Int) (x5_1 : Int) (x11_1 : Int), v0 = .int .i64 x0_1 ∧ v5 = .int .i64 x5_1 ∧ v11 = .int .i64 x11_1 ∧ Aside0 (impl_MixNumber.l0 kq x0_1 x5_1 x11_1 = some r) ∧ Aside0 (kq ≤ k) ∧ Drawn0 w w')
  case atStart => exact ⟨(t149), (wrap64 (t148 + 11)), (0), (by first | rfl | (simp; done) | (simp [*]; done)), (by first | rfl | (simp; done) | (simp [*]; done)), (by first | rfl | (simp; done) | (simp [*]; done)), H', ⟨Nat.le_refl _⟩, by repeat (first | exact Drawn0.refl _ | apply Drawn0.step)⟩
  case round =>
    clear H'
    try clear p2
    obtain ⟨x0_1, x5_1, x11_1, rfl, rfl, rfl, HA, HK1, ⟨m1, rfl⟩⟩ := hrel
    cases gk with
    | zero => exact absurd HA.out (by simp [impl_MixNumber.l0])
    | succ k1 =>
      have H := HA.out
      clear HA
      simp only [impl_MixNumber.l0] at H
      by_cases c5 : x11_1 < 4
      · rw [if_pos c5] at H
        have c5b0 : decide (x11_1 < 4) = true := decide_eq_true c5
        clear c5
        have H' := Aside0.mk H
        clear H
        go_wp2
        go_roundg k1
        case measure => have := HK1.out; omega
        case rel => exact ⟨(wrap64 (Int.tdiv x0_1 256)), (Int.tmod (wrap64 ((wrap64 ((wrap64 (x5_1 * 131)) + (Int.tmod x0_1 256))) + 1)) 1000003), (wrap64 (x11_1 + 1)), (by first | rfl | (simp; done) | (simp [*]; done)), (by first | rfl | (simp; done) | (simp [*]; done)), (by first | rfl | (simp; done) | (simp [*]; done)), H', ⟨by have := HK1.out; omega⟩, by repeat (first | exact Drawn0.refl _ | apply Drawn0.step)⟩
      · rw [if_neg c5] at H
        have c5b0 : decide (x11_1 < 4) = false := decide_eq_false c5
        clear c5
        obtain rfl := Option.some.inj H
        go_wp2
        go_ret
        exact ⟨by first | rfl | (simp; done) | (simp [*]; done), by repeat (first | exact Drawn0.refl _ | apply Drawn0.step)⟩

/-! ### impl_offset: function 66 -/
def impl_offset.f (k : Nat) (a0 : Int) : Option (Int) := (impl_MixNumber.f k a0 3).bind fun t150 => (some (Int.tmod t150 31))
theorem impl_offset.mono : ∀ a0 k, LeO (impl_offset.f k a0) (impl_offset.f (k + 1) a0) := by
  intro a0 k
  unfold impl_offset.f
  repeat' first
      | (with_reducible exact impl_MixNumber.mono _ _ _)
      | (with_reducible exact LeO.refl _)
      | (with_reducible exact LeO.none _)
      | (with_reducible refine LeO.ite ?_ ?_)
      | (with_reducible refine LeO.bind ?_ (fun _ => ?_))
      | exact impl_MixNumber.mono _ _ _
      | exact LeO.none _
      | refine LeO.ite ?_ ?_
      | refine LeO.bind ?_ (fun _ => ?_)
set_option maxHeartbeats 8000000 in
set_option maxRecDepth 100000 in
theorem impl_offset.calls (k : Nat) (a0 : Int) (r : Int) (w : World) (h : impl_offset.f k a0 = some r) :
    Calls Try.prog 66 #[.int .i64 a0] w fun e w' => e = .returned (.int .i64 r) ∧ Drawn0 w w' := by
  have H : ((impl_MixNumber.f k a0 3).bind fun t150 => (some (Int.tmod t150 31))) = some r := h
  clear h
  replace H := Option.bind_eq_some_iff.mp H
  obtain ⟨t150, A20, H⟩ := H
  replace H : (some (Int.tmod t150 31)) = some r := H
  have A2 := Aside0.mk A20
  clear A20
  obtain rfl := Option.some.inj H
  go_enter Try.func66, Try.ntmps66
  go_wp2_with (first | ((with_reducible refine gate_callee (f := 70) rfl ?_); refine goesL_ (some 4) rfl rfl Try.func70 (by kernel_rfl) rfl #[.int .i64 a0, .int .i64 3] rfl (by (try simp only [List.map_toArray, List.map_cons, List.map_nil]); first | done | rfl | (simp only [List.length_drop, List.length_take]; rfl)) ?_; (with_reducible refine (impl_MixNumber.calls k a0 3 t150 _ A2.out).mono ?_); rintro e w' ⟨rfl, ⟨nd, rfl⟩⟩; refine ⟨_, rfl, ?_⟩))
  go_ret
  exact ⟨by first | rfl | (simp; done) | (simp [*]; done), by repeat (first | exact Drawn0.refl _ | apply Drawn0.step)⟩

/-! ### impl_skip: function 67 -/
def impl_skip.f (k : Nat) (a0 : Int) : Option (Int) := (impl_MixNumber.f k a0 5).bind fun t151 => (some (wrap64 (1 + (Int.tmod t151 30))))
theorem impl_skip.mono : ∀ a0 k, LeO (impl_skip.f k a0) (impl_skip.f (k + 1) a0) := by
  intro a0 k
  unfold impl_skip.f
  repeat' first
      | (with_reducible exact impl_MixNumber.mono _ _ _)
      | (with_reducible exact LeO.refl _)
      | (with_reducible exact LeO.none _)
      | (with_reducible refine LeO.ite ?_ ?_)
      | (with_reducible refine LeO.bind ?_ (fun _ => ?_))
      | exact impl_MixNumber.mono _ _ _
      | exact LeO.none _
      | refine LeO.ite ?_ ?_
      | refine LeO.bind ?_ (fun _ => ?_)
set_option maxHeartbeats 8000000 in
set_option maxRecDepth 100000 in
theorem impl_skip.calls (k : Nat) (a0 : Int) (r : Int) (w : World) (h : impl_skip.f k a0 = some r) :
    Calls Try.prog 67 #[.int .i64 a0] w fun e w' => e = .returned (.int .i64 r) ∧ Drawn0 w w' := by
  have H : ((impl_MixNumber.f k a0 5).bind fun t151 => (some (wrap64 (1 + (Int.tmod t151 30))))) = some r := h
  clear h
  replace H := Option.bind_eq_some_iff.mp H
  obtain ⟨t151, A20, H⟩ := H
  replace H : (some (wrap64 (1 + (Int.tmod t151 30)))) = some r := H
  have A2 := Aside0.mk A20
  clear A20
  obtain rfl := Option.some.inj H
  go_enter Try.func67, Try.ntmps67
  go_wp2_with (first | ((with_reducible refine gate_callee (f := 70) rfl ?_); refine goesL_ (some 4) rfl rfl Try.func70 (by kernel_rfl) rfl #[.int .i64 a0, .int .i64 5] rfl (by (try simp only [List.map_toArray, List.map_cons, List.map_nil]); first | done | rfl | (simp only [List.length_drop, List.length_take]; rfl)) ?_; (with_reducible refine (impl_MixNumber.calls k a0 5 t151 _ A2.out).mono ?_); rintro e w' ⟨rfl, ⟨nd, rfl⟩⟩; refine ⟨_, rfl, ?_⟩))
  go_ret
  exact ⟨by first | rfl | (simp; done) | (simp [*]; done), by repeat (first | exact Drawn0.refl _ | apply Drawn0.step)⟩

/-! ### impl_permutation: function 62 -/
def impl_permutation.l0 : Nat → Int → List Int → Int → Option (List Int)
  | 0, _, _, _ => none
  | k + 1, x0, x3, x6 => if x6 < 31 then ((impl_offset.f k x0).bind fun t155 => ((impl_skip.f k x0).bind fun t156 => (if x3.length < 17592186044416 then (impl_permutation.l0 k x0 (x3 ++ [Int.tmod (wrap64 (t155 + (wrap64 (x6 * t156)))) 31]) (wrap64 (x6 + 1))) else (none)))) else (some x3)
def impl_permutation.f (k : Nat) (a0 : Int) : Option (List Int) := impl_permutation.l0 k a0 (([] : List Int)) 0
theorem impl_permutation.mono_l : ∀ k, (∀ y0 y1 y2, LeO (impl_permutation.l0 k y0 y1 y2) (impl_permutation.l0 (k + 1) y0 y1 y2))
  | 0 => fun _ _ _ r h => by simp [impl_permutation.l0] at h
  | k + 1 => by
    have ih0 := impl_permutation.mono_l k
    · intro y0 y1 y2
      unfold impl_permutation.l0
      repeat' first
      | (with_reducible exact ih0 _ _ _)
      | (with_reducible exact impl_offset.mono _ _)
      | (with_reducible exact impl_skip.mono _ _)
      | (with_reducible exact LeO.refl _)
      | (with_reducible exact LeO.none _)
      | (with_reducible refine LeO.ite ?_ ?_)
      | (with_reducible refine LeO.bind ?_ (fun _ => ?_))
      | exact ih0 _ _ _
      | exact impl_offset.mono _ _
      | exact impl_skip.mono _ _
      | exact LeO.none _
      | refine LeO.ite ?_ ?_
      | refine LeO.bind ?_ (fun _ => ?_)
theorem impl_permutation.mono : ∀ a0 k, LeO (impl_permutation.f k a0) (impl_permutation.f (k + 1) a0) := by
  intro a0 k
  have ih0 := impl_permutation.mono_l k
  unfold impl_permutation.f
  repeat' first
      | (with_reducible exact ih0 _ _ _)
      | (with_reducible exact impl_offset.mono _ _)
      | (with_reducible exact impl_skip.mono _ _)
      | (with_reducible exact LeO.refl _)
      | (with_reducible exact LeO.none _)
      | (with_reducible refine LeO.ite ?_ ?_)
      | (with_reducible refine LeO.bind ?_ (fun _ => ?_))
      | exact ih0 _ _ _
      | exact impl_offset.mono _ _
      | exact impl_skip.mono _ _
      | exact LeO.none _
      | refine LeO.ite ?_ ?_
      | refine LeO.bind ?_ (fun _ => ?_)
set_option maxHeartbeats 8000000 in
set_option maxRecDepth 100000 in
theorem impl_permutation.calls (k : Nat) (a0 : Int) (r : List Int) (w : World) (h : impl_permutation.f k a0 = some r) :
    Calls Try.prog 62 #[.int .i64 a0] w fun e w' => ∃ v0_ : Value, e = .returned (v0_) ∧ Kd.R (Kd.int .i64) 2 w' w.heap.size (fun _ => True) v0_ r ∧ Below w.heap.size w w' := by
  have HB := Aside0.mk (Below.refl w.heap.size w)
  have H : (impl_permutation.l0 k a0 (([] : List Int)) 0) = some r := h
  clear h
  obtain ⟨y152, hy152⟩ : ∃ y_ : List Int, y_ = (([] : List Int)) := ⟨_, rfl⟩
  replace H : (impl_permutation.l0 k a0 y152 0) = some r := by first | (rw [hy152]; with_reducible exact H) | (have H2_ := (Option.bind_some _ _).symm.trans H; rw [hy152]; with_reducible exact H2_) | (have H2_ := (Option.bind_some _ _).symm.trans H; with_reducible exact H2_) | with_reducible exact H | (rw [hy152]; exact H) | exact H
  have Ny152 := Aside0.mk hy152
  clear hy152
  have H' := Aside0.mk H
  clear H
  go_enter Try.func62, Try.ntmps62
  go_wp2_with (first | ((with_reducible refine gate_dst (N := 5) rfl ?_); refine Kd.R_lit (Kd.int .i64) _ 2 ?hg (N := 5) ?hd (xs := ([] : List Int)) (inner := []) (ok := fun _ => True) (okp := fun _ => True) ?hr ?hp (fun _ hk => hk) trivial (Below.refl _ _) (Nat.le_refl _) (by simp) ?_; (case hd => rfl); (case hg => rfl); (case hr => first | (go_simp; done) | (go_simp; rfl)); (case hp => exact (Reps.none _ _)); intro v153 w2 ho3 hb hg_ hnew_; clear hg_ hnew_; (first | rw [← Ny152.out] at ho3 | (simp only [Int.reduceToNat] at ho3; rw [← Ny152.out] at ho3)); have n0_ := Aside0.mk (Kd.R_lower ho3 (below_size (by repeat (first | (with_reducible first | exact HB.out | apply below_alloc | apply pw_below_drewN | apply below_drew1) | exact HB.out)))); have n1_ := Aside0.mk (below_step (by repeat (first | (with_reducible first | exact HB.out | apply below_alloc | apply pw_below_drewN | apply below_drew1) | exact HB.out)) hb); clear HB; have HO154 := n0_; have HB := n1_; clear n0_ n1_; clear hb ho3))
  go_loopg [3, 6] k (fun kq v3 v6 w' => ∃ (x3_1 : List Int) (x6_1 : Int), v6 = .int .i64 x6_1 ∧ Aside0 (impl_permutation.l0 kq a0 x3_1 x6_1 = some r) ∧ Aside0 (kq ≤ k) ∧ Aside0 (Kd.R (Kd.int .i64) 2 w' w.heap.size (fun _ => True) v3 x3_1) ∧ Aside0 (Below w.heap.size w w'))
  case atStart => exact ⟨(y152), (0), (by first | rfl | (simp; done) | (simp [*]; done)), H', ⟨Nat.le_refl _⟩, ⟨by (with_reducible repeat (first | apply Kd.R_alloc | apply Kd.R_drewN | apply Kd.R_drew)); exact HO154.out⟩, ⟨by repeat (first | (with_reducible first | exact HB.out | apply below_alloc | apply pw_below_drewN | apply below_drew1) | exact HB.out)⟩⟩
  case round =>
    clear H'
    try clear p2
    obtain ⟨x3_1, x6_1, rfl, HA, HK1, HO_3, HB⟩ := hrel
    cases gk with
    | zero => exact absurd HA.out (by simp [impl_permutation.l0])
    | succ k1 =>
      have H := HA.out
      clear HA
      simp only [impl_permutation.l0] at H
      by_cases c4 : x6_1 < 31
      · rw [if_pos c4] at H
        have c4b0 : decide (x6_1 < 31) = true := decide_eq_true c4
        clear c4
        replace H := Option.bind_eq_some_iff.mp H
        obtain ⟨t155, A50, H⟩ := H
        replace H : ((impl_skip.f k1 a0).bind fun t156 => (if x3_1.length < 17592186044416 then (impl_permutation.l0 k1 a0 (x3_1 ++ [Int.tmod (wrap64 (t155 + (wrap64 (x6_1 * t156)))) 31]) (wrap64 (x6_1 + 1))) else (none))) = some r := H
        have A5 := Aside0.mk A50
        clear A50
        replace H := Option.bind_eq_some_iff.mp H
        obtain ⟨t156, A60, H⟩ := H
        replace H : (if x3_1.length < 17592186044416 then (impl_permutation.l0 k1 a0 (x3_1 ++ [Int.tmod (wrap64 (t155 + (wrap64 (x6_1 * t156)))) 31]) (wrap64 (x6_1 + 1))) else (none)) = some r := H
        have A6 := Aside0.mk A60
        clear A60
        by_cases c7 : x3_1.length < 17592186044416
        · rw [if_pos c7] at H
          have LMc7 := Aside0.mk c7
          clear c7
          obtain ⟨y157, hy157⟩ : ∃ y_ : List Int, y_ = (x3_1 ++ [Int.tmod (wrap64 (t155 + (wrap64 (x6_1 * t156)))) 31]) := ⟨_, rfl⟩
          replace H : (impl_permutation.l0 k1 a0 y157 (wrap64 (x6_1 + 1))) = some r := by first | (rw [hy157]; with_reducible exact H) | (have H2_ := (Option.bind_some _ _).symm.trans H; rw [hy157]; with_reducible exact H2_) | (have H2_ := (Option.bind_some _ _).symm.trans H; with_reducible exact H2_) | with_reducible exact H | (rw [hy157]; exact H) | exact H
          have Ny157 := Aside0.mk hy157
          clear hy157
          have H' := Aside0.mk H
          clear H
          go_wp2_with (first | ((with_reducible refine gate_callee (f := 66) rfl ?_); refine goesL_ (some 11) rfl rfl Try.func66 (by kernel_rfl) rfl #[.int .i64 a0] rfl (by (try simp only [List.map_toArray, List.map_cons, List.map_nil]); first | done | rfl | (simp only [List.length_drop, List.length_take]; rfl)) ?_; (with_reducible refine (impl_offset.calls k1 a0 t155 _ A5.out).mono ?_); rintro e w' ⟨rfl, ⟨nd, rfl⟩⟩; refine ⟨_, rfl, ?_⟩) | ((with_reducible refine gate_callee (f := 67) rfl ?_); refine goesL_ (some 14) rfl rfl Try.func67 (by kernel_rfl) rfl #[.int .i64 a0] rfl (by (try simp only [List.map_toArray, List.map_cons, List.map_nil]); first | done | rfl | (simp only [List.length_drop, List.length_take]; rfl)) ?_; (with_reducible refine (impl_skip.calls k1 a0 t156 _ A6.out).mono ?_); rintro e w' ⟨rfl, ⟨nd, rfl⟩⟩; refine ⟨_, rfl, ?_⟩) | ((with_reducible refine gate_builtin (b := .append) (xs := #[.tmp 9, .tmp 18]) rfl ?_); at_builtin; refine Kd.R_append (Kd.int .i64) (w0 := w) w.heap.size rfl (.tmp 9) (.tmp 18) 36 2 (.int .i64 0) 8 rfl Try.underlying36 info2 rfl (by decide) (by omega) u3 x3_1 (Int.tmod (wrap64 (t155 + (wrap64 (x6_1 * t156)))) 31) [.int .i64 (Int.tmod (wrap64 (t155 + (wrap64 (x6_1 * t156)))) 31)] (fun _ => True) (fun _ => False) rfl rfl ?aP (fun _ hk => hk.elim) ?aF ?aO ?aB ?aS ?aL ?_; (case aP => exact rfl); (case aB => exact (by repeat (first | (with_reducible first | exact HB.out | apply below_alloc | apply pw_below_drewN | apply below_drew1) | exact HB.out))); (case aF => exact (fun _ _ => trivial)); (case aO => exact (by (with_reducible repeat (first | apply Kd.R_alloc | apply Kd.R_drewN | apply Kd.R_drew)); exact HO_3.out)); (case aS => exact (below_size (by repeat (first | (with_reducible first | exact HB.out | apply below_alloc | apply pw_below_drewN | apply below_drew1) | exact HB.out)))); (case aL => have := LMc7.out; omega); intro v158 w8 ho hb hg hat; rw [← Ny157.out] at ho; have n0_ := Aside0.mk (hb); have n1_ := Aside0.mk (ho); clear HB; clear HO_3; have HB := n0_; have HO159 := n1_; clear n0_ n1_; clear ho hb hg hat))
          go_roundg k1
          case measure => have := HK1.out; omega
          case rel => exact ⟨(y157), (wrap64 (x6_1 + 1)), (by first | rfl | (simp; done) | (simp [*]; done)), H', ⟨by have := HK1.out; omega⟩, ⟨by (with_reducible repeat (first | apply Kd.R_alloc | apply Kd.R_drewN | apply Kd.R_drew)); exact HO159.out⟩, ⟨by repeat (first | (with_reducible first | exact HB.out | apply below_alloc | apply pw_below_drewN | apply below_drew1) | exact HB.out)⟩⟩
        · rw [if_neg c7] at H
          exact absurd H (by simp)
      · rw [if_neg c4] at H
        have c4b0 : decide (x6_1 < 31) = false := decide_eq_false c4
        clear c4
        obtain rfl := Option.some.inj H
        go_wp2
        go_ret
        exact ⟨_, by first | rfl | (simp [errW_none, errW_some] <;> rfl) | (simp [*, errW_none, errW_some] <;> rfl), by (with_reducible repeat (first | apply Kd.R_alloc | apply Kd.R_drewN | apply Kd.R_drew)); exact HO_3.out, by repeat (first | (with_reducible first | exact HB.out | apply below_alloc | apply pw_below_drewN | apply below_drew1) | exact HB.out)⟩

end Go.Proofs.Ytnfjbapcngamjaa.QFnLooks
