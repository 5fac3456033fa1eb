-- MADE BY PROGRAM (qprint.py): walks of the functions that the law FnExactPackConfig reaches. Lean checks it.
import Derived.Test.YtfmlhpoaipeoeaaQFnExactPackConfigx0
import Derived.Test.YtfmlhpoaipeoeaaQFnExactPackConfigx4
import Derived.Test.YtfmlhpoaipeoeaaQFnExactPackConfigx6
import Derived.Test.YtfmlhpoaipeoeaaIx
import Derived.StillTailTactics
namespace Go.Proofs.Ytfmlhpoaipeoeaa.QFnExactPackConfig
open Go.RowKit Go.Proofs.YtfmlhpoaipeoeaaW.PrintWords Go.Proofs.YtfmlhpoaipeoeaaW.PrintLast Go.Proofs.YtfmlhpoaipeoeaaW.PrintMore
attribute [local go_sem] max2_int min2_int max_two min_two max_three min_three max_four min_four   -- for this text's walks alone
set_option linter.unusedVariables false
set_option linter.unusedSimpArgs false

/-! ### spec_PackConfig: function 36 -/
def spec_PackConfig.f (k : Nat) (a0_0 : Int) (l0_1 : List (S36)) (l0_2 : List (S64)) : Option (Int × List Int) := (impl_ConfigFault.f a0_0 l0_1 l0_2).bind fun t297 => (if t297 = 0 then ((spec_l6Config.f k a0_0 l0_1 l0_2).bind fun t298 => (some (0, t298))) else (some (t297, ([] : List Int))))
theorem spec_PackConfig.mono : ∀ a0 a1 a2 k, LeO (spec_PackConfig.f k a0 a1 a2) (spec_PackConfig.f (k + 1) a0 a1 a2) := by
  intro a0 a1 a2 k
  unfold spec_PackConfig.f
  repeat' first
      | (with_reducible exact spec_l6Config.mono _ _ _ _)
      | (with_reducible exact LeO.refl _)
      | (with_reducible exact LeO.none _)
      | (with_reducible refine LeO.ite ?_ ?_)
      | (with_reducible refine LeO.bind ?_ (fun _ => ?_))
      | exact spec_l6Config.mono _ _ _ _
      | exact LeO.none _
      | refine LeO.ite ?_ ?_
      | refine LeO.bind ?_ (fun _ => ?_)
theorem Cf.put2p {w : World} {g : Nat} {t : TypeId} {u0 u1 : Value} (h : w.heap[g]? = some (.cells #[u0, u1] t (0, 0))) (v0 v1 : Value) :
    ((w.setCell ⟨g, 0, none⟩ v0).setCell ⟨g, 1, none⟩ v1).heap[g]? = some (.cells #[v0, v1] t (0, 0)) := by
  refine blk_put (cs := #[v0, u1]) ?_ 1 _ rfl
  exact blk_put (cs := #[u0, u1]) h 0 _ rfl
theorem Cf.R8_put2 {w : World} {g base : Nat} {u0 u1 v : Value} {xs : List Int} (hR : Kd.R (Kd.int .u8) 5 w base (fun _ => True) v xs) (h : w.heap[g]? = some (.cells #[u0, u1] 71 (0, 0))) (a b : Value) :
    Kd.R (Kd.int .u8) 5 ((w.setCell ⟨g, 0, none⟩ a).setCell ⟨g, 1, none⟩ b) base (fun _ => True) v xs :=
  Kd.R_set (Kd.R_set hR h (by decide) 0 a) (blk_put (cs := #[u0, u1]) h 0 a rfl) (by decide) 1 b
set_option maxHeartbeats 8000000 in
set_option maxRecDepth 100000 in
theorem spec_PackConfig.cf (k : Nat) (A1 : Option Addr) (c1 : Nat) (l1 : List S36) (A2 : Option Addr) (c2 : Nat) (l2 : List S64) (v : Int) (r1 : Int) (r2 : List Int) (w : World) (hr1 : Kd.C k36 w A1 l1.length l1) (hc1 : l1.length ≤ c1) (hr2 : Kd.C k64 w A2 l2.length l2) (hc2 : l2.length ≤ c2) (h : spec_PackConfig.f k v l1 l2 = some (r1, r2)) :
    Calls Try.prog 36 #[.agg #[.int .i64 v, .slice A1 l1.length c1, .slice A2 l2.length c2]] w fun e_ w' => ∃ u, e_ = .returned (.agg #[.int .i64 r1, u]) ∧ Kd.R (Kd.int .u8) 5 w' w.heap.size (fun _ => True) u r2 ∧ Below w.heap.size w w' := by
  have hu31 := Try.underlying31
  have hu71 := Try.underlying71
  obtain ⟨w1, hw1⟩ : ∃ W, W = (w.alloc (.cells #[.int .i64 v, .slice A1 l1.length c1, .slice A2 l2.length c2] 31)).alloc (.cells #[.int .i64 0, .slice none 0 0] 71) := ⟨_, rfl⟩
  have hs1 : w1.heap.size = w.heap.size + 2 := by rw [hw1]; simp
  have hB1 : Below w.heap.size w w1 := by rw [hw1]; exact (((Below.refl _ w).alloc (Nat.le_refl _) _).alloc (by simp) _)
  have bg1 : w1.heap[w.heap.size]? = some (.cells #[.int .i64 v, .slice A1 l1.length c1, .slice A2 l2.length c2] 31 (0, 0)) := by rw [hw1]; exact blk_alloc (blk_new w _) _
  have bk1 : w1.heap[w.heap.size + 1]? = some (.cells #[.int .i64 0, .slice none 0 0] 71 (0, 0)) := by
    rw [hw1]
    have h_ := heap_alloc_new (w.alloc (.cells #[.int .i64 v, .slice A1 l1.length c1, .slice A2 l2.length c2] 31)) (.cells #[.int .i64 0, .slice none 0 0] 71)
    rwa [World.size_alloc] at h_
  have hr11 := Kd.C_below hr1 hB1
  have hr21 := Kd.C_below hr2 hB1
  have hcallF := spec_l5Fault.cf w.heap.size A1 c1 l1 A2 c2 l2 v w1 bg1 hr11 hr21
  rw [hw1] at hcallF
  obtain ⟨q, hq⟩ : ∃ q, q = Cf.code v l1 l2 := ⟨_, rfl⟩
  rw [← hq] at hcallF
  unfold spec_PackConfig.f impl_ConfigFault.f at h
  rw [← hq] at h
  replace h : (if q = 0 then ((spec_l6Config.f k v l1 l2).bind fun t => (some (0, t))) else (some (q, ([] : List Int)))) = some (r1, r2) := h
  go_enter Try.func36, Try.ntmps36
  by_cases hq0 : q = 0
  · have hq1 : (q != 0) = false := bne_eq_false_iff_eq.mpr hq0
    rw [if_pos hq0] at h
    obtain ⟨t, ht, h⟩ := Option.bind_eq_some_iff.mp h
    simp only [Option.some.injEq, Prod.mk.injEq] at h
    obtain ⟨rfl, rfl⟩ := h
    have hcallS := fun (W : World) (hW : Below w1.heap.size w1 W) => spec_l6Config.calls k v A1 c1 l1 A2 c2 l2 t w.heap.size W (blk_below bg1 hW) (Kd.C_below hr11 hW) hc1 (Kd.C_below hr21 hW) hc2 ht
    clear hq ht
    go_wp2_with (first
      | (go_at_call 50; refine hcallF.mono ?_; rintro e_ w2 ⟨rfl, hb2⟩; rw [← hw1] at hb2; clear hcallF; have bk4 := blk_below bk1 hb2; have y0 := blk_cell bk4 0; have f0 := blk_frozen bk4 0; have y1 := blk_cell bk4 1; have f1 := blk_frozen bk4 1)
      | (go_at_call 85; refine (hcallS _ hb2).mono ?_; rintro e_ w4 ⟨u, rfl, hR, hb4⟩; have hsz := hb2.size; replace hb2 := Cf.up hb2 hb4; clear hb4; obtain ⟨Au, cu, eu⟩ := Kd.R_slice hR; subst eu; clear bk4 y0 y1 f0 f1; have bk4 := blk_below bk1 hb2; have y0 := blk_cell bk4 0; have f0 := blk_frozen bk4 0; have y1 := blk_cell bk4 1; have f1 := blk_frozen bk4 1))
    refine bodyPost_ret (results_cell_row rfl _ _ (w.heap.size + 1) 71 #[.int .i64 0, .slice Au t.length cu] (0, 0) _ rfl (by exact Cf.put2p bk4 _ _) Try.underlying71 rfl (by kernel_rfl)) rfl ?_
    refine ⟨.slice Au t.length cu, rfl, ?_, ?_⟩
    · exact Cf.R8_put2 (Kd.R_lower hR (by omega)) bk4 _ _
    · have := hb2.size
      repeat (refine below_set ?_ (by show _ ≤ w.heap.size + 1; omega))
      exact Cf.up hB1 hb2
  · have hq1 : (q != 0) = true := bne_iff_ne.mpr hq0
    rw [if_neg hq0] at h
    simp only [Option.some.injEq, Prod.mk.injEq] at h
    obtain ⟨rfl, rfl⟩ := h
    clear hq
    go_wp2_with (first
      | (go_at_call 50; refine hcallF.mono ?_; rintro e_ w2 ⟨rfl, hb2⟩; rw [← hw1] at hb2; clear hcallF; have bk4 := blk_below bk1 hb2; have y0 := blk_cell bk4 0; have f0 := blk_frozen bk4 0; have y1 := blk_cell bk4 1; have f1 := blk_frozen bk4 1))
    refine bodyPost_ret (results_cell_row rfl _ _ (w.heap.size + 1) 71 #[.int .i64 q, .slice none 0 0] (0, 0) _ rfl (by exact Cf.put2p bk4 _ _) Try.underlying71 rfl (by kernel_rfl)) rfl ?_
    refine ⟨.slice none 0 0, rfl, ?_, ?_⟩
    · exact Cf.R8_put2 (Kd.R_nil _ _ _ _ _) bk4 _ _
    · have := hb2.size
      repeat (refine below_set ?_ (by show _ ≤ w.heap.size + 1; omega))
      exact Cf.up hB1 hb2
theorem spec_PackConfig.calls (k : Nat) (a0_0 : Int) (A0_1 : Option Addr) (c0_1 : Nat) (l0_1 : List (S36)) (A0_2 : Option Addr) (c0_2 : Nat) (l0_2 : List (S64)) (r1 : Int) (r2 : List Int) (w : World) (hr0_1 : Kd.C k36 w A0_1 l0_1.length l0_1) (hc0_1 : l0_1.length ≤ c0_1) (hr0_2 : Kd.C k64 w A0_2 l0_2.length l0_2) (hc0_2 : l0_2.length ≤ c0_2) (h : spec_PackConfig.f k a0_0 l0_1 l0_2 = some (r1, r2)) :
    Calls Try.prog 36 #[.agg #[.int .i64 a0_0, .slice A0_1 l0_1.length c0_1, .slice A0_2 l0_2.length c0_2]] w fun e w' => ∃ v1_ : Value, e = .returned (.agg #[.int .i64 r1, v1_]) ∧ Kd.R (Kd.int .u8) 5 w' w.heap.size (fun _ => True) v1_ r2 ∧ Below w.heap.size w w' := by
  exact spec_PackConfig.cf k A0_1 c0_1 l0_1 A0_2 c0_2 l0_2 a0_0 r1 r2 w hr0_1 hc0_1 hr0_2 hc0_2 h

/-! ### impl_put: function 125 -/
def impl_put.l0 : Nat → List Int → Int → Int → Option (List Int)
  | 0, _, _, _ => none
  | k + 1, x0, x1, x7 => if x7 ≥ 0 then (if 0 ≤ (wrap64 (8 * x7)) then (if x0.length < 140737488355328 then (impl_put.l0 k (x0 ++ [(shr .i64 x1 (wrap64 (8 * x7))) % 256]) x1 (wrap64 (x7 - 1))) else (none)) else (none)) else (some x0)
def impl_put.f (k : Nat) (l0 : List Int) (a1 : Int) (a2 : Int) : Option (List Int) := impl_put.l0 k l0 a1 (wrap64 (a2 - 1))
theorem impl_put.mono_l : ∀ k, (∀ y0 y1 y2, LeO (impl_put.l0 k y0 y1 y2) (impl_put.l0 (k + 1) y0 y1 y2))
  | 0 => fun _ _ _ r h => by simp [impl_put.l0] at h
  | k + 1 => by
    have ih0 := impl_put.mono_l k
    · intro y0 y1 y2
      unfold impl_put.l0
      repeat' first
      | (with_reducible exact ih0 _ _ _)
      | (with_reducible exact LeO.refl _)
      | (with_reducible exact LeO.none _)
      | (with_reducible refine LeO.ite ?_ ?_)
      | (with_reducible refine LeO.bind ?_ (fun _ => ?_))
      | exact ih0 _ _ _
      | exact LeO.none _
      | refine LeO.ite ?_ ?_
      | refine LeO.bind ?_ (fun _ => ?_)
theorem impl_put.mono : ∀ a0 a1 a2 k, LeO (impl_put.f k a0 a1 a2) (impl_put.f (k + 1) a0 a1 a2) := by
  intro a0 a1 a2 k
  have ih0 := impl_put.mono_l k
  unfold impl_put.f
  repeat' first
      | (with_reducible exact ih0 _ _ _)
      | (with_reducible exact LeO.refl _)
      | (with_reducible exact LeO.none _)
      | (with_reducible refine LeO.ite ?_ ?_)
      | (with_reducible refine LeO.bind ?_ (fun _ => ?_))
      | exact ih0 _ _ _
      | exact LeO.none _
      | refine LeO.ite ?_ ?_
      | refine LeO.bind ?_ (fun _ => ?_)
set_option maxHeartbeats 8000000 in
set_option maxRecDepth 100000 in
theorem impl_put.calls (k : Nat) (P0_ : Nat → Prop) (u9000_ : Value) (l0 : List Int) (a1 : Int) (a2 : Int) (r : List Int) (w0 w : World) (hB : Below w0.heap.size w0 w) (ho0 : Kd.R (Kd.int .u8) 5 w w0.heap.size P0_ u9000_ l0) (h : impl_put.f k l0 a1 a2 = some r) :
    Calls Try.prog 125 #[u9000_, .int .i64 a1, .int .i64 a2] w fun e w' => ∃ v0_ : Value, e = .returned (v0_) ∧ Kd.R (Kd.int .u8) 5 w' w0.heap.size (fun k_ => (P0_ k_ ∨ w.heap.size ≤ k_)) v0_ r ∧ Below w0.heap.size w0 w' ∧ Kept w w' (fun k_ => P0_ k_) := by
  have HO0 := Aside0.mk (show Kd.R (Kd.int .u8) 5 w w0.heap.size (fun k_ => (P0_ k_ ∨ w.heap.size ≤ k_)) u9000_ l0 from Kd.R_mono ho0 (fun k_ hk => (.inl hk)))
  have HK := Aside0.mk (Kept.refl w (fun k_ => P0_ k_))
  have HW0 := Aside0.mk hB.size
  have HB := Aside0.mk hB
  clear hB
  have H : (impl_put.l0 k l0 a1 (wrap64 (a2 - 1))) = some r := h
  clear h
  have H' := Aside0.mk H
  clear H
  go_enter Try.func125, Try.ntmps125
  go_wp2
  go_loopg [0, 7] k (fun kq v0 v7 w' => ∃ (x0_1 : List Int) (x7_1 : Int), v7 = .int .i64 x7_1 ∧ Aside0 (impl_put.l0 kq x0_1 a1 x7_1 = some r) ∧ Aside0 (kq ≤ k) ∧ Aside0 (Kd.R (Kd.int .u8) 5 w' w0.heap.size (fun k_ => (P0_ k_ ∨ w.heap.size ≤ k_)) v0 x0_1) ∧ Aside0 (Kept w w' (fun k_ => P0_ k_)) ∧ Aside0 (Below w0.heap.size w0 w'))
  case atStart => exact ⟨(l0), (wrap64 (a2 - 1)), (by first | rfl | (simp; done) | (simp [*]; done)), H', ⟨Nat.le_refl _⟩, ⟨by (with_reducible repeat (first | apply Kd.R_alloc | apply Kd.R_drewN | apply Kd.R_drew)); exact HO0.out⟩, ⟨by repeat (first | (with_reducible first | exact HK.out | apply Kept.alloc | apply Kept.drewN | apply Kept.drew) | exact HK.out)⟩, ⟨by repeat (first | (with_reducible first | exact HB.out | apply below_alloc | apply pw_below_drewN | apply below_drew1) | exact HB.out)⟩⟩
  case round =>
    clear H'
    try clear c1
    try clear p2
    obtain ⟨x0_1, x7_1, rfl, HA, HK1, HO_0, HK, HB⟩ := hrel
    cases gk with
    | zero => exact absurd HA.out (by simp [impl_put.l0])
    | succ k1 =>
      have H := HA.out
      clear HA
      simp only [impl_put.l0] at H
      by_cases c4 : x7_1 ≥ 0
      · rw [if_pos c4] at H
        have c4b0 : decide (0 ≤ x7_1) = true := decide_eq_true c4
        clear c4
        obtain ⟨ji5, hji5⟩ : ∃ j_ : Int, (wrap64 (8 * x7_1)) = j_ := ⟨_, rfl⟩
        replace H : (if 0 ≤ (ji5) then (if x0_1.length < 140737488355328 then (impl_put.l0 k1 (x0_1 ++ [(shr .i64 a1 (ji5)) % 256]) a1 (wrap64 (x7_1 - 1))) else (none)) else (none)) = some r := by first | (rw [hji5] at H; exact H) | (simp only [hji5] at H ⊢; exact H)
        have hji5w : (IntKind.i64.wrap (8 * x7_1)) = ji5 := (i64_w _).trans hji5
        by_cases c6 : 0 ≤ (ji5)
        · rw [if_pos c6] at H
          have c6b0 := eq_true c6
          have c6b1 : decide (0 ≤ (ji5)) = true := decide_eq_true c6
          clear c6
          obtain ⟨ji7, hji7⟩ : ∃ j_ : Int, (shr .i64 a1 (ji5)) = j_ := ⟨_, rfl⟩
          replace H : (if x0_1.length < 140737488355328 then (impl_put.l0 k1 (x0_1 ++ [(ji7) % 256]) a1 (wrap64 (x7_1 - 1))) else (none)) = some r := by first | (rw [hji7] at H; exact H) | (simp only [hji7] at H ⊢; exact H)
          have hji7_ : (a1 / 2 ^ min (ji5).toNat 64) = ji7 := hji7
          have hji7z : (ji5) ≤ 64 → (a1 / 2 ^ (ji5).toNat) = ji7 := shr_small hji7
          by_cases c8 : x0_1.length < 140737488355328
          · rw [if_pos c8] at H
            have LMc8 := Aside0.mk c8
            clear c8
            obtain ⟨y301, hy301⟩ : ∃ y_ : List Int, y_ = (x0_1 ++ [(ji7) % 256]) := ⟨_, rfl⟩
            replace H : (impl_put.l0 k1 y301 a1 (wrap64 (x7_1 - 1))) = some r := by first | (rw [hy301]; with_reducible exact H) | (have H2_ := (Option.bind_some _ _).symm.trans H; rw [hy301]; with_reducible exact H2_) | (have H2_ := (Option.bind_some _ _).symm.trans H; with_reducible exact H2_) | with_reducible exact H | (rw [hy301]; exact H) | exact H
            have Ny301 := Aside0.mk hy301
            clear hy301
            have H' := Aside0.mk H
            clear H
            go_wp2_with (first | ((with_reducible refine gate_builtin (b := .append) (xs := #[.tmp 14, .tmp 20]) rfl ?_); at_builtin; refine Kd.R_append (Kd.int .u8) (w0 := w0) w0.heap.size rfl (.tmp 14) (.tmp 20) 58 5 (.int .u8 0) 1 rfl Try.underlying58 info5 rfl (by decide) (by omega) u0 x0_1 ((ji7) % 256) [.int .u8 ((ji7) % 256)] (fun k_ => (P0_ k_ ∨ w.heap.size ≤ k_)) (fun _ => False) rfl rfl ?aP (fun _ hk => hk.elim) ?aF ?aO ?aB ?aS ?aL ?_; (case aP => exact rfl); (case aB => exact (by repeat (first | (with_reducible first | exact HB.out | apply below_alloc | apply pw_below_drewN | apply below_drew1) | exact HB.out))); (case aF => exact (fun k_ hk => (.inr (Nat.le_trans (by first | exact HK.out.1 | exact (show Kept w _ (fun k_ => P0_ k_) from by repeat (first | (with_reducible first | exact HK.out | apply Kept.alloc | apply Kept.drewN | apply Kept.drew) | exact HK.out)).1) hk)))); (case aO => exact (by (with_reducible repeat (first | apply Kd.R_alloc | apply Kd.R_drewN | apply Kd.R_drew)); exact HO_0.out)); (case aS => exact (below_size (by repeat (first | (with_reducible first | exact HB.out | apply below_alloc | apply pw_below_drewN | apply below_drew1) | exact HB.out)))); (case aL => have := LMc8.out; omega); intro v302 w9 ho hb hg hat; rw [← Ny301.out] at ho; have n0_ := Aside0.mk (hb); have n1_ := Aside0.mk (Kept.of_grown (S := (fun k_ => P0_ k_)) hg (by repeat (first | (with_reducible first | exact HK.out | apply Kept.alloc | apply Kept.drewN | apply Kept.drew) | exact HK.out)) (fun k_ e_ => (HO_0.out.1 k_ e_))); have n2_ := Aside0.mk (ho); clear HB; clear HK; clear HO_0; have HB := n0_; have HK := n1_; have HO303 := n2_; clear n0_ n1_ n2_; clear ho hb hg hat))
            go_roundg k1
            case measure => have := HK1.out; omega
            case rel => exact ⟨(y301), (wrap64 (x7_1 - 1)), (by first | rfl | (simp; done) | (simp [*]; done)), H', ⟨by have := HK1.out; omega⟩, ⟨by (with_reducible repeat (first | apply Kd.R_alloc | apply Kd.R_drewN | apply Kd.R_drew)); exact HO303.out⟩, ⟨by repeat (first | (with_reducible first | exact HK.out | apply Kept.alloc | apply Kept.drewN | apply Kept.drew) | exact HK.out)⟩, ⟨by repeat (first | (with_reducible first | exact HB.out | apply below_alloc | apply pw_below_drewN | apply below_drew1) | exact HB.out)⟩⟩
          · rw [if_neg c8] at H
            exact absurd H (by simp)
        · rw [if_neg c6] at H
          exact absurd H (by simp)
      · rw [if_neg c4] at H
        have c4b0 : decide (0 ≤ x7_1) = false := decide_eq_false c4
        clear c4
        obtain rfl := Option.some.inj H
        go_wp2
        go_ret
        exact ⟨_, by first | rfl | (simp [errW_none, errW_some] <;> rfl) | (simp [*, errW_none, errW_some] <;> rfl), by (with_reducible repeat (first | apply Kd.R_alloc | apply Kd.R_drewN | apply Kd.R_drew)); exact HO_0.out, by repeat (first | (with_reducible first | exact HB.out | apply below_alloc | apply pw_below_drewN | apply below_drew1) | exact HB.out), by repeat (first | (with_reducible first | exact HK.out | apply Kept.alloc | apply Kept.drewN | apply Kept.drew) | exact HK.out)⟩

end Go.Proofs.Ytfmlhpoaipeoeaa.QFnExactPackConfig
