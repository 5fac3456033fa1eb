-- MADE BY PROGRAM (qprint.py): walks of the functions that the law FnLooks reaches. Lean checks it.
import Derived.Test.YtnfjbapcngamjaaQFnLooksx0
import Derived.Test.YtnfjbapcngamjaaQFnLooksx3
namespace Go.Proofs.Ytnfjbapcngamjaa.QFnLooks
open Go.RowKit Go.Proofs.YtnfjbapcngamjaaW.PrintWords Go.Proofs.YtnfjbapcngamjaaW.PrintLast Go.Proofs.YtnfjbapcngamjaaW.PrintMore
attribute [local go_sem] max2_int min2_int max_two min_two max_three min_three max_four min_four   -- for this text's walks alone
set_option linter.unusedVariables false
set_option linter.unusedSimpArgs false

/-! ### impl_fill: function 50 -/
mutual
def impl_fill.l0 : Nat → List (S53) → List Int → Int → List (List Int) → List (S53) → Int → Int → Option (List Int)
  | 0, _, _, _, _, _, _, _ => none
  | k + 1, x0, x3, x4, x5, x16, x17, x18 => if x18 < x17 then (if 0 ≤ x18 then (if x18 < (x16.length : Int) then ((impl_permutation.f k ((rd_T53 x16 x18).f0)).bind fun t169 => (if x5.length < 5864062014805 then (impl_fill.l0 k x0 x3 x4 (x5 ++ [t169]) x16 x17 (wrap64 (x18 + 1))) else (none))) else (none)) else (none)) else (impl_fill.l1 k x0 x3 x4 x5)
def impl_fill.l1 : Nat → List (S53) → List Int → Int → List (List Int) → Option (List Int)
  | 0, _, _, _, _ => none
  | k + 1, x0, x3, x4, x5 => impl_fill.l2 k x0 x3 x4 x5 x0 (x0.length : Int) 0
def impl_fill.l2 : Nat → List (S53) → List Int → Int → List (List Int) → List (S53) → Int → Int → Option (List Int)
  | 0, _, _, _, _, _, _, _ => none
  | k + 1, x0, x3, x4, x5, x29, x30, x31 => if x31 < x30 then (if 0 ≤ x31 then (if x31 < (x29.length : Int) then (impl_fill.l3 k x0 x3 x4 x5 x31 x29 x30 x31 ((rd_T53 x29 x31).f1) 0 ((rd_T53 x29 x31).f0) ((rd_T53 x29 x31).f1)) else (none)) else (none)) else (impl_fill.l1 k x0 x3 x4 x5)
def impl_fill.l3 : Nat → List (S53) → List Int → Int → List (List Int) → Int → List (S53) → Int → Int → Int → Int → Int → Int → Option (List Int)
  | 0, _, _, _, _, _, _, _, _, _, _, _, _ => none
  | k + 1, x0, x3, x4, x5, x8, x29, x30, x31, x37, x38, x177000, x177001 => if x38 < x37 then (impl_fill.l4 k x0 x3 x4 x5 x8 x29 x30 x31 x37 x38 x177000 x177001) else (impl_fill.l2 k x0 x3 x4 x5 x29 x30 (wrap64 (x31 + 1)))
def impl_fill.l4 : Nat → List (S53) → List Int → Int → List (List Int) → Int → List (S53) → Int → Int → Int → Int → Int → Int → Option (List Int)
  | 0, _, _, _, _, _, _, _, _, _, _, _, _ => none
  | k + 1, x0, x3, x4, x5, x8, x29, x30, x31, x37, x38, x177000, x177001 => if 0 ≤ x8 then (if x8 < (x5.length : Int) then (if 0 < ((rd_L2 x5 x8).length : Int) then (if 0 ≤ (rd (rd_L2 x5 x8) 0) then (if (rd (rd_L2 x5 x8) 0) < (x3.length : Int) then (if (rd x3 (rd (rd_L2 x5 x8) 0)) = 0 then ((some (x3.set ((rd (rd_L2 x5 x8) 0) : Int).toNat x177000 : List Int)).bind fun y182 => (if (wrap64 (x4 - 1)) = 0 then (some y182) else (impl_fill.l3 k x0 y182 (wrap64 (x4 - 1)) x5 x8 x29 x30 x31 x37 (wrap64 (x38 + 1)) x177000 x177001))) else (if 1 ≤ ((rd_L2 x5 x8).length : Int) then (impl_fill.l4 k x0 x3 x4 (x5.set (x8 : Int).toNat ((rd_L2 x5 x8).drop 1)) x8 x29 x30 x31 x37 x38 x177000 x177001) else (none))) else (none)) else (none)) else (none)) else (none)) else (none)
end
def impl_fill.f (k : Nat) (l0 : List (S53)) : Option (List Int) := if 31 ≤ 35184372088832 then ((some (List.replicate 31 0 : List Int)).bind fun y160 => ((impl_Share_60.f l0).bind fun t163 => (if t163 = true then (impl_fill.l0 k l0 y160 31 (([] : List (List Int))) l0 (l0.length : Int) 0) else (some y160)))) else (none)
theorem impl_fill.mono_l : ∀ k, (∀ y0 y1 y2 y3 y4 y5 y6, LeO (impl_fill.l0 k y0 y1 y2 y3 y4 y5 y6) (impl_fill.l0 (k + 1) y0 y1 y2 y3 y4 y5 y6)) ∧ (∀ y0 y1 y2 y3, LeO (impl_fill.l1 k y0 y1 y2 y3) (impl_fill.l1 (k + 1) y0 y1 y2 y3)) ∧ (∀ y0 y1 y2 y3 y4 y5 y6, LeO (impl_fill.l2 k y0 y1 y2 y3 y4 y5 y6) (impl_fill.l2 (k + 1) y0 y1 y2 y3 y4 y5 y6)) ∧ (∀ y0 y1 y2 y3 y4 y5 y6 y7 y8 y9 y10 y11, LeO (impl_fill.l3 k y0 y1 y2 y3 y4 y5 y6 y7 y8 y9 y10 y11) (impl_fill.l3 (k + 1) y0 y1 y2 y3 y4 y5 y6 y7 y8 y9 y10 y11)) ∧ (∀ y0 y1 y2 y3 y4 y5 y6 y7 y8 y9 y10 y11, LeO (impl_fill.l4 k y0 y1 y2 y3 y4 y5 y6 y7 y8 y9 y10 y11) (impl_fill.l4 (k + 1) y0 y1 y2 y3 y4 y5 y6 y7 y8 y9 y10 y11))
  | 0 => ⟨fun _ _ _ _ _ _ _ r h => by simp [impl_fill.l0] at h, fun _ _ _ _ r h => by simp [impl_fill.l1] at h, fun _ _ _ _ _ _ _ r h => by simp [impl_fill.l2] at h, fun _ _ _ _ _ _ _ _ _ _ _ _ r h => by simp [impl_fill.l3] at h, fun _ _ _ _ _ _ _ _ _ _ _ _ r h => by simp [impl_fill.l4] at h⟩
  | k + 1 => by
    obtain ⟨ih0, ih1, ih2, ih3, ih4⟩ := impl_fill.mono_l k
    refine ⟨?_, ?_, ?_, ?_, ?_⟩
    · intro y0 y1 y2 y3 y4 y5 y6
      unfold impl_fill.l0
      repeat' first
      | (with_reducible exact ih0 _ _ _ _ _ _ _)
      | (with_reducible exact ih1 _ _ _ _)
      | (with_reducible exact ih2 _ _ _ _ _ _ _)
      | (with_reducible exact ih3 _ _ _ _ _ _ _ _ _ _ _ _)
      | (with_reducible exact ih4 _ _ _ _ _ _ _ _ _ _ _ _)
      | (with_reducible exact impl_permutation.mono _ _)
      | (with_reducible exact LeO.refl _)
      | (with_reducible exact LeO.none _)
      | (with_reducible refine LeO.ite ?_ ?_)
      | (with_reducible refine LeO.bind ?_ (fun _ => ?_))
      | exact ih0 _ _ _ _ _ _ _
      | exact ih1 _ _ _ _
      | exact ih2 _ _ _ _ _ _ _
      | exact ih3 _ _ _ _ _ _ _ _ _ _ _ _
      | exact ih4 _ _ _ _ _ _ _ _ _ _ _ _
      | exact impl_permutation.mono _ _
      | exact LeO.none _
      | refine LeO.ite ?_ ?_
      | refine LeO.bind ?_ (fun _ => ?_)
    · intro y0 y1 y2 y3
      unfold impl_fill.l1
      repeat' first
      | (with_reducible exact ih0 _ _ _ _ _ _ _)
      | (with_reducible exact ih1 _ _ _ _)
      | (with_reducible exact ih2 _ _ _ _ _ _ _)
      | (with_reducible exact ih3 _ _ _ _ _ _ _ _ _ _ _ _)
      | (with_reducible exact ih4 _ _ _ _ _ _ _ _ _ _ _ _)
      | (with_reducible exact impl_permutation.mono _ _)
      | (with_reducible exact LeO.refl _)
      | (with_reducible exact LeO.none _)
      | (with_reducible refine LeO.ite ?_ ?_)
      | (with_reducible refine LeO.bind ?_ (fun _ => ?_))
      | exact ih0 _ _ _ _ _ _ _
      | exact ih1 _ _ _ _
      | exact ih2 _ _ _ _ _ _ _
      | exact ih3 _ _ _ _ _ _ _ _ _ _ _ _
      | exact ih4 _ _ _ _ _ _ _ _ _ _ _ _
      | exact impl_permutation.mono _ _
      | exact LeO.none _
      | refine LeO.ite ?_ ?_
      | refine LeO.bind ?_ (fun _ => ?_)
    · intro y0 y1 y2 y3 y4 y5 y6
      unfold impl_fill.l2
      repeat' first
      | (with_reducible exact ih0 _ _ _ _ _ _ _)
      | (with_reducible exact ih1 _ _ _ _)
      | (with_reducible exact ih2 _ _ _ _ _ _ _)
      | (with_reducible exact ih3 _ _ _ _ _ _ _ _ _ _ _ _)
      | (with_reducible exact ih4 _ _ _ _ _ _ _ _ _ _ _ _)
      | (with_reducible exact impl_permutation.mono _ _)
      | (with_reducible exact LeO.refl _)
      | (with_reducible exact LeO.none _)
      | (with_reducible refine LeO.ite ?_ ?_)
      | (with_reducible refine LeO.bind ?_ (fun _ => ?_))
      | exact ih0 _ _ _ _ _ _ _
      | exact ih1 _ _ _ _
      | exact ih2 _ _ _ _ _ _ _
      | exact ih3 _ _ _ _ _ _ _ _ _ _ _ _
      | exact ih4 _ _ _ _ _ _ _ _ _ _ _ _
      | exact impl_permutation.mono _ _
      | exact LeO.none _
      | refine LeO.ite ?_ ?_
      | refine LeO.bind ?_ (fun _ => ?_)
    · intro y0 y1 y2 y3 y4 y5 y6 y7 y8 y9 y10 y11
      unfold impl_fill.l3
      repeat' first
      | (with_reducible exact ih0 _ _ _ _ _ _ _)
      | (with_reducible exact ih1 _ _ _ _)
      | (with_reducible exact ih2 _ _ _ _ _ _ _)
      | (with_reducible exact ih3 _ _ _ _ _ _ _ _ _ _ _ _)
      | (with_reducible exact ih4 _ _ _ _ _ _ _ _ _ _ _ _)
      | (with_reducible exact impl_permutation.mono _ _)
      | (with_reducible exact LeO.refl _)
      | (with_reducible exact LeO.none _)
      | (with_reducible refine LeO.ite ?_ ?_)
      | (with_reducible refine LeO.bind ?_ (fun _ => ?_))
      | exact ih0 _ _ _ _ _ _ _
      | exact ih1 _ _ _ _
      | exact ih2 _ _ _ _ _ _ _
      | exact ih3 _ _ _ _ _ _ _ _ _ _ _ _
      | exact ih4 _ _ _ _ _ _ _ _ _ _ _ _
      | exact impl_permutation.mono _ _
      | exact LeO.none _
      | refine LeO.ite ?_ ?_
      | refine LeO.bind ?_ (fun _ => ?_)
    · intro y0 y1 y2 y3 y4 y5 y6 y7 y8 y9 y10 y11
      unfold impl_fill.l4
      repeat' first
      | (with_reducible exact ih0 _ _ _ _ _ _ _)
      | (with_reducible exact ih1 _ _ _ _)
      | (with_reducible exact ih2 _ _ _ _ _ _ _)
      | (with_reducible exact ih3 _ _ _ _ _ _ _ _ _ _ _ _)
      | (with_reducible exact ih4 _ _ _ _ _ _ _ _ _ _ _ _)
      | (with_reducible exact impl_permutation.mono _ _)
      | (with_reducible exact LeO.refl _)
      | (with_reducible exact LeO.none _)
      | (with_reducible refine LeO.ite ?_ ?_)
      | (with_reducible refine LeO.bind ?_ (fun _ => ?_))
      | exact ih0 _ _ _ _ _ _ _
      | exact ih1 _ _ _ _
      | exact ih2 _ _ _ _ _ _ _
      | exact ih3 _ _ _ _ _ _ _ _ _ _ _ _
      | exact ih4 _ _ _ _ _ _ _ _ _ _ _ _
      | exact impl_permutation.mono _ _
      | exact LeO.none _
      | refine LeO.ite ?_ ?_
      | refine LeO.bind ?_ (fun _ => ?_)
theorem impl_fill.mono : ∀ a0 k, LeO (impl_fill.f k a0) (impl_fill.f (k + 1) a0) := by
  intro a0 k
  obtain ⟨ih0, ih1, ih2, ih3, ih4⟩ := impl_fill.mono_l k
  unfold impl_fill.f
  repeat' first
      | (with_reducible exact ih0 _ _ _ _ _ _ _)
      | (with_reducible exact ih1 _ _ _ _)
      | (with_reducible exact ih2 _ _ _ _ _ _ _)
      | (with_reducible exact ih3 _ _ _ _ _ _ _ _ _ _ _ _)
      | (with_reducible exact ih4 _ _ _ _ _ _ _ _ _ _ _ _)
      | (with_reducible exact impl_permutation.mono _ _)
      | (with_reducible exact LeO.refl _)
      | (with_reducible exact LeO.none _)
      | (with_reducible refine LeO.ite ?_ ?_)
      | (with_reducible refine LeO.bind ?_ (fun _ => ?_))
      | exact ih0 _ _ _ _ _ _ _
      | exact ih1 _ _ _ _
      | exact ih2 _ _ _ _ _ _ _
      | exact ih3 _ _ _ _ _ _ _ _ _ _ _ _
      | exact ih4 _ _ _ _ _ _ _ _ _ _ _ _
      | exact impl_permutation.mono _ _
      | exact LeO.none _
      | refine LeO.ite ?_ ?_
      | refine LeO.bind ?_ (fun _ => ?_)
def impl_fill.T17 : Bool × List (List Nat × List Nat) := (true, [([], []), ([], []), ([], []), ([1, 2], [1, 2]), ([3], [3]), ([4], [4]), ([5], [5]), ([], []), ([7], [7]), ([0, 6, 0, 1, 2, 3, 4, 5, 6, 7, 8], [0, 6]), ([9, 8, 0, 1, 2, 3, 4, 5, 6, 7, 8], [8, 9])])
def impl_fill.B17 : List Nat := [0, 0, 0, 6, 14, 30, 62, 0, 128, 511, 1023]
theorem impl_fill.tab17 : rtab .any (opsOf Try.f50 17) = impl_fill.T17 := by kernel_rfl
theorem impl_fill.bits17 : waitsOk impl_fill.T17.2 impl_fill.B17 = true := by kernel_rfl
set_option maxHeartbeats 8000000 in
set_option maxRecDepth 100000 in
theorem impl_fill.calls (k : Nat) (A0 : Option Addr) (c0 : Nat) (l0 : List (S53)) (r : List Int) (w : World) (hr0 : Kd.C k53 w A0 l0.length l0) (hc0 : l0.length ≤ c0) (h : impl_fill.f k l0 = some r) :
    Calls Try.prog 50 #[.slice A0 l0.length c0] w fun e w' => ∃ v0_ : Value, e = .returned (v0_) ∧ Kd.R (Kd.int .i64) 2 w' w.heap.size (fun _ => True) v0_ r ∧ Below w.heap.size w w' := by
  have hu53 := Try.underlying53
  have HR0 := Aside0.mk hr0
  have HC0 := Aside0.mk hc0
  clear hr0 hc0
  have HB := Aside0.mk (Below.refl w.heap.size w)
  have H : (if 31 ≤ 35184372088832 then ((some (List.replicate 31 0 : List Int)).bind fun y160 => ((impl_Share_60.f l0).bind fun t163 => (if t163 = true then (impl_fill.l0 k l0 y160 31 (([] : List (List Int))) l0 (l0.length : Int) 0) else (some y160)))) else (none)) = some r := h
  clear h
  by_cases c2 : 31 ≤ 35184372088832
  · rw [if_pos c2] at H
    have c2b0 := eq_true c2
    have c2b1 : decide (31 ≤ 35184372088832) = true := decide_eq_true c2
    clear c2
    obtain ⟨y160, hy160⟩ : ∃ y_ : List Int, y_ = (List.replicate 31 0) := ⟨_, rfl⟩
    replace H : ((impl_Share_60.f l0).bind fun t163 => (if t163 = true then (impl_fill.l0 k l0 y160 31 (([] : List (List Int))) l0 (l0.length : Int) 0) else (some y160))) = some r := by first | (rw [hy160]; with_reducible exact H) | (have H2_ := (Option.bind_some _ _).symm.trans H; rw [hy160]; with_reducible exact H2_) | (have H2_ := (Option.bind_some _ _).symm.trans H; with_reducible exact H2_) | with_reducible exact H | (rw [hy160]; exact H) | exact H
    have Ny160 := Aside0.mk hy160
    clear hy160
    replace H := Option.bind_eq_some_iff.mp H
    obtain ⟨t163, A30, H⟩ := H
    replace H : (if t163 = true then (impl_fill.l0 k l0 y160 31 (([] : List (List Int))) l0 (l0.length : Int) 0) else (some y160)) = some r := H
    have A3 := Aside0.mk A30
    clear A30
    by_cases c4 : t163 = true
    · subst c4
      have H1 : (impl_fill.l0 k l0 y160 31 (([] : List (List Int))) l0 (l0.length : Int) 0) = some r := by rw [if_pos rfl] at H; exact H
      clear H
      have H := H1
      clear H1
      obtain ⟨y164, hy164⟩ : ∃ y_ : List (List Int), y_ = (([] : List (List Int))) := ⟨_, rfl⟩
      replace H : (impl_fill.l0 k l0 y160 31 y164 l0 (l0.length : Int) 0) = some r := by first | (rw [hy164]; with_reducible exact H) | (have H2_ := (Option.bind_some _ _).symm.trans H; rw [hy164]; with_reducible exact H2_) | (have H2_ := (Option.bind_some _ _).symm.trans H; with_reducible exact H2_) | with_reducible exact H | (rw [hy164]; exact H) | exact H
      have Ny164 := Aside0.mk hy164
      clear hy164
      have H' := Aside0.mk H
      clear H
      go_enter Try.func50, Try.ntmps50
      go_wp2_with (first | ((with_reducible refine gate_dst (N := 10) rfl ?_); refine Kd.R_make (Kd.int .i64) _ 2 rfl (N := 10) rfl 36 _ _ rfl 31 rfl rfl Try.underlying36 (.int .i64 0) 8 info2 rfl (by decide) (by omega) 0 (ok := fun _ => True) (okp := fun _ => True) rfl (fun _ hk => hk) trivial (by omega) (by omega) (Below.refl _ _) (Nat.le_refl _) ?_; intro v161 w5 ho6 hb hg_ hnew_; clear hg_ hnew_; (first | rw [← Ny160.out] at ho6 | (simp only [Int.reduceToNat] at ho6; rw [← Ny160.out] at ho6)); have n0_ := Aside0.mk (Kd.R_lower ho6 (below_size (by repeat (first | (with_reducible first | exact HB.out | apply below_alloc | apply pw_below_drewN | apply below_drew1) | exact HB.out)))); have n1_ := Aside0.mk (below_step (by repeat (first | (with_reducible first | exact HB.out | apply below_alloc | apply pw_below_drewN | apply below_drew1) | exact HB.out)) hb); clear HB; have HO162 := n0_; have HB := n1_; clear n0_ n1_; clear hb ho6) | ((with_reducible refine gate_callee (f := 60) rfl ?_); refine goesL_ (some 12) rfl rfl Try.func60 (by kernel_rfl) rfl #[.slice A0 l0.length c0, .func (.func 61) #[] #[]] rfl (by (try simp only [List.map_toArray, List.map_cons, List.map_nil]); first | done | rfl | (simp only [List.length_drop, List.length_take]; rfl)) ?_; (with_reducible refine (impl_Share_60.calls _ _ l0 true _ ?side1 ?side2 A3.out).mono ?_); (case side1 => repeat (first | exact (Kd.C_below HR0.out HB.out) | (with_reducible refine Kd.C_alloc ?_ _) | (with_reducible refine Kd.C_drewN ?_ _) | (with_reducible refine Kd.C_drew ?_))); (case side2 => exact HC0.out); rintro e w7 ⟨rfl, hb⟩; refine ⟨_, rfl, ?_⟩; have n0_ := Aside0.mk (Kd.R_below (by (with_reducible repeat (first | apply Kd.R_alloc | apply Kd.R_drewN | apply Kd.R_drew)); exact HO162.out) hb); have n1_ := Aside0.mk (below_step (by repeat (first | (with_reducible first | exact HB.out | apply below_alloc | apply pw_below_drewN | apply below_drew1) | exact HB.out)) hb); clear HO162; clear HB; have HO162 := n0_; have HB := n1_; clear n0_ n1_; (try clear hb); (try clear hb2); (try clear hk); (try clear hi)) | ((with_reducible refine gate_dst (N := 15) rfl ?_); refine Kd.N_lit (Kd.slice 2 (Kd.int .i64)) _ 36 ?hg (N' := 15) ?hd (xs := ([] : List (List Int))) (inner := []) (ok := (fun k_ => some k_ ≠ (v161 : Value).ownBlock)) (okp := (fun k_ => some k_ ≠ (v161 : Value).ownBlock)) ?hr ?hp (fun _ hk => hk) ((show ∀ k_, w7.heap.size ≤ k_ → (fun k_ => some k_ ≠ (v161 : Value).ownBlock) k_ from fun k_ hk => Kd.fresh' (Kd.R_lt (by (with_reducible repeat (first | apply Kd.R_alloc | apply Kd.R_drewN | apply Kd.R_drew)); exact HO162.out)) k_ hk) _ (Nat.le_refl _)) (Below.refl _ _) (Nat.le_refl _) (by simp) ?_; (case hd => rfl); (case hg => rfl); (case hr => first | (go_simp; done) | (go_simp; rfl)); (case hp => exact (Reps.none _ _)); intro v165 w8 ho9 hb hg_ hnew_; clear hg_ hnew_; (first | rw [← Ny164.out] at ho9 | (simp only [Int.reduceToNat] at ho9; rw [← Ny164.out] at ho9)); have n0_ := Aside0.mk (Kd.R_below (by (with_reducible repeat (first | apply Kd.R_alloc | apply Kd.R_drewN | apply Kd.R_drew)); exact HO162.out) hb); have n1_ := Aside0.mk (Kd.N_lower ho9 (below_size (by repeat (first | (with_reducible first | exact HB.out | apply below_alloc | apply pw_below_drewN | apply below_drew1) | exact HB.out)))); have n2_ := Aside0.mk (below_step (by repeat (first | (with_reducible first | exact HB.out | apply below_alloc | apply pw_below_drewN | apply below_drew1) | exact HB.out)) hb); clear HO162; clear HB; have HO162 := n0_; have HO166 := n1_; have HB := n2_; clear n0_ n1_ n2_; clear hb ho9))
      go_loopg [5, 18] k (fun kq v5 v18 w' => ∃ (x5_1 : List (List Int)) (x18_1 : Int), v18 = .int .i64 x18_1 ∧ Aside0 (impl_fill.l0 kq l0 y160 31 x5_1 l0 (l0.length : Int) x18_1 = some r) ∧ Aside0 (kq ≤ k) ∧ Aside0 (Kd.R (Kd.int .i64) 2 w' w.heap.size (fun _ => True) v161 y160) ∧ Aside0 (Kd.N (Kd.slice 2 (Kd.int .i64)) 36 w' w.heap.size (fun k_ => some k_ ≠ (v161 : Value).ownBlock) v5 x5_1) ∧ Aside0 (Below w.heap.size w w'))
      case atStart => exact ⟨(y164), (0), (by first | rfl | (simp; done) | (simp [*]; done)), H', ⟨Nat.le_refl _⟩, ⟨by (with_reducible repeat (first | apply Kd.R_alloc | apply Kd.R_drewN | apply Kd.R_drew)); exact HO162.out⟩, ⟨by (with_reducible repeat (first | apply Kd.N_alloc | apply Kd.N_drewN | apply Kd.N_drew)); exact HO166.out⟩, ⟨by repeat (first | (with_reducible first | exact HB.out | apply below_alloc | apply pw_below_drewN | apply below_drew1) | exact HB.out)⟩⟩
      case round =>
        clear H'
        try clear c2
        try clear c2b0
        try clear c2b1
        try clear p2
        try clear c4
        try clear c5
        try clear c6
        obtain ⟨x5_1, x18_1, rfl, HA, HK1, HO_3, HO_5, HB⟩ := hrel
        cases gk with
        | zero => exact absurd HA.out (by simp [impl_fill.l0])
        | succ k1 =>
          have H := HA.out
          clear HA
          simp only [impl_fill.l0] at H
          by_cases c10 : x18_1 < (l0.length : Int)
          · rw [if_pos c10] at H
            have c10b0 : decide (x18_1 < (l0.length : Int)) = true := decide_eq_true c10
            clear c10
            by_cases c11 : 0 ≤ x18_1
            · rw [if_pos c11] at H
              have c11b0 : decide (0 ≤ x18_1) = true := decide_eq_true c11
              clear c11
              by_cases c12 : x18_1 < (l0.length : Int)
              · rw [if_pos c12] at H
                have c12b0 : decide (x18_1 < (l0.length : Int)) = true := decide_eq_true c12
                clear c12
                replace H := Option.bind_eq_some_iff.mp H
                obtain ⟨t169, A130, H⟩ := H
                replace H : (if x5_1.length < 5864062014805 then (impl_fill.l0 k1 l0 y160 31 (x5_1 ++ [t169]) l0 (l0.length : Int) (wrap64 (x18_1 + 1))) else (none)) = some r := H
                have A13 := Aside0.mk A130
                clear A130
                by_cases c14 : x5_1.length < 5864062014805
                · rw [if_pos c14] at H
                  have LMc14 := Aside0.mk c14
                  clear c14
                  obtain ⟨y172, hy172⟩ : ∃ y_ : List (List Int), y_ = (x5_1 ++ [t169]) := ⟨_, rfl⟩
                  replace H : (impl_fill.l0 k1 l0 y160 31 y172 l0 (l0.length : Int) (wrap64 (x18_1 + 1))) = some r := by first | (rw [hy172]; with_reducible exact H) | (have H2_ := (Option.bind_some _ _).symm.trans H; rw [hy172]; with_reducible exact H2_) | (have H2_ := (Option.bind_some _ _).symm.trans H; with_reducible exact H2_) | with_reducible exact H | (rw [hy172]; exact H) | exact H
                  have Ny172 := Aside0.mk hy172
                  clear hy172
                  have H' := Aside0.mk H
                  clear H
                  have p167 : 0 ≤ (x18_1 : Int) := of_decide_eq_true (by first | (with_reducible assumption) | assumption)
                  have q167 : x18_1 < (l0.length : Int) := of_decide_eq_true (by first | (with_reducible assumption) | assumption)
                  obtain ⟨ad167, e167, hx167_0, hx167_1⟩ := at_T53 HR0.out x18_1 p167 q167
                  cases e167
                  replace hx167_0 := (HB.out.cell (World.block_lt_of_cell? w _ hx167_0)).trans hx167_0
                  replace hx167_1 := (HB.out.cell (World.block_lt_of_cell? w _ hx167_1)).trans hx167_1
                  replace p167 := eq_true p167
                  replace q167 := eq_true q167
                  go_wp2_with (first | ((with_reducible refine gate_dst (N := 7) rfl ?_); refine box_event ?hg (N := 7) ?hd (cs := #[.int .i64 0, .int .i64 0]) (t := 53) ?hr ?_; (case hd => rfl); (case hg => rfl); (case hr => first | (go_simp; done) | (go_simp; rfl)); intro gb168 hg w15 hbox hb; have n0_ := Aside0.mk (Kd.R_below (by (with_reducible repeat (first | apply Kd.R_alloc | apply Kd.R_drewN | apply Kd.R_drew)); exact HO_3.out) hb); have n1_ := Aside0.mk (Kd.N_below (Kd.N_elderB (by (with_reducible repeat (first | apply Kd.N_alloc | apply Kd.N_drewN | apply Kd.N_drew)); exact HO_5.out) gb168 (Nat.le_of_eq hg.symm)) hb); have n2_ := Aside0.mk (below_step (by repeat (first | (with_reducible first | exact HB.out | apply below_alloc | apply pw_below_drewN | apply below_drew1) | exact HB.out)) hb); have n3_ := Aside0.mk (hbox); have n4_ := Aside0.mk ((by rw [hg]; exact (below_size (by repeat (first | (with_reducible first | exact HB.out | apply below_alloc | apply pw_below_drewN | apply below_drew1) | exact HB.out))) : w.heap.size ≤ gb168)); have n5_ := Aside0.mk ((by rw [hg]; exact (below_size (by repeat (first | (with_reducible first | exact HB.out | apply below_alloc | apply pw_below_drewN | apply below_drew1) | exact HB.out))) : w.heap.size ≤ gb168)); clear HO_3; clear HO_5; clear HB; have HO_3 := n0_; have HO_5 := n1_; have HB := n2_; have BK168 := n3_; have GW168 := n4_; have GE168 := n5_; clear n0_ n1_ n2_ n3_ n4_ n5_; clear hb hbox hg; have hcz16_0 : w15.cell? ⟨gb168, 0, none⟩ = some (.int .i64 0) := (blk_cell BK168.out 0).trans rfl; have hcz16_1 : w15.cell? ⟨gb168, 1, none⟩ = some (.int .i64 0) := (blk_cell BK168.out 1).trans rfl; have hfz16_0 := blk_frozen BK168.out 0; have hfz16_1 := blk_frozen BK168.out 1) | ((with_reducible refine gate_callee (f := 62) rfl ?_); refine goesL_ (some 25) rfl rfl Try.func62 (by kernel_rfl) rfl #[.int .i64 ((rd_T53 l0 x18_1).f0)] rfl (by (try simp only [List.map_toArray, List.map_cons, List.map_nil]); first | done | rfl | (simp only [List.length_drop, List.length_take]; rfl)) ?_; (with_reducible refine (impl_permutation.calls k1 ((rd_T53 l0 x18_1).f0) t169 _ A13.out).mono ?_); rintro e w17 ⟨v170, rfl, ho0, hb⟩; refine ⟨_, rfl, ?_⟩; have n0_ := Aside0.mk (Kd.R_elder' (by (with_reducible repeat (first | apply Kd.R_alloc | apply Kd.R_drewN | apply Kd.R_drew)); exact (Kd.R_mono (Kd.R_far (p := ⟨gb168, 1, none⟩) (Kd.R_far (p := ⟨gb168, 0, none⟩) (Kd.R_types HO_3.out BK168.out (by decide)) (fun _ hk => hk.2) (.int .i64 ((rd_T53 l0 x18_1).f0))) (fun _ hk => hk.2) (.int .i64 ((rd_T53 l0 x18_1).f1))) (fun _ h_ => h_.1))) (Kd.R_base ho0) hb); have n1_ := Aside0.mk (Kd.N_elder' (by (with_reducible repeat (first | apply Kd.N_alloc | apply Kd.N_drewN | apply Kd.N_drew)); exact (Kd.N_mono (Kd.N_far (p := ⟨gb168, 1, none⟩) (Kd.N_far (p := ⟨gb168, 0, none⟩) (Kd.N_mono HO_5.out (fun k_ hk => (⟨hk, hk.2⟩ : _ ∧ k_ ≠ gb168))) (fun _ hk => hk.2) (.int .i64 ((rd_T53 l0 x18_1).f0))) (fun _ hk => hk.2) (.int .i64 ((rd_T53 l0 x18_1).f1))) (fun _ h_ => h_.1))) (Kd.R_base ho0) hb); have n2_ := Aside0.mk (Kd.R_lower (Kd.R_new' ho0 (Kd.R_lt (by (with_reducible repeat (first | apply Kd.R_alloc | apply Kd.R_drewN | apply Kd.R_drew)); exact (Kd.R_mono (Kd.R_far (p := ⟨gb168, 1, none⟩) (Kd.R_far (p := ⟨gb168, 0, none⟩) (Kd.R_types HO_3.out BK168.out (by decide)) (fun _ hk => hk.2) (.int .i64 ((rd_T53 l0 x18_1).f0))) (fun _ hk => hk.2) (.int .i64 ((rd_T53 l0 x18_1).f1))) (fun _ h_ => h_.1))))) (below_size (by repeat (first | (with_reducible first | exact HB.out | apply below_alloc | apply pw_below_drewN | apply below_drew1 | refine below_set ?_ GE168.out) | exact HB.out)))); have n3_ := Aside0.mk (blk_below (g := gb168) (o := .cells #[.int .i64 ((rd_T53 l0 x18_1).f0), .int .i64 ((rd_T53 l0 x18_1).f1)] 53 (0, 0)) (by (with_reducible repeat (first | refine blk_drewN ?_ _ | refine blk_drew ?_ | refine blk_alloc ?_ _)); refine blk_put (cs := #[.int .i64 ((rd_T53 l0 x18_1).f0), .int .i64 0]) ?_ 1 _ rfl; (with_reducible repeat (first | refine blk_drewN ?_ _ | refine blk_drew ?_ | refine blk_alloc ?_ _)); refine blk_put (cs := #[.int .i64 0, .int .i64 0]) ?_ 0 _ rfl; (with_reducible repeat (first | refine blk_drewN ?_ _ | refine blk_drew ?_ | refine blk_alloc ?_ _)); exact BK168.out) hb); have n4_ := Aside0.mk (below_step (by repeat (first | (with_reducible first | exact HB.out | apply below_alloc | apply pw_below_drewN | apply below_drew1 | refine below_set ?_ GE168.out) | exact HB.out)) hb); clear HO_3; clear HO_5; clear BK168; clear HB; have HO_3 := n0_; have HO_5 := n1_; have HO171 := n2_; have BK168 := n3_; have HB := n4_; clear n0_ n1_ n2_ n3_ n4_; (try clear hb); (try clear hb2); (try clear hk); (try clear hi); (try clear ho0); obtain ⟨Ao19, co19, eo19⟩ := Kd.R_slice HO171.out; subst eo19) | ((with_reducible refine gate_builtin (b := .append) (xs := #[.tmp 22, .tmp 26]) rfl ?_); at_builtin; refine Kd.N_append (Kd.slice 2 (Kd.int .i64)) (w0 := w) w.heap.size rfl (.tmp 22) (.tmp 26) 79 36 (.slice none 0 0) 24 rfl Try.underlying79 info36 rfl (by decide) (by omega) u5 x5_1 t169 [.slice Ao19 t169.length co19] (fun k_ => some k_ ≠ (v161 : Value).ownBlock ∧ k_ ≠ gb168) (fun k_ => ((fun k_ => some k_ ≠ (v161 : Value).ownBlock ∧ k_ ≠ gb168)) k_ ∧ some k_ ≠ (u5 : Value).ownBlock) rfl rfl ?aP (fun _ hk => hk) ?aF ?aO ?aB ?aS ?aL ?_; (case aP => exact (Kd.FK_slice_mk (Kd.R_reads' (Kd.R_mono (ok' := (fun k_ => ((fun k_ => some k_ ≠ (v161 : Value).ownBlock ∧ k_ ≠ gb168)) k_ ∧ some k_ ≠ (u5 : Value).ownBlock)) (Kd.R_types (Kd.R_apart' (HO171.out) (Kd.N_typed HO_5.out) (by decide)) BK168.out (by decide)) (fun k_ hk => ⟨⟨hk.1.1.2, hk.2⟩, hk.1.2⟩))).2.1 (Kd.R_F (Kd.R_mono (ok' := (fun k_ => ((fun k_ => some k_ ≠ (v161 : Value).ownBlock ∧ k_ ≠ gb168)) k_ ∧ some k_ ≠ (u5 : Value).ownBlock)) (Kd.R_types (Kd.R_apart' (HO171.out) (Kd.N_typed HO_5.out) (by decide)) BK168.out (by decide)) (fun k_ hk => ⟨⟨hk.1.1.2, hk.2⟩, hk.1.2⟩))))); (case aB => exact (by repeat (first | (with_reducible first | exact HB.out | apply below_alloc | apply pw_below_drewN | apply below_drew1 | refine below_set ?_ GE168.out) | exact HB.out))); (case aF => exact (fun k_ hk => ⟨Kd.fresh' (Kd.R_lt (by (with_reducible repeat (first | apply Kd.R_alloc | apply Kd.R_drewN | apply Kd.R_drew)); exact HO_3.out)) k_ hk, Kd.freshB (g := gb168) (o := .cells #[.int .i64 ((rd_T53 l0 x18_1).f0), .int .i64 ((rd_T53 l0 x18_1).f1)] 53 (0, 0)) (by (with_reducible repeat (first | refine blk_drewN ?_ _ | refine blk_drew ?_ | refine blk_alloc ?_ _)); exact BK168.out) k_ hk⟩)); (case aO => exact (by (with_reducible repeat (first | apply Kd.N_alloc | apply Kd.N_drewN | apply Kd.N_drew)); exact Kd.N_mono HO_5.out (fun _ hk => ⟨hk.1.1, hk.1.2⟩))); (case aS => exact (below_size (by repeat (first | (with_reducible first | exact HB.out | apply below_alloc | apply pw_below_drewN | apply below_drew1 | refine below_set ?_ GE168.out) | exact HB.out)))); (case aL => have := LMc14.out; omega); intro v173 w18 ho hb hg hat; rw [← Ny172.out] at ho; have n0_ := Aside0.mk (Kd.R_over' (by (with_reducible repeat (first | apply Kd.R_alloc | apply Kd.R_drewN | apply Kd.R_drew)); exact HO_3.out) (Kd.N_typed (by (with_reducible repeat (first | apply Kd.N_alloc | apply Kd.N_drewN | apply Kd.N_drew)); exact HO_5.out)) (by decide) hg); have n1_ := Aside0.mk (blk_grown (g := gb168) (o := .cells #[.int .i64 ((rd_T53 l0 x18_1).f0), .int .i64 ((rd_T53 l0 x18_1).f1)] 53 (0, 0)) (by (with_reducible repeat (first | refine blk_drewN ?_ _ | refine blk_drew ?_ | refine blk_alloc ?_ _)); exact BK168.out) hg (Kd.N_ne HO_5.out BK168.out (by decide))); have n2_ := Aside0.mk (hb); have n3_ := Aside0.mk (ho); clear HO_3; clear BK168; clear HB; clear HO_5; clear HO171; have HO_3 := n0_; have BK168 := n1_; have HB := n2_; have HO174 := n3_; clear n0_ n1_ n2_ n3_; clear ho hb hg hat))
                  go_roundg k1
                  case measure => have := HK1.out; omega
                  case rel => exact ⟨(y172), (wrap64 (x18_1 + 1)), (by first | rfl | (simp; done) | (simp [*]; done)), H', ⟨by have := HK1.out; omega⟩, ⟨by (with_reducible repeat (first | apply Kd.R_alloc | apply Kd.R_drewN | apply Kd.R_drew)); exact Kd.R_mono HO_3.out (fun _ hk => trivial)⟩, ⟨by (with_reducible repeat (first | apply Kd.N_alloc | apply Kd.N_drewN | apply Kd.N_drew)); exact Kd.N_mono HO174.out (fun _ hk => hk.1)⟩, ⟨by repeat (first | (with_reducible first | exact HB.out | apply below_alloc | apply pw_below_drewN | apply below_drew1 | refine below_set ?_ GE168.out) | exact HB.out)⟩⟩
                · rw [if_neg c14] at H
                  exact absurd H (by simp)
              · rw [if_neg c12] at H
                exact absurd H (by simp)
            · rw [if_neg c11] at H
              exact absurd H (by simp)
          · rw [if_neg c10] at H
            have c10b0 : decide (x18_1 < (l0.length : Int)) = false := decide_eq_false c10
            clear c10
            have H' := Aside0.mk H
            clear H
            go_wp2
            go_loopg [4] k1 (fun kq v4 w' => ∃ (x3_2 : List Int) (x4_2 : Int) (x5_2 : List (List Int)), v4 = .int .i64 x4_2 ∧ Aside0 (impl_fill.l1 kq l0 x3_2 x4_2 x5_2 = some r) ∧ Aside0 (kq ≤ k1) ∧ Aside0 (Kd.R (Kd.int .i64) 2 w' w.heap.size (fun _ => True) v161 x3_2) ∧ Aside0 (Kd.N (Kd.slice 2 (Kd.int .i64)) 36 w' w.heap.size (fun k_ => some k_ ≠ (v161 : Value).ownBlock) u5 x5_2) ∧ Aside0 (Below w.heap.size w w'))
            case atStart => exact ⟨(y160), (31), (x5_1), (by first | rfl | (simp; done) | (simp [*]; done)), H', ⟨Nat.le_refl _⟩, ⟨by (with_reducible repeat (first | apply Kd.R_alloc | apply Kd.R_drewN | apply Kd.R_drew)); exact HO_3.out⟩, ⟨by (with_reducible repeat (first | apply Kd.N_alloc | apply Kd.N_drewN | apply Kd.N_drew)); exact HO_5.out⟩, ⟨by repeat (first | (with_reducible first | exact HB.out | apply below_alloc | apply pw_below_drewN | apply below_drew1) | exact HB.out)⟩⟩
            case round =>
              clear H'
              try clear c1
              try clear p1
              try clear q1
              try clear hx1
              try clear c2
              try clear c2b0
              try clear c2b1
              try clear p2
              try clear c4
              try clear c5
              try clear c6
              try clear p6
              try clear c10
              try clear c10b0
              try clear c11
              try clear c11b0
              try clear c12
              try clear c12b0
              try clear c14
              try clear p16
              try clear q16
              try clear hx16
              try clear hcz16_0
              try clear hcz16_1
              try clear hfz16_0
              try clear hfz16_1
              try clear hx167_0
              try clear hx167_1
              try clear p167
              try clear p2
              try clear q167
              obtain ⟨x3_2, x4_2, x5_2, rfl, HA, HK2, HO_3, HO_5, HB⟩ := hrel
              cases gk with
              | zero => exact absurd HA.out (by simp [impl_fill.l1])
              | succ k2 =>
                have H := HA.out
                clear HA
                simp only [impl_fill.l1] at H
                have H' := Aside0.mk H
                clear H
                go_wp2
                go_loopg [4, 31] k2 (fun kq v4 v31 w' => ∃ (x3_3 : List Int) (x4_3 : Int) (x5_3 : List (List Int)) (x31_3 : Int), v4 = .int .i64 x4_3 ∧ v31 = .int .i64 x31_3 ∧ Aside0 (impl_fill.l2 kq l0 x3_3 x4_3 x5_3 l0 (l0.length : Int) x31_3 = some r) ∧ Aside0 (kq ≤ k2) ∧ Aside0 (Kd.R (Kd.int .i64) 2 w' w.heap.size (fun _ => True) v161 x3_3) ∧ Aside0 (Kd.N (Kd.slice 2 (Kd.int .i64)) 36 w' w.heap.size (fun k_ => some k_ ≠ (v161 : Value).ownBlock) u5 x5_3) ∧ Aside0 (Below w.heap.size w w'))
                case atStart => exact ⟨(x3_2), (x4_2), (x5_2), (0), (by first | rfl | (simp; done) | (simp [*]; done)), (by first | rfl | (simp; done) | (simp [*]; done)), H', ⟨Nat.le_refl _⟩, ⟨by (with_reducible repeat (first | apply Kd.R_alloc | apply Kd.R_drewN | apply Kd.R_drew)); exact HO_3.out⟩, ⟨by (with_reducible repeat (first | apply Kd.N_alloc | apply Kd.N_drewN | apply Kd.N_drew)); exact HO_5.out⟩, ⟨by repeat (first | (with_reducible first | exact HB.out | apply below_alloc | apply pw_below_drewN | apply below_drew1) | exact HB.out)⟩⟩
                case round =>
                  clear H'
                  try clear c1
                  try clear p1
                  try clear q1
                  try clear hx1
                  try clear c2
                  try clear c2b0
                  try clear c2b1
                  try clear p2
                  try clear c4
                  try clear c5
                  try clear c6
                  try clear p6
                  try clear c10
                  try clear c10b0
                  try clear c11
                  try clear c11b0
                  try clear c12
                  try clear c12b0
                  try clear c14
                  try clear p16
                  try clear q16
                  try clear hx16
                  try clear hcz16_0
                  try clear hcz16_1
                  try clear hfz16_0
                  try clear hfz16_1
                  try clear hx167_0
                  try clear hx167_1
                  try clear p1
                  try clear p16
                  try clear p167
                  try clear p2
                  try clear p6
                  try clear q1
                  try clear q16
                  try clear q167
                  obtain ⟨x3_3, x4_3, x5_3, x31_3, rfl, rfl, HA, HK3, HO_3, HO_5, HB⟩ := hrel
                  cases gk with
                  | zero => exact absurd HA.out (by simp [impl_fill.l2])
                  | succ k3 =>
                    have H := HA.out
                    clear HA
                    simp only [impl_fill.l2] at H
                    by_cases c20 : x31_3 < (l0.length : Int)
                    · rw [if_pos c20] at H
                      have c20b0 : decide (x31_3 < (l0.length : Int)) = true := decide_eq_true c20
                      clear c20
                      by_cases c21 : 0 ≤ x31_3
                      · rw [if_pos c21] at H
                        have c21b0 : decide (0 ≤ x31_3) = true := decide_eq_true c21
                        clear c21
                        by_cases c22 : x31_3 < (l0.length : Int)
                        · rw [if_pos c22] at H
                          have c22b0 : decide (x31_3 < (l0.length : Int)) = true := decide_eq_true c22
                          clear c22
                          have H' := Aside0.mk H
                          clear H
                          have p175 : 0 ≤ (x31_3 : Int) := of_decide_eq_true (by first | (with_reducible assumption) | assumption)
                          have q175 : x31_3 < (l0.length : Int) := of_decide_eq_true (by first | (with_reducible assumption) | assumption)
                          obtain ⟨ad175, e175, hx175_0, hx175_1⟩ := at_T53 HR0.out x31_3 p175 q175
                          cases e175
                          replace hx175_0 := (HB.out.cell (World.block_lt_of_cell? w _ hx175_0)).trans hx175_0
                          replace hx175_1 := (HB.out.cell (World.block_lt_of_cell? w _ hx175_1)).trans hx175_1
                          replace p175 := eq_true p175
                          replace q175 := eq_true q175
                          go_wp2_with (first | ((with_reducible refine gate_dst (N := 9) rfl ?_); refine box_event ?hg (N := 9) ?hd (cs := #[.int .i64 0, .int .i64 0]) (t := 53) ?hr ?_; (case hd => rfl); (case hg => rfl); (case hr => first | (go_simp; done) | (go_simp; rfl)); intro gb176 hg w23 hbox hb; have n0_ := Aside0.mk (Kd.R_below (by (with_reducible repeat (first | apply Kd.R_alloc | apply Kd.R_drewN | apply Kd.R_drew)); exact HO_3.out) hb); have n1_ := Aside0.mk (Kd.N_below (Kd.N_elderB (by (with_reducible repeat (first | apply Kd.N_alloc | apply Kd.N_drewN | apply Kd.N_drew)); exact HO_5.out) gb176 (Nat.le_of_eq hg.symm)) hb); have n2_ := Aside0.mk (below_step (by repeat (first | (with_reducible first | exact HB.out | apply below_alloc | apply pw_below_drewN | apply below_drew1) | exact HB.out)) hb); have n3_ := Aside0.mk (hbox); have n4_ := Aside0.mk ((by rw [hg]; exact (below_size (by repeat (first | (with_reducible first | exact HB.out | apply below_alloc | apply pw_below_drewN | apply below_drew1) | exact HB.out))) : w.heap.size ≤ gb176)); have n5_ := Aside0.mk ((by rw [hg]; exact (below_size (by repeat (first | (with_reducible first | exact HB.out | apply below_alloc | apply pw_below_drewN | apply below_drew1) | exact HB.out))) : w.heap.size ≤ gb176)); clear HO_3; clear HO_5; clear HB; have HO_3 := n0_; have HO_5 := n1_; have HB := n2_; have BK176 := n3_; have GW176 := n4_; have GE176 := n5_; clear n0_ n1_ n2_ n3_ n4_ n5_; clear hb hbox hg; have hcz24_0 : w23.cell? ⟨gb176, 0, none⟩ = some (.int .i64 0) := (blk_cell BK176.out 0).trans rfl; have hcz24_1 : w23.cell? ⟨gb176, 1, none⟩ = some (.int .i64 0) := (blk_cell BK176.out 1).trans rfl; have hfz24_0 := blk_frozen BK176.out 0; have hfz24_1 := blk_frozen BK176.out 1))
                          go_loopg [4, 38] k3 (fun kq v4 v38 w' => ∃ (x3_4 : List Int) (x4_4 : Int) (x5_4 : List (List Int)) (x38_4 : Int), v4 = .int .i64 x4_4 ∧ v38 = .int .i64 x38_4 ∧ Aside0 (impl_fill.l3 kq l0 x3_4 x4_4 x5_4 x31_3 l0 (l0.length : Int) x31_3 ((rd_T53 l0 x31_3).f1) x38_4 ((rd_T53 l0 x31_3).f0) ((rd_T53 l0 x31_3).f1) = some r) ∧ Aside0 (kq ≤ k3) ∧ Aside0 (Kd.R (Kd.int .i64) 2 w' w.heap.size (fun _ => True) v161 x3_4) ∧ Aside0 (Kd.N (Kd.slice 2 (Kd.int .i64)) 36 w' w.heap.size (fun k_ => some k_ ≠ (v161 : Value).ownBlock ∧ k_ ≠ gb176) u5 x5_4) ∧ Aside0 (w'.heap[gb176]? = some (.cells #[.int .i64 ((rd_T53 l0 x31_3).f0), .int .i64 ((rd_T53 l0 x31_3).f1)] 53 (0, 0))) ∧ Aside0 (Below w.heap.size w w'))
                          case atStart => exact ⟨(x3_3), (x4_3), (x5_3), (0), (by first | rfl | (simp; done) | (simp [*]; done)), (by first | rfl | (simp; done) | (simp [*]; done)), H', ⟨Nat.le_refl _⟩, ⟨by (with_reducible repeat (first | apply Kd.R_alloc | apply Kd.R_drewN | apply Kd.R_drew)); exact Kd.R_mono (Kd.R_far (p := ⟨gb176, 1, none⟩) (Kd.R_far (p := ⟨gb176, 0, none⟩) (Kd.R_types HO_3.out BK176.out (by decide)) (fun _ hk => hk.2) (.int .i64 ((rd_T53 l0 x31_3).f0))) (fun _ hk => hk.2) (.int .i64 ((rd_T53 l0 x31_3).f1))) (fun _ hk => trivial)⟩, ⟨by (with_reducible repeat (first | apply Kd.N_alloc | apply Kd.N_drewN | apply Kd.N_drew)); exact Kd.N_mono (Kd.N_far (p := ⟨gb176, 1, none⟩) (Kd.N_far (p := ⟨gb176, 0, none⟩) (Kd.N_mono HO_5.out (fun k_ hk => (⟨hk, hk.2⟩ : _ ∧ k_ ≠ gb176))) (fun _ hk => hk.2) (.int .i64 ((rd_T53 l0 x31_3).f0))) (fun _ hk => hk.2) (.int .i64 ((rd_T53 l0 x31_3).f1))) (fun _ hk => ⟨hk.1.1, hk.1.2⟩)⟩, ⟨by (with_reducible repeat (first | refine blk_drewN ?_ _ | refine blk_drew ?_ | refine blk_alloc ?_ _)); refine blk_put (cs := #[.int .i64 ((rd_T53 l0 x31_3).f0), .int .i64 0]) ?_ 1 _ rfl; (with_reducible repeat (first | refine blk_drewN ?_ _ | refine blk_drew ?_ | refine blk_alloc ?_ _)); refine blk_put (cs := #[.int .i64 0, .int .i64 0]) ?_ 0 _ rfl; (with_reducible repeat (first | refine blk_drewN ?_ _ | refine blk_drew ?_ | refine blk_alloc ?_ _)); exact BK176.out⟩, ⟨by repeat (first | (with_reducible first | exact HB.out | apply below_alloc | apply pw_below_drewN | apply below_drew1 | refine below_set ?_ GE176.out) | exact HB.out)⟩⟩
                          case round =>
                            clear H'
                            try clear c1
                            try clear p1
                            try clear q1
                            try clear hx1
                            try clear c2
                            try clear c2b0
                            try clear c2b1
                            try clear p2
                            try clear c4
                            try clear c5
                            try clear c6
                            try clear p6
                            try clear c10
                            try clear c10b0
                            try clear c11
                            try clear c11b0
                            try clear c12
                            try clear c12b0
                            try clear c14
                            try clear p16
                            try clear q16
                            try clear hx16
                            try clear p17
                            try clear q17
                            try clear hx17
                            try clear c20
                            try clear c20b0
                            try clear c21
                            try clear c21b0
                            try clear c22
                            try clear c22b0
                            try clear hcz16_0
                            try clear hcz16_1
                            try clear hcz24_0
                            try clear hcz24_1
                            try clear hfz16_0
                            try clear hfz16_1
                            try clear hfz24_0
                            try clear hfz24_1
                            try clear hx167_0
                            try clear hx167_1
                            try clear hx175_0
                            try clear hx175_1
                            try clear p1
                            try clear p16
                            try clear p167
                            try clear p175
                            try clear p2
                            try clear p6
                            try clear q1
                            try clear q16
                            try clear q167
                            try clear q175
                            obtain ⟨x3_4, x4_4, x5_4, x38_4, rfl, rfl, HA, HK4, HO_3, HO_5, BK176, HB⟩ := hrel
                            cases gk with
                            | zero => exact absurd HA.out (by simp [impl_fill.l3])
                            | succ k4 =>
                              have H := HA.out
                              clear HA
                              simp only [impl_fill.l3] at H
                              by_cases c25 : x38_4 < ((rd_T53 l0 x31_3).f1)
                              · rw [if_pos c25] at H
                                have c25b0 : decide (x38_4 < ((rd_T53 l0 x31_3).f1)) = true := decide_eq_true c25
                                clear c25
                                have H' := Aside0.mk H
                                clear H
                                go_wp2
                                go_loopg [] k4 (fun kq w' => ∃ (x5_5 : List (List Int)), Aside0 (impl_fill.l4 kq l0 x3_4 x4_4 x5_5 x31_3 l0 (l0.length : Int) x31_3 ((rd_T53 l0 x31_3).f1) x38_4 ((rd_T53 l0 x31_3).f0) ((rd_T53 l0 x31_3).f1) = some r) ∧ Aside0 (kq ≤ k4) ∧ Aside0 (Kd.R (Kd.int .i64) 2 w' w.heap.size (fun _ => True) v161 x3_4) ∧ Aside0 (Kd.N (Kd.slice 2 (Kd.int .i64)) 36 w' w.heap.size (fun k_ => some k_ ≠ (v161 : Value).ownBlock ∧ k_ ≠ gb176) u5 x5_5) ∧ Aside0 (w'.heap[gb176]? = some (.cells #[.int .i64 ((rd_T53 l0 x31_3).f0), .int .i64 ((rd_T53 l0 x31_3).f1)] 53 (0, 0))) ∧ Aside0 (Below w.heap.size w w'))
                                case atStart => exact ⟨(x5_4), H', ⟨Nat.le_refl _⟩, ⟨by (with_reducible repeat (first | apply Kd.R_alloc | apply Kd.R_drewN | apply Kd.R_drew)); exact HO_3.out⟩, ⟨by (with_reducible repeat (first | apply Kd.N_alloc | apply Kd.N_drewN | apply Kd.N_drew)); exact HO_5.out⟩, ⟨by (with_reducible repeat (first | refine blk_drewN ?_ _ | refine blk_drew ?_ | refine blk_alloc ?_ _)); exact BK176.out⟩, ⟨by repeat (first | (with_reducible first | exact HB.out | apply below_alloc | apply pw_below_drewN | apply below_drew1 | refine below_set ?_ GE176.out) | exact HB.out)⟩⟩
                                case round =>
                                  clear H'
                                  try clear c1
                                  try clear p1
                                  try clear q1
                                  try clear hx1
                                  try clear c2
                                  try clear c2b0
                                  try clear c2b1
                                  try clear p2
                                  try clear c4
                                  try clear c5
                                  try clear c6
                                  try clear p6
                                  try clear c10
                                  try clear c10b0
                                  try clear c11
                                  try clear c11b0
                                  try clear c12
                                  try clear c12b0
                                  try clear c14
                                  try clear p16
                                  try clear q16
                                  try clear hx16
                                  try clear p17
                                  try clear q17
                                  try clear hx17
                                  try clear c20
                                  try clear c20b0
                                  try clear c21
                                  try clear c21b0
                                  try clear c22
                                  try clear c22b0
                                  try clear c25
                                  try clear c25b0
                                  try clear hcz16_0
                                  try clear hcz16_1
                                  try clear hcz24_0
                                  try clear hcz24_1
                                  try clear hfz16_0
                                  try clear hfz16_1
                                  try clear hfz24_0
                                  try clear hfz24_1
                                  try clear hx167_0
                                  try clear hx167_1
                                  try clear hx175_0
                                  try clear hx175_1
                                  try clear p1
                                  try clear p16
                                  try clear p167
                                  try clear p17
                                  try clear p175
                                  try clear p2
                                  try clear p6
                                  try clear q1
                                  try clear q16
                                  try clear q167
                                  try clear q17
                                  try clear q175
                                  obtain ⟨x5_5, HA, HK5, HO_3, HO_5, BK176, HB⟩ := hrel
                                  cases gk with
                                  | zero => exact absurd HA.out (by simp [impl_fill.l4])
                                  | succ k5 =>
                                    have H := HA.out
                                    clear HA
                                    simp only [impl_fill.l4] at H
                                    by_cases c26 : 0 ≤ x31_3
                                    · rw [if_pos c26] at H
                                      have c26b0 : decide (0 ≤ x31_3) = true := decide_eq_true c26
                                      clear c26
                                      by_cases c27 : x31_3 < (x5_5.length : Int)
                                      · rw [if_pos c27] at H
                                        have c27b0 : decide (x31_3 < (x5_5.length : Int)) = true := decide_eq_true c27
                                        clear c27
                                        by_cases c28 : 0 < ((rd_L2 x5_5 x31_3).length : Int)
                                        · rw [if_pos c28] at H
                                          have c28b0 : decide (0 < ((rd_L2 x5_5 x31_3).length : Int)) = true := decide_eq_true c28
                                          have c28b1 : decide (0 < (rd_L2 x5_5 x31_3).length) = true := decide_eq_true (by omega)
                                          clear c28
                                          by_cases c29 : 0 ≤ (rd (rd_L2 x5_5 x31_3) 0)
                                          · rw [if_pos c29] at H
                                            have c29b0 : decide (0 ≤ (rd (rd_L2 x5_5 x31_3) 0)) = true := decide_eq_true c29
                                            clear c29
                                            by_cases c30 : (rd (rd_L2 x5_5 x31_3) 0) < (x3_4.length : Int)
                                            · rw [if_pos c30] at H
                                              have c30b0 : decide ((rd (rd_L2 x5_5 x31_3) 0) < (x3_4.length : Int)) = true := decide_eq_true c30
                                              clear c30
                                              by_cases c31 : (rd x3_4 (rd (rd_L2 x5_5 x31_3) 0)) = 0
                                              · rw [if_pos c31] at H
                                                have c31b0 : ((rd x3_4 (rd (rd_L2 x5_5 x31_3) 0)) == 0) = true := beq_iff_eq.mpr c31
                                                have c31b1 : ((rd x3_4 (rd (rd_L2 x5_5 x31_3) 0)) != 0) = false := bne_eq_false_iff_eq.mpr c31
                                                clear c31
                                                obtain ⟨y182, hy182⟩ : ∃ y_ : List Int, y_ = (x3_4.set ((rd (rd_L2 x5_5 x31_3) 0) : Int).toNat ((rd_T53 l0 x31_3).f0)) := ⟨_, rfl⟩
                                                replace H : (if (wrap64 (x4_4 - 1)) = 0 then (some y182) else (impl_fill.l3 k5 l0 y182 (wrap64 (x4_4 - 1)) x5_5 x31_3 l0 (l0.length : Int) x31_3 ((rd_T53 l0 x31_3).f1) (wrap64 (x38_4 + 1)) ((rd_T53 l0 x31_3).f0) ((rd_T53 l0 x31_3).f1))) = some r := by first | (rw [hy182]; with_reducible exact H) | (have H2_ := (Option.bind_some _ _).symm.trans H; rw [hy182]; with_reducible exact H2_) | (have H2_ := (Option.bind_some _ _).symm.trans H; with_reducible exact H2_) | with_reducible exact H | (rw [hy182]; exact H) | exact H
                                                have Ny182 := Aside0.mk hy182
                                                clear hy182
                                                by_cases c33 : (wrap64 (x4_4 - 1)) = 0
                                                · rw [if_pos c33] at H
                                                  have c33b0 : ((wrap64 (x4_4 - 1)) == 0) = true := beq_iff_eq.mpr c33
                                                  have c33b1 : ((wrap64 (x4_4 - 1)) != 0) = false := bne_eq_false_iff_eq.mpr c33
                                                  clear c33
                                                  obtain rfl := Option.some.inj H
                                                  obtain ⟨Ao34, co34, eo34⟩ := Kd.N_slice HO_5.out
                                                  subst eo34
                                                  have p177 : 0 ≤ (x31_3 : Int) := of_decide_eq_true (by first | (with_reducible assumption) | assumption)
                                                  have q177 : x31_3 < (x5_5.length : Int) := of_decide_eq_true (by first | (with_reducible assumption) | assumption)
                                                  obtain ⟨ad177, A177_0, c177_0, e177, hx177_0, hl177_0, hi177_0⟩ := at_L2 (Kd.N_reads' HO_5.out).2.2 x31_3 p177 q177
                                                  cases e177
                                                  obtain ⟨ce177, hce177, hMe177, hcc177⟩ := Kd.N_get HO_5.out [] x31_3 p177 (by first | exact q177 | exact of_decide_eq_true (by first | (with_reducible assumption) | assumption) | (have e_ := (Kd.N_reads' HO_5.out).1; omega))
                                                  obtain ⟨ua177_0, uc177_0, rfl, ul177_0, ge177_0⟩ := Kd.FK_slice_open hMe177
                                                  have hv177_0 := hcc177 0 _ rfl
                                                  rw [Nat.add_zero, show ((Kd.slice 2 (Kd.int .i64))).sz = 1 from rfl, Nat.mul_one] at hv177_0
                                                  replace hv177_0 := Option.some.inj (hv177_0.symm.trans hx177_0)
                                                  injection hv177_0 with hva_ hvn_ hvc_
                                                  rw [hva_] at ge177_0
                                                  rw [hvc_] at ul177_0
                                                  have HL177_0 := Aside0.mk (show Kd.V (Kd.int .i64) 2 _ w.heap.size _ _ (rd_L2 x5_5 x31_3) from Kd.V_mk ul177_0 ge177_0)
                                                  clear hva_ hvn_ hvc_ ge177_0 ul177_0
                                                  clear hcc177 hce177
                                                  have HR177_0 := Aside0.mk hi177_0
                                                  have HC177_0 := Aside0.mk hl177_0
                                                  clear hi177_0 hl177_0
                                                  replace p177 := eq_true p177
                                                  replace q177 := eq_true q177
                                                  have p178 : 0 ≤ (0 : Int) := (by omega)
                                                  have q178 : 0 < ((rd_L2 x5_5 x31_3).length : Int) := of_decide_eq_true (by first | (with_reducible assumption) | assumption)
                                                  obtain ⟨ad178, e178, hx178_0⟩ := Kd.at_int (by repeat (first | (with_reducible exact HR177_0.out) | (with_reducible refine Kd.C_alloc ?_ _) | (with_reducible refine Kd.C_drewN ?_ _) | (with_reducible refine Kd.C_drew ?_) | exact HR177_0.out)) 0 p178 q178
                                                  cases e178
                                                  have qi178 : (0 < (rd_L2 x5_5 x31_3).length) = True := eq_true (by omega)
                                                  (try rw [show ((0 : Int)).toNat = 0 from rfl] at hx178_0)
                                                  (try rw [Addr.add_zero'] at hx178_0)
                                                  replace p178 := eq_true p178
                                                  replace q178 := eq_true q178
                                                  obtain ⟨Ao35, co35, eo35⟩ := Kd.R_slice HO_3.out
                                                  subst eo35
                                                  have p179 : 0 ≤ ((rd (rd_L2 x5_5 x31_3) 0) : Int) := of_decide_eq_true (by first | (with_reducible assumption) | assumption)
                                                  have q179 : (rd (rd_L2 x5_5 x31_3) 0) < (x3_4.length : Int) := of_decide_eq_true (by first | (with_reducible assumption) | assumption)
                                                  obtain ⟨ad179, e179, hx179_0⟩ := Kd.at_int (Kd.R_reads' HO_3.out).2.2 (rd (rd_L2 x5_5 x31_3) 0) p179 q179
                                                  cases e179
                                                  replace p179 := eq_true p179
                                                  replace q179 := eq_true q179
                                                  try go_wp2
                                                  have n0_ := Aside0.mk (Kd.R_drew HO_3.out)
                                                  have n1_ := Aside0.mk (Kd.N_drew HO_5.out)
                                                  have n2_ := Aside0.mk (Kd.V_drew HL177_0.out)
                                                  have n3_ := Aside0.mk (blk_drew BK176.out)
                                                  have n4_ := Aside0.mk (Kd.C_drew HR177_0.out)
                                                  have n5_ := Aside0.mk (below_drew1 HB.out)
                                                  clear HO_3
                                                  clear HO_5
                                                  clear HL177_0
                                                  clear BK176
                                                  clear HR177_0
                                                  clear HB
                                                  have HO_3 := n0_
                                                  have HO_5 := n1_
                                                  have HL177_0 := n2_
                                                  have BK176 := n3_
                                                  have HR177_0 := n4_
                                                  have HB := n5_
                                                  clear n0_ n1_ n2_ n3_ n4_ n5_
                                                  have p180 : 0 ≤ (x31_3 : Int) := of_decide_eq_true (by first | (with_reducible assumption) | assumption)
                                                  have q180 : x31_3 < (x5_5.length : Int) := of_decide_eq_true (by first | (with_reducible assumption) | assumption)
                                                  obtain ⟨ad180, A180_0, c180_0, e180, hx180_0, hl180_0, hi180_0⟩ := at_L2 (Kd.N_reads' HO_5.out).2.2 x31_3 p180 q180
                                                  obtain rfl : ad177 = ad180 := (by injection e180)
                                                  obtain ⟨ce180, hce180, hMe180, hcc180⟩ := Kd.N_get HO_5.out [] x31_3 p180 (by first | exact q180 | exact of_decide_eq_true (by first | (with_reducible assumption) | assumption) | (have e_ := (Kd.N_reads' HO_5.out).1; omega))
                                                  obtain ⟨ua180_0, uc180_0, rfl, ul180_0, ge180_0⟩ := Kd.FK_slice_open hMe180
                                                  have hv180_0 := hcc180 0 _ rfl
                                                  rw [Nat.add_zero, show ((Kd.slice 2 (Kd.int .i64))).sz = 1 from rfl, Nat.mul_one] at hv180_0
                                                  replace hv180_0 := Option.some.inj (hv180_0.symm.trans hx180_0)
                                                  injection hv180_0 with hva_ hvn_ hvc_
                                                  rw [hva_] at ge180_0
                                                  rw [hvc_] at ul180_0
                                                  have HL180_0 := Aside0.mk (show Kd.V (Kd.int .i64) 2 _ w.heap.size _ _ (rd_L2 x5_5 x31_3) from Kd.V_mk ul180_0 ge180_0)
                                                  clear hva_ hvn_ hvc_ ge180_0 ul180_0
                                                  clear hcc180 hce180
                                                  have HR180_0 := Aside0.mk hi180_0
                                                  have HC180_0 := Aside0.mk hl180_0
                                                  clear hi180_0 hl180_0
                                                  replace p180 := eq_true p180
                                                  replace q180 := eq_true q180
                                                  have p181 : 0 ≤ (0 : Int) := (by omega)
                                                  have q181 : 0 < ((rd_L2 x5_5 x31_3).length : Int) := of_decide_eq_true (by first | (with_reducible assumption) | assumption)
                                                  obtain ⟨ad181, e181, hx181_0⟩ := Kd.at_int (by repeat (first | (with_reducible exact HR180_0.out) | (with_reducible refine Kd.C_alloc ?_ _) | (with_reducible refine Kd.C_drewN ?_ _) | (with_reducible refine Kd.C_drew ?_) | exact HR180_0.out)) 0 p181 q181
                                                  cases e181
                                                  have qi181 : (0 < (rd_L2 x5_5 x31_3).length) = True := eq_true (by omega)
                                                  (try rw [show ((0 : Int)).toNat = 0 from rfl] at hx181_0)
                                                  (try rw [Addr.add_zero'] at hx181_0)
                                                  replace p181 := eq_true p181
                                                  replace q181 := eq_true q181
                                                  have p32 : 0 ≤ ((rd (rd_L2 x5_5 x31_3) 0) : Int) := of_decide_eq_true (by first | (with_reducible assumption) | assumption)
                                                  have q32 : ((rd (rd_L2 x5_5 x31_3) 0) : Int) < ((x3_4.length : Int) : Int) := of_decide_eq_true (by first | (with_reducible assumption) | assumption)
                                                  obtain ⟨go32, co32, eo32, gb32, gl32, cl32, HG32⟩ := Kd.R_form HO_3.out (by omega)
                                                  (first | cases eo32 | (injection eo32 with ea_ en_ ec_; (first | subst ea_ | (injection ea_ with ea_; subst ea_)); subst ec_; clear en_))
                                                  have GB32 := Aside0.mk gb32
                                                  have GG32 := Aside0.mk HG32
                                                  clear gb32 gl32 HG32
                                                  (first | simp only [add_plain] at hx179_0 | skip)
                                                  obtain ⟨hx32_0, hf32_0⟩ := Kd.R_celln 0 HO_3.out ((rd (rd_L2 x5_5 x31_3) 0) : Int) p32 q32
                                                  replace p32 := eq_true p32
                                                  replace q32 := eq_true q32
                                                  have HP37 := Kd.R_putn HO_3.out ((rd (rd_L2 x5_5 x31_3) 0) : Int) ((rd_T53 l0 x31_3).f0)
                                                  rw [← Ny182.out] at HP37
                                                  have HQ37 := Aside0.mk HP37
                                                  clear HP37
                                                  refine start_ (n := 11) (S := fun w' => w'.cell? ⟨gb176, 0, none⟩ = some (.int .i64 ((rd_T53 l0 x31_3).f0)) ∧ w'.cell? ⟨gb176, 1, none⟩ = some (.int .i64 ((rd_T53 l0 x31_3).f1)) ∧ w'.cell? (ad177.add (x31_3).toNat) = some (.slice (some ad181) (rd_L2 x5_5 x31_3).length c180_0) ∧ w'.cell? ad181 = some (.int .i64 (rd (rd_L2 x5_5 x31_3) 0))) (ds := [10]) #[false, false, false, false, false, false, false, false, false, false, false] (by kernel_rfl) rfl rfl ⟨(blk_cell BK176.out 0).trans rfl, (blk_cell BK176.out 1).trans rfl, hx180_0, hx181_0⟩ (fun hHeld => ?_); refine with_tabW impl_fill.tab17 impl_fill.bits17 (fun HT_ HW_ => ?_)
                                                  generalize wr.drew = w36 at HO_3 HO_5 HL177_0 BK176 HR177_0 HB GG32 HL180_0 HQ37 HR180_0 hf32_0 hx179_0 hx180_0 hx181_0 hx32_0 hHeld ⊢
                                                  refine pure_ (i := 0) (N := some 58) (v := ?_) (a' := ?_) #[true, false, false, false, false, false, false, false, false, false, false] rfl rfl (any_of HT_.out (by kernel_rfl)) (fun _ _ _ h => h) (Or.inl ⟨by rfl, ?_⟩) ?_ ?_
                                                  rotate_left
                                                  · intro w'
                                                    first | (go_simp; with_reducible rfl) | (go_simp; (try unfold Instr.field); go_simp; (try simp only [asAgg]); go_simp; with_reducible rfl)
                                                  rotate_left
                                                  · simp only [Act.put, List.setIfInBounds_toArray, List.set_cons_zero, List.set_cons_succ, i64_w, i32_w]
                                                    rfl
                                                  refine pure_ (i := 1) (N := some 59) (v := ?_) (a' := ?_) #[true, true, false, false, false, false, false, false, false, false, false] rfl rfl (any_of HT_.out (by kernel_rfl)) (fun _ _ _ h => h) (Or.inl ⟨by rfl, ?_⟩) ?_ ?_
                                                  rotate_left
                                                  · intro w'
                                                    first | (go_simp; with_reducible rfl) | (go_simp; (try unfold Instr.field); go_simp; (try simp only [asAgg]); go_simp; with_reducible rfl)
                                                  rotate_left
                                                  · simp only [Act.put, List.setIfInBounds_toArray, List.set_cons_zero, List.set_cons_succ, i64_w, i32_w]
                                                    rfl
                                                  refine pure_ (i := 2) (N := some 60) (v := ?_) (a' := ?_) #[true, true, true, false, false, false, false, false, false, false, false] rfl rfl (any_of HT_.out (by kernel_rfl)) (fun _ _ _ h => h) (Or.inl ⟨by rfl, ?_⟩) ?_ ?_
                                                  rotate_left
                                                  · intro w'
                                                    first | (go_simp; with_reducible rfl) | (go_simp; (try unfold Instr.field); go_simp; (try simp only [asAgg]); go_simp; with_reducible rfl)
                                                  rotate_left
                                                  · simp only [Act.put, List.setIfInBounds_toArray, List.set_cons_zero, List.set_cons_succ, i64_w, i32_w]
                                                    rfl
                                                  refine pure_ (i := 3) (N := some 61) (v := ?_) (a' := ?_) #[true, true, true, true, false, false, false, false, false, false, false] rfl rfl (any_of HT_.out (by kernel_rfl)) (fun _ _ _ h => h) (Or.inl ⟨by rfl, ?_⟩) ?_ ?_
                                                  rotate_left
                                                  · intro w'
                                                    first | (go_simp; with_reducible rfl) | (go_simp; (try unfold Instr.field); go_simp; (try simp only [asAgg]); go_simp; with_reducible rfl)
                                                  rotate_left
                                                  · simp only [Act.put, List.setIfInBounds_toArray, List.set_cons_zero, List.set_cons_succ, i64_w, i32_w]
                                                    rfl
                                                  refine pure_ (i := 7) (N := some 65) (v := ?_) (a' := ?_) #[true, true, true, true, false, false, false, true, false, false, false] rfl rfl (any_of HT_.out (by kernel_rfl)) (fun _ _ _ h => h) (Or.inl ⟨by rfl, ?_⟩) ?_ ?_
                                                  rotate_left
                                                  · intro w'
                                                    first | (go_simp; with_reducible rfl) | (go_simp; (try unfold Instr.field); go_simp; (try simp only [asAgg]); go_simp; with_reducible rfl)
                                                  rotate_left
                                                  · simp only [Act.put, List.setIfInBounds_toArray, List.set_cons_zero, List.set_cons_succ, i64_w, i32_w]
                                                    rfl
                                                  refine take_ (i := 4) (N := some 62) (v := ?_) (a' := ?_) #[true, true, true, true, true, false, false, true, false, false, false] rfl rfl (take_ofW HT_.out HW_.out (by kernel_rfl)) (fun _ _ _ h => h) (Or.inl ⟨by rfl, ?_⟩) hHeld ?_ ?_
                                                  rotate_left
                                                  · rintro w' ⟨s0, s1, s2, s3⟩
                                                    go_simp
                                                    with_reducible rfl
                                                  rotate_left
                                                  · simp only [Act.put, List.setIfInBounds_toArray, List.set_cons_zero, List.set_cons_succ, i64_w, i32_w]
                                                    rfl
                                                  refine pure_ (i := 5) (N := some 63) (v := ?_) (a' := ?_) #[true, true, true, true, true, true, false, true, false, false, false] rfl rfl (any_of HT_.out (by kernel_rfl)) (fun _ _ _ h => h) (Or.inl ⟨by rfl, ?_⟩) ?_ ?_
                                                  rotate_left
                                                  · intro w'
                                                    first | (go_simp; with_reducible rfl) | (go_simp; (try unfold Instr.field); go_simp; (try simp only [asAgg]); go_simp; with_reducible rfl)
                                                  rotate_left
                                                  · simp only [Act.put, List.setIfInBounds_toArray, List.set_cons_zero, List.set_cons_succ, i64_w, i32_w]
                                                    rfl
                                                  refine take_ (i := 6) (N := some 64) (v := ?_) (a' := ?_) #[true, true, true, true, true, true, true, true, false, false, false] rfl rfl (take_ofW HT_.out HW_.out (by kernel_rfl)) (fun _ _ _ h => h) (Or.inl ⟨by rfl, ?_⟩) hHeld ?_ ?_
                                                  rotate_left
                                                  · rintro w' ⟨s0, s1, s2, s3⟩
                                                    go_simp
                                                    with_reducible rfl
                                                  rotate_left
                                                  · simp only [Act.put, List.setIfInBounds_toArray, List.set_cons_zero, List.set_cons_succ, i64_w, i32_w]
                                                    rfl
                                                  refine take_ (i := 8) (N := some 66) (v := ?_) (a' := ?_) #[true, true, true, true, true, true, true, true, true, false, false] rfl rfl (take_ofW HT_.out HW_.out (by kernel_rfl)) (fun _ _ _ h => h) (Or.inl ⟨by rfl, ?_⟩) hHeld ?_ ?_
                                                  rotate_left
                                                  · rintro w' ⟨s0, s1, s2, s3⟩
                                                    go_simp
                                                    with_reducible rfl
                                                  rotate_left
                                                  · simp only [Act.put, List.setIfInBounds_toArray, List.set_cons_zero, List.set_cons_succ, i64_w, i32_w]
                                                    rfl
                                                  refine pure_ (i := 9) (N := some 67) (v := ?_) (a' := ?_) #[true, true, true, true, true, true, true, true, true, true, false] rfl rfl (any_of HT_.out (by kernel_rfl)) (fun _ _ _ h => h) (Or.inl ⟨by rfl, ?_⟩) ?_ ?_
                                                  rotate_left
                                                  · intro w'
                                                    first | (go_simp; with_reducible rfl) | (go_simp; (try unfold Instr.field); go_simp; (try simp only [asAgg]); go_simp; with_reducible rfl)
                                                  rotate_left
                                                  · simp only [Act.put, List.setIfInBounds_toArray, List.set_cons_zero, List.set_cons_succ, i64_w, i32_w]
                                                    rfl
                                                  refine last_ (i := 10) (N := none) #[true, true, true, true, true, true, true, true, true, true, true] rfl rfl (one_of HT_.out (by kernel_rfl)) (by decide) (fun K hK => ?_)
                                                  refine skip_ (w1 := ?_) (by rfl) rfl ?_ ?_
                                                  rotate_left
                                                  · go_simp
                                                    rfl
                                                  refine hK.out _ _ ?_
                                                  clear hK K
                                                  refine done_ (done_of HT_.out (by kernel_rfl)) ?_
                                                  try go_wp2
                                                  go_ret
                                                  exact ⟨_, by first | rfl | (simp [errW_none, errW_some] <;> rfl) | (simp [*, errW_none, errW_some] <;> rfl), by (with_reducible repeat (first | apply Kd.R_alloc | apply Kd.R_drewN | apply Kd.R_drew)); exact HQ37.out, by repeat (first | (with_reducible first | exact HB.out | apply below_alloc | apply pw_below_drewN | apply below_drew1 | refine below_set ?_ GB32.out | refine below_set ?_ GE176.out) | exact HB.out)⟩
                                                · rw [if_neg c33] at H
                                                  have c33b0 : ((wrap64 (x4_4 - 1)) == 0) = false := beq_eq_false_iff_ne.mpr c33
                                                  have c33b1 : ((wrap64 (x4_4 - 1)) != 0) = true := bne_iff_ne.mpr c33
                                                  have H' := Aside0.mk H
                                                  clear H
                                                  obtain ⟨Ao38, co38, eo38⟩ := Kd.N_slice HO_5.out
                                                  subst eo38
                                                  have p177 : 0 ≤ (x31_3 : Int) := of_decide_eq_true (by first | (with_reducible assumption) | assumption)
                                                  have q177 : x31_3 < (x5_5.length : Int) := of_decide_eq_true (by first | (with_reducible assumption) | assumption)
                                                  obtain ⟨ad177, A177_0, c177_0, e177, hx177_0, hl177_0, hi177_0⟩ := at_L2 (Kd.N_reads' HO_5.out).2.2 x31_3 p177 q177
                                                  cases e177
                                                  obtain ⟨ce177, hce177, hMe177, hcc177⟩ := Kd.N_get HO_5.out [] x31_3 p177 (by first | exact q177 | exact of_decide_eq_true (by first | (with_reducible assumption) | assumption) | (have e_ := (Kd.N_reads' HO_5.out).1; omega))
                                                  obtain ⟨ua177_0, uc177_0, rfl, ul177_0, ge177_0⟩ := Kd.FK_slice_open hMe177
                                                  have hv177_0 := hcc177 0 _ rfl
                                                  rw [Nat.add_zero, show ((Kd.slice 2 (Kd.int .i64))).sz = 1 from rfl, Nat.mul_one] at hv177_0
                                                  replace hv177_0 := Option.some.inj (hv177_0.symm.trans hx177_0)
                                                  injection hv177_0 with hva_ hvn_ hvc_
                                                  rw [hva_] at ge177_0
                                                  rw [hvc_] at ul177_0
                                                  have HL177_0 := Aside0.mk (show Kd.V (Kd.int .i64) 2 _ w.heap.size _ _ (rd_L2 x5_5 x31_3) from Kd.V_mk ul177_0 ge177_0)
                                                  clear hva_ hvn_ hvc_ ge177_0 ul177_0
                                                  clear hcc177 hce177
                                                  have HR177_0 := Aside0.mk hi177_0
                                                  have HC177_0 := Aside0.mk hl177_0
                                                  clear hi177_0 hl177_0
                                                  replace p177 := eq_true p177
                                                  replace q177 := eq_true q177
                                                  have p178 : 0 ≤ (0 : Int) := (by omega)
                                                  have q178 : 0 < ((rd_L2 x5_5 x31_3).length : Int) := of_decide_eq_true (by first | (with_reducible assumption) | assumption)
                                                  obtain ⟨ad178, e178, hx178_0⟩ := Kd.at_int (by repeat (first | (with_reducible exact HR177_0.out) | (with_reducible refine Kd.C_alloc ?_ _) | (with_reducible refine Kd.C_drewN ?_ _) | (with_reducible refine Kd.C_drew ?_) | exact HR177_0.out)) 0 p178 q178
                                                  cases e178
                                                  have qi178 : (0 < (rd_L2 x5_5 x31_3).length) = True := eq_true (by omega)
                                                  (try rw [show ((0 : Int)).toNat = 0 from rfl] at hx178_0)
                                                  (try rw [Addr.add_zero'] at hx178_0)
                                                  replace p178 := eq_true p178
                                                  replace q178 := eq_true q178
                                                  obtain ⟨Ao39, co39, eo39⟩ := Kd.R_slice HO_3.out
                                                  subst eo39
                                                  have p179 : 0 ≤ ((rd (rd_L2 x5_5 x31_3) 0) : Int) := of_decide_eq_true (by first | (with_reducible assumption) | assumption)
                                                  have q179 : (rd (rd_L2 x5_5 x31_3) 0) < (x3_4.length : Int) := of_decide_eq_true (by first | (with_reducible assumption) | assumption)
                                                  obtain ⟨ad179, e179, hx179_0⟩ := Kd.at_int (Kd.R_reads' HO_3.out).2.2 (rd (rd_L2 x5_5 x31_3) 0) p179 q179
                                                  cases e179
                                                  replace p179 := eq_true p179
                                                  replace q179 := eq_true q179
                                                  try go_wp2
                                                  have n0_ := Aside0.mk (Kd.R_drew HO_3.out)
                                                  have n1_ := Aside0.mk (Kd.N_drew HO_5.out)
                                                  have n2_ := Aside0.mk (Kd.V_drew HL177_0.out)
                                                  have n3_ := Aside0.mk (blk_drew BK176.out)
                                                  have n4_ := Aside0.mk (Kd.C_drew HR177_0.out)
                                                  have n5_ := Aside0.mk (below_drew1 HB.out)
                                                  clear HO_3
                                                  clear HO_5
                                                  clear HL177_0
                                                  clear BK176
                                                  clear HR177_0
                                                  clear HB
                                                  have HO_3 := n0_
                                                  have HO_5 := n1_
                                                  have HL177_0 := n2_
                                                  have BK176 := n3_
                                                  have HR177_0 := n4_
                                                  have HB := n5_
                                                  clear n0_ n1_ n2_ n3_ n4_ n5_
                                                  have p180 : 0 ≤ (x31_3 : Int) := of_decide_eq_true (by first | (with_reducible assumption) | assumption)
                                                  have q180 : x31_3 < (x5_5.length : Int) := of_decide_eq_true (by first | (with_reducible assumption) | assumption)
                                                  obtain ⟨ad180, A180_0, c180_0, e180, hx180_0, hl180_0, hi180_0⟩ := at_L2 (Kd.N_reads' HO_5.out).2.2 x31_3 p180 q180
                                                  obtain rfl : ad177 = ad180 := (by injection e180)
                                                  obtain ⟨ce180, hce180, hMe180, hcc180⟩ := Kd.N_get HO_5.out [] x31_3 p180 (by first | exact q180 | exact of_decide_eq_true (by first | (with_reducible assumption) | assumption) | (have e_ := (Kd.N_reads' HO_5.out).1; omega))
                                                  obtain ⟨ua180_0, uc180_0, rfl, ul180_0, ge180_0⟩ := Kd.FK_slice_open hMe180
                                                  have hv180_0 := hcc180 0 _ rfl
                                                  rw [Nat.add_zero, show ((Kd.slice 2 (Kd.int .i64))).sz = 1 from rfl, Nat.mul_one] at hv180_0
                                                  replace hv180_0 := Option.some.inj (hv180_0.symm.trans hx180_0)
                                                  injection hv180_0 with hva_ hvn_ hvc_
                                                  rw [hva_] at ge180_0
                                                  rw [hvc_] at ul180_0
                                                  have HL180_0 := Aside0.mk (show Kd.V (Kd.int .i64) 2 _ w.heap.size _ _ (rd_L2 x5_5 x31_3) from Kd.V_mk ul180_0 ge180_0)
                                                  clear hva_ hvn_ hvc_ ge180_0 ul180_0
                                                  clear hcc180 hce180
                                                  have HR180_0 := Aside0.mk hi180_0
                                                  have HC180_0 := Aside0.mk hl180_0
                                                  clear hi180_0 hl180_0
                                                  replace p180 := eq_true p180
                                                  replace q180 := eq_true q180
                                                  have p181 : 0 ≤ (0 : Int) := (by omega)
                                                  have q181 : 0 < ((rd_L2 x5_5 x31_3).length : Int) := of_decide_eq_true (by first | (with_reducible assumption) | assumption)
                                                  obtain ⟨ad181, e181, hx181_0⟩ := Kd.at_int (by repeat (first | (with_reducible exact HR180_0.out) | (with_reducible refine Kd.C_alloc ?_ _) | (with_reducible refine Kd.C_drewN ?_ _) | (with_reducible refine Kd.C_drew ?_) | exact HR180_0.out)) 0 p181 q181
                                                  cases e181
                                                  have qi181 : (0 < (rd_L2 x5_5 x31_3).length) = True := eq_true (by omega)
                                                  (try rw [show ((0 : Int)).toNat = 0 from rfl] at hx181_0)
                                                  (try rw [Addr.add_zero'] at hx181_0)
                                                  replace p181 := eq_true p181
                                                  replace q181 := eq_true q181
                                                  have p32 : 0 ≤ ((rd (rd_L2 x5_5 x31_3) 0) : Int) := of_decide_eq_true (by first | (with_reducible assumption) | assumption)
                                                  have q32 : ((rd (rd_L2 x5_5 x31_3) 0) : Int) < ((x3_4.length : Int) : Int) := of_decide_eq_true (by first | (with_reducible assumption) | assumption)
                                                  obtain ⟨go32, co32, eo32, gb32, gl32, cl32, HG32⟩ := Kd.R_form HO_3.out (by omega)
                                                  (first | cases eo32 | (injection eo32 with ea_ en_ ec_; (first | subst ea_ | (injection ea_ with ea_; subst ea_)); subst ec_; clear en_))
                                                  have GB32 := Aside0.mk gb32
                                                  have GG32 := Aside0.mk HG32
                                                  clear gb32 gl32 HG32
                                                  (first | simp only [add_plain] at hx179_0 | skip)
                                                  obtain ⟨hx32_0, hf32_0⟩ := Kd.R_celln 0 HO_3.out ((rd (rd_L2 x5_5 x31_3) 0) : Int) p32 q32
                                                  replace p32 := eq_true p32
                                                  replace q32 := eq_true q32
                                                  have HP41 := Kd.R_putn HO_3.out ((rd (rd_L2 x5_5 x31_3) 0) : Int) ((rd_T53 l0 x31_3).f0)
                                                  rw [← Ny182.out] at HP41
                                                  have HQ41 := Aside0.mk HP41
                                                  clear HP41
                                                  refine start_ (n := 11) (S := fun w' => w'.cell? ⟨gb176, 0, none⟩ = some (.int .i64 ((rd_T53 l0 x31_3).f0)) ∧ w'.cell? ⟨gb176, 1, none⟩ = some (.int .i64 ((rd_T53 l0 x31_3).f1)) ∧ w'.cell? (ad177.add (x31_3).toNat) = some (.slice (some ad181) (rd_L2 x5_5 x31_3).length c180_0) ∧ w'.cell? ad181 = some (.int .i64 (rd (rd_L2 x5_5 x31_3) 0))) (ds := [10]) #[false, false, false, false, false, false, false, false, false, false, false] (by kernel_rfl) rfl rfl ⟨(blk_cell BK176.out 0).trans rfl, (blk_cell BK176.out 1).trans rfl, hx180_0, hx181_0⟩ (fun hHeld => ?_); refine with_tabW impl_fill.tab17 impl_fill.bits17 (fun HT_ HW_ => ?_)
                                                  generalize wr.drew = w40 at HO_3 HO_5 HL177_0 BK176 HR177_0 HB GG32 HL180_0 HQ41 HR180_0 hf32_0 hx179_0 hx180_0 hx181_0 hx32_0 hHeld ⊢
                                                  refine pure_ (i := 0) (N := some 58) (v := ?_) (a' := ?_) #[true, false, false, false, false, false, false, false, false, false, false] rfl rfl (any_of HT_.out (by kernel_rfl)) (fun _ _ _ h => h) (Or.inl ⟨by rfl, ?_⟩) ?_ ?_
                                                  rotate_left
                                                  · intro w'
                                                    first | (go_simp; with_reducible rfl) | (go_simp; (try unfold Instr.field); go_simp; (try simp only [asAgg]); go_simp; with_reducible rfl)
                                                  rotate_left
                                                  · simp only [Act.put, List.setIfInBounds_toArray, List.set_cons_zero, List.set_cons_succ, i64_w, i32_w]
                                                    rfl
                                                  refine pure_ (i := 1) (N := some 59) (v := ?_) (a' := ?_) #[true, true, false, false, false, false, false, false, false, false, false] rfl rfl (any_of HT_.out (by kernel_rfl)) (fun _ _ _ h => h) (Or.inl ⟨by rfl, ?_⟩) ?_ ?_
                                                  rotate_left
                                                  · intro w'
                                                    first | (go_simp; with_reducible rfl) | (go_simp; (try unfold Instr.field); go_simp; (try simp only [asAgg]); go_simp; with_reducible rfl)
                                                  rotate_left
                                                  · simp only [Act.put, List.setIfInBounds_toArray, List.set_cons_zero, List.set_cons_succ, i64_w, i32_w]
                                                    rfl
                                                  refine pure_ (i := 2) (N := some 60) (v := ?_) (a' := ?_) #[true, true, true, false, false, false, false, false, false, false, false] rfl rfl (any_of HT_.out (by kernel_rfl)) (fun _ _ _ h => h) (Or.inl ⟨by rfl, ?_⟩) ?_ ?_
                                                  rotate_left
                                                  · intro w'
                                                    first | (go_simp; with_reducible rfl) | (go_simp; (try unfold Instr.field); go_simp; (try simp only [asAgg]); go_simp; with_reducible rfl)
                                                  rotate_left
                                                  · simp only [Act.put, List.setIfInBounds_toArray, List.set_cons_zero, List.set_cons_succ, i64_w, i32_w]
                                                    rfl
                                                  refine pure_ (i := 3) (N := some 61) (v := ?_) (a' := ?_) #[true, true, true, true, false, false, false, false, false, false, false] rfl rfl (any_of HT_.out (by kernel_rfl)) (fun _ _ _ h => h) (Or.inl ⟨by rfl, ?_⟩) ?_ ?_
                                                  rotate_left
                                                  · intro w'
                                                    first | (go_simp; with_reducible rfl) | (go_simp; (try unfold Instr.field); go_simp; (try simp only [asAgg]); go_simp; with_reducible rfl)
                                                  rotate_left
                                                  · simp only [Act.put, List.setIfInBounds_toArray, List.set_cons_zero, List.set_cons_succ, i64_w, i32_w]
                                                    rfl
                                                  refine pure_ (i := 7) (N := some 65) (v := ?_) (a' := ?_) #[true, true, true, true, false, false, false, true, false, false, false] rfl rfl (any_of HT_.out (by kernel_rfl)) (fun _ _ _ h => h) (Or.inl ⟨by rfl, ?_⟩) ?_ ?_
                                                  rotate_left
                                                  · intro w'
                                                    first | (go_simp; with_reducible rfl) | (go_simp; (try unfold Instr.field); go_simp; (try simp only [asAgg]); go_simp; with_reducible rfl)
                                                  rotate_left
                                                  · simp only [Act.put, List.setIfInBounds_toArray, List.set_cons_zero, List.set_cons_succ, i64_w, i32_w]
                                                    rfl
                                                  refine take_ (i := 4) (N := some 62) (v := ?_) (a' := ?_) #[true, true, true, true, true, false, false, true, false, false, false] rfl rfl (take_ofW HT_.out HW_.out (by kernel_rfl)) (fun _ _ _ h => h) (Or.inl ⟨by rfl, ?_⟩) hHeld ?_ ?_
                                                  rotate_left
                                                  · rintro w' ⟨s0, s1, s2, s3⟩
                                                    go_simp
                                                    with_reducible rfl
                                                  rotate_left
                                                  · simp only [Act.put, List.setIfInBounds_toArray, List.set_cons_zero, List.set_cons_succ, i64_w, i32_w]
                                                    rfl
                                                  refine pure_ (i := 5) (N := some 63) (v := ?_) (a' := ?_) #[true, true, true, true, true, true, false, true, false, false, false] rfl rfl (any_of HT_.out (by kernel_rfl)) (fun _ _ _ h => h) (Or.inl ⟨by rfl, ?_⟩) ?_ ?_
                                                  rotate_left
                                                  · intro w'
                                                    first | (go_simp; with_reducible rfl) | (go_simp; (try unfold Instr.field); go_simp; (try simp only [asAgg]); go_simp; with_reducible rfl)
                                                  rotate_left
                                                  · simp only [Act.put, List.setIfInBounds_toArray, List.set_cons_zero, List.set_cons_succ, i64_w, i32_w]
                                                    rfl
                                                  refine take_ (i := 6) (N := some 64) (v := ?_) (a' := ?_) #[true, true, true, true, true, true, true, true, false, false, false] rfl rfl (take_ofW HT_.out HW_.out (by kernel_rfl)) (fun _ _ _ h => h) (Or.inl ⟨by rfl, ?_⟩) hHeld ?_ ?_
                                                  rotate_left
                                                  · rintro w' ⟨s0, s1, s2, s3⟩
                                                    go_simp
                                                    with_reducible rfl
                                                  rotate_left
                                                  · simp only [Act.put, List.setIfInBounds_toArray, List.set_cons_zero, List.set_cons_succ, i64_w, i32_w]
                                                    rfl
                                                  refine take_ (i := 8) (N := some 66) (v := ?_) (a' := ?_) #[true, true, true, true, true, true, true, true, true, false, false] rfl rfl (take_ofW HT_.out HW_.out (by kernel_rfl)) (fun _ _ _ h => h) (Or.inl ⟨by rfl, ?_⟩) hHeld ?_ ?_
                                                  rotate_left
                                                  · rintro w' ⟨s0, s1, s2, s3⟩
                                                    go_simp
                                                    with_reducible rfl
                                                  rotate_left
                                                  · simp only [Act.put, List.setIfInBounds_toArray, List.set_cons_zero, List.set_cons_succ, i64_w, i32_w]
                                                    rfl
                                                  refine pure_ (i := 9) (N := some 67) (v := ?_) (a' := ?_) #[true, true, true, true, true, true, true, true, true, true, false] rfl rfl (any_of HT_.out (by kernel_rfl)) (fun _ _ _ h => h) (Or.inl ⟨by rfl, ?_⟩) ?_ ?_
                                                  rotate_left
                                                  · intro w'
                                                    first | (go_simp; with_reducible rfl) | (go_simp; (try unfold Instr.field); go_simp; (try simp only [asAgg]); go_simp; with_reducible rfl)
                                                  rotate_left
                                                  · simp only [Act.put, List.setIfInBounds_toArray, List.set_cons_zero, List.set_cons_succ, i64_w, i32_w]
                                                    rfl
                                                  refine last_ (i := 10) (N := none) #[true, true, true, true, true, true, true, true, true, true, true] rfl rfl (one_of HT_.out (by kernel_rfl)) (by decide) (fun K hK => ?_)
                                                  refine skip_ (w1 := ?_) (by rfl) rfl ?_ ?_
                                                  rotate_left
                                                  · go_simp
                                                    rfl
                                                  refine hK.out _ _ ?_
                                                  clear hK K
                                                  refine done_ (done_of HT_.out (by kernel_rfl)) ?_
                                                  try go_wp2
                                                  go_roundg k5
                                                  case measure => have := HK1.out; have := HK2.out; have := HK3.out; have := HK4.out; have := HK5.out; omega
                                                  case rel => exact ⟨(y182), (wrap64 (x4_4 - 1)), (x5_5), (wrap64 (x38_4 + 1)), (by first | rfl | (simp; done) | (simp [*]; done)), (by first | rfl | (simp; done) | (simp [*]; done)), H', ⟨by have := HK1.out; have := HK2.out; have := HK3.out; have := HK4.out; have := HK5.out; omega⟩, ⟨by (with_reducible repeat (first | apply Kd.R_alloc | apply Kd.R_drewN | apply Kd.R_drew)); exact HQ41.out⟩, ⟨by (with_reducible repeat (first | apply Kd.N_alloc | apply Kd.N_drewN | apply Kd.N_drew)); exact Kd.N_mono (Kd.N_far (p := ⟨go32, ((rd (rd_L2 x5_5 x31_3) 0) : Int).toNat, none⟩) (Kd.N_mono HO_5.out (fun k_ hk => (⟨hk, fun e_ => hk.1 (by rw [e_]; rfl)⟩ : _ ∧ k_ ≠ go32))) (fun _ hk => hk.2) (.int .i64 ((rd_T53 l0 x31_3).f0))) (fun _ hk => ⟨hk.1.1, hk.1.2⟩)⟩, ⟨by (with_reducible repeat (first | refine blk_drewN ?_ _ | refine blk_drew ?_ | refine blk_alloc ?_ _)); refine blk_far ?_ (by have h_ := Kd.R_ne HO_3.out BK176.out (by decide); intro e_; exact h_ (by rw [e_]; rfl)) _; (with_reducible repeat (first | refine blk_drewN ?_ _ | refine blk_drew ?_ | refine blk_alloc ?_ _)); exact BK176.out⟩, ⟨by repeat (first | (with_reducible first | exact HB.out | apply below_alloc | apply pw_below_drewN | apply below_drew1 | refine below_set ?_ GB32.out | refine below_set ?_ GE176.out) | exact HB.out)⟩⟩
                                              · rw [if_neg c31] at H
                                                have c31b0 : ((rd x3_4 (rd (rd_L2 x5_5 x31_3) 0)) == 0) = false := beq_eq_false_iff_ne.mpr c31
                                                have c31b1 : ((rd x3_4 (rd (rd_L2 x5_5 x31_3) 0)) != 0) = true := bne_iff_ne.mpr c31
                                                by_cases c42 : 1 ≤ ((rd_L2 x5_5 x31_3).length : Int)
                                                · rw [if_pos c42] at H
                                                  have c42b0 := eq_true c42
                                                  have c42b1 : decide (1 ≤ ((rd_L2 x5_5 x31_3).length : Int)) = true := decide_eq_true c42
                                                  clear c42
                                                  obtain ⟨y184, hy184⟩ : ∃ y_ : List Int, y_ = ((rd_L2 x5_5 x31_3).drop 1) := ⟨_, rfl⟩
                                                  replace H : (impl_fill.l4 k5 l0 x3_4 x4_4 (x5_5.set (x31_3 : Int).toNat y184) x31_3 l0 (l0.length : Int) x31_3 ((rd_T53 l0 x31_3).f1) x38_4 ((rd_T53 l0 x31_3).f0) ((rd_T53 l0 x31_3).f1)) = some r := by first | (rw [hy184]; with_reducible exact H) | (have H2_ := (Option.bind_some _ _).symm.trans H; rw [hy184]; with_reducible exact H2_) | (have H2_ := (Option.bind_some _ _).symm.trans H; with_reducible exact H2_) | with_reducible exact H | (rw [hy184]; exact H) | exact H
                                                  have Ny184 := Aside0.mk hy184
                                                  clear hy184
                                                  obtain ⟨y189, hy189⟩ : ∃ y_ : List (List Int), y_ = (x5_5.set (x31_3 : Int).toNat y184) := ⟨_, rfl⟩
                                                  replace H : (impl_fill.l4 k5 l0 x3_4 x4_4 y189 x31_3 l0 (l0.length : Int) x31_3 ((rd_T53 l0 x31_3).f1) x38_4 ((rd_T53 l0 x31_3).f0) ((rd_T53 l0 x31_3).f1)) = some r := by first | (rw [hy189]; with_reducible exact H) | (have H2_ := (Option.bind_some _ _).symm.trans H; rw [hy189]; with_reducible exact H2_) | (have H2_ := (Option.bind_some _ _).symm.trans H; with_reducible exact H2_) | with_reducible exact H | (rw [hy189]; exact H) | exact H
                                                  have Ny189 := Aside0.mk hy189
                                                  clear hy189
                                                  have H' := Aside0.mk H
                                                  clear H
                                                  obtain ⟨Ao44, co44, eo44⟩ := Kd.N_slice HO_5.out
                                                  subst eo44
                                                  have p177 : 0 ≤ (x31_3 : Int) := of_decide_eq_true (by first | (with_reducible assumption) | assumption)
                                                  have q177 : x31_3 < (x5_5.length : Int) := of_decide_eq_true (by first | (with_reducible assumption) | assumption)
                                                  obtain ⟨ad177, A177_0, c177_0, e177, hx177_0, hl177_0, hi177_0⟩ := at_L2 (Kd.N_reads' HO_5.out).2.2 x31_3 p177 q177
                                                  cases e177
                                                  obtain ⟨ce177, hce177, hMe177, hcc177⟩ := Kd.N_get HO_5.out [] x31_3 p177 (by first | exact q177 | exact of_decide_eq_true (by first | (with_reducible assumption) | assumption) | (have e_ := (Kd.N_reads' HO_5.out).1; omega))
                                                  obtain ⟨ua177_0, uc177_0, rfl, ul177_0, ge177_0⟩ := Kd.FK_slice_open hMe177
                                                  have hv177_0 := hcc177 0 _ rfl
                                                  rw [Nat.add_zero, show ((Kd.slice 2 (Kd.int .i64))).sz = 1 from rfl, Nat.mul_one] at hv177_0
                                                  replace hv177_0 := Option.some.inj (hv177_0.symm.trans hx177_0)
                                                  injection hv177_0 with hva_ hvn_ hvc_
                                                  rw [hva_] at ge177_0
                                                  rw [hvc_] at ul177_0
                                                  have HL177_0 := Aside0.mk (show Kd.V (Kd.int .i64) 2 _ w.heap.size _ _ (rd_L2 x5_5 x31_3) from Kd.V_mk ul177_0 ge177_0)
                                                  clear hva_ hvn_ hvc_ ge177_0 ul177_0
                                                  clear hcc177 hce177
                                                  have HR177_0 := Aside0.mk hi177_0
                                                  have HC177_0 := Aside0.mk hl177_0
                                                  clear hi177_0 hl177_0
                                                  replace p177 := eq_true p177
                                                  replace q177 := eq_true q177
                                                  have p178 : 0 ≤ (0 : Int) := (by omega)
                                                  have q178 : 0 < ((rd_L2 x5_5 x31_3).length : Int) := of_decide_eq_true (by first | (with_reducible assumption) | assumption)
                                                  obtain ⟨ad178, e178, hx178_0⟩ := Kd.at_int (by repeat (first | (with_reducible exact HR177_0.out) | (with_reducible refine Kd.C_alloc ?_ _) | (with_reducible refine Kd.C_drewN ?_ _) | (with_reducible refine Kd.C_drew ?_) | exact HR177_0.out)) 0 p178 q178
                                                  cases e178
                                                  have qi178 : (0 < (rd_L2 x5_5 x31_3).length) = True := eq_true (by omega)
                                                  (try rw [show ((0 : Int)).toNat = 0 from rfl] at hx178_0)
                                                  (try rw [Addr.add_zero'] at hx178_0)
                                                  replace p178 := eq_true p178
                                                  replace q178 := eq_true q178
                                                  obtain ⟨Ao45, co45, eo45⟩ := Kd.R_slice HO_3.out
                                                  subst eo45
                                                  have p179 : 0 ≤ ((rd (rd_L2 x5_5 x31_3) 0) : Int) := of_decide_eq_true (by first | (with_reducible assumption) | assumption)
                                                  have q179 : (rd (rd_L2 x5_5 x31_3) 0) < (x3_4.length : Int) := of_decide_eq_true (by first | (with_reducible assumption) | assumption)
                                                  obtain ⟨ad179, e179, hx179_0⟩ := Kd.at_int (Kd.R_reads' HO_3.out).2.2 (rd (rd_L2 x5_5 x31_3) 0) p179 q179
                                                  cases e179
                                                  replace p179 := eq_true p179
                                                  replace q179 := eq_true q179
                                                  have p183 : 0 ≤ (x31_3 : Int) := of_decide_eq_true (by first | (with_reducible assumption) | assumption)
                                                  have q183 : x31_3 < (x5_5.length : Int) := of_decide_eq_true (by first | (with_reducible assumption) | assumption)
                                                  obtain ⟨ad183, A183_0, c183_0, e183, hx183_0, hl183_0, hi183_0⟩ := at_L2 (Kd.N_reads' HO_5.out).2.2 x31_3 p183 q183
                                                  obtain rfl : ad177 = ad183 := (by injection e183)
                                                  obtain ⟨ce183, hce183, hMe183, hcc183⟩ := Kd.N_get HO_5.out [] x31_3 p183 (by first | exact q183 | exact of_decide_eq_true (by first | (with_reducible assumption) | assumption) | (have e_ := (Kd.N_reads' HO_5.out).1; omega))
                                                  obtain ⟨ua183_0, uc183_0, rfl, ul183_0, ge183_0⟩ := Kd.FK_slice_open hMe183
                                                  have hv183_0 := hcc183 0 _ rfl
                                                  rw [Nat.add_zero, show ((Kd.slice 2 (Kd.int .i64))).sz = 1 from rfl, Nat.mul_one] at hv183_0
                                                  replace hv183_0 := Option.some.inj (hv183_0.symm.trans hx183_0)
                                                  injection hv183_0 with hva_ hvn_ hvc_
                                                  rw [hva_] at ge183_0
                                                  rw [hvc_] at ul183_0
                                                  have HL183_0 := Aside0.mk (show Kd.V (Kd.int .i64) 2 _ w.heap.size _ _ (rd_L2 x5_5 x31_3) from Kd.V_mk ul183_0 ge183_0)
                                                  clear hva_ hvn_ hvc_ ge183_0 ul183_0
                                                  clear hcc183 hce183
                                                  have HR183_0 := Aside0.mk hi183_0
                                                  have HC183_0 := Aside0.mk hl183_0
                                                  clear hi183_0 hl183_0
                                                  replace p183 := eq_true p183
                                                  replace q183 := eq_true q183
                                                  have ea_ := Option.some.inj (hx177_0.symm.trans hx183_0)
                                                  injection ea_ with ea_ en_ ec_
                                                  subst ea_
                                                  subst ec_
                                                  clear en_
                                                  have q46 : (1 : Int) ≤ (((rd_L2 x5_5 x31_3).length : Int) : Int) := of_decide_eq_true (by first | (with_reducible assumption) | assumption)
                                                  obtain ⟨i046, hi046, _, hsz46, _⟩ := info_parts info2
                                                  have hroom46 : (rd_L2 x5_5 x31_3).length ≤ c177_0 := HC183_0.out
                                                  have hC46 : Kd.F (Kd.int .i64) _ _ (some ad178) (rd_L2 x5_5 x31_3).length (rd_L2 x5_5 x31_3) := (Kd.V_at (base := w.heap.size) HL183_0.out).2.2
                                                  have hcut46 := cut_from (P := Try.prog) 36 2 .i64 Try.underlying36 hi046 1 hsz46 (some ad178) (rd_L2 x5_5 x31_3).length c177_0 1 (by omega) q46
                                                  have hr46 := Kd.F_cut (m := (1 : Int).toNat) (c := c177_0) hC46 (by omega) hroom46
                                                  obtain ⟨A46, hA46⟩ : ∃ A1, A1 = (if c177_0 = (1 : Int).toNat then (some ad178) else ((some ad178) : Option Addr).map (·.add ((1 : Int).toNat * 1))) := ⟨_, rfl⟩
                                                  obtain ⟨c46, hc46⟩ : ∃ c1, c1 = c177_0 - (1 : Int).toNat := ⟨_, rfl⟩
                                                  have hy46 : y184.length = (rd_L2 x5_5 x31_3).length - (1 : Int).toNat := (by rw [Ny184.out, List.length_drop] <;> omega)
                                                  rw [show (rd_L2 x5_5 x31_3).drop (1 : Int).toNat = y184 from Ny184.out.symm] at hr46
                                                  replace hr46 : Kd.F (Kd.int .i64) _ _ A46 y184.length y184 := (by rw [hA46]; exact hr46)
                                                  rw [← hy46, ← hA46, ← hc46] at hcut46
                                                  have HO188 := Aside0.mk (show Kd.V (Kd.int .i64) 2 _ w.heap.size _ (.slice A46 y184.length c46) y184 from Kd.V_mk (by rw [hy46, hc46]; exact Nat.sub_le_sub_right hroom46 _) hr46)
                                                  have HC188 := Aside0.mk (show y184.length ≤ c46 from by rw [hy46, hc46]; exact Nat.sub_le_sub_right hroom46 _)
                                                  clear hr46 hC46 hroom46 hi046 hsz46 hc46
                                                  have KY46 := Aside0.mk hy46
                                                  have KA46 := Aside0.mk hA46
                                                  clear hy46 hA46
                                                  replace q46 := eq_true q46
                                                  have p43 : 0 ≤ (x31_3 : Int) := of_decide_eq_true (by first | (with_reducible assumption) | assumption)
                                                  have q43 : (x31_3 : Int) < ((x5_5.length : Int) : Int) := of_decide_eq_true (by first | (with_reducible assumption) | assumption)
                                                  obtain ⟨go43, co43, eo43, gb43, gl43, cl43, HG43⟩ := Kd.N_form HO_5.out (by omega)
                                                  (first | cases eo43 | (injection eo43 with ea_ en_ ec_; (first | subst ea_ | (injection ea_ with ea_; subst ea_)); subst ec_; clear en_))
                                                  have GB43 := Aside0.mk gb43
                                                  have GG43 := Aside0.mk HG43
                                                  clear gb43 gl43 HG43
                                                  (first | simp only [add_plain] at hx177_0 | skip)
                                                  (first | simp only [add_plain] at hx180_0 | skip)
                                                  (first | simp only [add_plain] at hx183_0 | skip)
                                                  obtain ⟨ce43, hcl43, hM43, hcc43, hfr43⟩ := Kd.N_elem HO_5.out [] (x31_3 : Int) p43 q43
                                                  obtain ⟨ua43_0, uc43_0, rfl, ul43_0, ge43_0⟩ := Kd.FK_slice_open hM43
                                                  have hx43_0 := hcc43 0 _ rfl
                                                  have hf43_0 := hfr43 0
                                                  (try simp only [show ((Kd.slice 2 (Kd.int .i64))).sz = 1 from rfl, Nat.mul_one, Nat.add_zero] at hx43_0)
                                                  (try simp only [show ((Kd.slice 2 (Kd.int .i64))).sz = 1 from rfl, Nat.mul_one, Nat.add_zero] at hf43_0)
                                                  clear hcl43 hcc43 hfr43 hM43
                                                  replace p43 := eq_true p43
                                                  replace q43 := eq_true q43
                                                  have HX47 := Aside0.mk (show Kd.N (Kd.slice 2 (Kd.int .i64)) 36 wr w.heap.size (fun k_ => some k_ ≠ (.slice (some ad179) x3_4.length co45 : Value).ownBlock ∧ k_ ≠ gb176) (.slice (some ⟨go43, 0, none⟩) x5_5.length co44) x5_5 from (by (with_reducible repeat (first | apply Kd.N_alloc | apply Kd.N_drewN | apply Kd.N_drew)); exact HO_5.out))
                                                  obtain ⟨ce47, hcl47, hM47, hcc47, hfr47⟩ := Kd.N_elem HX47.out [] (x31_3 : Int) (of_decide_eq_true (by first | (with_reducible assumption) | assumption)) (by have h_ : (x31_3 : Int) < ((x5_5.length : Int) : Int) := of_decide_eq_true (by first | (with_reducible assumption) | assumption); first | exact h_ | (have e_ := (Kd.N_reads' HO_5.out).1; omega) | simpa using h_)
                                                  obtain ⟨ua47_0, uc47_0, rfl, ul47_0, ge47_0⟩ := Kd.FK_slice_open hM47
                                                  have HP47 := Kd.N_seg HX47.out (x31_3 : Int) (of_decide_eq_true (by first | (with_reducible assumption) | assumption)) (by have h_ : (x31_3 : Int) < ((x5_5.length : Int) : Int) := of_decide_eq_true (by first | (with_reducible assumption) | assumption); first | exact h_ | (have e_ := (Kd.N_reads' HO_5.out).1; omega) | simpa using h_) (seg := [.slice A46 y184.length c46]) (j := 0) hcl47 hcc47 (show 1 ≤ 1 from by decide) (x' := y184) (Kd.FK_slice_mk (Kd.V_reads' (Kd.V_mono (ok' := (fun k_ => ((fun k_ => some k_ ≠ (.slice (some ad179) x3_4.length co45 : Value).ownBlock ∧ k_ ≠ gb176)) k_ ∧ k_ ≠ go43)) (HO188.out) (fun k_ hk => ⟨⟨hk.1.1, hk.1.2⟩, fun e_ => (hk.2) (by rw [e_]; rfl)⟩))).2.1 (Kd.V_F (Kd.V_mono (ok' := (fun k_ => ((fun k_ => some k_ ≠ (.slice (some ad179) x3_4.length co45 : Value).ownBlock ∧ k_ ≠ gb176)) k_ ∧ k_ ≠ go43)) (HO188.out) (fun k_ hk => ⟨⟨hk.1.1, hk.1.2⟩, fun e_ => (hk.2) (by rw [e_]; rfl)⟩)))) (fun _ hk => hk)
                                                  have hx47_0 := hcc47 0 _ rfl
                                                  (try simp only [show ((Kd.slice 2 (Kd.int .i64))).sz = 1 from rfl, Nat.mul_one, Nat.add_zero] at hx47_0)
                                                  have hf47_0 := hfr47 0
                                                  (try simp only [show ((Kd.slice 2 (Kd.int .i64))).sz = 1 from rfl, Nat.mul_one, Nat.add_zero] at hf47_0)
                                                  clear hcl47 hcc47 hfr47 hM47
                                                  (try simp only [show ((Kd.slice 2 (Kd.int .i64))).sz = 1 from rfl, Nat.mul_one, Nat.add_zero] at HP47)
                                                  (try simp only [show ((Kd.slice 2 (Kd.int .i64))).sz = 1 from rfl, Nat.mul_one, Nat.add_zero] at HP47)
                                                  go_wp2_with (first | ((with_reducible refine gate_store (t := 36) (p := 57) rfl ?_); refine store_event (t := 36) (p := 57) (v := ?vo_w48) (w1 := (wr.setCell ⟨go43, (x31_3 : Int).toNat, none⟩ (.slice A46 y184.length c46))) ?hg ?ho ?hn ?hr ?_; (case ho => rfl); (case hg => rfl); (case hn => rfl); (case hr => first | (go_simp; done) | (go_simp; rfl)); intro w48 hw; have hg : wr.grownBy w48 (some go43) := (by rw [hw]; exact HP47.2); have hp_ : Kd.N (Kd.slice 2 (Kd.int .i64)) 36 w48 w.heap.size (fun k_ => some k_ ≠ (.slice (some ad179) x3_4.length co45 : Value).ownBlock ∧ k_ ≠ gb176) (.slice (some ⟨go43, 0, none⟩) x5_5.length co44) y189 := (by rw [hw, Ny189.out]; exact HP47.1); clear HP47; have n0_ := Aside0.mk (Kd.R_over' (v := (.slice (some ⟨go43, 0, none⟩) x5_5.length co44)) (by (with_reducible repeat (first | apply Kd.R_alloc | apply Kd.R_drewN | apply Kd.R_drew)); exact HO_3.out) (Kd.N_typed HO_5.out) (by decide) hg); have n1_ := Aside0.mk (hp_); have n2_ := Aside0.mk (blk_grown (g := gb176) (o := .cells #[.int .i64 ((rd_T53 l0 x31_3).f0), .int .i64 ((rd_T53 l0 x31_3).f1)] 53 (0, 0)) (by (with_reducible repeat (first | refine blk_drewN ?_ _ | refine blk_drew ?_ | refine blk_alloc ?_ _)); exact BK176.out) hg (Kd.N_ne HO_5.out BK176.out (by decide))); have n3_ := Aside0.mk (Kd.V_afterv (v := (.slice (some ⟨go43, 0, none⟩) x5_5.length co44)) (v1 := (.slice (some ⟨go43, 0, none⟩) x5_5.length co44)) (ok := (fun k_ => some k_ ≠ (.slice (some ad179) x3_4.length co45 : Value).ownBlock ∧ k_ ≠ gb176)) (by (with_reducible repeat (first | apply Kd.V_alloc | apply Kd.V_drewN | apply Kd.V_drew)); exact HL177_0.out) hg (.inl rfl)); have n4_ := Aside0.mk (Kd.V_afterv (v := (.slice (some ⟨go43, 0, none⟩) x5_5.length co44)) (v1 := (.slice (some ⟨go43, 0, none⟩) x5_5.length co44)) (ok := (fun k_ => some k_ ≠ (.slice (some ad179) x3_4.length co45 : Value).ownBlock ∧ k_ ≠ gb176)) (by (with_reducible repeat (first | apply Kd.V_alloc | apply Kd.V_drewN | apply Kd.V_drew)); exact HL183_0.out) hg (.inl rfl)); have n5_ := Aside0.mk (Kd.V_afterv (v := (.slice (some ⟨go43, 0, none⟩) x5_5.length co44)) (v1 := (.slice (some ⟨go43, 0, none⟩) x5_5.length co44)) (ok := (fun k_ => some k_ ≠ (.slice (some ad179) x3_4.length co45 : Value).ownBlock ∧ k_ ≠ gb176)) (by (with_reducible repeat (first | apply Kd.V_alloc | apply Kd.V_drewN | apply Kd.V_drew)); exact HO188.out) hg (.inl rfl)); have n6_ := Aside0.mk ((by rw [hw]; exact below_set (HB.out) GB43.out : Below w.heap.size w w48)); clear HO_3; clear HO_5; clear BK176; clear HL177_0; clear HL183_0; clear HO188; clear HB; have HO_3 := n0_; have HO_5 := n1_; have BK176 := n2_; have HL177_0 := n3_; have HL183_0 := n4_; have HO188 := n5_; have HB := n6_; clear n0_ n1_ n2_ n3_ n4_ n5_ n6_; clear hg hw hp_))
                                                  go_roundg k5
                                                  case measure => have := HK1.out; have := HK2.out; have := HK3.out; have := HK4.out; have := HK5.out; omega
                                                  case rel => exact ⟨(y189), H', ⟨by have := HK1.out; have := HK2.out; have := HK3.out; have := HK4.out; have := HK5.out; omega⟩, ⟨by (with_reducible repeat (first | apply Kd.R_alloc | apply Kd.R_drewN | apply Kd.R_drew)); exact HO_3.out⟩, ⟨by (with_reducible repeat (first | apply Kd.N_alloc | apply Kd.N_drewN | apply Kd.N_drew)); exact HO_5.out⟩, ⟨by (with_reducible repeat (first | refine blk_drewN ?_ _ | refine blk_drew ?_ | refine blk_alloc ?_ _)); exact BK176.out⟩, ⟨by repeat (first | (with_reducible first | exact HB.out | apply below_alloc | apply pw_below_drewN | apply below_drew1 | refine below_set ?_ GE176.out) | exact HB.out)⟩⟩
                                                · rw [if_neg c42] at H
                                                  exact absurd H (by simp)
                                            · rw [if_neg c30] at H
                                              exact absurd H (by simp)
                                          · rw [if_neg c29] at H
                                            exact absurd H (by simp)
                                        · rw [if_neg c28] at H
                                          exact absurd H (by simp)
                                      · rw [if_neg c27] at H
                                        exact absurd H (by simp)
                                    · rw [if_neg c26] at H
                                      exact absurd H (by simp)
                              · rw [if_neg c25] at H
                                have c25b0 : decide (x38_4 < ((rd_T53 l0 x31_3).f1)) = false := decide_eq_false c25
                                clear c25
                                have H' := Aside0.mk H
                                clear H
                                go_wp2
                                go_roundg k4
                                case measure => have := HK1.out; have := HK2.out; have := HK3.out; have := HK4.out; omega
                                case rel => exact ⟨(x3_4), (x4_4), (x5_4), (wrap64 (x31_3 + 1)), (by first | rfl | (simp; done) | (simp [*]; done)), (by first | rfl | (simp; done) | (simp [*]; done)), H', ⟨by have := HK1.out; have := HK2.out; have := HK3.out; have := HK4.out; omega⟩, ⟨by (with_reducible repeat (first | apply Kd.R_alloc | apply Kd.R_drewN | apply Kd.R_drew)); exact HO_3.out⟩, ⟨by (with_reducible repeat (first | apply Kd.N_alloc | apply Kd.N_drewN | apply Kd.N_drew)); exact Kd.N_mono HO_5.out (fun _ hk => hk.1)⟩, ⟨by repeat (first | (with_reducible first | exact HB.out | apply below_alloc | apply pw_below_drewN | apply below_drew1 | refine below_set ?_ GE176.out) | exact HB.out)⟩⟩
                        · rw [if_neg c22] at H
                          exact absurd H (by simp)
                      · rw [if_neg c21] at H
                        exact absurd H (by simp)
                    · rw [if_neg c20] at H
                      have c20b0 : decide (x31_3 < (l0.length : Int)) = false := decide_eq_false c20
                      clear c20
                      have H' := Aside0.mk H
                      clear H
                      go_wp2
                      go_roundg k3
                      case measure => have := HK1.out; have := HK2.out; have := HK3.out; omega
                      case rel => exact ⟨(x3_3), (x4_3), (x5_3), (by first | rfl | (simp; done) | (simp [*]; done)), H', ⟨by have := HK1.out; have := HK2.out; have := HK3.out; omega⟩, ⟨by (with_reducible repeat (first | apply Kd.R_alloc | apply Kd.R_drewN | apply Kd.R_drew)); exact HO_3.out⟩, ⟨by (with_reducible repeat (first | apply Kd.N_alloc | apply Kd.N_drewN | apply Kd.N_drew)); exact HO_5.out⟩, ⟨by repeat (first | (with_reducible first | exact HB.out | apply below_alloc | apply pw_below_drewN | apply below_drew1) | exact HB.out)⟩⟩
    · replace c4 := Bool.eq_false_iff.mpr c4
      subst c4
      have H1 : (some y160) = some r := by rw [if_neg (show ¬ (false = true) by decide)] at H; exact H
      clear H
      have H := H1
      clear H1
      obtain rfl := Option.some.inj H
      go_enter Try.func50, Try.ntmps50
      go_wp2_with (first | ((with_reducible refine gate_dst (N := 10) rfl ?_); refine Kd.R_make (Kd.int .i64) _ 2 rfl (N := 10) rfl 36 _ _ rfl 31 rfl rfl Try.underlying36 (.int .i64 0) 8 info2 rfl (by decide) (by omega) 0 (ok := fun _ => True) (okp := fun _ => True) rfl (fun _ hk => hk) trivial (by omega) (by omega) (Below.refl _ _) (Nat.le_refl _) ?_; intro v161 w49 ho50 hb hg_ hnew_; clear hg_ hnew_; (first | rw [← Ny160.out] at ho50 | (simp only [Int.reduceToNat] at ho50; rw [← Ny160.out] at ho50)); have n0_ := Aside0.mk (Kd.R_lower ho50 (below_size (by repeat (first | (with_reducible first | exact HB.out | apply below_alloc | apply pw_below_drewN | apply below_drew1) | exact HB.out)))); have n1_ := Aside0.mk (below_step (by repeat (first | (with_reducible first | exact HB.out | apply below_alloc | apply pw_below_drewN | apply below_drew1) | exact HB.out)) hb); clear HB; have HO162 := n0_; have HB := n1_; clear n0_ n1_; clear hb ho50) | ((with_reducible refine gate_callee (f := 60) rfl ?_); refine goesL_ (some 12) rfl rfl Try.func60 (by kernel_rfl) rfl #[.slice A0 l0.length c0, .func (.func 61) #[] #[]] rfl (by (try simp only [List.map_toArray, List.map_cons, List.map_nil]); first | done | rfl | (simp only [List.length_drop, List.length_take]; rfl)) ?_; (with_reducible refine (impl_Share_60.calls _ _ l0 false _ ?side1 ?side2 A3.out).mono ?_); (case side1 => repeat (first | exact (Kd.C_below HR0.out HB.out) | (with_reducible refine Kd.C_alloc ?_ _) | (with_reducible refine Kd.C_drewN ?_ _) | (with_reducible refine Kd.C_drew ?_))); (case side2 => exact HC0.out); rintro e w51 ⟨rfl, hb⟩; refine ⟨_, rfl, ?_⟩; have n0_ := Aside0.mk (Kd.R_below (by (with_reducible repeat (first | apply Kd.R_alloc | apply Kd.R_drewN | apply Kd.R_drew)); exact HO162.out) hb); have n1_ := Aside0.mk (below_step (by repeat (first | (with_reducible first | exact HB.out | apply below_alloc | apply pw_below_drewN | apply below_drew1) | exact HB.out)) hb); clear HO162; clear HB; have HO162 := n0_; have HB := n1_; clear n0_ n1_; (try clear hb); (try clear hb2); (try clear hk); (try clear hi)))
      go_ret
      exact ⟨_, by first | rfl | (simp [errW_none, errW_some] <;> rfl) | (simp [*, errW_none, errW_some] <;> rfl), by (with_reducible repeat (first | apply Kd.R_alloc | apply Kd.R_drewN | apply Kd.R_drew)); exact HO162.out, by repeat (first | (with_reducible first | exact HB.out | apply below_alloc | apply pw_below_drewN | apply below_drew1) | exact HB.out)⟩
  · rw [if_neg c2] at H
    exact absurd H (by simp)

end Go.Proofs.Ytnfjbapcngamjaa.QFnLooks
