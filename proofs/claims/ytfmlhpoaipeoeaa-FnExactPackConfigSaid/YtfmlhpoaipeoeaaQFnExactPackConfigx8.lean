-- MADE BY PROGRAM (qprint.py): walks of the functions that the law FnExactPackConfig reaches. Lean checks it.
import Derived.Test.YtfmlhpoaipeoeaaQFnExactPackConfigx0
import Derived.Test.YtfmlhpoaipeoeaaQFnExactPackConfigx7
namespace Go.Proofs.Ytfmlhpoaipeoeaa.QFnExactPackConfig
open Go.RowKit Go.Proofs.YtfmlhpoaipeoeaaW.PrintWords Go.Proofs.YtfmlhpoaipeoeaaW.PrintLast Go.Proofs.YtfmlhpoaipeoeaaW.PrintMore
open Go.Proofs.YtfmlhpoaipeoeaaW.PrintWords renaming blk_drewN → bN, blk_drew → bd, blk_alloc → ba, blk_cell → bc, blk_frozen → bf, below_set → bs, pw_below_drewN → pN, below_drew1 → p1, below_alloc → pa, blk_below → bb, below_size → bz, below_step → bp, blk_lt → bl, blk_far → bq, add_block → ab
open Go.Proofs.YtfmlhpoaipeoeaaW.PrintWords.Kd renaming R_drewN → rN, R_drew → rd1, R_alloc → ra, R_far → rf, R_below → rb, R_new' → rn, R_lt → rl, R_elder' → re, R_lower → rw1, C_alloc → ca, C_drewN → cN, C_drew → cd1, S_alloc → sa, S_drewN → sN, S_drew → sd, S_far → sf, S_mono → sm, S_types → st, S_lt → sl
open Go.Proofs.YtfmlhpoaipeoeaaW.PrintWords.Aside0 renaming mk → am
open Go.Value renaming int → I, slice → J
open Go.IntKind renaming i64 → q
attribute [local go_sem] max2_int min2_int max_two min_two max_three min_three max_four min_four   -- for this text's walks alone
set_option linter.unusedVariables false
set_option linter.unusedSimpArgs false
theorem pu4i {W : World} {g t : Nat} {u0 u1 u2 u3 v0 v1 v2 v3 : Value} (h : W.heap[g]? = some (.cells #[u0, u1, u2, u3] t (0, 0))) : ((((W.setCell ⟨g, 0, none⟩ v0).setCell ⟨g, 1, none⟩ v1).setCell ⟨g, 2, none⟩ v2).setCell ⟨g, 3, none⟩ v3).heap[g]? = some (.cells #[v0, v1, v2, v3] t (0, 0)) := by
 refine blk_put (cs := #[v0, v1, v2, u3]) ?_ 3 _ rfl
 refine blk_put (cs := #[v0, v1, u2, u3]) ?_ 2 _ rfl
 refine blk_put (cs := #[v0, u1, u2, u3]) ?_ 1 _ rfl
 exact blk_put (cs := #[u0, u1, u2, u3]) h 0 _ rfl
theorem pu5i {W : World} {g t : Nat} {u0 u1 u2 u3 u4 v0 v1 v2 v3 v4 : Value} (h : W.heap[g]? = some (.cells #[u0, u1, u2, u3, u4] t (0, 0))) : (((((W.setCell ⟨g, 0, none⟩ v0).setCell ⟨g, 1, none⟩ v1).setCell ⟨g, 2, none⟩ v2).setCell ⟨g, 3, none⟩ v3).setCell ⟨g, 4, none⟩ v4).heap[g]? = some (.cells #[v0, v1, v2, v3, v4] t (0, 0)) := by
 refine blk_put (cs := #[v0, v1, v2, v3, u4]) ?_ 4 _ rfl
 refine blk_put (cs := #[v0, v1, v2, u3, u4]) ?_ 3 _ rfl
 refine blk_put (cs := #[v0, v1, u2, u3, u4]) ?_ 2 _ rfl
 refine blk_put (cs := #[v0, u1, u2, u3, u4]) ?_ 1 _ rfl
 exact blk_put (cs := #[u0, u1, u2, u3, u4]) h 0 _ rfl

/-! ### impl_packConfig: function 86 -/
mutual
def impl_packConfig.l0 : Nat → List Int → List (S36) → Int → Int → Int → List (S36) → List (S64) → Option (List Int)
 | 0, _, _, _, _, _, _, _ => none
 | k + 1, x3, x21, x22, x23, x305000, x305001, x305002 => if x23 < x22 then (if 0 ≤ x23 then (if x23 < (x21.length : Int) then (if (rd_T36 x21 x23).f4 = true then ((impl_put.f k x3 ((rd_T36 x21 x23).f0) 2).bind fun t316 => ((impl_put.f k t316 ((rd_T36 x21 x23).f1) 4).bind fun t319 => ((some (([(wrap64 ((wrap64 ((wrap64 (((rd_T36 x21 x23).f2) * 8)) + (wrap64 (((rd_T36 x21 x23).f3) * 2)))) + 1)) % 256] : List Int) : List Int)).bind fun y322 => (if t319.length + y322.length < 140737488355328 then (impl_packConfig.l0 k (t319 ++ y322) x21 x22 (wrap64 (x23 + 1)) x305000 x305001 x305002) else (none))))) else ((impl_put.f k x3 ((rd_T36 x21 x23).f0) 2).bind fun t328 => ((impl_put.f k t328 ((rd_T36 x21 x23).f1) 4).bind fun t331 => ((some (([(wrap64 ((wrap64 (((rd_T36 x21 x23).f2) * 8)) + (wrap64 (((rd_T36 x21 x23).f3) * 2)))) % 256] : List Int) : List Int)).bind fun y334 => (if t331.length + y334.length < 140737488355328 then (impl_packConfig.l0 k (t331 ++ y334) x21 x22 (wrap64 (x23 + 1)) x305000 x305001 x305002) else (none)))))) else (none)) else (none)) else ((some (([((x305002.length : Int)) % 256] : List Int) : List Int)).bind fun y340 => (if x3.length + y340.length < 140737488355328 then (impl_packConfig.l1 k (x3 ++ y340) x305002 (x305002.length : Int) 0) else (none)))
def impl_packConfig.l1 : Nat → List Int → List (S64) → Int → Int → Option (List Int)
 | 0, _, _, _, _ => none
 | k + 1, x3, x58, x59, x60 => if x60 < x59 then (if 0 ≤ x60 then (if x60 < (x58.length : Int) then ((impl_put.f k x3 ((rd_T64 x58 x60).f0) 4).bind fun t348 => ((impl_put.f k t348 ((rd_T64 x58 x60).f1) 2).bind fun t351 => ((some (([((rd_T64 x58 x60).f2) % 256, ((((rd_T64 x58 x60).f3).length : Int)) % 256] : List Int) : List Int)).bind fun y354 => (if t351.length + y354.length < 140737488355328 then (impl_packConfig.l2 k (t351 ++ y354) x58 x59 x60 ((rd_T64 x58 x60).f3) (((rd_T64 x58 x60).f3).length : Int) 0) else (none))))) else (none)) else (none)) else (some x3)
def impl_packConfig.l2 : Nat → List Int → List (S64) → Int → Int → List Int → Int → Int → Option (List Int)
 | 0, _, _, _, _, _, _, _ => none
 | k + 1, x3, x58, x59, x60, x82, x83, x84 => if x84 < x83 then (if 0 ≤ x84 then (if x84 < (x82.length : Int) then ((impl_put.f k x3 (rd x82 x84) 2).bind fun t361 => (impl_packConfig.l2 k t361 x58 x59 x60 x82 x83 (wrap64 (x84 + 1)))) else (none)) else (none)) else (impl_packConfig.l1 k x3 x58 x59 (wrap64 (x60 + 1)))
end
def impl_packConfig.f (k : Nat) (aa0 : Int) (la1 : List (S36)) (la2 : List (S64)) : Option (List Int) := (impl_put.f k ([] : List Int) aa0 4).bind fun t305 => ((some (([((la1.length : Int)) % 256] : List Int) : List Int)).bind fun y308 => (if t305.length + y308.length < 140737488355328 then (impl_packConfig.l0 k (t305 ++ y308) la1 (la1.length : Int) 0 aa0 la1 la2) else (none)))
theorem impl_packConfig.mono_l : ∀ k, (∀ y0 y1 y2 y3 y4 y5 y6, LeO (impl_packConfig.l0 k y0 y1 y2 y3 y4 y5 y6) (impl_packConfig.l0 (k + 1) y0 y1 y2 y3 y4 y5 y6)) ∧ (∀ y0 y1 y2 y3, LeO (impl_packConfig.l1 k y0 y1 y2 y3) (impl_packConfig.l1 (k + 1) y0 y1 y2 y3)) ∧ (∀ y0 y1 y2 y3 y4 y5 y6, LeO (impl_packConfig.l2 k y0 y1 y2 y3 y4 y5 y6) (impl_packConfig.l2 (k + 1) y0 y1 y2 y3 y4 y5 y6))
 | 0 => ⟨fun _ _ _ _ _ _ _ r h => by simp [impl_packConfig.l0] at h, fun _ _ _ _ r h => by simp [impl_packConfig.l1] at h, fun _ _ _ _ _ _ _ r h => by simp [impl_packConfig.l2] at h⟩
 | k + 1 => by
  obtain ⟨ih0, ih1, ih2⟩ := impl_packConfig.mono_l k
  refine ⟨?_, ?_, ?_⟩
  ·intro y0 y1 y2 y3 y4 y5 y6
   unfold impl_packConfig.l0
   repeat' first
   | (with_reducible exact ih0 _ _ _ _ _ _ _)
   | (with_reducible exact ih1 _ _ _ _)
   | (with_reducible exact ih2 _ _ _ _ _ _ _)
   | (with_reducible exact impl_put.mono _ _ _ _)
   | (with_reducible exact LeO.refl _)
   | (with_reducible exact LeO.none _)
   | (with_reducible refine LeO.ite ?_ ?_)
   | (with_reducible refine LeO.bind ?_ (fun _ => ?_))
   | exact ih0 _ _ _ _ _ _ _
   | exact ih1 _ _ _ _
   | exact ih2 _ _ _ _ _ _ _
   | exact impl_put.mono _ _ _ _
   | exact LeO.none _
   | refine LeO.ite ?_ ?_
   | refine LeO.bind ?_ (fun _ => ?_)
  ·intro y0 y1 y2 y3
   unfold impl_packConfig.l1
   repeat' first
   | (with_reducible exact ih0 _ _ _ _ _ _ _)
   | (with_reducible exact ih1 _ _ _ _)
   | (with_reducible exact ih2 _ _ _ _ _ _ _)
   | (with_reducible exact impl_put.mono _ _ _ _)
   | (with_reducible exact LeO.refl _)
   | (with_reducible exact LeO.none _)
   | (with_reducible refine LeO.ite ?_ ?_)
   | (with_reducible refine LeO.bind ?_ (fun _ => ?_))
   | exact ih0 _ _ _ _ _ _ _
   | exact ih1 _ _ _ _
   | exact ih2 _ _ _ _ _ _ _
   | exact impl_put.mono _ _ _ _
   | exact LeO.none _
   | refine LeO.ite ?_ ?_
   | refine LeO.bind ?_ (fun _ => ?_)
  ·intro y0 y1 y2 y3 y4 y5 y6
   unfold impl_packConfig.l2
   repeat' first
   | (with_reducible exact ih0 _ _ _ _ _ _ _)
   | (with_reducible exact ih1 _ _ _ _)
   | (with_reducible exact ih2 _ _ _ _ _ _ _)
   | (with_reducible exact impl_put.mono _ _ _ _)
   | (with_reducible exact LeO.refl _)
   | (with_reducible exact LeO.none _)
   | (with_reducible refine LeO.ite ?_ ?_)
   | (with_reducible refine LeO.bind ?_ (fun _ => ?_))
   | exact ih0 _ _ _ _ _ _ _
   | exact ih1 _ _ _ _
   | exact ih2 _ _ _ _ _ _ _
   | exact impl_put.mono _ _ _ _
   | exact LeO.none _
   | refine LeO.ite ?_ ?_
   | refine LeO.bind ?_ (fun _ => ?_)
theorem impl_packConfig.mono : ∀ a0 a1 a2 k, LeO (impl_packConfig.f k a0 a1 a2) (impl_packConfig.f (k + 1) a0 a1 a2) := by
 intro a0 a1 a2 k
 obtain ⟨ih0, ih1, ih2⟩ := impl_packConfig.mono_l k
 unfold impl_packConfig.f
 repeat' first
   | (with_reducible exact ih0 _ _ _ _ _ _ _)
   | (with_reducible exact ih1 _ _ _ _)
   | (with_reducible exact ih2 _ _ _ _ _ _ _)
   | (with_reducible exact impl_put.mono _ _ _ _)
   | (with_reducible exact LeO.refl _)
   | (with_reducible exact LeO.none _)
   | (with_reducible refine LeO.ite ?_ ?_)
   | (with_reducible refine LeO.bind ?_ (fun _ => ?_))
   | exact ih0 _ _ _ _ _ _ _
   | exact ih1 _ _ _ _
   | exact ih2 _ _ _ _ _ _ _
   | exact impl_put.mono _ _ _ _
   | exact LeO.none _
   | refine LeO.ite ?_ ?_
   | refine LeO.bind ?_ (fun _ => ?_)
def impl_packConfig.T1 : Bool × List (List Nat × List Nat) := (true, [([], []), ([0], [0]), ([1], [1]), ([], []), ([3], [3]), ([4], [4]), ([5], [5]), ([6], [6]), ([2, 7, 2], [2, 7]), ([8, 8, 0, 1, 2, 3, 4, 5, 6, 7, 8], [8])])
def impl_packConfig.B1 : List Nat := [0, 1, 3, 0, 8, 24, 56, 120, 255, 511]
theorem impl_packConfig.tab1 : rtab .any (opsOf Try.f86 1) = impl_packConfig.T1 := by kernel_rfl
theorem impl_packConfig.bits1 : waitsOk impl_packConfig.T1.2 impl_packConfig.B1 = true := by kernel_rfl
def impl_packConfig.T8 : Bool × List (List Nat × List Nat) := (true, [([], []), ([], []), ([1], [1]), ([0, 2], [0, 2]), ([], []), ([4], [4]), ([3, 5, 3], [3, 5]), ([], []), ([7], [7]), ([8], [8]), ([6, 9, 6], [6, 9]), ([10, 10, 0, 1, 2, 3, 4, 5, 6, 7, 8, 9, 10], [0, 10])])
def impl_packConfig.B8 : List Nat := [0, 0, 2, 7, 0, 16, 63, 0, 128, 384, 1023, 2047]
theorem impl_packConfig.tab8 : rtab .any (opsOf Try.f86 8) = impl_packConfig.T8 := by kernel_rfl
theorem impl_packConfig.bits8 : waitsOk impl_packConfig.T8.2 impl_packConfig.B8 = true := by kernel_rfl
def impl_packConfig.T14 : Bool × List (List Nat × List Nat) := (true, [([], []), ([], []), ([1], [1]), ([0, 2], [0, 2]), ([], []), ([4], [4]), ([3, 5, 3], [3, 5]), ([6, 6, 0, 1, 2, 3, 4, 5, 6], [0, 6])])
def impl_packConfig.B14 : List Nat := [0, 0, 2, 7, 0, 16, 63, 127]
theorem impl_packConfig.tab14 : rtab .any (opsOf Try.f86 14) = impl_packConfig.T14 := by kernel_rfl
theorem impl_packConfig.bits14 : waitsOk impl_packConfig.T14.2 impl_packConfig.B14 = true := by kernel_rfl
set_option maxHeartbeats 8000000 in
set_option maxRecDepth 100000 in
theorem impl_packConfig.calls (k : Nat) (aa0 : Int) (Aa1 : Option Addr) (ca1 : Nat) (la1 : List (S36)) (Aa2 : Option Addr) (ca2 : Nat) (la2 : List (S64)) (r : List Int) (w : World) (hr0_1 : Kd.C k36 w Aa1 la1.length la1) (hc0_1 : la1.length ≤ ca1) (hr0_2 : Kd.C k64 w Aa2 la2.length la2) (hc0_2 : la2.length ≤ ca2) (h : impl_packConfig.f k aa0 la1 la2 = some r) :
  Calls Try.prog 86 #[.agg #[I q aa0, J Aa1 la1.length ca1, J Aa2 la2.length ca2]] w fun e w' => ∃ v0_ : Value, e = .returned (v0_) ∧ Kd.R (Kd.int .u8) 5 w' w.heap.size (fun _ => True) v0_ r ∧ Below w.heap.size w w' := by
 have hu31 := Try.underlying31
 have hu36 := Try.underlying36
 have hu64 := Try.underlying64
 have HR0_1 := am hr0_1
 have HC0_1 := am hc0_1
 clear hr0_1 hc0_1
 have HR0_2 := am hr0_2
 have HC0_2 := am hc0_2
 clear hr0_2 hc0_2
 have HB := am (Below.refl w.heap.size w)
 have H : ((impl_put.f k ([] : List Int) aa0 4).bind fun t305 => ((some (([((la1.length : Int)) % 256] : List Int) : List Int)).bind fun y308 => (if t305.length + y308.length < 140737488355328 then (impl_packConfig.l0 k (t305 ++ y308) la1 (la1.length : Int) 0 aa0 la1 la2) else (none)))) = some r := h
 clear h
 replace H := Option.bind_eq_some_iff.mp H
 obtain ⟨t305, A20, H⟩ := H
 replace H : ((some (([((la1.length : Int)) % 256] : List Int) : List Int)).bind fun y308 => (if t305.length + y308.length < 140737488355328 then (impl_packConfig.l0 k (t305 ++ y308) la1 (la1.length : Int) 0 aa0 la1 la2) else (none))) = some r := H
 have A2 := am A20
 clear A20
 obtain ⟨y308, hy308⟩ : ∃ y_ : List Int, y_ = (([((la1.length : Int)) % 256] : List Int)) := ⟨_, rfl⟩
 replace H : (if t305.length + y308.length < 140737488355328 then (impl_packConfig.l0 k (t305 ++ y308) la1 (la1.length : Int) 0 aa0 la1 la2) else (none)) = some r := by first | (rw [hy308]; with_reducible exact H) | (have H2_ := (Option.bind_some _ _).symm.trans H; rw [hy308]; with_reducible exact H2_) | (have H2_ := (Option.bind_some _ _).symm.trans H; with_reducible exact H2_) | with_reducible exact H | (rw [hy308]; exact H) | exact H
 have Ny308 := am hy308
 clear hy308
 by_cases c3 : t305.length + y308.length < 140737488355328
 ·rw [if_pos c3] at H
  have LMc3 := am c3
  clear c3
  obtain ⟨y311, hy311⟩ : ∃ y_ : List Int, y_ = (t305 ++ y308) := ⟨_, rfl⟩
  replace H : (impl_packConfig.l0 k y311 la1 (la1.length : Int) 0 aa0 la1 la2) = some r := by first | (rw [hy311]; with_reducible exact H) | (have H2_ := (Option.bind_some _ _).symm.trans H; rw [hy311]; with_reducible exact H2_) | (have H2_ := (Option.bind_some _ _).symm.trans H; with_reducible exact H2_) | with_reducible exact H | (rw [hy311]; exact H) | exact H
  have Ny311 := am hy311
  clear hy311
  have H' := am H
  clear H
  go_enter Try.func86, Try.ntmps86
  try go_wp2_with (first | ((with_reducible refine gate_dst (N := 1) rfl ?_); refine box_event ?hg (N := 1) ?hd (cs := #[I q aa0, J Aa1 la1.length ca1, J Aa2 la2.length ca2]) (t := 31) ?hr ?_; (case hd => rfl); (case hg => rfl); (case hr => first | (go_simp; done) | (go_simp; rfl)); intro g304 hg w4 hbox hb; have N0 := am (bp (by repeat (first | (with_reducible first | exact HB.out | apply pa | apply pN | apply p1) | exact HB.out)) hb); have N1 := am (hbox); have N2 := am ((by rw [hg]; exact (bz (by repeat (first | (with_reducible first | exact HB.out | apply pa | apply pN | apply p1) | exact HB.out))) : w.heap.size ≤ g304)); have N3 := am ((by rw [hg]; exact (bz (by repeat (first | (with_reducible first | exact HB.out | apply pa | apply pN | apply p1) | exact HB.out))) : w.heap.size ≤ g304)); clear HB; have HB := N0; have B304 := N1; have GW304 := N2; have E304 := N3; clear N0 N1 N2 N3 hb hbox hg))
  have N0 := am (bd B304.out)
  have N1 := am (p1 HB.out)
  clear B304
  clear HB
  have B304 := N0
  have HB := N1
  clear N0 N1
  refine start_ (n := 10) (S := fun w' => w'.cell? ⟨g304, 0, none⟩ = some (I q aa0) ∧ w'.cell? ⟨g304, 1, none⟩ = some (J Aa1 la1.length ca1) ∧ w'.cell? ⟨g304, 2, none⟩ = some (J Aa2 la2.length ca2)) (ds := []) #[false, false, false, false, false, false, false, false, false, false] (by kernel_rfl) rfl rfl ⟨(bc B304.out 0).trans rfl, (bc B304.out 1).trans rfl, (bc B304.out 2).trans rfl⟩ (fun hHeld => ?_); refine with_tabW impl_packConfig.tab1 impl_packConfig.bits1 (fun HT_ HW_ => ?_)
  generalize w4.drew = w5 at B304 HB hHeld ⊢
  refine pure_ (i := 0) (N := some 11) (v := ?_) (a' := ?_) #[true, false, false, false, false, false, false, false, false, false] rfl rfl (any_of HT_.out (by kernel_rfl)) (fun _ _ _ h => h) (Or.inl ⟨by rfl, ?_⟩) ?_ ?_
  rotate_left
  ·intro w'
   first | (go_simp; with_reducible rfl) | (go_simp; (try unfold Instr.field); go_simp; (try simp only [asAgg]); go_simp; with_reducible rfl)
  rotate_left
  ·simp only [Act.put, List.setIfInBounds_toArray, List.set_cons_zero, List.set_cons_succ, i64_w, i32_w]
   rfl
  refine pure_ (i := 3) (N := some 14) (v := ?_) (a' := ?_) #[true, false, false, true, false, false, false, false, false, false] rfl rfl (any_of HT_.out (by kernel_rfl)) (fun _ _ _ h => h) (Or.inl ⟨by rfl, ?_⟩) ?_ ?_
  rotate_left
  ·intro w'
   first | (go_simp; with_reducible rfl) | (go_simp; (try unfold Instr.field); go_simp; (try simp only [asAgg]); go_simp; with_reducible rfl)
  rotate_left
  ·simp only [Act.put, List.setIfInBounds_toArray, List.set_cons_zero, List.set_cons_succ, i64_w, i32_w]
   rfl
  refine take_ (i := 1) (N := some 12) (v := ?_) (a' := ?_) #[true, true, false, true, false, false, false, false, false, false] rfl rfl (take_ofW HT_.out HW_.out (by kernel_rfl)) (fun _ _ _ h => h) (Or.inl ⟨by rfl, ?_⟩) hHeld ?_ ?_
  rotate_left
  ·rintro w' ⟨s0, s1, s2⟩
   go_simp
   with_reducible rfl
  rotate_left
  ·simp only [Act.put, List.setIfInBounds_toArray, List.set_cons_zero, List.set_cons_succ, i64_w, i32_w]
   rfl
  refine take_ (i := 4) (N := some 15) (v := ?_) (a' := ?_) #[true, true, false, true, true, false, false, false, false, false] rfl rfl (take_ofW HT_.out HW_.out (by kernel_rfl)) (fun _ _ _ h => h) (Or.inl ⟨by rfl, ?_⟩) hHeld ?_ ?_
  rotate_left
  ·rintro w' ⟨s0, s1, s2⟩
   go_simp
   with_reducible rfl
  rotate_left
  ·simp only [Act.put, List.setIfInBounds_toArray, List.set_cons_zero, List.set_cons_succ, i64_w, i32_w]
   rfl
  refine pure_ (i := 5) (N := some 16) (v := ?_) (a' := ?_) #[true, true, false, true, true, true, false, false, false, false] rfl rfl (any_of HT_.out (by kernel_rfl)) (fun _ _ _ h => h) (Or.inl ⟨by rfl, ?_⟩) ?_ ?_
  rotate_left
  ·intro w'
   first | (go_simp; with_reducible rfl) | (go_simp; (try unfold Instr.field); go_simp; (try simp only [asAgg]); go_simp; with_reducible rfl)
  rotate_left
  ·simp only [Act.put, List.setIfInBounds_toArray, List.set_cons_zero, List.set_cons_succ, i64_w, i32_w]
   rfl
  refine pure_ (i := 6) (N := some 17) (v := ?_) (a' := ?_) #[true, true, false, true, true, true, true, false, false, false] rfl rfl (any_of HT_.out (by kernel_rfl)) (fun _ _ _ h => h) (Or.inl ⟨by rfl, ?_⟩) ?_ ?_
  rotate_left
  ·intro w'
   first | (go_simp; with_reducible rfl) | (go_simp; (try unfold Instr.field); go_simp; (try simp only [asAgg]); go_simp; with_reducible rfl)
  rotate_left
  ·simp only [Act.put, List.setIfInBounds_toArray, List.set_cons_zero, List.set_cons_succ, i64_w, i32_w]
   rfl
  refine join_ (σ := Value × Value) 2 #[true, true, true, true, true, true, true, true, false, false] (fun s_ => [(13, s_.1), (18, s_.2)]) (fun s_ w' => (w'.cell? ⟨g304, 0, none⟩ = some (I q aa0) ∧ w'.cell? ⟨g304, 1, none⟩ = some (J Aa1 la1.length ca1) ∧ w'.cell? ⟨g304, 2, none⟩ = some (J Aa2 la2.length ca2)) ∧ (Kd.R (Kd.int .u8) 5 w' w.heap.size (fun k_ => some k_ ≠ (s_.2 : Value).ownBlock) s_.1 t305) ∧ (Kd.R (Kd.int .u8) 5 w' w.heap.size (fun k_ => some k_ ≠ (s_.1 : Value).ownBlock) s_.2 y308) ∧ (w'.heap[g304]? = some (.cells #[I q aa0, J Aa1 la1.length ca1, J Aa2 la2.length ca2] 31 (0, 0))) ∧ (Below w.heap.size w w')) ?_ ?_
  rotate_left
  ·intro hCont
   refine two_ (i := 2) (j := 7) (Ni := some 13) (Nj := some 18) #[true, true, true, true, true, true, true, false, false, false] #[true, true, false, true, true, true, true, true, false, false] rfl rfl rfl rfl (two_of HT_.out (by kernel_rfl)) (by decide) (by decide) (fun K hK => ?_) (fun K hK => ?_)
   ·skip
    refine goes_ Try.func125 (by kernel_rfl) rfl #[.slice none 0 0, I q aa0, I q 4] (by rfl) rfl rfl (by (try simp only [List.map_toArray, List.map_cons, List.map_nil]); first | done | rfl | (simp only [List.length_drop, List.length_take]; rfl)) ?_
    refine (impl_put.calls k (fun k_ => some k_ = (.slice none 0 0 : Value).ownBlock) (.slice none 0 0) ([] : List Int) aa0 4 t305 w _ ?side1 ?side2 A2.out).mono ?_
    (case side1 => repeat (first | (with_reducible first | exact HB.out | apply pa | apply pN | apply p1 | refine bs ?_ E304.out) | exact HB.out))
    (case side2 => exact Kd.R_nil _ _ _ _ _)
    rintro e w6 ⟨v306, rfl, ho0, hb, hkp⟩
    refine ⟨_, rfl, ?_⟩
    have N0 := am (blk_kept (by (with_reducible repeat (first | apply bN | apply bd | apply ba)); exact B304.out) hkp (fun hs_ => (fun e_ => by simp [Value.ownBlock] at e_) hs_))
    have N1 := am (Kd.R_mono (ok' := fun k_ => True) ho0 (fun k_ hk_ => trivial))
    have N2 := am (hb)
    clear B304
    clear HB
    have B304 := N0
    have O307 := N1
    have HB := N2
    clear N0 N1 N2
    (try clear hb)
    (try clear hkp)
    (try clear ho0)
    refine hK.out _ _ ⟨(bc B304.out 0).trans rfl, (bc B304.out 1).trans rfl, (bc B304.out 2).trans rfl⟩ (fun hHeld => ?_)
    clear hK K
    refine norm_ (a' := ?_) ?_ ?_
    rotate_left
    ·show Act.put _ (some 13) _ = _
     simp only [Act.put, List.setIfInBounds_toArray, List.set_cons_zero, List.set_cons_succ, i64_w, i32_w]
     rfl
    refine one_ (i := 7) (N := some 18) #[true, true, true, true, true, true, true, true, false, false] rfl rfl (one_of HT_.out (by kernel_rfl)) (by decide) (fun K hK => ?_)
    refine Kd.R_lit_step (Kd.int .u8) _ 5 ?hg (N := 18) ?hd (xs := ([((la1.length : Int)) % 256] : List Int)) (inner := [.int .u8 (((la1.length : Int)) % 256)]) (ok := fun _ => True) (okp := fun _ => True) ?hr ?hp (fun _ hk => hk) trivial (Below.refl _ _) (Nat.le_refl _) (by simp) ?_; (case hd => rfl); (case hg => rfl); (case hr => first | (go_simp; done) | (go_simp; rfl)); (case hp => exact (Reps.one (show Kd.M (Kd.int .u8) _ _ _ (((la1.length : Int)) % 256) [.int .u8 (((la1.length : Int)) % 256)] from rfl) (Reps.none _ _)))
    intro v309 w7 ho8 hb hg_ hnew_
    clear hg_ hnew_
    (first | rw [← Ny308.out] at ho8 | (simp only [Int.reduceToNat] at ho8; rw [← Ny308.out] at ho8))
    have N0 := am (re (by (with_reducible repeat (first | apply ra | apply rN | apply rd1)); exact O307.out) (Kd.R_base ho8) hb)
    have N1 := am (rw1 (rn ho8 (rl (by (with_reducible repeat (first | apply ra | apply rN | apply rd1)); exact O307.out))) (bz (by repeat (first | (with_reducible first | exact HB.out | apply pa | apply pN | apply p1 | refine bs ?_ E304.out) | exact HB.out))))
    have N2 := am (bb (g := g304) (by (with_reducible repeat (first | apply bN | apply bd | apply ba)); exact B304.out) hb)
    have N3 := am (bp (by repeat (first | (with_reducible first | exact HB.out | apply pa | apply pN | apply p1 | refine bs ?_ E304.out) | exact HB.out)) hb)
    clear O307
    clear B304
    clear HB
    have O307 := N0
    have O310 := N1
    have B304 := N2
    have HB := N3
    clear N0 N1 N2 N3
    clear hb ho8
    refine hK.out _ _ ⟨(bc B304.out 0).trans rfl, (bc B304.out 1).trans rfl, (bc B304.out 2).trans rfl⟩ (fun hHeld => ?_)
    clear hK K
    refine norm_ (a' := ?_) ?_ ?_
    rotate_left
    ·show Act.put _ (some 18) _ = _
     simp only [Act.put, List.setIfInBounds_toArray, List.set_cons_zero, List.set_cons_succ, i64_w, i32_w]
     rfl
    exact norm_ (by simp only [putAll, Act.put, List.setIfInBounds_toArray, List.set_cons_zero, List.set_cons_succ]) (hCont (v306, v309) _ ⟨hHeld, (by (with_reducible repeat (first | apply ra | apply rN | apply rd1)); exact Kd.R_mono O307.out (fun _ hk => hk.2)), (by (with_reducible repeat (first | apply ra | apply rN | apply rd1)); exact Kd.R_mono O310.out (fun _ hk => hk.2)), (by (with_reducible repeat (first | apply bN | apply bd | apply ba)); exact B304.out), (by repeat (first | (with_reducible first | exact HB.out | apply pa | apply pN | apply p1 | refine bs ?_ E304.out) | exact HB.out))⟩)
   ·skip
    refine Kd.R_lit_step (Kd.int .u8) _ 5 ?hg (N := 18) ?hd (xs := ([((la1.length : Int)) % 256] : List Int)) (inner := [.int .u8 (((la1.length : Int)) % 256)]) (ok := fun _ => True) (okp := fun _ => True) ?hr ?hp (fun _ hk => hk) trivial (Below.refl _ _) (Nat.le_refl _) (by simp) ?_; (case hd => rfl); (case hg => rfl); (case hr => first | (go_simp; done) | (go_simp; rfl)); (case hp => exact (Reps.one (show Kd.M (Kd.int .u8) _ _ _ (((la1.length : Int)) % 256) [.int .u8 (((la1.length : Int)) % 256)] from rfl) (Reps.none _ _)))
    intro v309 w6 ho7 hb hg_ hnew_
    clear hg_ hnew_
    (first | rw [← Ny308.out] at ho7 | (simp only [Int.reduceToNat] at ho7; rw [← Ny308.out] at ho7))
    have N0 := am (rw1 ho7 (bz (by repeat (first | (with_reducible first | exact HB.out | apply pa | apply pN | apply p1 | refine bs ?_ E304.out) | exact HB.out))))
    have N1 := am (bb (g := g304) (by (with_reducible repeat (first | apply bN | apply bd | apply ba)); exact B304.out) hb)
    have N2 := am (bp (by repeat (first | (with_reducible first | exact HB.out | apply pa | apply pN | apply p1 | refine bs ?_ E304.out) | exact HB.out)) hb)
    clear B304
    clear HB
    have O310 := N0
    have B304 := N1
    have HB := N2
    clear N0 N1 N2
    clear hb ho7
    refine hK.out _ _ ⟨(bc B304.out 0).trans rfl, (bc B304.out 1).trans rfl, (bc B304.out 2).trans rfl⟩ (fun hHeld => ?_)
    clear hK K
    refine norm_ (a' := ?_) ?_ ?_
    rotate_left
    ·show Act.put _ (some 18) _ = _
     simp only [Act.put, List.setIfInBounds_toArray, List.set_cons_zero, List.set_cons_succ, i64_w, i32_w]
     rfl
    refine one_ (i := 2) (N := some 13) #[true, true, true, true, true, true, true, true, false, false] rfl rfl (one_of HT_.out (by kernel_rfl)) (by decide) (fun K hK => ?_)
    refine goes_ Try.func125 (by kernel_rfl) rfl #[.slice none 0 0, I q aa0, I q 4] (by rfl) rfl rfl (by (try simp only [List.map_toArray, List.map_cons, List.map_nil]); first | done | rfl | (simp only [List.length_drop, List.length_take]; rfl)) ?_
    refine (impl_put.calls k (fun k_ => some k_ = (.slice none 0 0 : Value).ownBlock) (.slice none 0 0) ([] : List Int) aa0 4 t305 w _ ?side1 ?side2 A2.out).mono ?_
    (case side1 => repeat (first | (with_reducible first | exact HB.out | apply pa | apply pN | apply p1 | refine bs ?_ E304.out) | exact HB.out))
    (case side2 => exact Kd.R_nil _ _ _ _ _)
    rintro e w8 ⟨v306, rfl, ho0, hb, hkp⟩
    refine ⟨_, rfl, ?_⟩
    have N0 := am (blk_kept (by (with_reducible repeat (first | apply bN | apply bd | apply ba)); exact B304.out) hkp (fun hs_ => (fun e_ => by simp [Value.ownBlock] at e_) hs_))
    have N1 := am (Kd.R_mono (ok' := fun k_ => some k_ ≠ (v306 : Value).ownBlock) (Kd.R_keptB (O310.out) hkp (fun k_ hk_ hs_ => (fun e_ => by simp [Value.ownBlock] at e_) hs_)) (fun k_ hk_ => fun e_ => Or.elim (ho0.1 k_ e_.symm) (fun hs_ => hk_.2.1 hs_) (fun hn_ => Nat.not_le.2 hk_.2.2 hn_)))
    have N2 := am (Kd.R_mono (ok' := fun k_ => some k_ ≠ (v309 : Value).ownBlock) ho0 (fun k_ hk_ => Or.elim hk_ (fun hs_ => absurd hs_ (by simp [Value.ownBlock])) (fun hn_ => (Kd.fresh' (rl (by (with_reducible repeat (first | apply ra | apply rN | apply rd1)); exact O310.out)) k_ hn_))))
    have N3 := am (hb)
    clear B304
    clear O310
    clear HB
    have B304 := N0
    have O310 := N1
    have O307 := N2
    have HB := N3
    clear N0 N1 N2 N3
    (try clear hb)
    (try clear hkp)
    (try clear ho0)
    refine hK.out _ _ ⟨(bc B304.out 0).trans rfl, (bc B304.out 1).trans rfl, (bc B304.out 2).trans rfl⟩ (fun hHeld => ?_)
    clear hK K
    refine norm_ (a' := ?_) ?_ ?_
    rotate_left
    ·show Act.put _ (some 13) _ = _
     simp only [Act.put, List.setIfInBounds_toArray, List.set_cons_zero, List.set_cons_succ, i64_w, i32_w]
     rfl
    exact norm_ (by simp only [putAll, Act.put, List.setIfInBounds_toArray, List.set_cons_zero, List.set_cons_succ]) (hCont (v306, v309) _ ⟨hHeld, (by (with_reducible repeat (first | apply ra | apply rN | apply rd1)); exact O307.out), (by (with_reducible repeat (first | apply ra | apply rN | apply rd1)); exact O310.out), (by (with_reducible repeat (first | apply bN | apply bd | apply ba)); exact B304.out), (by repeat (first | (with_reducible first | exact HB.out | apply pa | apply pN | apply p1 | refine bs ?_ E304.out) | exact HB.out))⟩)
  rintro ⟨v306, v309⟩ w9 ⟨hS_, h0_, h1_, h2_, h3_⟩
  have N0 : Aside0 (Kd.R (Kd.int .u8) 5 w9 w.heap.size (fun k_ => some k_ ≠ (v309 : Value).ownBlock) v306 t305) := ⟨h0_⟩
  have N1 : Aside0 (Kd.R (Kd.int .u8) 5 w9 w.heap.size (fun k_ => some k_ ≠ (v306 : Value).ownBlock) v309 y308) := ⟨h1_⟩
  have N2 : Aside0 (w9.heap[g304]? = some (.cells #[I q aa0, J Aa1 la1.length ca1, J Aa2 la2.length ca2] 31 (0, 0))) := ⟨h2_⟩
  have N3 : Aside0 (Below w.heap.size w w9) := ⟨h3_⟩
  clear B304
  clear HB
  clear h0_ h1_ h2_ h3_
  have O307 := N0
  have O310 := N1
  have B304 := N2
  have HB := N3
  clear N0 N1 N2 N3
  have hHeld : w9.cell? ⟨g304, 0, none⟩ = some (I q aa0) ∧ w9.cell? ⟨g304, 1, none⟩ = some (J Aa1 la1.length ca1) ∧ w9.cell? ⟨g304, 2, none⟩ = some (J Aa2 la2.length ca2) := hS_
  obtain ⟨Ao11, co11, eo11⟩ := Kd.R_slice O310.out
  (first | subst eo11 | (injection eo11 with f1_ f2_ f3_; have f4_ := f1_.symm; have f5_ := f3_.symm; clear f1_ f2_ f3_; subst f4_; subst f5_))
  refine norm_ (a' := ?_) ?_ ?_
  rotate_left
  ·simp only [putAll, Act.put, List.setIfInBounds_toArray, List.set_cons_zero, List.set_cons_succ]
   rfl
  refine one_ (i := 8) (N := some 19) #[true, true, true, true, true, true, true, true, true, false] rfl rfl (one_of HT_.out (by kernel_rfl)) (by decide) (fun K hK => ?_)
  refine Kd.R_append_rows_step (Kd.int .u8) (w0 := w) w.heap.size (by rfl) (.tmp 13) (.tmp 18) 58 5 (.int .u8 0) 1 rfl Try.underlying58 info5 rfl (by decide) (by omega) v306 t305 y308 _ _ _ (fun k_ => some k_ ≠ (J Ao11 y308.length co11 : Value).ownBlock) (fun _ => False) rfl rfl ?aO ?aR (fun _ _ h => h) (fun _ h => h.elim) ?aF ?aB ?aS ?aL ?_
  (case aR => repeat (first | exact (Kd.R_reads' O310.out).2.2 | (with_reducible refine ca ?_ _) | (with_reducible refine cN ?_ _) | (with_reducible refine cd1 ?_)))
  (case aB => exact (by repeat (first | (with_reducible first | exact HB.out | apply pa | apply pN | apply p1 | refine bs ?_ E304.out) | exact HB.out)))
  (case aF => exact (fun k_ hk => Kd.fresh' (rl (by (with_reducible repeat (first | apply ra | apply rN | apply rd1)); exact O310.out)) k_ hk))
  (case aO => exact (by (with_reducible repeat (first | apply ra | apply rN | apply rd1)); exact O307.out))
  (case aS => exact (bz (by repeat (first | (with_reducible first | exact HB.out | apply pa | apply pN | apply p1 | refine bs ?_ E304.out) | exact HB.out))))
  (case aL => have := LMc3.out; omega)
  intro v312 w10 ho hb hg hat
  rw [← Ny311.out] at ho
  have N0 := am (blk_grown (g := g304) (o := .cells #[I q aa0, J Aa1 la1.length ca1, J Aa2 la2.length ca2] 31 (0, 0)) (by (with_reducible repeat (first | apply bN | apply bd | apply ba)); exact B304.out) hg (Kd.R_ne O307.out B304.out (by decide)))
  have N1 := am (Kd.R_after (ok := (fun _ => True)) (by (with_reducible repeat (first | apply ra | apply rN | apply rd1)); exact Kd.R_mono O310.out (fun _ hk => ⟨trivial, hk⟩)) hg hat)
  have N2 := am (hb)
  have N3 := am (ho)
  clear B304
  clear O310
  clear HB
  clear O307
  have B304 := N0
  have O310 := N1
  have HB := N2
  have O313 := N3
  clear N0 N1 N2 N3
  clear ho hb hg hat
  refine hK.out _ _ ⟨(bc B304.out 0).trans rfl, (bc B304.out 1).trans rfl, (bc B304.out 2).trans rfl⟩ (fun hHeld => ?_)
  clear hK K
  refine norm_ (a' := ?_) ?_ ?_
  rotate_left
  ·show Act.put _ (some 19) _ = _
   simp only [Act.put, List.setIfInBounds_toArray, List.set_cons_zero, List.set_cons_succ, i64_w, i32_w]
   rfl
  refine pure_ (i := 9) (N := some 3) (v := ?_) (a' := ?_) #[true, true, true, true, true, true, true, true, true, true] rfl rfl (any_of HT_.out (by kernel_rfl)) (fun _ _ _ h => h) (Or.inl ⟨by rfl, ?_⟩) ?_ ?_
  rotate_left
  ·intro w'
   first | (go_simp; with_reducible rfl) | (go_simp; (try unfold Instr.field); go_simp; (try simp only [asAgg]); go_simp; with_reducible rfl)
  rotate_left
  ·simp only [Act.put, List.setIfInBounds_toArray, List.set_cons_zero, List.set_cons_succ, i64_w, i32_w]
   rfl
  refine done_ (done_of HT_.out (by kernel_rfl)) ?_
  have hcz12_0 : w10.cell? ⟨g304, 0, none⟩ = some (I q aa0) := (bc B304.out 0).trans rfl
  have hcz12_1 : w10.cell? ⟨g304, 1, none⟩ = some (J Aa1 la1.length ca1) := (bc B304.out 1).trans rfl
  have hcz12_2 : w10.cell? ⟨g304, 2, none⟩ = some (J Aa2 la2.length ca2) := (bc B304.out 2).trans rfl
  have hfz12_0 := bf B304.out 0
  have hfz12_1 := bf B304.out 1
  have hfz12_2 := bf B304.out 2
  try go_wp2
  go_loopg [3, 23] k (fun kq v3 v23 w' => ∃ (x3_1 : List Int) (x23_1 : Int), v23 = I q x23_1 ∧ Aside0 (impl_packConfig.l0 kq x3_1 la1 (la1.length : Int) x23_1 aa0 la1 la2 = some r) ∧ Aside0 (kq ≤ k) ∧ Aside0 (Kd.R (Kd.int .u8) 5 w' w.heap.size (fun _ => True) v3 x3_1) ∧ Aside0 (w'.heap[g304]? = some (.cells #[I q aa0, (J Aa1 la1.length ca1), (J Aa2 la2.length ca2)] 31 (0, 0))) ∧ Aside0 (Below w.heap.size w w'))
  case atStart => exact ⟨(y311), (0), (by first | rfl | (simp; done) | (simp [*]; done)), H', ⟨Nat.le_refl _⟩, ⟨by (with_reducible repeat (first | apply ra | apply rN | apply rd1)); exact Kd.R_mono O313.out (fun _ hk => trivial)⟩, ⟨by (with_reducible repeat (first | apply bN | apply bd | apply ba)); exact B304.out⟩, ⟨by repeat (first | (with_reducible first | exact HB.out | apply pa | apply pN | apply p1 | refine bs ?_ E304.out) | exact HB.out)⟩⟩
  case round =>
   clear H'
   try clear c1
   try clear p2
   try clear c3
   try clear c8
   try clear c12
   try clear hcz12_0
   try clear hcz12_1
   try clear hcz12_2
   try clear hfz12_0
   try clear hfz12_1
   try clear hfz12_2
   obtain ⟨x3_1, x23_1, rfl, HA, HK1, o0, B304, HB⟩ := hrel
   cases gk with
   | zero => exact absurd HA.out (by simp [impl_packConfig.l0])
   | succ k1 =>
    have H := HA.out
    clear HA
    simp only [impl_packConfig.l0] at H
    by_cases c13 : x23_1 < (la1.length : Int)
    ·rw [if_pos c13] at H
     have c13b0 : decide (x23_1 < (la1.length : Int)) = true := decide_eq_true c13
     clear c13
     by_cases c14 : 0 ≤ x23_1
     ·rw [if_pos c14] at H
      have c14b0 : decide (0 ≤ x23_1) = true := decide_eq_true c14
      clear c14
      by_cases c15 : x23_1 < (la1.length : Int)
      ·rw [if_pos c15] at H
       have c15b0 : decide (x23_1 < (la1.length : Int)) = true := decide_eq_true c15
       clear c15
       obtain ⟨bq16, hbq16⟩ : ∃ b_ : Bool, b_ = ((rd_T36 la1 x23_1).f4) := ⟨_, rfl⟩
       replace H : (if bq16 = true then ((impl_put.f k1 x3_1 ((rd_T36 la1 x23_1).f0) 2).bind fun t316 => ((impl_put.f k1 t316 ((rd_T36 la1 x23_1).f1) 4).bind fun t319 => ((some (([(wrap64 ((wrap64 ((wrap64 (((rd_T36 la1 x23_1).f2) * 8)) + (wrap64 (((rd_T36 la1 x23_1).f3) * 2)))) + 1)) % 256] : List Int) : List Int)).bind fun y322 => (if t319.length + y322.length < 140737488355328 then (impl_packConfig.l0 k1 (t319 ++ y322) la1 (la1.length : Int) (wrap64 (x23_1 + 1)) aa0 la1 la2) else (none))))) else ((impl_put.f k1 x3_1 ((rd_T36 la1 x23_1).f0) 2).bind fun t328 => ((impl_put.f k1 t328 ((rd_T36 la1 x23_1).f1) 4).bind fun t331 => ((some (([(wrap64 ((wrap64 (((rd_T36 la1 x23_1).f2) * 8)) + (wrap64 (((rd_T36 la1 x23_1).f3) * 2)))) % 256] : List Int) : List Int)).bind fun y334 => (if t331.length + y334.length < 140737488355328 then (impl_packConfig.l0 k1 (t331 ++ y334) la1 (la1.length : Int) (wrap64 (x23_1 + 1)) aa0 la1 la2) else (none)))))) = some r := by rw [← hbq16] at H; exact H
       have Nbq16 := am hbq16
       clear hbq16
       by_cases c17 : bq16 = true
       ·subst c17
        have H1 : ((impl_put.f k1 x3_1 ((rd_T36 la1 x23_1).f0) 2).bind fun t316 => ((impl_put.f k1 t316 ((rd_T36 la1 x23_1).f1) 4).bind fun t319 => ((some (([(wrap64 ((wrap64 ((wrap64 (((rd_T36 la1 x23_1).f2) * 8)) + (wrap64 (((rd_T36 la1 x23_1).f3) * 2)))) + 1)) % 256] : List Int) : List Int)).bind fun y322 => (if t319.length + y322.length < 140737488355328 then (impl_packConfig.l0 k1 (t319 ++ y322) la1 (la1.length : Int) (wrap64 (x23_1 + 1)) aa0 la1 la2) else (none))))) = some r := by rw [if_pos rfl] at H; exact H
        clear H
        have H := H1
        clear H1
        replace H := Option.bind_eq_some_iff.mp H
        obtain ⟨t316, A180, H⟩ := H
        replace H : ((impl_put.f k1 t316 ((rd_T36 la1 x23_1).f1) 4).bind fun t319 => ((some (([(wrap64 ((wrap64 ((wrap64 (((rd_T36 la1 x23_1).f2) * 8)) + (wrap64 (((rd_T36 la1 x23_1).f3) * 2)))) + 1)) % 256] : List Int) : List Int)).bind fun y322 => (if t319.length + y322.length < 140737488355328 then (impl_packConfig.l0 k1 (t319 ++ y322) la1 (la1.length : Int) (wrap64 (x23_1 + 1)) aa0 la1 la2) else (none)))) = some r := H
        have A18 := am A180
        clear A180
        replace H := Option.bind_eq_some_iff.mp H
        obtain ⟨t319, A190, H⟩ := H
        replace H : ((some (([(wrap64 ((wrap64 ((wrap64 (((rd_T36 la1 x23_1).f2) * 8)) + (wrap64 (((rd_T36 la1 x23_1).f3) * 2)))) + 1)) % 256] : List Int) : List Int)).bind fun y322 => (if t319.length + y322.length < 140737488355328 then (impl_packConfig.l0 k1 (t319 ++ y322) la1 (la1.length : Int) (wrap64 (x23_1 + 1)) aa0 la1 la2) else (none))) = some r := H
        have A19 := am A190
        clear A190
        obtain ⟨y322, hy322⟩ : ∃ y_ : List Int, y_ = (([(wrap64 ((wrap64 ((wrap64 (((rd_T36 la1 x23_1).f2) * 8)) + (wrap64 (((rd_T36 la1 x23_1).f3) * 2)))) + 1)) % 256] : List Int)) := ⟨_, rfl⟩
        replace H : (if t319.length + y322.length < 140737488355328 then (impl_packConfig.l0 k1 (t319 ++ y322) la1 (la1.length : Int) (wrap64 (x23_1 + 1)) aa0 la1 la2) else (none)) = some r := by first | (rw [hy322]; with_reducible exact H) | (have H2_ := (Option.bind_some _ _).symm.trans H; rw [hy322]; with_reducible exact H2_) | (have H2_ := (Option.bind_some _ _).symm.trans H; with_reducible exact H2_) | with_reducible exact H | (rw [hy322]; exact H) | exact H
        have Ny322 := am hy322
        clear hy322
        by_cases c20 : t319.length + y322.length < 140737488355328
        ·rw [if_pos c20] at H
         have LMc20 := am c20
         clear c20
         obtain ⟨y325, hy325⟩ : ∃ y_ : List Int, y_ = (t319 ++ y322) := ⟨_, rfl⟩
         replace H : (impl_packConfig.l0 k1 y325 la1 (la1.length : Int) (wrap64 (x23_1 + 1)) aa0 la1 la2) = some r := by first | (rw [hy325]; with_reducible exact H) | (have H2_ := (Option.bind_some _ _).symm.trans H; rw [hy325]; with_reducible exact H2_) | (have H2_ := (Option.bind_some _ _).symm.trans H; with_reducible exact H2_) | with_reducible exact H | (rw [hy325]; exact H) | exact H
         have Ny325 := am hy325
         clear hy325
         have H' := am H
         clear H
         have p314 : 0 ≤ (x23_1 : Int) := of_decide_eq_true (by first | (with_reducible assumption) | assumption)
         have q314 : x23_1 < (la1.length : Int) := of_decide_eq_true (by first | (with_reducible assumption) | assumption)
         obtain ⟨ad314, e314, hx314_0, hx314_1, hx314_2, hx314_3, hx314_4⟩ := at_T36 HR0_1.out x23_1 p314 q314
         (try rw [← Nbq16.out] at hx314_4)
         cases e314
         replace hx314_0 := (HB.out.cell (World.block_lt_of_cell? w _ hx314_0)).trans hx314_0
         replace hx314_1 := (HB.out.cell (World.block_lt_of_cell? w _ hx314_1)).trans hx314_1
         replace hx314_2 := (HB.out.cell (World.block_lt_of_cell? w _ hx314_2)).trans hx314_2
         replace hx314_3 := (HB.out.cell (World.block_lt_of_cell? w _ hx314_3)).trans hx314_3
         replace hx314_4 := (HB.out.cell (World.block_lt_of_cell? w _ hx314_4)).trans hx314_4
         replace p314 := eq_true p314
         replace q314 := eq_true q314
         try go_wp2_with (first | ((with_reducible refine gate_dst (N := 5) rfl ?_); refine box_event ?hg (N := 5) ?hd (cs := #[I q 0, I q 0, I q 0, I q 0, .bool false]) (t := 36) ?hr ?_; (case hd => rfl); (case hg => rfl); (case hr => first | (go_simp; done) | (go_simp; rfl)); intro g315 hg w21 hbox hb; have N0 := am (rb (by (with_reducible repeat (first | apply ra | apply rN | apply rd1)); exact o0.out) hb); have N1 := am (bb (g := g304) (by (with_reducible repeat (first | apply bN | apply bd | apply ba)); exact B304.out) hb); have N2 := am (bp (by repeat (first | (with_reducible first | exact HB.out | apply pa | apply pN | apply p1 | refine bs ?_ E304.out) | exact HB.out)) hb); have N3 := am (hbox); have N4 := am ((by rw [hg]; exact (bz (by repeat (first | (with_reducible first | exact HB.out | apply pa | apply pN | apply p1 | refine bs ?_ E304.out) | exact HB.out))) : w.heap.size ≤ g315)); have N5 := am ((by rw [hg]; exact (bz (by repeat (first | (with_reducible first | exact HB.out | apply pa | apply pN | apply p1 | refine bs ?_ E304.out) | exact HB.out))) : w.heap.size ≤ g315)); have N6 := am ((by rw [hg]; exact Nat.ne_of_lt (bl (g := g304) (by (with_reducible repeat (first | apply bN | apply bd | apply ba)); exact B304.out)) : g304 ≠ g315)); have N7 := am ((by rw [hg]; exact Nat.ne_of_gt (bl (g := g304) (by (with_reducible repeat (first | apply bN | apply bd | apply ba)); exact B304.out)) : g315 ≠ g304)); clear o0 B304 HB; have o0 := N0; have B304 := N1; have HB := N2; have B315 := N3; have GW315 := N4; have E315 := N5; have NB304_315 := N6; have NB315_304 := N7; clear N0 N1 N2 N3 N4 N5 N6 N7 hb hbox hg; have hnb22 := NB315_304.out; have hnc22 := NB304_315.out; have hcz23_0 : w21.cell? ⟨g315, 0, none⟩ = some (I q 0) := (bc B315.out 0).trans rfl; have hcz23_1 : w21.cell? ⟨g315, 1, none⟩ = some (I q 0) := (bc B315.out 1).trans rfl; have hcz23_2 : w21.cell? ⟨g315, 2, none⟩ = some (I q 0) := (bc B315.out 2).trans rfl; have hcz23_3 : w21.cell? ⟨g315, 3, none⟩ = some (I q 0) := (bc B315.out 3).trans rfl; have hcz23_4 : w21.cell? ⟨g315, 4, none⟩ = some (.bool false) := (bc B315.out 4).trans rfl; have hfz23_0 := bf B315.out 0; have hfz23_1 := bf B315.out 1; have hfz23_2 := bf B315.out 2; have hfz23_3 := bf B315.out 3; have hfz23_4 := bf B315.out 4; obtain ⟨Ao24, co24, eo24⟩ := Kd.R_slice o0.out; subst eo24))
         have N0 : Aside0 (Kd.R (Kd.int .u8) 5 (((((w21.setCell ⟨g315, 0, none⟩ (I q ((rd_T36 la1 x23_1).f0))).setCell ⟨g315, 1, none⟩ (I q ((rd_T36 la1 x23_1).f1))).setCell ⟨g315, 2, none⟩ (I q ((rd_T36 la1 x23_1).f2))).setCell ⟨g315, 3, none⟩ (I q ((rd_T36 la1 x23_1).f3))).setCell ⟨g315, 4, none⟩ (.bool true)) w.heap.size (fun _ => True) (J Ao24 x3_1.length co24) x3_1) := ⟨by (with_reducible repeat (first | apply ra | apply rN | apply rd1)); exact Kd.R_mono (rf (p := ⟨g315, 4, none⟩) (rf (p := ⟨g315, 3, none⟩) (rf (p := ⟨g315, 2, none⟩) (rf (p := ⟨g315, 1, none⟩) (rf (p := ⟨g315, 0, none⟩) (Kd.R_types o0.out B315.out (by decide)) (fun _ hk => hk.2) (I q ((rd_T36 la1 x23_1).f0))) (fun _ hk => hk.2) (I q ((rd_T36 la1 x23_1).f1))) (fun _ hk => hk.2) (I q ((rd_T36 la1 x23_1).f2))) (fun _ hk => hk.2) (I q ((rd_T36 la1 x23_1).f3))) (fun _ hk => hk.2) (.bool true)) (fun _ hk => trivial)⟩
         have N1 : Aside0 ((((((w21.setCell ⟨g315, 0, none⟩ (I q ((rd_T36 la1 x23_1).f0))).setCell ⟨g315, 1, none⟩ (I q ((rd_T36 la1 x23_1).f1))).setCell ⟨g315, 2, none⟩ (I q ((rd_T36 la1 x23_1).f2))).setCell ⟨g315, 3, none⟩ (I q ((rd_T36 la1 x23_1).f3))).setCell ⟨g315, 4, none⟩ (.bool true)).heap[g304]? = some (.cells #[I q aa0, .slice (some ad314) la1.length ca1, J Aa2 la2.length ca2] 31 (0, 0))) := ⟨by (iterate 5 ((with_reducible repeat (first | apply bN | apply bd | apply ba)); refine bq ?_ NB304_315.out _)); (with_reducible repeat (first | apply bN | apply bd | apply ba)); exact B304.out⟩
         have N2 : Aside0 ((((((w21.setCell ⟨g315, 0, none⟩ (I q ((rd_T36 la1 x23_1).f0))).setCell ⟨g315, 1, none⟩ (I q ((rd_T36 la1 x23_1).f1))).setCell ⟨g315, 2, none⟩ (I q ((rd_T36 la1 x23_1).f2))).setCell ⟨g315, 3, none⟩ (I q ((rd_T36 la1 x23_1).f3))).setCell ⟨g315, 4, none⟩ (.bool true)).heap[g315]? = some (.cells #[I q ((rd_T36 la1 x23_1).f0), I q ((rd_T36 la1 x23_1).f1), I q ((rd_T36 la1 x23_1).f2), I q ((rd_T36 la1 x23_1).f3), .bool true] 36 (0, 0))) := ⟨by (with_reducible repeat (first | apply bN | apply bd | apply ba)); exact pu5i B315.out⟩
         have N3 : Aside0 (Below w.heap.size w (((((w21.setCell ⟨g315, 0, none⟩ (I q ((rd_T36 la1 x23_1).f0))).setCell ⟨g315, 1, none⟩ (I q ((rd_T36 la1 x23_1).f1))).setCell ⟨g315, 2, none⟩ (I q ((rd_T36 la1 x23_1).f2))).setCell ⟨g315, 3, none⟩ (I q ((rd_T36 la1 x23_1).f3))).setCell ⟨g315, 4, none⟩ (.bool true))) := ⟨by repeat (first | (with_reducible first | exact HB.out | apply pa | apply pN | apply p1 | refine bs ?_ E304.out | refine bs ?_ E315.out) | exact HB.out)⟩
         (try clear o0)
         (try clear B304)
         (try clear B315)
         (try clear HB)
         generalize (((((w21.setCell ⟨g315, 0, none⟩ (I q ((rd_T36 la1 x23_1).f0))).setCell ⟨g315, 1, none⟩ (I q ((rd_T36 la1 x23_1).f1))).setCell ⟨g315, 2, none⟩ (I q ((rd_T36 la1 x23_1).f2))).setCell ⟨g315, 3, none⟩ (I q ((rd_T36 la1 x23_1).f3))).setCell ⟨g315, 4, none⟩ (.bool true)) = w25 at N0 N1 N2 N3 ⊢
         have o0 := N0
         have B304 := N1
         have B315 := N2
         have HB := N3
         clear N0 N1 N2 N3
         have N0 := am (rd1 o0.out)
         have N1 := am (bd B304.out)
         have N2 := am (bd B315.out)
         have N3 := am (p1 HB.out)
         clear o0
         clear B304
         clear B315
         clear HB
         have o0 := N0
         have B304 := N1
         have B315 := N2
         have HB := N3
         clear N0 N1 N2 N3
         refine start_ (n := 12) (S := fun w' => w'.cell? ⟨g315, 0, none⟩ = some (I q ((rd_T36 la1 x23_1).f0)) ∧ w'.cell? ⟨g315, 1, none⟩ = some (I q ((rd_T36 la1 x23_1).f1)) ∧ w'.cell? ⟨g315, 2, none⟩ = some (I q ((rd_T36 la1 x23_1).f2)) ∧ w'.cell? ⟨g315, 3, none⟩ = some (I q ((rd_T36 la1 x23_1).f3)) ∧ w'.cell? ⟨g315, 4, none⟩ = some (.bool true)) (ds := []) #[false, false, false, false, false, false, false, false, false, false, false, false] (by kernel_rfl) rfl rfl ⟨(bc B315.out 0).trans rfl, (bc B315.out 1).trans rfl, (bc B315.out 2).trans rfl, (bc B315.out 3).trans rfl, (bc B315.out 4).trans rfl⟩ (fun hHeld => ?_); refine with_tabW impl_packConfig.tab8 impl_packConfig.bits8 (fun HT_ HW_ => ?_)
         generalize w25.drew = w26 at o0 B304 B315 HB hHeld ⊢
         refine pure_ (i := 0) (N := some 38) (v := ?_) (a' := ?_) #[true, false, false, false, false, false, false, false, false, false, false, false] rfl rfl (any_of HT_.out (by kernel_rfl)) (fun _ _ _ h => h) (Or.inl ⟨by rfl, ?_⟩) ?_ ?_
         rotate_left
         ·intro w'
          first | (go_simp; with_reducible rfl) | (go_simp; (try unfold Instr.field); go_simp; (try simp only [asAgg]); go_simp; with_reducible rfl)
         rotate_left
         ·simp only [Act.put, List.setIfInBounds_toArray, List.set_cons_zero, List.set_cons_succ, i64_w, i32_w]
          rfl
         refine pure_ (i := 1) (N := some 39) (v := ?_) (a' := ?_) #[true, true, false, false, false, false, false, false, false, false, false, false] rfl rfl (any_of HT_.out (by kernel_rfl)) (fun _ _ _ h => h) (Or.inl ⟨by rfl, ?_⟩) ?_ ?_
         rotate_left
         ·intro w'
          first | (go_simp; with_reducible rfl) | (go_simp; (try unfold Instr.field); go_simp; (try simp only [asAgg]); go_simp; with_reducible rfl)
         rotate_left
         ·simp only [Act.put, List.setIfInBounds_toArray, List.set_cons_zero, List.set_cons_succ, i64_w, i32_w]
          rfl
         refine pure_ (i := 4) (N := some 42) (v := ?_) (a' := ?_) #[true, true, false, false, true, false, false, false, false, false, false, false] rfl rfl (any_of HT_.out (by kernel_rfl)) (fun _ _ _ h => h) (Or.inl ⟨by rfl, ?_⟩) ?_ ?_
         rotate_left
         ·intro w'
          first | (go_simp; with_reducible rfl) | (go_simp; (try unfold Instr.field); go_simp; (try simp only [asAgg]); go_simp; with_reducible rfl)
         rotate_left
         ·simp only [Act.put, List.setIfInBounds_toArray, List.set_cons_zero, List.set_cons_succ, i64_w, i32_w]
          rfl
         refine pure_ (i := 7) (N := some 45) (v := ?_) (a' := ?_) #[true, true, false, false, true, false, false, true, false, false, false, false] rfl rfl (any_of HT_.out (by kernel_rfl)) (fun _ _ _ h => h) (Or.inl ⟨by rfl, ?_⟩) ?_ ?_
         rotate_left
         ·intro w'
          first | (go_simp; with_reducible rfl) | (go_simp; (try unfold Instr.field); go_simp; (try simp only [asAgg]); go_simp; with_reducible rfl)
         rotate_left
         ·simp only [Act.put, List.setIfInBounds_toArray, List.set_cons_zero, List.set_cons_succ, i64_w, i32_w]
          rfl
         refine pure_ (i := 8) (N := some 46) (v := ?_) (a' := ?_) #[true, true, false, false, true, false, false, true, true, false, false, false] rfl rfl (any_of HT_.out (by kernel_rfl)) (fun _ _ _ h => h) (Or.inl ⟨by rfl, ?_⟩) ?_ ?_
         rotate_left
         ·intro w'
          first | (go_simp; with_reducible rfl) | (go_simp; (try unfold Instr.field); go_simp; (try simp only [asAgg]); go_simp; with_reducible rfl)
         rotate_left
         ·simp only [Act.put, List.setIfInBounds_toArray, List.set_cons_zero, List.set_cons_succ, i64_w, i32_w]
          rfl
         refine take_ (i := 2) (N := some 40) (v := ?_) (a' := ?_) #[true, true, true, false, true, false, false, true, true, false, false, false] rfl rfl (take_ofW HT_.out HW_.out (by kernel_rfl)) (fun _ _ _ h => h) (Or.inl ⟨by rfl, ?_⟩) hHeld ?_ ?_
         rotate_left
         ·rintro w' ⟨s0, s1, s2, s3, s4⟩
          go_simp
          with_reducible rfl
         rotate_left
         ·simp only [Act.put, List.setIfInBounds_toArray, List.set_cons_zero, List.set_cons_succ, i64_w, i32_w]
          rfl
         refine take_ (i := 5) (N := some 43) (v := ?_) (a' := ?_) #[true, true, true, false, true, true, false, true, true, false, false, false] rfl rfl (take_ofW HT_.out HW_.out (by kernel_rfl)) (fun _ _ _ h => h) (Or.inl ⟨by rfl, ?_⟩) hHeld ?_ ?_
         rotate_left
         ·rintro w' ⟨s0, s1, s2, s3, s4⟩
          go_simp
          with_reducible rfl
         rotate_left
         ·simp only [Act.put, List.setIfInBounds_toArray, List.set_cons_zero, List.set_cons_succ, i64_w, i32_w]
          rfl
         refine join_ (σ := Value × Value × Value) 2 #[true, true, true, true, true, true, true, true, true, true, false, false] (fun s_ => [(41, s_.1), (44, s_.2.1), (47, s_.2.2)]) (fun s_ w' => (w'.cell? ⟨g315, 0, none⟩ = some (I q ((rd_T36 la1 x23_1).f0)) ∧ w'.cell? ⟨g315, 1, none⟩ = some (I q ((rd_T36 la1 x23_1).f1)) ∧ w'.cell? ⟨g315, 2, none⟩ = some (I q ((rd_T36 la1 x23_1).f2)) ∧ w'.cell? ⟨g315, 3, none⟩ = some (I q ((rd_T36 la1 x23_1).f3)) ∧ w'.cell? ⟨g315, 4, none⟩ = some (.bool true)) ∧ (Kd.R (Kd.int .u8) 5 w' w.heap.size (fun k_ => some k_ ≠ (s_.2.2 : Value).ownBlock) s_.2.1 t319) ∧ (Kd.R (Kd.int .u8) 5 w' w.heap.size (fun k_ => some k_ ≠ (s_.2.1 : Value).ownBlock) s_.2.2 y322) ∧ (w'.heap[g304]? = some (.cells #[I q aa0, .slice (some ad314) la1.length ca1, J Aa2 la2.length ca2] 31 (0, 0))) ∧ (w'.heap[g315]? = some (.cells #[I q ((rd_T36 la1 x23_1).f0), I q ((rd_T36 la1 x23_1).f1), I q ((rd_T36 la1 x23_1).f2), I q ((rd_T36 la1 x23_1).f3), .bool true] 36 (0, 0))) ∧ (Below w.heap.size w w')) ?_ ?_
         rotate_left
         ·intro hCont
          refine two_ (i := 3) (j := 9) (Ni := some 41) (Nj := some 47) #[true, true, true, true, true, true, false, true, true, false, false, false] #[true, true, true, false, true, true, false, true, true, true, false, false] rfl rfl rfl rfl (two_of HT_.out (by kernel_rfl)) (by decide) (by decide) (fun K hK => ?_) (fun K hK => ?_)
          ·skip
           refine goes_ Try.func125 (by kernel_rfl) rfl #[J Ao24 x3_1.length co24, I q ((rd_T36 la1 x23_1).f0), I q 2] (by rfl) rfl rfl (by (try simp only [List.map_toArray, List.map_cons, List.map_nil]); first | done | rfl | (simp only [List.length_drop, List.length_take]; rfl)) ?_
           with_reducible refine (impl_put.calls k1 (fun k_ => some k_ = (J Ao24 x3_1.length co24 : Value).ownBlock) (J Ao24 x3_1.length co24) x3_1 ((rd_T36 la1 x23_1).f0) 2 t316 w _ ?side1 ?side2 A18.out).mono ?_
           (case side1 => repeat (first | (with_reducible first | exact HB.out | apply pa | apply pN | apply p1 | refine bs ?_ E304.out | refine bs ?_ E315.out) | exact HB.out))
           (case side2 => exact Kd.R_tight rfl o0.out)
           rintro e w27 ⟨v317, rfl, ho0, hb, hkp⟩
           refine ⟨_, rfl, ?_⟩
           have N0 := am (blk_kept (by (with_reducible repeat (first | apply bN | apply bd | apply ba)); exact B304.out) hkp (fun hs_ => (fun e_ => (Kd.R_ne o0.out B304.out (by decide)) e_) hs_))
           have N1 := am (blk_kept (by (with_reducible repeat (first | apply bN | apply bd | apply ba)); exact B315.out) hkp (fun hs_ => (fun e_ => (Kd.R_ne o0.out B315.out (by decide)) e_) hs_))
           have N2 := am (Kd.R_mono (ok' := fun k_ => True) ho0 (fun k_ hk_ => trivial))
           have N3 := am (hb)
           clear B304
           clear B315
           clear HB
           clear o0
           have B304 := N0
           have B315 := N1
           have O318 := N2
           have HB := N3
           clear N0 N1 N2 N3
           (try clear hb)
           (try clear hkp)
           (try clear ho0)
           obtain ⟨Ao28, co28, eo28⟩ := Kd.R_slice O318.out
           (first | subst eo28 | (injection eo28 with f1_ f2_ f3_; have f4_ := f1_.symm; have f5_ := f3_.symm; clear f1_ f2_ f3_; subst f4_; subst f5_))
           refine hK.out _ _ ⟨(bc B315.out 0).trans rfl, (bc B315.out 1).trans rfl, (bc B315.out 2).trans rfl, (bc B315.out 3).trans rfl, (bc B315.out 4).trans rfl⟩ (fun hHeld => ?_)
           clear hK K
           refine norm_ (a' := ?_) ?_ ?_
           rotate_left
           ·show Act.put _ (some 41) _ = _
            simp only [Act.put, List.setIfInBounds_toArray, List.set_cons_zero, List.set_cons_succ, i64_w, i32_w]
            rfl
           refine two_ (i := 6) (j := 9) (Ni := some 44) (Nj := some 47) #[true, true, true, true, true, true, true, true, true, false, false, false] #[true, true, true, true, true, true, false, true, true, true, false, false] rfl rfl rfl rfl (two_of HT_.out (by kernel_rfl)) (by decide) (by decide) (fun K hK => ?_) (fun K hK => ?_)
           ·skip
            refine goes_ Try.func125 (by kernel_rfl) rfl #[J Ao28 t316.length co28, I q ((rd_T36 la1 x23_1).f1), I q 4] (by rfl) rfl rfl (by (try simp only [List.map_toArray, List.map_cons, List.map_nil]); first | done | rfl | (simp only [List.length_drop, List.length_take]; rfl)) ?_
            with_reducible refine (impl_put.calls k1 (fun k_ => some k_ = (J Ao28 t316.length co28 : Value).ownBlock) (J Ao28 t316.length co28) t316 ((rd_T36 la1 x23_1).f1) 4 t319 w _ ?side1 ?side2 A19.out).mono ?_
            (case side1 => repeat (first | (with_reducible first | exact HB.out | apply pa | apply pN | apply p1 | refine bs ?_ E304.out | refine bs ?_ E315.out) | exact HB.out))
            (case side2 => exact Kd.R_tight rfl O318.out)
            rintro e w29 ⟨v320, rfl, ho0, hb, hkp⟩
            refine ⟨_, rfl, ?_⟩
            have N0 := am (blk_kept (by (with_reducible repeat (first | apply bN | apply bd | apply ba)); exact B304.out) hkp (fun hs_ => (fun e_ => (Kd.R_ne O318.out B304.out (by decide)) e_) hs_))
            have N1 := am (blk_kept (by (with_reducible repeat (first | apply bN | apply bd | apply ba)); exact B315.out) hkp (fun hs_ => (fun e_ => (Kd.R_ne O318.out B315.out (by decide)) e_) hs_))
            have N2 := am (Kd.R_mono (ok' := fun k_ => True) ho0 (fun k_ hk_ => trivial))
            have N3 := am (hb)
            clear B304
            clear B315
            clear HB
            clear O318
            have B304 := N0
            have B315 := N1
            have O321 := N2
            have HB := N3
            clear N0 N1 N2 N3
            (try clear hb)
            (try clear hkp)
            (try clear ho0)
            refine hK.out _ _ ⟨(bc B315.out 0).trans rfl, (bc B315.out 1).trans rfl, (bc B315.out 2).trans rfl, (bc B315.out 3).trans rfl, (bc B315.out 4).trans rfl⟩ (fun hHeld => ?_)
            clear hK K
            refine norm_ (a' := ?_) ?_ ?_
            rotate_left
            ·show Act.put _ (some 44) _ = _
             simp only [Act.put, List.setIfInBounds_toArray, List.set_cons_zero, List.set_cons_succ, i64_w, i32_w]
             rfl
            refine one_ (i := 9) (N := some 47) #[true, true, true, true, true, true, true, true, true, true, false, false] rfl rfl (one_of HT_.out (by kernel_rfl)) (by decide) (fun K hK => ?_)
            refine Kd.R_lit_step (Kd.int .u8) _ 5 ?hg (N := 47) ?hd (xs := ([(wrap64 ((wrap64 ((wrap64 (((rd_T36 la1 x23_1).f2) * 8)) + (wrap64 (((rd_T36 la1 x23_1).f3) * 2)))) + 1)) % 256] : List Int)) (inner := [.int .u8 ((wrap64 ((wrap64 ((wrap64 (((rd_T36 la1 x23_1).f2) * 8)) + (wrap64 (((rd_T36 la1 x23_1).f3) * 2)))) + 1)) % 256)]) (ok := fun _ => True) (okp := fun _ => True) ?hr ?hp (fun _ hk => hk) trivial (Below.refl _ _) (Nat.le_refl _) (by simp) ?_; (case hd => rfl); (case hg => rfl); (case hr => first | (go_simp; done) | (go_simp; rfl)); (case hp => exact (Reps.one (show Kd.M (Kd.int .u8) _ _ _ ((wrap64 ((wrap64 ((wrap64 (((rd_T36 la1 x23_1).f2) * 8)) + (wrap64 (((rd_T36 la1 x23_1).f3) * 2)))) + 1)) % 256) [.int .u8 ((wrap64 ((wrap64 ((wrap64 (((rd_T36 la1 x23_1).f2) * 8)) + (wrap64 (((rd_T36 la1 x23_1).f3) * 2)))) + 1)) % 256)] from rfl) (Reps.none _ _)))
            intro v323 w30 ho31 hb hg_ hnew_
            clear hg_ hnew_
            (first | rw [← Ny322.out] at ho31 | (simp only [Int.reduceToNat] at ho31; rw [← Ny322.out] at ho31))
            have N0 := am (re (by (with_reducible repeat (first | apply ra | apply rN | apply rd1)); exact O321.out) (Kd.R_base ho31) hb)
            have N1 := am (rw1 (rn ho31 (rl (by (with_reducible repeat (first | apply ra | apply rN | apply rd1)); exact O321.out))) (bz (by repeat (first | (with_reducible first | exact HB.out | apply pa | apply pN | apply p1 | refine bs ?_ E304.out | refine bs ?_ E315.out) | exact HB.out))))
            have N2 := am (bb (g := g304) (by (with_reducible repeat (first | apply bN | apply bd | apply ba)); exact B304.out) hb)
            have N3 := am (bb (g := g315) (by (with_reducible repeat (first | apply bN | apply bd | apply ba)); exact B315.out) hb)
            have N4 := am (bp (by repeat (first | (with_reducible first | exact HB.out | apply pa | apply pN | apply p1 | refine bs ?_ E304.out | refine bs ?_ E315.out) | exact HB.out)) hb)
            clear O321
            clear B304
            clear B315
            clear HB
            have O321 := N0
            have O324 := N1
            have B304 := N2
            have B315 := N3
            have HB := N4
            clear N0 N1 N2 N3 N4
            clear hb ho31
            refine hK.out _ _ ⟨(bc B315.out 0).trans rfl, (bc B315.out 1).trans rfl, (bc B315.out 2).trans rfl, (bc B315.out 3).trans rfl, (bc B315.out 4).trans rfl⟩ (fun hHeld => ?_)
            clear hK K
            refine norm_ (a' := ?_) ?_ ?_
            rotate_left
            ·show Act.put _ (some 47) _ = _
             simp only [Act.put, List.setIfInBounds_toArray, List.set_cons_zero, List.set_cons_succ, i64_w, i32_w]
             rfl
            exact norm_ (by simp only [putAll, Act.put, List.setIfInBounds_toArray, List.set_cons_zero, List.set_cons_succ]) (hCont (J Ao28 t316.length co28, v320, v323) _ ⟨hHeld, (by (with_reducible repeat (first | apply ra | apply rN | apply rd1)); exact Kd.R_mono O321.out (fun _ hk => hk.2)), (by (with_reducible repeat (first | apply ra | apply rN | apply rd1)); exact Kd.R_mono O324.out (fun _ hk => hk.2)), (by (with_reducible repeat (first | apply bN | apply bd | apply ba)); exact B304.out), (by (with_reducible repeat (first | apply bN | apply bd | apply ba)); exact B315.out), (by repeat (first | (with_reducible first | exact HB.out | apply pa | apply pN | apply p1 | refine bs ?_ E304.out | refine bs ?_ E315.out) | exact HB.out))⟩)
           ·skip
            refine Kd.R_lit_step (Kd.int .u8) _ 5 ?hg (N := 47) ?hd (xs := ([(wrap64 ((wrap64 ((wrap64 (((rd_T36 la1 x23_1).f2) * 8)) + (wrap64 (((rd_T36 la1 x23_1).f3) * 2)))) + 1)) % 256] : List Int)) (inner := [.int .u8 ((wrap64 ((wrap64 ((wrap64 (((rd_T36 la1 x23_1).f2) * 8)) + (wrap64 (((rd_T36 la1 x23_1).f3) * 2)))) + 1)) % 256)]) (ok := fun _ => True) (okp := fun _ => True) ?hr ?hp (fun _ hk => hk) trivial (Below.refl _ _) (Nat.le_refl _) (by simp) ?_; (case hd => rfl); (case hg => rfl); (case hr => first | (go_simp; done) | (go_simp; rfl)); (case hp => exact (Reps.one (show Kd.M (Kd.int .u8) _ _ _ ((wrap64 ((wrap64 ((wrap64 (((rd_T36 la1 x23_1).f2) * 8)) + (wrap64 (((rd_T36 la1 x23_1).f3) * 2)))) + 1)) % 256) [.int .u8 ((wrap64 ((wrap64 ((wrap64 (((rd_T36 la1 x23_1).f2) * 8)) + (wrap64 (((rd_T36 la1 x23_1).f3) * 2)))) + 1)) % 256)] from rfl) (Reps.none _ _)))
            intro v323 w28 ho29 hb hg_ hnew_
            clear hg_ hnew_
            (first | rw [← Ny322.out] at ho29 | (simp only [Int.reduceToNat] at ho29; rw [← Ny322.out] at ho29))
            have N0 := am (re (by (with_reducible repeat (first | apply ra | apply rN | apply rd1)); exact O318.out) (Kd.R_base ho29) hb)
            have N1 := am (rw1 (rn ho29 (rl (by (with_reducible repeat (first | apply ra | apply rN | apply rd1)); exact O318.out))) (bz (by repeat (first | (with_reducible first | exact HB.out | apply pa | apply pN | apply p1 | refine bs ?_ E304.out | refine bs ?_ E315.out) | exact HB.out))))
            have N2 := am (bb (g := g304) (by (with_reducible repeat (first | apply bN | apply bd | apply ba)); exact B304.out) hb)
            have N3 := am (bb (g := g315) (by (with_reducible repeat (first | apply bN | apply bd | apply ba)); exact B315.out) hb)
            have N4 := am (bp (by repeat (first | (with_reducible first | exact HB.out | apply pa | apply pN | apply p1 | refine bs ?_ E304.out | refine bs ?_ E315.out) | exact HB.out)) hb)
            clear O318
            clear B304
            clear B315
            clear HB
            have O318 := N0
            have O324 := N1
            have B304 := N2
            have B315 := N3
            have HB := N4
            clear N0 N1 N2 N3 N4
            clear hb ho29
            obtain ⟨Ao30, co30, eo30⟩ := Kd.R_slice O318.out
            (first | subst eo30 | (injection eo30 with f1_ f2_ f3_; have f4_ := f1_.symm; have f5_ := f3_.symm; clear f1_ f2_ f3_; subst f4_; subst f5_))
            refine hK.out _ _ ⟨(bc B315.out 0).trans rfl, (bc B315.out 1).trans rfl, (bc B315.out 2).trans rfl, (bc B315.out 3).trans rfl, (bc B315.out 4).trans rfl⟩ (fun hHeld => ?_)
            clear hK K
            refine norm_ (a' := ?_) ?_ ?_
            rotate_left
            ·show Act.put _ (some 47) _ = _
             simp only [Act.put, List.setIfInBounds_toArray, List.set_cons_zero, List.set_cons_succ, i64_w, i32_w]
             rfl
            refine one_ (i := 6) (N := some 44) #[true, true, true, true, true, true, true, true, true, true, false, false] rfl rfl (one_of HT_.out (by kernel_rfl)) (by decide) (fun K hK => ?_)
            refine goes_ Try.func125 (by kernel_rfl) rfl #[J Ao30 t316.length co30, I q ((rd_T36 la1 x23_1).f1), I q 4] (by rfl) rfl rfl (by (try simp only [List.map_toArray, List.map_cons, List.map_nil]); first | done | rfl | (simp only [List.length_drop, List.length_take]; rfl)) ?_
            with_reducible refine (impl_put.calls k1 (fun k_ => some k_ = (J Ao30 t316.length co30 : Value).ownBlock) (J Ao30 t316.length co30) t316 ((rd_T36 la1 x23_1).f1) 4 t319 w _ ?side1 ?side2 A19.out).mono ?_
            (case side1 => repeat (first | (with_reducible first | exact HB.out | apply pa | apply pN | apply p1 | refine bs ?_ E304.out | refine bs ?_ E315.out) | exact HB.out))
            (case side2 => exact Kd.R_tight rfl O318.out)
            rintro e w31 ⟨v320, rfl, ho0, hb, hkp⟩
            refine ⟨_, rfl, ?_⟩
            have N0 := am (blk_kept (by (with_reducible repeat (first | apply bN | apply bd | apply ba)); exact B304.out) hkp (fun hs_ => (fun e_ => (Kd.R_ne O318.out B304.out (by decide)) e_) hs_))
            have N1 := am (blk_kept (by (with_reducible repeat (first | apply bN | apply bd | apply ba)); exact B315.out) hkp (fun hs_ => (fun e_ => (Kd.R_ne O318.out B315.out (by decide)) e_) hs_))
            have N2 := am (Kd.R_mono (ok' := fun k_ => some k_ ≠ (v320 : Value).ownBlock) (Kd.R_keptB (O324.out) hkp (fun k_ hk_ hs_ => (hk_.2) hs_)) (fun k_ hk_ => fun e_ => Or.elim (ho0.1 k_ e_.symm) (fun hs_ => hk_.2.1 hs_) (fun hn_ => Nat.not_le.2 hk_.2.2 hn_)))
            have N3 := am (Kd.R_mono (ok' := fun k_ => some k_ ≠ (v323 : Value).ownBlock) ho0 (fun k_ hk_ => Or.elim hk_ (fun hs_ => fun e_ => (((O324.out).1 k_ e_.symm).2) hs_) (fun hn_ => (Kd.fresh' (rl (by (with_reducible repeat (first | apply ra | apply rN | apply rd1)); exact O324.out)) k_ hn_))))
            have N4 := am (hb)
            clear B304
            clear B315
            clear O324
            clear HB
            clear O318
            have B304 := N0
            have B315 := N1
            have O324 := N2
            have O321 := N3
            have HB := N4
            clear N0 N1 N2 N3 N4
            (try clear hb)
            (try clear hkp)
            (try clear ho0)
            refine hK.out _ _ ⟨(bc B315.out 0).trans rfl, (bc B315.out 1).trans rfl, (bc B315.out 2).trans rfl, (bc B315.out 3).trans rfl, (bc B315.out 4).trans rfl⟩ (fun hHeld => ?_)
            clear hK K
            refine norm_ (a' := ?_) ?_ ?_
            rotate_left
            ·show Act.put _ (some 44) _ = _
             simp only [Act.put, List.setIfInBounds_toArray, List.set_cons_zero, List.set_cons_succ, i64_w, i32_w]
             rfl
            exact norm_ (by simp only [putAll, Act.put, List.setIfInBounds_toArray, List.set_cons_zero, List.set_cons_succ]) (hCont (J Ao30 t316.length co30, v320, v323) _ ⟨hHeld, (by (with_reducible repeat (first | apply ra | apply rN | apply rd1)); exact O321.out), (by (with_reducible repeat (first | apply ra | apply rN | apply rd1)); exact O324.out), (by (with_reducible repeat (first | apply bN | apply bd | apply ba)); exact B304.out), (by (with_reducible repeat (first | apply bN | apply bd | apply ba)); exact B315.out), (by repeat (first | (with_reducible first | exact HB.out | apply pa | apply pN | apply p1 | refine bs ?_ E304.out | refine bs ?_ E315.out) | exact HB.out))⟩)
          ·skip
           refine Kd.R_lit_step (Kd.int .u8) _ 5 ?hg (N := 47) ?hd (xs := ([(wrap64 ((wrap64 ((wrap64 (((rd_T36 la1 x23_1).f2) * 8)) + (wrap64 (((rd_T36 la1 x23_1).f3) * 2)))) + 1)) % 256] : List Int)) (inner := [.int .u8 ((wrap64 ((wrap64 ((wrap64 (((rd_T36 la1 x23_1).f2) * 8)) + (wrap64 (((rd_T36 la1 x23_1).f3) * 2)))) + 1)) % 256)]) (ok := fun _ => True) (okp := fun _ => True) ?hr ?hp (fun _ hk => hk) trivial (Below.refl _ _) (Nat.le_refl _) (by simp) ?_; (case hd => rfl); (case hg => rfl); (case hr => first | (go_simp; done) | (go_simp; rfl)); (case hp => exact (Reps.one (show Kd.M (Kd.int .u8) _ _ _ ((wrap64 ((wrap64 ((wrap64 (((rd_T36 la1 x23_1).f2) * 8)) + (wrap64 (((rd_T36 la1 x23_1).f3) * 2)))) + 1)) % 256) [.int .u8 ((wrap64 ((wrap64 ((wrap64 (((rd_T36 la1 x23_1).f2) * 8)) + (wrap64 (((rd_T36 la1 x23_1).f3) * 2)))) + 1)) % 256)] from rfl) (Reps.none _ _)))
           intro v323 w27 ho28 hb hg_ hnew_
           clear hg_ hnew_
           (first | rw [← Ny322.out] at ho28 | (simp only [Int.reduceToNat] at ho28; rw [← Ny322.out] at ho28))
           have N0 := am (re (by (with_reducible repeat (first | apply ra | apply rN | apply rd1)); exact o0.out) (Kd.R_base ho28) hb)
           have N1 := am (rw1 (rn ho28 (rl (by (with_reducible repeat (first | apply ra | apply rN | apply rd1)); exact o0.out))) (bz (by repeat (first | (with_reducible first | exact HB.out | apply pa | apply pN | apply p1 | refine bs ?_ E304.out | refine bs ?_ E315.out) | exact HB.out))))
           have N2 := am (bb (g := g304) (by (with_reducible repeat (first | apply bN | apply bd | apply ba)); exact B304.out) hb)
           have N3 := am (bb (g := g315) (by (with_reducible repeat (first | apply bN | apply bd | apply ba)); exact B315.out) hb)
           have N4 := am (bp (by repeat (first | (with_reducible first | exact HB.out | apply pa | apply pN | apply p1 | refine bs ?_ E304.out | refine bs ?_ E315.out) | exact HB.out)) hb)
           clear o0
           clear B304
           clear B315
           clear HB
           have o0 := N0
           have O324 := N1
           have B304 := N2
           have B315 := N3
           have HB := N4
           clear N0 N1 N2 N3 N4
           clear hb ho28
           refine hK.out _ _ ⟨(bc B315.out 0).trans rfl, (bc B315.out 1).trans rfl, (bc B315.out 2).trans rfl, (bc B315.out 3).trans rfl, (bc B315.out 4).trans rfl⟩ (fun hHeld => ?_)
           clear hK K
           refine norm_ (a' := ?_) ?_ ?_
           rotate_left
           ·show Act.put _ (some 47) _ = _
            simp only [Act.put, List.setIfInBounds_toArray, List.set_cons_zero, List.set_cons_succ, i64_w, i32_w]
            rfl
           refine one_ (i := 3) (N := some 41) #[true, true, true, true, true, true, false, true, true, true, false, false] rfl rfl (one_of HT_.out (by kernel_rfl)) (by decide) (fun K hK => ?_)
           refine goes_ Try.func125 (by kernel_rfl) rfl #[J Ao24 x3_1.length co24, I q ((rd_T36 la1 x23_1).f0), I q 2] (by rfl) rfl rfl (by (try simp only [List.map_toArray, List.map_cons, List.map_nil]); first | done | rfl | (simp only [List.length_drop, List.length_take]; rfl)) ?_
           with_reducible refine (impl_put.calls k1 (fun k_ => some k_ = (J Ao24 x3_1.length co24 : Value).ownBlock) (J Ao24 x3_1.length co24) x3_1 ((rd_T36 la1 x23_1).f0) 2 t316 w _ ?side1 ?side2 A18.out).mono ?_
           (case side1 => repeat (first | (with_reducible first | exact HB.out | apply pa | apply pN | apply p1 | refine bs ?_ E304.out | refine bs ?_ E315.out) | exact HB.out))
           (case side2 => exact Kd.R_tight rfl o0.out)
           rintro e w29 ⟨v317, rfl, ho0, hb, hkp⟩
           refine ⟨_, rfl, ?_⟩
           have N0 := am (blk_kept (by (with_reducible repeat (first | apply bN | apply bd | apply ba)); exact B304.out) hkp (fun hs_ => (fun e_ => (Kd.R_ne o0.out B304.out (by decide)) e_) hs_))
           have N1 := am (blk_kept (by (with_reducible repeat (first | apply bN | apply bd | apply ba)); exact B315.out) hkp (fun hs_ => (fun e_ => (Kd.R_ne o0.out B315.out (by decide)) e_) hs_))
           have N2 := am (Kd.R_mono (ok' := fun k_ => some k_ ≠ (v317 : Value).ownBlock) (Kd.R_keptB (O324.out) hkp (fun k_ hk_ hs_ => (hk_.2) hs_)) (fun k_ hk_ => fun e_ => Or.elim (ho0.1 k_ e_.symm) (fun hs_ => hk_.2.1 hs_) (fun hn_ => Nat.not_le.2 hk_.2.2 hn_)))
           have N3 := am (Kd.R_mono (ok' := fun k_ => some k_ ≠ (v323 : Value).ownBlock) ho0 (fun k_ hk_ => Or.elim hk_ (fun hs_ => fun e_ => (((O324.out).1 k_ e_.symm).2) hs_) (fun hn_ => (Kd.fresh' (rl (by (with_reducible repeat (first | apply ra | apply rN | apply rd1)); exact O324.out)) k_ hn_))))
           have N4 := am (hb)
           clear B304
           clear B315
           clear O324
           clear HB
           clear o0
           have B304 := N0
           have B315 := N1
           have O324 := N2
           have O318 := N3
           have HB := N4
           clear N0 N1 N2 N3 N4
           (try clear hb)
           (try clear hkp)
           (try clear ho0)
           obtain ⟨Ao30, co30, eo30⟩ := Kd.R_slice O318.out
           (first | subst eo30 | (injection eo30 with f1_ f2_ f3_; have f4_ := f1_.symm; have f5_ := f3_.symm; clear f1_ f2_ f3_; subst f4_; subst f5_))
           refine hK.out _ _ ⟨(bc B315.out 0).trans rfl, (bc B315.out 1).trans rfl, (bc B315.out 2).trans rfl, (bc B315.out 3).trans rfl, (bc B315.out 4).trans rfl⟩ (fun hHeld => ?_)
           clear hK K
           refine norm_ (a' := ?_) ?_ ?_
           rotate_left
           ·show Act.put _ (some 41) _ = _
            simp only [Act.put, List.setIfInBounds_toArray, List.set_cons_zero, List.set_cons_succ, i64_w, i32_w]
            rfl
           refine one_ (i := 6) (N := some 44) #[true, true, true, true, true, true, true, true, true, true, false, false] rfl rfl (one_of HT_.out (by kernel_rfl)) (by decide) (fun K hK => ?_)
           refine goes_ Try.func125 (by kernel_rfl) rfl #[J Ao30 t316.length co30, I q ((rd_T36 la1 x23_1).f1), I q 4] (by rfl) rfl rfl (by (try simp only [List.map_toArray, List.map_cons, List.map_nil]); first | done | rfl | (simp only [List.length_drop, List.length_take]; rfl)) ?_
           with_reducible refine (impl_put.calls k1 (fun k_ => some k_ = (J Ao30 t316.length co30 : Value).ownBlock) (J Ao30 t316.length co30) t316 ((rd_T36 la1 x23_1).f1) 4 t319 w _ ?side1 ?side2 A19.out).mono ?_
           (case side1 => repeat (first | (with_reducible first | exact HB.out | apply pa | apply pN | apply p1 | refine bs ?_ E304.out | refine bs ?_ E315.out) | exact HB.out))
           (case side2 => exact Kd.R_tight rfl O318.out)
           rintro e w31 ⟨v320, rfl, ho0, hb, hkp⟩
           refine ⟨_, rfl, ?_⟩
           have N0 := am (blk_kept (by (with_reducible repeat (first | apply bN | apply bd | apply ba)); exact B304.out) hkp (fun hs_ => (fun e_ => (Kd.R_ne O318.out B304.out (by decide)) e_) hs_))
           have N1 := am (blk_kept (by (with_reducible repeat (first | apply bN | apply bd | apply ba)); exact B315.out) hkp (fun hs_ => (fun e_ => (Kd.R_ne O318.out B315.out (by decide)) e_) hs_))
           have N2 := am (Kd.R_mono (ok' := fun k_ => some k_ ≠ (v320 : Value).ownBlock) (Kd.R_keptB (O324.out) hkp (fun k_ hk_ hs_ => (hk_) hs_)) (fun k_ hk_ => fun e_ => Or.elim (ho0.1 k_ e_.symm) (fun hs_ => hk_.2.1 hs_) (fun hn_ => Nat.not_le.2 hk_.2.2 hn_)))
           have N3 := am (Kd.R_mono (ok' := fun k_ => some k_ ≠ (v323 : Value).ownBlock) ho0 (fun k_ hk_ => Or.elim hk_ (fun hs_ => fun e_ => (((O324.out).1 k_ e_.symm)) hs_) (fun hn_ => (Kd.fresh' (rl (by (with_reducible repeat (first | apply ra | apply rN | apply rd1)); exact O324.out)) k_ hn_))))
           have N4 := am (hb)
           clear B304
           clear B315
           clear O324
           clear HB
           clear O318
           have B304 := N0
           have B315 := N1
           have O324 := N2
           have O321 := N3
           have HB := N4
           clear N0 N1 N2 N3 N4
           (try clear hb)
           (try clear hkp)
           (try clear ho0)
           refine hK.out _ _ ⟨(bc B315.out 0).trans rfl, (bc B315.out 1).trans rfl, (bc B315.out 2).trans rfl, (bc B315.out 3).trans rfl, (bc B315.out 4).trans rfl⟩ (fun hHeld => ?_)
           clear hK K
           refine norm_ (a' := ?_) ?_ ?_
           rotate_left
           ·show Act.put _ (some 44) _ = _
            simp only [Act.put, List.setIfInBounds_toArray, List.set_cons_zero, List.set_cons_succ, i64_w, i32_w]
            rfl
           exact norm_ (by simp only [putAll, Act.put, List.setIfInBounds_toArray, List.set_cons_zero, List.set_cons_succ]) (hCont (J Ao30 t316.length co30, v320, v323) _ ⟨hHeld, (by (with_reducible repeat (first | apply ra | apply rN | apply rd1)); exact O321.out), (by (with_reducible repeat (first | apply ra | apply rN | apply rd1)); exact O324.out), (by (with_reducible repeat (first | apply bN | apply bd | apply ba)); exact B304.out), (by (with_reducible repeat (first | apply bN | apply bd | apply ba)); exact B315.out), (by repeat (first | (with_reducible first | exact HB.out | apply pa | apply pN | apply p1 | refine bs ?_ E304.out | refine bs ?_ E315.out) | exact HB.out))⟩)
         rintro ⟨v317, v320, v323⟩ w32 ⟨hS_, h0_, h1_, h2_, h3_, h4_⟩
         have N0 : Aside0 (Kd.R (Kd.int .u8) 5 w32 w.heap.size (fun k_ => some k_ ≠ (v323 : Value).ownBlock) v320 t319) := ⟨h0_⟩
         have N1 : Aside0 (Kd.R (Kd.int .u8) 5 w32 w.heap.size (fun k_ => some k_ ≠ (v320 : Value).ownBlock) v323 y322) := ⟨h1_⟩
         have N2 : Aside0 (w32.heap[g304]? = some (.cells #[I q aa0, .slice (some ad314) la1.length ca1, J Aa2 la2.length ca2] 31 (0, 0))) := ⟨h2_⟩
         have N3 : Aside0 (w32.heap[g315]? = some (.cells #[I q ((rd_T36 la1 x23_1).f0), I q ((rd_T36 la1 x23_1).f1), I q ((rd_T36 la1 x23_1).f2), I q ((rd_T36 la1 x23_1).f3), .bool true] 36 (0, 0))) := ⟨h3_⟩
         have N4 : Aside0 (Below w.heap.size w w32) := ⟨h4_⟩
         clear o0
         clear B304
         clear B315
         clear HB
         clear h0_ h1_ h2_ h3_ h4_
         have O321 := N0
         have O324 := N1
         have B304 := N2
         have B315 := N3
         have HB := N4
         clear N0 N1 N2 N3 N4
         have hHeld : w32.cell? ⟨g315, 0, none⟩ = some (I q ((rd_T36 la1 x23_1).f0)) ∧ w32.cell? ⟨g315, 1, none⟩ = some (I q ((rd_T36 la1 x23_1).f1)) ∧ w32.cell? ⟨g315, 2, none⟩ = some (I q ((rd_T36 la1 x23_1).f2)) ∧ w32.cell? ⟨g315, 3, none⟩ = some (I q ((rd_T36 la1 x23_1).f3)) ∧ w32.cell? ⟨g315, 4, none⟩ = some (.bool true) := hS_
         obtain ⟨Ao34, co34, eo34⟩ := Kd.R_slice O324.out
         (first | subst eo34 | (injection eo34 with f1_ f2_ f3_; have f4_ := f1_.symm; have f5_ := f3_.symm; clear f1_ f2_ f3_; subst f4_; subst f5_))
         refine norm_ (a' := ?_) ?_ ?_
         rotate_left
         ·simp only [putAll, Act.put, List.setIfInBounds_toArray, List.set_cons_zero, List.set_cons_succ]
          rfl
         refine one_ (i := 10) (N := some 48) #[true, true, true, true, true, true, true, true, true, true, true, false] rfl rfl (one_of HT_.out (by kernel_rfl)) (by decide) (fun K hK => ?_)
         refine Kd.R_append_rows_step (Kd.int .u8) (w0 := w) w.heap.size (by rfl) (.tmp 44) (.tmp 47) 58 5 (.int .u8 0) 1 rfl Try.underlying58 info5 rfl (by decide) (by omega) v320 t319 y322 _ _ _ (fun k_ => some k_ ≠ (J Ao34 y322.length co34 : Value).ownBlock) (fun _ => False) rfl rfl ?aO ?aR (fun _ _ h => h) (fun _ h => h.elim) ?aF ?aB ?aS ?aL ?_
         (case aR => repeat (first | exact (Kd.R_reads' O324.out).2.2 | (with_reducible refine ca ?_ _) | (with_reducible refine cN ?_ _) | (with_reducible refine cd1 ?_)))
         (case aB => exact (by repeat (first | (with_reducible first | exact HB.out | apply pa | apply pN | apply p1 | refine bs ?_ E304.out | refine bs ?_ E315.out) | exact HB.out)))
         (case aF => exact (fun k_ hk => Kd.fresh' (rl (by (with_reducible repeat (first | apply ra | apply rN | apply rd1)); exact O324.out)) k_ hk))
         (case aO => exact (by (with_reducible repeat (first | apply ra | apply rN | apply rd1)); exact O321.out))
         (case aS => exact (bz (by repeat (first | (with_reducible first | exact HB.out | apply pa | apply pN | apply p1 | refine bs ?_ E304.out | refine bs ?_ E315.out) | exact HB.out))))
         (case aL => have := LMc20.out; omega)
         intro v326 w33 ho hb hg hat
         rw [← Ny325.out] at ho
         have N0 := am (blk_grown (g := g304) (o := .cells #[I q aa0, .slice (some ad314) la1.length ca1, J Aa2 la2.length ca2] 31 (0, 0)) (by (with_reducible repeat (first | apply bN | apply bd | apply ba)); exact B304.out) hg (Kd.R_ne O321.out B304.out (by decide)))
         have N1 := am (blk_grown (g := g315) (o := .cells #[I q ((rd_T36 la1 x23_1).f0), I q ((rd_T36 la1 x23_1).f1), I q ((rd_T36 la1 x23_1).f2), I q ((rd_T36 la1 x23_1).f3), .bool true] 36 (0, 0)) (by (with_reducible repeat (first | apply bN | apply bd | apply ba)); exact B315.out) hg (Kd.R_ne O321.out B315.out (by decide)))
         have N2 := am (Kd.R_after (ok := (fun _ => True)) (by (with_reducible repeat (first | apply ra | apply rN | apply rd1)); exact Kd.R_mono O324.out (fun _ hk => ⟨trivial, hk⟩)) hg hat)
         have N3 := am (hb)
         have N4 := am (ho)
         clear B304
         clear B315
         clear O324
         clear HB
         clear O321
         have B304 := N0
         have B315 := N1
         have O324 := N2
         have HB := N3
         have O327 := N4
         clear N0 N1 N2 N3 N4
         clear ho hb hg hat
         refine hK.out _ _ ⟨(bc B315.out 0).trans rfl, (bc B315.out 1).trans rfl, (bc B315.out 2).trans rfl, (bc B315.out 3).trans rfl, (bc B315.out 4).trans rfl⟩ (fun hHeld => ?_)
         clear hK K
         refine norm_ (a' := ?_) ?_ ?_
         rotate_left
         ·show Act.put _ (some 48) _ = _
          simp only [Act.put, List.setIfInBounds_toArray, List.set_cons_zero, List.set_cons_succ, i64_w, i32_w]
          rfl
         refine pure_ (i := 11) (N := some 3) (v := ?_) (a' := ?_) #[true, true, true, true, true, true, true, true, true, true, true, true] rfl rfl (any_of HT_.out (by kernel_rfl)) (fun _ _ _ h => h) (Or.inl ⟨by rfl, ?_⟩) ?_ ?_
         rotate_left
         ·intro w'
          first | (go_simp; with_reducible rfl) | (go_simp; (try unfold Instr.field); go_simp; (try simp only [asAgg]); go_simp; with_reducible rfl)
         rotate_left
         ·simp only [Act.put, List.setIfInBounds_toArray, List.set_cons_zero, List.set_cons_succ, i64_w, i32_w]
          rfl
         refine done_ (done_of HT_.out (by kernel_rfl)) ?_
         try go_wp2
         go_roundg k1
         case measure => have := HK1.out; omega
         case rel => exact ⟨(y325), (wrap64 (x23_1 + 1)), (by first | rfl | (simp; done) | (simp [*]; done)), H', ⟨by have := HK1.out; omega⟩, ⟨by (with_reducible repeat (first | apply ra | apply rN | apply rd1)); exact Kd.R_mono O327.out (fun _ hk => trivial)⟩, ⟨by (with_reducible repeat (first | apply bN | apply bd | apply ba)); exact B304.out⟩, ⟨by repeat (first | (with_reducible first | exact HB.out | apply pa | apply pN | apply p1 | refine bs ?_ E304.out | refine bs ?_ E315.out) | exact HB.out)⟩⟩
        ·rw [if_neg c20] at H
         exact absurd H (by simp)
       ·replace c17 := Bool.eq_false_iff.mpr c17
        subst c17
        have H1 : ((impl_put.f k1 x3_1 ((rd_T36 la1 x23_1).f0) 2).bind fun t328 => ((impl_put.f k1 t328 ((rd_T36 la1 x23_1).f1) 4).bind fun t331 => ((some (([(wrap64 ((wrap64 (((rd_T36 la1 x23_1).f2) * 8)) + (wrap64 (((rd_T36 la1 x23_1).f3) * 2)))) % 256] : List Int) : List Int)).bind fun y334 => (if t331.length + y334.length < 140737488355328 then (impl_packConfig.l0 k1 (t331 ++ y334) la1 (la1.length : Int) (wrap64 (x23_1 + 1)) aa0 la1 la2) else (none))))) = some r := by rw [if_neg (show ¬ (false = true) by decide)] at H; exact H
        clear H
        have H := H1
        clear H1
        replace H := Option.bind_eq_some_iff.mp H
        obtain ⟨t328, A350, H⟩ := H
        replace H : ((impl_put.f k1 t328 ((rd_T36 la1 x23_1).f1) 4).bind fun t331 => ((some (([(wrap64 ((wrap64 (((rd_T36 la1 x23_1).f2) * 8)) + (wrap64 (((rd_T36 la1 x23_1).f3) * 2)))) % 256] : List Int) : List Int)).bind fun y334 => (if t331.length + y334.length < 140737488355328 then (impl_packConfig.l0 k1 (t331 ++ y334) la1 (la1.length : Int) (wrap64 (x23_1 + 1)) aa0 la1 la2) else (none)))) = some r := H
        have A35 := am A350
        clear A350
        replace H := Option.bind_eq_some_iff.mp H
        obtain ⟨t331, A360, H⟩ := H
        replace H : ((some (([(wrap64 ((wrap64 (((rd_T36 la1 x23_1).f2) * 8)) + (wrap64 (((rd_T36 la1 x23_1).f3) * 2)))) % 256] : List Int) : List Int)).bind fun y334 => (if t331.length + y334.length < 140737488355328 then (impl_packConfig.l0 k1 (t331 ++ y334) la1 (la1.length : Int) (wrap64 (x23_1 + 1)) aa0 la1 la2) else (none))) = some r := H
        have A36 := am A360
        clear A360
        obtain ⟨y334, hy334⟩ : ∃ y_ : List Int, y_ = (([(wrap64 ((wrap64 (((rd_T36 la1 x23_1).f2) * 8)) + (wrap64 (((rd_T36 la1 x23_1).f3) * 2)))) % 256] : List Int)) := ⟨_, rfl⟩
        replace H : (if t331.length + y334.length < 140737488355328 then (impl_packConfig.l0 k1 (t331 ++ y334) la1 (la1.length : Int) (wrap64 (x23_1 + 1)) aa0 la1 la2) else (none)) = some r := by first | (rw [hy334]; with_reducible exact H) | (have H2_ := (Option.bind_some _ _).symm.trans H; rw [hy334]; with_reducible exact H2_) | (have H2_ := (Option.bind_some _ _).symm.trans H; with_reducible exact H2_) | with_reducible exact H | (rw [hy334]; exact H) | exact H
        have Ny334 := am hy334
        clear hy334
        by_cases c37 : t331.length + y334.length < 140737488355328
        ·rw [if_pos c37] at H
         have LMc37 := am c37
         clear c37
         obtain ⟨y337, hy337⟩ : ∃ y_ : List Int, y_ = (t331 ++ y334) := ⟨_, rfl⟩
         replace H : (impl_packConfig.l0 k1 y337 la1 (la1.length : Int) (wrap64 (x23_1 + 1)) aa0 la1 la2) = some r := by first | (rw [hy337]; with_reducible exact H) | (have H2_ := (Option.bind_some _ _).symm.trans H; rw [hy337]; with_reducible exact H2_) | (have H2_ := (Option.bind_some _ _).symm.trans H; with_reducible exact H2_) | with_reducible exact H | (rw [hy337]; exact H) | exact H
         have Ny337 := am hy337
         clear hy337
         have H' := am H
         clear H
         have p314 : 0 ≤ (x23_1 : Int) := of_decide_eq_true (by first | (with_reducible assumption) | assumption)
         have q314 : x23_1 < (la1.length : Int) := of_decide_eq_true (by first | (with_reducible assumption) | assumption)
         obtain ⟨ad314, e314, hx314_0, hx314_1, hx314_2, hx314_3, hx314_4⟩ := at_T36 HR0_1.out x23_1 p314 q314
         (try rw [← Nbq16.out] at hx314_4)
         cases e314
         replace hx314_0 := (HB.out.cell (World.block_lt_of_cell? w _ hx314_0)).trans hx314_0
         replace hx314_1 := (HB.out.cell (World.block_lt_of_cell? w _ hx314_1)).trans hx314_1
         replace hx314_2 := (HB.out.cell (World.block_lt_of_cell? w _ hx314_2)).trans hx314_2
         replace hx314_3 := (HB.out.cell (World.block_lt_of_cell? w _ hx314_3)).trans hx314_3
         replace hx314_4 := (HB.out.cell (World.block_lt_of_cell? w _ hx314_4)).trans hx314_4
         replace p314 := eq_true p314
         replace q314 := eq_true q314
         try go_wp2_with (first | ((with_reducible refine gate_dst (N := 5) rfl ?_); refine box_event ?hg (N := 5) ?hd (cs := #[I q 0, I q 0, I q 0, I q 0, .bool false]) (t := 36) ?hr ?_; (case hd => rfl); (case hg => rfl); (case hr => first | (go_simp; done) | (go_simp; rfl)); intro g315 hg w38 hbox hb; have N0 := am (rb (by (with_reducible repeat (first | apply ra | apply rN | apply rd1)); exact o0.out) hb); have N1 := am (bb (g := g304) (by (with_reducible repeat (first | apply bN | apply bd | apply ba)); exact B304.out) hb); have N2 := am (bp (by repeat (first | (with_reducible first | exact HB.out | apply pa | apply pN | apply p1 | refine bs ?_ E304.out) | exact HB.out)) hb); have N3 := am (hbox); have N4 := am ((by rw [hg]; exact (bz (by repeat (first | (with_reducible first | exact HB.out | apply pa | apply pN | apply p1 | refine bs ?_ E304.out) | exact HB.out))) : w.heap.size ≤ g315)); have N5 := am ((by rw [hg]; exact (bz (by repeat (first | (with_reducible first | exact HB.out | apply pa | apply pN | apply p1 | refine bs ?_ E304.out) | exact HB.out))) : w.heap.size ≤ g315)); have N6 := am ((by rw [hg]; exact Nat.ne_of_lt (bl (g := g304) (by (with_reducible repeat (first | apply bN | apply bd | apply ba)); exact B304.out)) : g304 ≠ g315)); have N7 := am ((by rw [hg]; exact Nat.ne_of_gt (bl (g := g304) (by (with_reducible repeat (first | apply bN | apply bd | apply ba)); exact B304.out)) : g315 ≠ g304)); clear o0 B304 HB; have o0 := N0; have B304 := N1; have HB := N2; have B315 := N3; have GW315 := N4; have E315 := N5; have NB304_315 := N6; have NB315_304 := N7; clear N0 N1 N2 N3 N4 N5 N6 N7 hb hbox hg; have hnb39 := NB315_304.out; have hnc39 := NB304_315.out; have hcz40_0 : w38.cell? ⟨g315, 0, none⟩ = some (I q 0) := (bc B315.out 0).trans rfl; have hcz40_1 : w38.cell? ⟨g315, 1, none⟩ = some (I q 0) := (bc B315.out 1).trans rfl; have hcz40_2 : w38.cell? ⟨g315, 2, none⟩ = some (I q 0) := (bc B315.out 2).trans rfl; have hcz40_3 : w38.cell? ⟨g315, 3, none⟩ = some (I q 0) := (bc B315.out 3).trans rfl; have hcz40_4 : w38.cell? ⟨g315, 4, none⟩ = some (.bool false) := (bc B315.out 4).trans rfl; have hfz40_0 := bf B315.out 0; have hfz40_1 := bf B315.out 1; have hfz40_2 := bf B315.out 2; have hfz40_3 := bf B315.out 3; have hfz40_4 := bf B315.out 4; obtain ⟨Ao41, co41, eo41⟩ := Kd.R_slice o0.out; subst eo41))
         have N0 : Aside0 (Kd.R (Kd.int .u8) 5 (((((w38.setCell ⟨g315, 0, none⟩ (I q ((rd_T36 la1 x23_1).f0))).setCell ⟨g315, 1, none⟩ (I q ((rd_T36 la1 x23_1).f1))).setCell ⟨g315, 2, none⟩ (I q ((rd_T36 la1 x23_1).f2))).setCell ⟨g315, 3, none⟩ (I q ((rd_T36 la1 x23_1).f3))).setCell ⟨g315, 4, none⟩ (.bool false)) w.heap.size (fun _ => True) (J Ao41 x3_1.length co41) x3_1) := ⟨by (with_reducible repeat (first | apply ra | apply rN | apply rd1)); exact Kd.R_mono (rf (p := ⟨g315, 4, none⟩) (rf (p := ⟨g315, 3, none⟩) (rf (p := ⟨g315, 2, none⟩) (rf (p := ⟨g315, 1, none⟩) (rf (p := ⟨g315, 0, none⟩) (Kd.R_types o0.out B315.out (by decide)) (fun _ hk => hk.2) (I q ((rd_T36 la1 x23_1).f0))) (fun _ hk => hk.2) (I q ((rd_T36 la1 x23_1).f1))) (fun _ hk => hk.2) (I q ((rd_T36 la1 x23_1).f2))) (fun _ hk => hk.2) (I q ((rd_T36 la1 x23_1).f3))) (fun _ hk => hk.2) (.bool false)) (fun _ hk => trivial)⟩
         have N1 : Aside0 ((((((w38.setCell ⟨g315, 0, none⟩ (I q ((rd_T36 la1 x23_1).f0))).setCell ⟨g315, 1, none⟩ (I q ((rd_T36 la1 x23_1).f1))).setCell ⟨g315, 2, none⟩ (I q ((rd_T36 la1 x23_1).f2))).setCell ⟨g315, 3, none⟩ (I q ((rd_T36 la1 x23_1).f3))).setCell ⟨g315, 4, none⟩ (.bool false)).heap[g304]? = some (.cells #[I q aa0, .slice (some ad314) la1.length ca1, J Aa2 la2.length ca2] 31 (0, 0))) := ⟨by (iterate 5 ((with_reducible repeat (first | apply bN | apply bd | apply ba)); refine bq ?_ NB304_315.out _)); (with_reducible repeat (first | apply bN | apply bd | apply ba)); exact B304.out⟩
         have N2 : Aside0 ((((((w38.setCell ⟨g315, 0, none⟩ (I q ((rd_T36 la1 x23_1).f0))).setCell ⟨g315, 1, none⟩ (I q ((rd_T36 la1 x23_1).f1))).setCell ⟨g315, 2, none⟩ (I q ((rd_T36 la1 x23_1).f2))).setCell ⟨g315, 3, none⟩ (I q ((rd_T36 la1 x23_1).f3))).setCell ⟨g315, 4, none⟩ (.bool false)).heap[g315]? = some (.cells #[I q ((rd_T36 la1 x23_1).f0), I q ((rd_T36 la1 x23_1).f1), I q ((rd_T36 la1 x23_1).f2), I q ((rd_T36 la1 x23_1).f3), .bool false] 36 (0, 0))) := ⟨by (with_reducible repeat (first | apply bN | apply bd | apply ba)); exact pu5i B315.out⟩
         have N3 : Aside0 (Below w.heap.size w (((((w38.setCell ⟨g315, 0, none⟩ (I q ((rd_T36 la1 x23_1).f0))).setCell ⟨g315, 1, none⟩ (I q ((rd_T36 la1 x23_1).f1))).setCell ⟨g315, 2, none⟩ (I q ((rd_T36 la1 x23_1).f2))).setCell ⟨g315, 3, none⟩ (I q ((rd_T36 la1 x23_1).f3))).setCell ⟨g315, 4, none⟩ (.bool false))) := ⟨by repeat (first | (with_reducible first | exact HB.out | apply pa | apply pN | apply p1 | refine bs ?_ E304.out | refine bs ?_ E315.out) | exact HB.out)⟩
         (try clear o0)
         (try clear B304)
         (try clear B315)
         (try clear HB)
         generalize (((((w38.setCell ⟨g315, 0, none⟩ (I q ((rd_T36 la1 x23_1).f0))).setCell ⟨g315, 1, none⟩ (I q ((rd_T36 la1 x23_1).f1))).setCell ⟨g315, 2, none⟩ (I q ((rd_T36 la1 x23_1).f2))).setCell ⟨g315, 3, none⟩ (I q ((rd_T36 la1 x23_1).f3))).setCell ⟨g315, 4, none⟩ (.bool false)) = w42 at N0 N1 N2 N3 ⊢
         have o0 := N0
         have B304 := N1
         have B315 := N2
         have HB := N3
         clear N0 N1 N2 N3
         have N0 := am (rd1 o0.out)
         have N1 := am (bd B304.out)
         have N2 := am (bd B315.out)
         have N3 := am (p1 HB.out)
         clear o0
         clear B304
         clear B315
         clear HB
         have o0 := N0
         have B304 := N1
         have B315 := N2
         have HB := N3
         clear N0 N1 N2 N3
         refine start_ (n := 12) (S := fun w' => w'.cell? ⟨g315, 0, none⟩ = some (I q ((rd_T36 la1 x23_1).f0)) ∧ w'.cell? ⟨g315, 1, none⟩ = some (I q ((rd_T36 la1 x23_1).f1)) ∧ w'.cell? ⟨g315, 2, none⟩ = some (I q ((rd_T36 la1 x23_1).f2)) ∧ w'.cell? ⟨g315, 3, none⟩ = some (I q ((rd_T36 la1 x23_1).f3)) ∧ w'.cell? ⟨g315, 4, none⟩ = some (.bool false)) (ds := []) #[false, false, false, false, false, false, false, false, false, false, false, false] (by kernel_rfl) rfl rfl ⟨(bc B315.out 0).trans rfl, (bc B315.out 1).trans rfl, (bc B315.out 2).trans rfl, (bc B315.out 3).trans rfl, (bc B315.out 4).trans rfl⟩ (fun hHeld => ?_); refine with_tabW impl_packConfig.tab8 impl_packConfig.bits8 (fun HT_ HW_ => ?_)
         generalize w42.drew = w43 at o0 B304 B315 HB hHeld ⊢
         refine pure_ (i := 0) (N := some 38) (v := ?_) (a' := ?_) #[true, false, false, false, false, false, false, false, false, false, false, false] rfl rfl (any_of HT_.out (by kernel_rfl)) (fun _ _ _ h => h) (Or.inl ⟨by rfl, ?_⟩) ?_ ?_
         rotate_left
         ·intro w'
          first | (go_simp; with_reducible rfl) | (go_simp; (try unfold Instr.field); go_simp; (try simp only [asAgg]); go_simp; with_reducible rfl)
         rotate_left
         ·simp only [Act.put, List.setIfInBounds_toArray, List.set_cons_zero, List.set_cons_succ, i64_w, i32_w]
          rfl
         refine pure_ (i := 1) (N := some 39) (v := ?_) (a' := ?_) #[true, true, false, false, false, false, false, false, false, false, false, false] rfl rfl (any_of HT_.out (by kernel_rfl)) (fun _ _ _ h => h) (Or.inl ⟨by rfl, ?_⟩) ?_ ?_
         rotate_left
         ·intro w'
          first | (go_simp; with_reducible rfl) | (go_simp; (try unfold Instr.field); go_simp; (try simp only [asAgg]); go_simp; with_reducible rfl)
         rotate_left
         ·simp only [Act.put, List.setIfInBounds_toArray, List.set_cons_zero, List.set_cons_succ, i64_w, i32_w]
          rfl
         refine pure_ (i := 4) (N := some 42) (v := ?_) (a' := ?_) #[true, true, false, false, true, false, false, false, false, false, false, false] rfl rfl (any_of HT_.out (by kernel_rfl)) (fun _ _ _ h => h) (Or.inl ⟨by rfl, ?_⟩) ?_ ?_
         rotate_left
         ·intro w'
          first | (go_simp; with_reducible rfl) | (go_simp; (try unfold Instr.field); go_simp; (try simp only [asAgg]); go_simp; with_reducible rfl)
         rotate_left
         ·simp only [Act.put, List.setIfInBounds_toArray, List.set_cons_zero, List.set_cons_succ, i64_w, i32_w]
          rfl
         refine pure_ (i := 7) (N := some 45) (v := ?_) (a' := ?_) #[true, true, false, false, true, false, false, true, false, false, false, false] rfl rfl (any_of HT_.out (by kernel_rfl)) (fun _ _ _ h => h) (Or.inl ⟨by rfl, ?_⟩) ?_ ?_
         rotate_left
         ·intro w'
          first | (go_simp; with_reducible rfl) | (go_simp; (try unfold Instr.field); go_simp; (try simp only [asAgg]); go_simp; with_reducible rfl)
         rotate_left
         ·simp only [Act.put, List.setIfInBounds_toArray, List.set_cons_zero, List.set_cons_succ, i64_w, i32_w]
          rfl
         refine pure_ (i := 8) (N := some 46) (v := ?_) (a' := ?_) #[true, true, false, false, true, false, false, true, true, false, false, false] rfl rfl (any_of HT_.out (by kernel_rfl)) (fun _ _ _ h => h) (Or.inl ⟨by rfl, ?_⟩) ?_ ?_
         rotate_left
         ·intro w'
          first | (go_simp; with_reducible rfl) | (go_simp; (try unfold Instr.field); go_simp; (try simp only [asAgg]); go_simp; with_reducible rfl)
         rotate_left
         ·simp only [Act.put, List.setIfInBounds_toArray, List.set_cons_zero, List.set_cons_succ, i64_w, i32_w]
          rfl
         refine take_ (i := 2) (N := some 40) (v := ?_) (a' := ?_) #[true, true, true, false, true, false, false, true, true, false, false, false] rfl rfl (take_ofW HT_.out HW_.out (by kernel_rfl)) (fun _ _ _ h => h) (Or.inl ⟨by rfl, ?_⟩) hHeld ?_ ?_
         rotate_left
         ·rintro w' ⟨s0, s1, s2, s3, s4⟩
          go_simp
          with_reducible rfl
         rotate_left
         ·simp only [Act.put, List.setIfInBounds_toArray, List.set_cons_zero, List.set_cons_succ, i64_w, i32_w]
          rfl
         refine take_ (i := 5) (N := some 43) (v := ?_) (a' := ?_) #[true, true, true, false, true, true, false, true, true, false, false, false] rfl rfl (take_ofW HT_.out HW_.out (by kernel_rfl)) (fun _ _ _ h => h) (Or.inl ⟨by rfl, ?_⟩) hHeld ?_ ?_
         rotate_left
         ·rintro w' ⟨s0, s1, s2, s3, s4⟩
          go_simp
          with_reducible rfl
         rotate_left
         ·simp only [Act.put, List.setIfInBounds_toArray, List.set_cons_zero, List.set_cons_succ, i64_w, i32_w]
          rfl
         refine join_ (σ := Value × Value × Value) 2 #[true, true, true, true, true, true, true, true, true, true, false, false] (fun s_ => [(41, s_.1), (44, s_.2.1), (47, s_.2.2)]) (fun s_ w' => (w'.cell? ⟨g315, 0, none⟩ = some (I q ((rd_T36 la1 x23_1).f0)) ∧ w'.cell? ⟨g315, 1, none⟩ = some (I q ((rd_T36 la1 x23_1).f1)) ∧ w'.cell? ⟨g315, 2, none⟩ = some (I q ((rd_T36 la1 x23_1).f2)) ∧ w'.cell? ⟨g315, 3, none⟩ = some (I q ((rd_T36 la1 x23_1).f3)) ∧ w'.cell? ⟨g315, 4, none⟩ = some (.bool false)) ∧ (Kd.R (Kd.int .u8) 5 w' w.heap.size (fun k_ => some k_ ≠ (s_.2.2 : Value).ownBlock) s_.2.1 t331) ∧ (Kd.R (Kd.int .u8) 5 w' w.heap.size (fun k_ => some k_ ≠ (s_.2.1 : Value).ownBlock) s_.2.2 y334) ∧ (w'.heap[g304]? = some (.cells #[I q aa0, .slice (some ad314) la1.length ca1, J Aa2 la2.length ca2] 31 (0, 0))) ∧ (w'.heap[g315]? = some (.cells #[I q ((rd_T36 la1 x23_1).f0), I q ((rd_T36 la1 x23_1).f1), I q ((rd_T36 la1 x23_1).f2), I q ((rd_T36 la1 x23_1).f3), .bool false] 36 (0, 0))) ∧ (Below w.heap.size w w')) ?_ ?_
         rotate_left
         ·intro hCont
          refine two_ (i := 3) (j := 9) (Ni := some 41) (Nj := some 47) #[true, true, true, true, true, true, false, true, true, false, false, false] #[true, true, true, false, true, true, false, true, true, true, false, false] rfl rfl rfl rfl (two_of HT_.out (by kernel_rfl)) (by decide) (by decide) (fun K hK => ?_) (fun K hK => ?_)
          ·skip
           refine goes_ Try.func125 (by kernel_rfl) rfl #[J Ao41 x3_1.length co41, I q ((rd_T36 la1 x23_1).f0), I q 2] (by rfl) rfl rfl (by (try simp only [List.map_toArray, List.map_cons, List.map_nil]); first | done | rfl | (simp only [List.length_drop, List.length_take]; rfl)) ?_
           with_reducible refine (impl_put.calls k1 (fun k_ => some k_ = (J Ao41 x3_1.length co41 : Value).ownBlock) (J Ao41 x3_1.length co41) x3_1 ((rd_T36 la1 x23_1).f0) 2 t328 w _ ?side1 ?side2 A35.out).mono ?_
           (case side1 => repeat (first | (with_reducible first | exact HB.out | apply pa | apply pN | apply p1 | refine bs ?_ E304.out | refine bs ?_ E315.out) | exact HB.out))
           (case side2 => exact Kd.R_tight rfl o0.out)
           rintro e w44 ⟨v329, rfl, ho0, hb, hkp⟩
           refine ⟨_, rfl, ?_⟩
           have N0 := am (blk_kept (by (with_reducible repeat (first | apply bN | apply bd | apply ba)); exact B304.out) hkp (fun hs_ => (fun e_ => (Kd.R_ne o0.out B304.out (by decide)) e_) hs_))
           have N1 := am (blk_kept (by (with_reducible repeat (first | apply bN | apply bd | apply ba)); exact B315.out) hkp (fun hs_ => (fun e_ => (Kd.R_ne o0.out B315.out (by decide)) e_) hs_))
           have N2 := am (Kd.R_mono (ok' := fun k_ => True) ho0 (fun k_ hk_ => trivial))
           have N3 := am (hb)
           clear B304
           clear B315
           clear HB
           clear o0
           have B304 := N0
           have B315 := N1
           have O330 := N2
           have HB := N3
           clear N0 N1 N2 N3
           (try clear hb)
           (try clear hkp)
           (try clear ho0)
           obtain ⟨Ao45, co45, eo45⟩ := Kd.R_slice O330.out
           (first | subst eo45 | (injection eo45 with f1_ f2_ f3_; have f4_ := f1_.symm; have f5_ := f3_.symm; clear f1_ f2_ f3_; subst f4_; subst f5_))
           refine hK.out _ _ ⟨(bc B315.out 0).trans rfl, (bc B315.out 1).trans rfl, (bc B315.out 2).trans rfl, (bc B315.out 3).trans rfl, (bc B315.out 4).trans rfl⟩ (fun hHeld => ?_)
           clear hK K
           refine norm_ (a' := ?_) ?_ ?_
           rotate_left
           ·show Act.put _ (some 41) _ = _
            simp only [Act.put, List.setIfInBounds_toArray, List.set_cons_zero, List.set_cons_succ, i64_w, i32_w]
            rfl
           refine two_ (i := 6) (j := 9) (Ni := some 44) (Nj := some 47) #[true, true, true, true, true, true, true, true, true, false, false, false] #[true, true, true, true, true, true, false, true, true, true, false, false] rfl rfl rfl rfl (two_of HT_.out (by kernel_rfl)) (by decide) (by decide) (fun K hK => ?_) (fun K hK => ?_)
           ·skip
            refine goes_ Try.func125 (by kernel_rfl) rfl #[J Ao45 t328.length co45, I q ((rd_T36 la1 x23_1).f1), I q 4] (by rfl) rfl rfl (by (try simp only [List.map_toArray, List.map_cons, List.map_nil]); first | done | rfl | (simp only [List.length_drop, List.length_take]; rfl)) ?_
            with_reducible refine (impl_put.calls k1 (fun k_ => some k_ = (J Ao45 t328.length co45 : Value).ownBlock) (J Ao45 t328.length co45) t328 ((rd_T36 la1 x23_1).f1) 4 t331 w _ ?side1 ?side2 A36.out).mono ?_
            (case side1 => repeat (first | (with_reducible first | exact HB.out | apply pa | apply pN | apply p1 | refine bs ?_ E304.out | refine bs ?_ E315.out) | exact HB.out))
            (case side2 => exact Kd.R_tight rfl O330.out)
            rintro e w46 ⟨v332, rfl, ho0, hb, hkp⟩
            refine ⟨_, rfl, ?_⟩
            have N0 := am (blk_kept (by (with_reducible repeat (first | apply bN | apply bd | apply ba)); exact B304.out) hkp (fun hs_ => (fun e_ => (Kd.R_ne O330.out B304.out (by decide)) e_) hs_))
            have N1 := am (blk_kept (by (with_reducible repeat (first | apply bN | apply bd | apply ba)); exact B315.out) hkp (fun hs_ => (fun e_ => (Kd.R_ne O330.out B315.out (by decide)) e_) hs_))
            have N2 := am (Kd.R_mono (ok' := fun k_ => True) ho0 (fun k_ hk_ => trivial))
            have N3 := am (hb)
            clear B304
            clear B315
            clear HB
            clear O330
            have B304 := N0
            have B315 := N1
            have O333 := N2
            have HB := N3
            clear N0 N1 N2 N3
            (try clear hb)
            (try clear hkp)
            (try clear ho0)
            refine hK.out _ _ ⟨(bc B315.out 0).trans rfl, (bc B315.out 1).trans rfl, (bc B315.out 2).trans rfl, (bc B315.out 3).trans rfl, (bc B315.out 4).trans rfl⟩ (fun hHeld => ?_)
            clear hK K
            refine norm_ (a' := ?_) ?_ ?_
            rotate_left
            ·show Act.put _ (some 44) _ = _
             simp only [Act.put, List.setIfInBounds_toArray, List.set_cons_zero, List.set_cons_succ, i64_w, i32_w]
             rfl
            refine one_ (i := 9) (N := some 47) #[true, true, true, true, true, true, true, true, true, true, false, false] rfl rfl (one_of HT_.out (by kernel_rfl)) (by decide) (fun K hK => ?_)
            refine Kd.R_lit_step (Kd.int .u8) _ 5 ?hg (N := 47) ?hd (xs := ([(wrap64 ((wrap64 (((rd_T36 la1 x23_1).f2) * 8)) + (wrap64 (((rd_T36 la1 x23_1).f3) * 2)))) % 256] : List Int)) (inner := [.int .u8 ((wrap64 ((wrap64 (((rd_T36 la1 x23_1).f2) * 8)) + (wrap64 (((rd_T36 la1 x23_1).f3) * 2)))) % 256)]) (ok := fun _ => True) (okp := fun _ => True) ?hr ?hp (fun _ hk => hk) trivial (Below.refl _ _) (Nat.le_refl _) (by simp) ?_; (case hd => rfl); (case hg => rfl); (case hr => first | (go_simp; done) | (go_simp; rfl)); (case hp => exact (Reps.one (show Kd.M (Kd.int .u8) _ _ _ ((wrap64 ((wrap64 (((rd_T36 la1 x23_1).f2) * 8)) + (wrap64 (((rd_T36 la1 x23_1).f3) * 2)))) % 256) [.int .u8 ((wrap64 ((wrap64 (((rd_T36 la1 x23_1).f2) * 8)) + (wrap64 (((rd_T36 la1 x23_1).f3) * 2)))) % 256)] from rfl) (Reps.none _ _)))
            intro v335 w47 ho48 hb hg_ hnew_
            clear hg_ hnew_
            (first | rw [← Ny334.out] at ho48 | (simp only [Int.reduceToNat] at ho48; rw [← Ny334.out] at ho48))
            have N0 := am (re (by (with_reducible repeat (first | apply ra | apply rN | apply rd1)); exact O333.out) (Kd.R_base ho48) hb)
            have N1 := am (rw1 (rn ho48 (rl (by (with_reducible repeat (first | apply ra | apply rN | apply rd1)); exact O333.out))) (bz (by repeat (first | (with_reducible first | exact HB.out | apply pa | apply pN | apply p1 | refine bs ?_ E304.out | refine bs ?_ E315.out) | exact HB.out))))
            have N2 := am (bb (g := g304) (by (with_reducible repeat (first | apply bN | apply bd | apply ba)); exact B304.out) hb)
            have N3 := am (bb (g := g315) (by (with_reducible repeat (first | apply bN | apply bd | apply ba)); exact B315.out) hb)
            have N4 := am (bp (by repeat (first | (with_reducible first | exact HB.out | apply pa | apply pN | apply p1 | refine bs ?_ E304.out | refine bs ?_ E315.out) | exact HB.out)) hb)
            clear O333
            clear B304
            clear B315
            clear HB
            have O333 := N0
            have O336 := N1
            have B304 := N2
            have B315 := N3
            have HB := N4
            clear N0 N1 N2 N3 N4
            clear hb ho48
            refine hK.out _ _ ⟨(bc B315.out 0).trans rfl, (bc B315.out 1).trans rfl, (bc B315.out 2).trans rfl, (bc B315.out 3).trans rfl, (bc B315.out 4).trans rfl⟩ (fun hHeld => ?_)
            clear hK K
            refine norm_ (a' := ?_) ?_ ?_
            rotate_left
            ·show Act.put _ (some 47) _ = _
             simp only [Act.put, List.setIfInBounds_toArray, List.set_cons_zero, List.set_cons_succ, i64_w, i32_w]
             rfl
            exact norm_ (by simp only [putAll, Act.put, List.setIfInBounds_toArray, List.set_cons_zero, List.set_cons_succ]) (hCont (J Ao45 t328.length co45, v332, v335) _ ⟨hHeld, (by (with_reducible repeat (first | apply ra | apply rN | apply rd1)); exact Kd.R_mono O333.out (fun _ hk => hk.2)), (by (with_reducible repeat (first | apply ra | apply rN | apply rd1)); exact Kd.R_mono O336.out (fun _ hk => hk.2)), (by (with_reducible repeat (first | apply bN | apply bd | apply ba)); exact B304.out), (by (with_reducible repeat (first | apply bN | apply bd | apply ba)); exact B315.out), (by repeat (first | (with_reducible first | exact HB.out | apply pa | apply pN | apply p1 | refine bs ?_ E304.out | refine bs ?_ E315.out) | exact HB.out))⟩)
           ·skip
            refine Kd.R_lit_step (Kd.int .u8) _ 5 ?hg (N := 47) ?hd (xs := ([(wrap64 ((wrap64 (((rd_T36 la1 x23_1).f2) * 8)) + (wrap64 (((rd_T36 la1 x23_1).f3) * 2)))) % 256] : List Int)) (inner := [.int .u8 ((wrap64 ((wrap64 (((rd_T36 la1 x23_1).f2) * 8)) + (wrap64 (((rd_T36 la1 x23_1).f3) * 2)))) % 256)]) (ok := fun _ => True) (okp := fun _ => True) ?hr ?hp (fun _ hk => hk) trivial (Below.refl _ _) (Nat.le_refl _) (by simp) ?_; (case hd => rfl); (case hg => rfl); (case hr => first | (go_simp; done) | (go_simp; rfl)); (case hp => exact (Reps.one (show Kd.M (Kd.int .u8) _ _ _ ((wrap64 ((wrap64 (((rd_T36 la1 x23_1).f2) * 8)) + (wrap64 (((rd_T36 la1 x23_1).f3) * 2)))) % 256) [.int .u8 ((wrap64 ((wrap64 (((rd_T36 la1 x23_1).f2) * 8)) + (wrap64 (((rd_T36 la1 x23_1).f3) * 2)))) % 256)] from rfl) (Reps.none _ _)))
            intro v335 w45 ho46 hb hg_ hnew_
            clear hg_ hnew_
            (first | rw [← Ny334.out] at ho46 | (simp only [Int.reduceToNat] at ho46; rw [← Ny334.out] at ho46))
            have N0 := am (re (by (with_reducible repeat (first | apply ra | apply rN | apply rd1)); exact O330.out) (Kd.R_base ho46) hb)
            have N1 := am (rw1 (rn ho46 (rl (by (with_reducible repeat (first | apply ra | apply rN | apply rd1)); exact O330.out))) (bz (by repeat (first | (with_reducible first | exact HB.out | apply pa | apply pN | apply p1 | refine bs ?_ E304.out | refine bs ?_ E315.out) | exact HB.out))))
            have N2 := am (bb (g := g304) (by (with_reducible repeat (first | apply bN | apply bd | apply ba)); exact B304.out) hb)
            have N3 := am (bb (g := g315) (by (with_reducible repeat (first | apply bN | apply bd | apply ba)); exact B315.out) hb)
            have N4 := am (bp (by repeat (first | (with_reducible first | exact HB.out | apply pa | apply pN | apply p1 | refine bs ?_ E304.out | refine bs ?_ E315.out) | exact HB.out)) hb)
            clear O330
            clear B304
            clear B315
            clear HB
            have O330 := N0
            have O336 := N1
            have B304 := N2
            have B315 := N3
            have HB := N4
            clear N0 N1 N2 N3 N4
            clear hb ho46
            obtain ⟨Ao47, co47, eo47⟩ := Kd.R_slice O330.out
            (first | subst eo47 | (injection eo47 with f1_ f2_ f3_; have f4_ := f1_.symm; have f5_ := f3_.symm; clear f1_ f2_ f3_; subst f4_; subst f5_))
            refine hK.out _ _ ⟨(bc B315.out 0).trans rfl, (bc B315.out 1).trans rfl, (bc B315.out 2).trans rfl, (bc B315.out 3).trans rfl, (bc B315.out 4).trans rfl⟩ (fun hHeld => ?_)
            clear hK K
            refine norm_ (a' := ?_) ?_ ?_
            rotate_left
            ·show Act.put _ (some 47) _ = _
             simp only [Act.put, List.setIfInBounds_toArray, List.set_cons_zero, List.set_cons_succ, i64_w, i32_w]
             rfl
            refine one_ (i := 6) (N := some 44) #[true, true, true, true, true, true, true, true, true, true, false, false] rfl rfl (one_of HT_.out (by kernel_rfl)) (by decide) (fun K hK => ?_)
            refine goes_ Try.func125 (by kernel_rfl) rfl #[J Ao47 t328.length co47, I q ((rd_T36 la1 x23_1).f1), I q 4] (by rfl) rfl rfl (by (try simp only [List.map_toArray, List.map_cons, List.map_nil]); first | done | rfl | (simp only [List.length_drop, List.length_take]; rfl)) ?_
            with_reducible refine (impl_put.calls k1 (fun k_ => some k_ = (J Ao47 t328.length co47 : Value).ownBlock) (J Ao47 t328.length co47) t328 ((rd_T36 la1 x23_1).f1) 4 t331 w _ ?side1 ?side2 A36.out).mono ?_
            (case side1 => repeat (first | (with_reducible first | exact HB.out | apply pa | apply pN | apply p1 | refine bs ?_ E304.out | refine bs ?_ E315.out) | exact HB.out))
            (case side2 => exact Kd.R_tight rfl O330.out)
            rintro e w48 ⟨v332, rfl, ho0, hb, hkp⟩
            refine ⟨_, rfl, ?_⟩
            have N0 := am (blk_kept (by (with_reducible repeat (first | apply bN | apply bd | apply ba)); exact B304.out) hkp (fun hs_ => (fun e_ => (Kd.R_ne O330.out B304.out (by decide)) e_) hs_))
            have N1 := am (blk_kept (by (with_reducible repeat (first | apply bN | apply bd | apply ba)); exact B315.out) hkp (fun hs_ => (fun e_ => (Kd.R_ne O330.out B315.out (by decide)) e_) hs_))
            have N2 := am (Kd.R_mono (ok' := fun k_ => some k_ ≠ (v332 : Value).ownBlock) (Kd.R_keptB (O336.out) hkp (fun k_ hk_ hs_ => (hk_.2) hs_)) (fun k_ hk_ => fun e_ => Or.elim (ho0.1 k_ e_.symm) (fun hs_ => hk_.2.1 hs_) (fun hn_ => Nat.not_le.2 hk_.2.2 hn_)))
            have N3 := am (Kd.R_mono (ok' := fun k_ => some k_ ≠ (v335 : Value).ownBlock) ho0 (fun k_ hk_ => Or.elim hk_ (fun hs_ => fun e_ => (((O336.out).1 k_ e_.symm).2) hs_) (fun hn_ => (Kd.fresh' (rl (by (with_reducible repeat (first | apply ra | apply rN | apply rd1)); exact O336.out)) k_ hn_))))
            have N4 := am (hb)
            clear B304
            clear B315
            clear O336
            clear HB
            clear O330
            have B304 := N0
            have B315 := N1
            have O336 := N2
            have O333 := N3
            have HB := N4
            clear N0 N1 N2 N3 N4
            (try clear hb)
            (try clear hkp)
            (try clear ho0)
            refine hK.out _ _ ⟨(bc B315.out 0).trans rfl, (bc B315.out 1).trans rfl, (bc B315.out 2).trans rfl, (bc B315.out 3).trans rfl, (bc B315.out 4).trans rfl⟩ (fun hHeld => ?_)
            clear hK K
            refine norm_ (a' := ?_) ?_ ?_
            rotate_left
            ·show Act.put _ (some 44) _ = _
             simp only [Act.put, List.setIfInBounds_toArray, List.set_cons_zero, List.set_cons_succ, i64_w, i32_w]
             rfl
            exact norm_ (by simp only [putAll, Act.put, List.setIfInBounds_toArray, List.set_cons_zero, List.set_cons_succ]) (hCont (J Ao47 t328.length co47, v332, v335) _ ⟨hHeld, (by (with_reducible repeat (first | apply ra | apply rN | apply rd1)); exact O333.out), (by (with_reducible repeat (first | apply ra | apply rN | apply rd1)); exact O336.out), (by (with_reducible repeat (first | apply bN | apply bd | apply ba)); exact B304.out), (by (with_reducible repeat (first | apply bN | apply bd | apply ba)); exact B315.out), (by repeat (first | (with_reducible first | exact HB.out | apply pa | apply pN | apply p1 | refine bs ?_ E304.out | refine bs ?_ E315.out) | exact HB.out))⟩)
          ·skip
           refine Kd.R_lit_step (Kd.int .u8) _ 5 ?hg (N := 47) ?hd (xs := ([(wrap64 ((wrap64 (((rd_T36 la1 x23_1).f2) * 8)) + (wrap64 (((rd_T36 la1 x23_1).f3) * 2)))) % 256] : List Int)) (inner := [.int .u8 ((wrap64 ((wrap64 (((rd_T36 la1 x23_1).f2) * 8)) + (wrap64 (((rd_T36 la1 x23_1).f3) * 2)))) % 256)]) (ok := fun _ => True) (okp := fun _ => True) ?hr ?hp (fun _ hk => hk) trivial (Below.refl _ _) (Nat.le_refl _) (by simp) ?_; (case hd => rfl); (case hg => rfl); (case hr => first | (go_simp; done) | (go_simp; rfl)); (case hp => exact (Reps.one (show Kd.M (Kd.int .u8) _ _ _ ((wrap64 ((wrap64 (((rd_T36 la1 x23_1).f2) * 8)) + (wrap64 (((rd_T36 la1 x23_1).f3) * 2)))) % 256) [.int .u8 ((wrap64 ((wrap64 (((rd_T36 la1 x23_1).f2) * 8)) + (wrap64 (((rd_T36 la1 x23_1).f3) * 2)))) % 256)] from rfl) (Reps.none _ _)))
           intro v335 w44 ho45 hb hg_ hnew_
           clear hg_ hnew_
           (first | rw [← Ny334.out] at ho45 | (simp only [Int.reduceToNat] at ho45; rw [← Ny334.out] at ho45))
           have N0 := am (re (by (with_reducible repeat (first | apply ra | apply rN | apply rd1)); exact o0.out) (Kd.R_base ho45) hb)
           have N1 := am (rw1 (rn ho45 (rl (by (with_reducible repeat (first | apply ra | apply rN | apply rd1)); exact o0.out))) (bz (by repeat (first | (with_reducible first | exact HB.out | apply pa | apply pN | apply p1 | refine bs ?_ E304.out | refine bs ?_ E315.out) | exact HB.out))))
           have N2 := am (bb (g := g304) (by (with_reducible repeat (first | apply bN | apply bd | apply ba)); exact B304.out) hb)
           have N3 := am (bb (g := g315) (by (with_reducible repeat (first | apply bN | apply bd | apply ba)); exact B315.out) hb)
           have N4 := am (bp (by repeat (first | (with_reducible first | exact HB.out | apply pa | apply pN | apply p1 | refine bs ?_ E304.out | refine bs ?_ E315.out) | exact HB.out)) hb)
           clear o0
           clear B304
           clear B315
           clear HB
           have o0 := N0
           have O336 := N1
           have B304 := N2
           have B315 := N3
           have HB := N4
           clear N0 N1 N2 N3 N4
           clear hb ho45
           refine hK.out _ _ ⟨(bc B315.out 0).trans rfl, (bc B315.out 1).trans rfl, (bc B315.out 2).trans rfl, (bc B315.out 3).trans rfl, (bc B315.out 4).trans rfl⟩ (fun hHeld => ?_)
           clear hK K
           refine norm_ (a' := ?_) ?_ ?_
           rotate_left
           ·show Act.put _ (some 47) _ = _
            simp only [Act.put, List.setIfInBounds_toArray, List.set_cons_zero, List.set_cons_succ, i64_w, i32_w]
            rfl
           refine one_ (i := 3) (N := some 41) #[true, true, true, true, true, true, false, true, true, true, false, false] rfl rfl (one_of HT_.out (by kernel_rfl)) (by decide) (fun K hK => ?_)
           refine goes_ Try.func125 (by kernel_rfl) rfl #[J Ao41 x3_1.length co41, I q ((rd_T36 la1 x23_1).f0), I q 2] (by rfl) rfl rfl (by (try simp only [List.map_toArray, List.map_cons, List.map_nil]); first | done | rfl | (simp only [List.length_drop, List.length_take]; rfl)) ?_
           with_reducible refine (impl_put.calls k1 (fun k_ => some k_ = (J Ao41 x3_1.length co41 : Value).ownBlock) (J Ao41 x3_1.length co41) x3_1 ((rd_T36 la1 x23_1).f0) 2 t328 w _ ?side1 ?side2 A35.out).mono ?_
           (case side1 => repeat (first | (with_reducible first | exact HB.out | apply pa | apply pN | apply p1 | refine bs ?_ E304.out | refine bs ?_ E315.out) | exact HB.out))
           (case side2 => exact Kd.R_tight rfl o0.out)
           rintro e w46 ⟨v329, rfl, ho0, hb, hkp⟩
           refine ⟨_, rfl, ?_⟩
           have N0 := am (blk_kept (by (with_reducible repeat (first | apply bN | apply bd | apply ba)); exact B304.out) hkp (fun hs_ => (fun e_ => (Kd.R_ne o0.out B304.out (by decide)) e_) hs_))
           have N1 := am (blk_kept (by (with_reducible repeat (first | apply bN | apply bd | apply ba)); exact B315.out) hkp (fun hs_ => (fun e_ => (Kd.R_ne o0.out B315.out (by decide)) e_) hs_))
           have N2 := am (Kd.R_mono (ok' := fun k_ => some k_ ≠ (v329 : Value).ownBlock) (Kd.R_keptB (O336.out) hkp (fun k_ hk_ hs_ => (hk_.2) hs_)) (fun k_ hk_ => fun e_ => Or.elim (ho0.1 k_ e_.symm) (fun hs_ => hk_.2.1 hs_) (fun hn_ => Nat.not_le.2 hk_.2.2 hn_)))
           have N3 := am (Kd.R_mono (ok' := fun k_ => some k_ ≠ (v335 : Value).ownBlock) ho0 (fun k_ hk_ => Or.elim hk_ (fun hs_ => fun e_ => (((O336.out).1 k_ e_.symm).2) hs_) (fun hn_ => (Kd.fresh' (rl (by (with_reducible repeat (first | apply ra | apply rN | apply rd1)); exact O336.out)) k_ hn_))))
           have N4 := am (hb)
           clear B304
           clear B315
           clear O336
           clear HB
           clear o0
           have B304 := N0
           have B315 := N1
           have O336 := N2
           have O330 := N3
           have HB := N4
           clear N0 N1 N2 N3 N4
           (try clear hb)
           (try clear hkp)
           (try clear ho0)
           obtain ⟨Ao47, co47, eo47⟩ := Kd.R_slice O330.out
           (first | subst eo47 | (injection eo47 with f1_ f2_ f3_; have f4_ := f1_.symm; have f5_ := f3_.symm; clear f1_ f2_ f3_; subst f4_; subst f5_))
           refine hK.out _ _ ⟨(bc B315.out 0).trans rfl, (bc B315.out 1).trans rfl, (bc B315.out 2).trans rfl, (bc B315.out 3).trans rfl, (bc B315.out 4).trans rfl⟩ (fun hHeld => ?_)
           clear hK K
           refine norm_ (a' := ?_) ?_ ?_
           rotate_left
           ·show Act.put _ (some 41) _ = _
            simp only [Act.put, List.setIfInBounds_toArray, List.set_cons_zero, List.set_cons_succ, i64_w, i32_w]
            rfl
           refine one_ (i := 6) (N := some 44) #[true, true, true, true, true, true, true, true, true, true, false, false] rfl rfl (one_of HT_.out (by kernel_rfl)) (by decide) (fun K hK => ?_)
           refine goes_ Try.func125 (by kernel_rfl) rfl #[J Ao47 t328.length co47, I q ((rd_T36 la1 x23_1).f1), I q 4] (by rfl) rfl rfl (by (try simp only [List.map_toArray, List.map_cons, List.map_nil]); first | done | rfl | (simp only [List.length_drop, List.length_take]; rfl)) ?_
           with_reducible refine (impl_put.calls k1 (fun k_ => some k_ = (J Ao47 t328.length co47 : Value).ownBlock) (J Ao47 t328.length co47) t328 ((rd_T36 la1 x23_1).f1) 4 t331 w _ ?side1 ?side2 A36.out).mono ?_
           (case side1 => repeat (first | (with_reducible first | exact HB.out | apply pa | apply pN | apply p1 | refine bs ?_ E304.out | refine bs ?_ E315.out) | exact HB.out))
           (case side2 => exact Kd.R_tight rfl O330.out)
           rintro e w48 ⟨v332, rfl, ho0, hb, hkp⟩
           refine ⟨_, rfl, ?_⟩
           have N0 := am (blk_kept (by (with_reducible repeat (first | apply bN | apply bd | apply ba)); exact B304.out) hkp (fun hs_ => (fun e_ => (Kd.R_ne O330.out B304.out (by decide)) e_) hs_))
           have N1 := am (blk_kept (by (with_reducible repeat (first | apply bN | apply bd | apply ba)); exact B315.out) hkp (fun hs_ => (fun e_ => (Kd.R_ne O330.out B315.out (by decide)) e_) hs_))
           have N2 := am (Kd.R_mono (ok' := fun k_ => some k_ ≠ (v332 : Value).ownBlock) (Kd.R_keptB (O336.out) hkp (fun k_ hk_ hs_ => (hk_) hs_)) (fun k_ hk_ => fun e_ => Or.elim (ho0.1 k_ e_.symm) (fun hs_ => hk_.2.1 hs_) (fun hn_ => Nat.not_le.2 hk_.2.2 hn_)))
           have N3 := am (Kd.R_mono (ok' := fun k_ => some k_ ≠ (v335 : Value).ownBlock) ho0 (fun k_ hk_ => Or.elim hk_ (fun hs_ => fun e_ => (((O336.out).1 k_ e_.symm)) hs_) (fun hn_ => (Kd.fresh' (rl (by (with_reducible repeat (first | apply ra | apply rN | apply rd1)); exact O336.out)) k_ hn_))))
           have N4 := am (hb)
           clear B304
           clear B315
           clear O336
           clear HB
           clear O330
           have B304 := N0
           have B315 := N1
           have O336 := N2
           have O333 := N3
           have HB := N4
           clear N0 N1 N2 N3 N4
           (try clear hb)
           (try clear hkp)
           (try clear ho0)
           refine hK.out _ _ ⟨(bc B315.out 0).trans rfl, (bc B315.out 1).trans rfl, (bc B315.out 2).trans rfl, (bc B315.out 3).trans rfl, (bc B315.out 4).trans rfl⟩ (fun hHeld => ?_)
           clear hK K
           refine norm_ (a' := ?_) ?_ ?_
           rotate_left
           ·show Act.put _ (some 44) _ = _
            simp only [Act.put, List.setIfInBounds_toArray, List.set_cons_zero, List.set_cons_succ, i64_w, i32_w]
            rfl
           exact norm_ (by simp only [putAll, Act.put, List.setIfInBounds_toArray, List.set_cons_zero, List.set_cons_succ]) (hCont (J Ao47 t328.length co47, v332, v335) _ ⟨hHeld, (by (with_reducible repeat (first | apply ra | apply rN | apply rd1)); exact O333.out), (by (with_reducible repeat (first | apply ra | apply rN | apply rd1)); exact O336.out), (by (with_reducible repeat (first | apply bN | apply bd | apply ba)); exact B304.out), (by (with_reducible repeat (first | apply bN | apply bd | apply ba)); exact B315.out), (by repeat (first | (with_reducible first | exact HB.out | apply pa | apply pN | apply p1 | refine bs ?_ E304.out | refine bs ?_ E315.out) | exact HB.out))⟩)
         rintro ⟨v329, v332, v335⟩ w49 ⟨hS_, h0_, h1_, h2_, h3_, h4_⟩
         have N0 : Aside0 (Kd.R (Kd.int .u8) 5 w49 w.heap.size (fun k_ => some k_ ≠ (v335 : Value).ownBlock) v332 t331) := ⟨h0_⟩
         have N1 : Aside0 (Kd.R (Kd.int .u8) 5 w49 w.heap.size (fun k_ => some k_ ≠ (v332 : Value).ownBlock) v335 y334) := ⟨h1_⟩
         have N2 : Aside0 (w49.heap[g304]? = some (.cells #[I q aa0, .slice (some ad314) la1.length ca1, J Aa2 la2.length ca2] 31 (0, 0))) := ⟨h2_⟩
         have N3 : Aside0 (w49.heap[g315]? = some (.cells #[I q ((rd_T36 la1 x23_1).f0), I q ((rd_T36 la1 x23_1).f1), I q ((rd_T36 la1 x23_1).f2), I q ((rd_T36 la1 x23_1).f3), .bool false] 36 (0, 0))) := ⟨h3_⟩
         have N4 : Aside0 (Below w.heap.size w w49) := ⟨h4_⟩
         clear o0
         clear B304
         clear B315
         clear HB
         clear h0_ h1_ h2_ h3_ h4_
         have O333 := N0
         have O336 := N1
         have B304 := N2
         have B315 := N3
         have HB := N4
         clear N0 N1 N2 N3 N4
         have hHeld : w49.cell? ⟨g315, 0, none⟩ = some (I q ((rd_T36 la1 x23_1).f0)) ∧ w49.cell? ⟨g315, 1, none⟩ = some (I q ((rd_T36 la1 x23_1).f1)) ∧ w49.cell? ⟨g315, 2, none⟩ = some (I q ((rd_T36 la1 x23_1).f2)) ∧ w49.cell? ⟨g315, 3, none⟩ = some (I q ((rd_T36 la1 x23_1).f3)) ∧ w49.cell? ⟨g315, 4, none⟩ = some (.bool false) := hS_
         obtain ⟨Ao51, co51, eo51⟩ := Kd.R_slice O336.out
         (first | subst eo51 | (injection eo51 with f1_ f2_ f3_; have f4_ := f1_.symm; have f5_ := f3_.symm; clear f1_ f2_ f3_; subst f4_; subst f5_))
         refine norm_ (a' := ?_) ?_ ?_
         rotate_left
         ·simp only [putAll, Act.put, List.setIfInBounds_toArray, List.set_cons_zero, List.set_cons_succ]
          rfl
         refine one_ (i := 10) (N := some 48) #[true, true, true, true, true, true, true, true, true, true, true, false] rfl rfl (one_of HT_.out (by kernel_rfl)) (by decide) (fun K hK => ?_)
         refine Kd.R_append_rows_step (Kd.int .u8) (w0 := w) w.heap.size (by rfl) (.tmp 44) (.tmp 47) 58 5 (.int .u8 0) 1 rfl Try.underlying58 info5 rfl (by decide) (by omega) v332 t331 y334 _ _ _ (fun k_ => some k_ ≠ (J Ao51 y334.length co51 : Value).ownBlock) (fun _ => False) rfl rfl ?aO ?aR (fun _ _ h => h) (fun _ h => h.elim) ?aF ?aB ?aS ?aL ?_
         (case aR => repeat (first | exact (Kd.R_reads' O336.out).2.2 | (with_reducible refine ca ?_ _) | (with_reducible refine cN ?_ _) | (with_reducible refine cd1 ?_)))
         (case aB => exact (by repeat (first | (with_reducible first | exact HB.out | apply pa | apply pN | apply p1 | refine bs ?_ E304.out | refine bs ?_ E315.out) | exact HB.out)))
         (case aF => exact (fun k_ hk => Kd.fresh' (rl (by (with_reducible repeat (first | apply ra | apply rN | apply rd1)); exact O336.out)) k_ hk))
         (case aO => exact (by (with_reducible repeat (first | apply ra | apply rN | apply rd1)); exact O333.out))
         (case aS => exact (bz (by repeat (first | (with_reducible first | exact HB.out | apply pa | apply pN | apply p1 | refine bs ?_ E304.out | refine bs ?_ E315.out) | exact HB.out))))
         (case aL => have := LMc37.out; omega)
         intro v338 w50 ho hb hg hat
         rw [← Ny337.out] at ho
         have N0 := am (blk_grown (g := g304) (o := .cells #[I q aa0, .slice (some ad314) la1.length ca1, J Aa2 la2.length ca2] 31 (0, 0)) (by (with_reducible repeat (first | apply bN | apply bd | apply ba)); exact B304.out) hg (Kd.R_ne O333.out B304.out (by decide)))
         have N1 := am (blk_grown (g := g315) (o := .cells #[I q ((rd_T36 la1 x23_1).f0), I q ((rd_T36 la1 x23_1).f1), I q ((rd_T36 la1 x23_1).f2), I q ((rd_T36 la1 x23_1).f3), .bool false] 36 (0, 0)) (by (with_reducible repeat (first | apply bN | apply bd | apply ba)); exact B315.out) hg (Kd.R_ne O333.out B315.out (by decide)))
         have N2 := am (Kd.R_after (ok := (fun _ => True)) (by (with_reducible repeat (first | apply ra | apply rN | apply rd1)); exact Kd.R_mono O336.out (fun _ hk => ⟨trivial, hk⟩)) hg hat)
         have N3 := am (hb)
         have N4 := am (ho)
         clear B304
         clear B315
         clear O336
         clear HB
         clear O333
         have B304 := N0
         have B315 := N1
         have O336 := N2
         have HB := N3
         have O339 := N4
         clear N0 N1 N2 N3 N4
         clear ho hb hg hat
         refine hK.out _ _ ⟨(bc B315.out 0).trans rfl, (bc B315.out 1).trans rfl, (bc B315.out 2).trans rfl, (bc B315.out 3).trans rfl, (bc B315.out 4).trans rfl⟩ (fun hHeld => ?_)
         clear hK K
         refine norm_ (a' := ?_) ?_ ?_
         rotate_left
         ·show Act.put _ (some 48) _ = _
          simp only [Act.put, List.setIfInBounds_toArray, List.set_cons_zero, List.set_cons_succ, i64_w, i32_w]
          rfl
         refine pure_ (i := 11) (N := some 3) (v := ?_) (a' := ?_) #[true, true, true, true, true, true, true, true, true, true, true, true] rfl rfl (any_of HT_.out (by kernel_rfl)) (fun _ _ _ h => h) (Or.inl ⟨by rfl, ?_⟩) ?_ ?_
         rotate_left
         ·intro w'
          first | (go_simp; with_reducible rfl) | (go_simp; (try unfold Instr.field); go_simp; (try simp only [asAgg]); go_simp; with_reducible rfl)
         rotate_left
         ·simp only [Act.put, List.setIfInBounds_toArray, List.set_cons_zero, List.set_cons_succ, i64_w, i32_w]
          rfl
         refine done_ (done_of HT_.out (by kernel_rfl)) ?_
         try go_wp2
         go_roundg k1
         case measure => have := HK1.out; omega
         case rel => exact ⟨(y337), (wrap64 (x23_1 + 1)), (by first | rfl | (simp; done) | (simp [*]; done)), H', ⟨by have := HK1.out; omega⟩, ⟨by (with_reducible repeat (first | apply ra | apply rN | apply rd1)); exact Kd.R_mono O339.out (fun _ hk => trivial)⟩, ⟨by (with_reducible repeat (first | apply bN | apply bd | apply ba)); exact B304.out⟩, ⟨by repeat (first | (with_reducible first | exact HB.out | apply pa | apply pN | apply p1 | refine bs ?_ E304.out | refine bs ?_ E315.out) | exact HB.out)⟩⟩
        ·rw [if_neg c37] at H
         exact absurd H (by simp)
      ·rw [if_neg c15] at H
       exact absurd H (by simp)
     ·rw [if_neg c14] at H
      exact absurd H (by simp)
    ·rw [if_neg c13] at H
     have c13b0 : decide (x23_1 < (la1.length : Int)) = false := decide_eq_false c13
     clear c13
     obtain ⟨y340, hy340⟩ : ∃ y_ : List Int, y_ = (([((la2.length : Int)) % 256] : List Int)) := ⟨_, rfl⟩
     replace H : (if x3_1.length + y340.length < 140737488355328 then (impl_packConfig.l1 k1 (x3_1 ++ y340) la2 (la2.length : Int) 0) else (none)) = some r := by first | (rw [hy340]; with_reducible exact H) | (have H2_ := (Option.bind_some _ _).symm.trans H; rw [hy340]; with_reducible exact H2_) | (have H2_ := (Option.bind_some _ _).symm.trans H; with_reducible exact H2_) | with_reducible exact H | (rw [hy340]; exact H) | exact H
     have Ny340 := am hy340
     clear hy340
     by_cases c52 : x3_1.length + y340.length < 140737488355328
     ·rw [if_pos c52] at H
      have LMc52 := am c52
      clear c52
      obtain ⟨y343, hy343⟩ : ∃ y_ : List Int, y_ = (x3_1 ++ y340) := ⟨_, rfl⟩
      replace H : (impl_packConfig.l1 k1 y343 la2 (la2.length : Int) 0) = some r := by first | (rw [hy343]; with_reducible exact H) | (have H2_ := (Option.bind_some _ _).symm.trans H; rw [hy343]; with_reducible exact H2_) | (have H2_ := (Option.bind_some _ _).symm.trans H; with_reducible exact H2_) | with_reducible exact H | (rw [hy343]; exact H) | exact H
      have Ny343 := am hy343
      clear hy343
      have H' := am H
      clear H
      have hcz53_0 : wr.cell? ⟨g304, 0, none⟩ = some (I q aa0) := (bc B304.out 0).trans rfl
      have hcz53_1 : wr.cell? ⟨g304, 1, none⟩ = some (J Aa1 la1.length ca1) := (bc B304.out 1).trans rfl
      have hcz53_2 : wr.cell? ⟨g304, 2, none⟩ = some (J Aa2 la2.length ca2) := (bc B304.out 2).trans rfl
      have hfz53_0 := bf B304.out 0
      have hfz53_1 := bf B304.out 1
      have hfz53_2 := bf B304.out 2
      go_wp2_with (first | ((with_reducible refine gate_dst (N := 55) rfl ?_); refine Kd.R_lit (Kd.int .u8) _ 5 ?hg (N := 55) ?hd (xs := ([((la2.length : Int)) % 256] : List Int)) (inner := [.int .u8 (((la2.length : Int)) % 256)]) (ok := fun _ => True) (okp := fun _ => True) ?hr ?hp (fun _ hk => hk) trivial (Below.refl _ _) (Nat.le_refl _) (by simp) ?_; (case hd => rfl); (case hg => rfl); (case hr => first | (go_simp; done) | (go_simp; rfl)); (case hp => exact (Reps.one (show Kd.M (Kd.int .u8) _ _ _ (((la2.length : Int)) % 256) [.int .u8 (((la2.length : Int)) % 256)] from rfl) (Reps.none _ _))); intro v341 w54 ho55 hb hg_ hnew_; clear hg_ hnew_; (first | rw [← Ny340.out] at ho55 | (simp only [Int.reduceToNat] at ho55; rw [← Ny340.out] at ho55)); have N0 := am (re (by (with_reducible repeat (first | apply ra | apply rN | apply rd1)); exact o0.out) (Kd.R_base ho55) hb); have N1 := am (rw1 (rn ho55 (rl (by (with_reducible repeat (first | apply ra | apply rN | apply rd1)); exact o0.out))) (bz (by repeat (first | (with_reducible first | exact HB.out | apply pa | apply pN | apply p1 | refine bs ?_ E304.out) | exact HB.out)))); have N2 := am (bb (g := g304) (by (with_reducible repeat (first | apply bN | apply bd | apply ba)); exact B304.out) hb); have N3 := am (bp (by repeat (first | (with_reducible first | exact HB.out | apply pa | apply pN | apply p1 | refine bs ?_ E304.out) | exact HB.out)) hb); clear o0 B304 HB; have o0 := N0; have O342 := N1; have B304 := N2; have HB := N3; clear N0 N1 N2 N3 hb ho55; obtain ⟨Ao57, co57, eo57⟩ := Kd.R_slice O342.out; subst eo57) | ((with_reducible refine gate_builtin (b := .append) (xs := #[.tmp 50, .tmp 55]) rfl ?_); at_builtin; refine Kd.R_append_rows (Kd.int .u8) (w0 := w) w.heap.size rfl (.tmp 50) (.tmp 55) 58 5 (.int .u8 0) 1 rfl Try.underlying58 info5 rfl (by decide) (by omega) u3 x3_1 y340 _ _ _ (fun k_ => some k_ ≠ (J Ao57 y340.length co57 : Value).ownBlock) (fun _ => False) rfl rfl ?aO ?aR (fun _ _ h => h) (fun _ h => h.elim) ?aF ?aB ?aS ?aL ?_; (case aR => repeat (first | exact (Kd.R_reads' O342.out).2.2 | (with_reducible refine ca ?_ _) | (with_reducible refine cN ?_ _) | (with_reducible refine cd1 ?_))); (case aB => exact (by repeat (first | (with_reducible first | exact HB.out | apply pa | apply pN | apply p1 | refine bs ?_ E304.out) | exact HB.out))); (case aF => exact (fun k_ hk => Kd.fresh' (rl (by (with_reducible repeat (first | apply ra | apply rN | apply rd1)); exact O342.out)) k_ hk)); (case aO => exact (by (with_reducible repeat (first | apply ra | apply rN | apply rd1)); exact Kd.R_mono o0.out (fun _ hk => hk.2))); (case aS => exact (bz (by repeat (first | (with_reducible first | exact HB.out | apply pa | apply pN | apply p1 | refine bs ?_ E304.out) | exact HB.out)))); (case aL => have := LMc52.out; omega); intro v344 w56 ho hb hg hat; rw [← Ny343.out] at ho; have N0 := am (blk_grown (g := g304) (o := .cells #[I q aa0, J Aa1 la1.length ca1, J Aa2 la2.length ca2] 31 (0, 0)) (by (with_reducible repeat (first | apply bN | apply bd | apply ba)); exact B304.out) hg (Kd.R_ne o0.out B304.out (by decide))); have N1 := am (Kd.R_after (ok := (fun _ => True)) (by (with_reducible repeat (first | apply ra | apply rN | apply rd1)); exact O342.out) hg hat); have N2 := am (hb); have N3 := am (ho); clear B304 O342 HB o0; have B304 := N0; have O342 := N1; have HB := N2; have O345 := N3; clear N0 N1 N2 N3 ho hb hg hat; have hcz58_0 : w56.cell? ⟨g304, 0, none⟩ = some (I q aa0) := (bc B304.out 0).trans rfl; have hcz58_1 : w56.cell? ⟨g304, 1, none⟩ = some (J Aa1 la1.length ca1) := (bc B304.out 1).trans rfl; have hcz58_2 : w56.cell? ⟨g304, 2, none⟩ = some (J Aa2 la2.length ca2) := (bc B304.out 2).trans rfl; have hfz58_0 := bf B304.out 0; have hfz58_1 := bf B304.out 1; have hfz58_2 := bf B304.out 2))
      go_loopg [3, 60] k1 (fun kq v3 v60 w' => ∃ (x3_2 : List Int) (x60_2 : Int), v60 = I q x60_2 ∧ Aside0 (impl_packConfig.l1 kq x3_2 la2 (la2.length : Int) x60_2 = some r) ∧ Aside0 (kq ≤ k1) ∧ Aside0 (Kd.R (Kd.int .u8) 5 w' w.heap.size (fun _ => True) v3 x3_2) ∧ Aside0 (w'.heap[g304]? = some (.cells #[I q aa0, (J Aa1 la1.length ca1), (J Aa2 la2.length ca2)] 31 (0, 0))) ∧ Aside0 (Below w.heap.size w w'))
      case atStart => exact ⟨(y343), (0), (by first | rfl | (simp; done) | (simp [*]; done)), H', ⟨Nat.le_refl _⟩, ⟨by (with_reducible repeat (first | apply ra | apply rN | apply rd1)); exact Kd.R_mono O345.out (fun _ hk => trivial)⟩, ⟨by (with_reducible repeat (first | apply bN | apply bd | apply ba)); exact B304.out⟩, ⟨by repeat (first | (with_reducible first | exact HB.out | apply pa | apply pN | apply p1 | refine bs ?_ E304.out) | exact HB.out)⟩⟩
      case round =>
       clear H'
       try clear c1
       try clear q1
       try clear c2
       try clear p2
       try clear c3
       try clear p3
       try clear q3
       try clear hx3
       try clear c5
       try clear p6
       try clear c12
       try clear c13
       try clear c13b0
       try clear c14
       try clear c15
       try clear q16
       try clear c17
       try clear c20
       try clear p31
       try clear q31
       try clear hx31
       try clear c37
       try clear c39
       try clear c52
       try clear hcz40_0
       try clear hcz40_1
       try clear hcz40_2
       try clear hcz40_3
       try clear hcz40_4
       try clear hcz53_0
       try clear hcz53_1
       try clear hcz53_2
       try clear hcz58_0
       try clear hcz58_1
       try clear hcz58_2
       try clear hfz40_0
       try clear hfz40_1
       try clear hfz40_2
       try clear hfz40_3
       try clear hfz40_4
       try clear hfz53_0
       try clear hfz53_1
       try clear hfz53_2
       try clear hfz58_0
       try clear hfz58_1
       try clear hfz58_2
       try clear hx314_0
       try clear hx314_1
       try clear hx314_2
       try clear hx314_3
       try clear hx314_4
       try clear p314
       try clear q314
       obtain ⟨x3_2, x60_2, rfl, HA, HK2, o0, B304, HB⟩ := hrel
       cases gk with
       | zero => exact absurd HA.out (by simp [impl_packConfig.l1])
       | succ k2 =>
        have H := HA.out
        clear HA
        simp only [impl_packConfig.l1] at H
        by_cases c59 : x60_2 < (la2.length : Int)
        ·rw [if_pos c59] at H
         have c59b0 : decide (x60_2 < (la2.length : Int)) = true := decide_eq_true c59
         clear c59
         by_cases c60 : 0 ≤ x60_2
         ·rw [if_pos c60] at H
          have c60b0 : decide (0 ≤ x60_2) = true := decide_eq_true c60
          clear c60
          by_cases c61 : x60_2 < (la2.length : Int)
          ·rw [if_pos c61] at H
           have c61b0 : decide (x60_2 < (la2.length : Int)) = true := decide_eq_true c61
           clear c61
           replace H := Option.bind_eq_some_iff.mp H
           obtain ⟨t348, A620, H⟩ := H
           replace H : ((impl_put.f k2 t348 ((rd_T64 la2 x60_2).f1) 2).bind fun t351 => ((some (([((rd_T64 la2 x60_2).f2) % 256, ((((rd_T64 la2 x60_2).f3).length : Int)) % 256] : List Int) : List Int)).bind fun y354 => (if t351.length + y354.length < 140737488355328 then (impl_packConfig.l2 k2 (t351 ++ y354) la2 (la2.length : Int) x60_2 ((rd_T64 la2 x60_2).f3) (((rd_T64 la2 x60_2).f3).length : Int) 0) else (none)))) = some r := H
           have A62 := am A620
           clear A620
           replace H := Option.bind_eq_some_iff.mp H
           obtain ⟨t351, A630, H⟩ := H
           replace H : ((some (([((rd_T64 la2 x60_2).f2) % 256, ((((rd_T64 la2 x60_2).f3).length : Int)) % 256] : List Int) : List Int)).bind fun y354 => (if t351.length + y354.length < 140737488355328 then (impl_packConfig.l2 k2 (t351 ++ y354) la2 (la2.length : Int) x60_2 ((rd_T64 la2 x60_2).f3) (((rd_T64 la2 x60_2).f3).length : Int) 0) else (none))) = some r := H
           have A63 := am A630
           clear A630
           obtain ⟨y354, hy354⟩ : ∃ y_ : List Int, y_ = (([((rd_T64 la2 x60_2).f2) % 256, ((((rd_T64 la2 x60_2).f3).length : Int)) % 256] : List Int)) := ⟨_, rfl⟩
           replace H : (if t351.length + y354.length < 140737488355328 then (impl_packConfig.l2 k2 (t351 ++ y354) la2 (la2.length : Int) x60_2 ((rd_T64 la2 x60_2).f3) (((rd_T64 la2 x60_2).f3).length : Int) 0) else (none)) = some r := by first | (rw [hy354]; with_reducible exact H) | (have H2_ := (Option.bind_some _ _).symm.trans H; rw [hy354]; with_reducible exact H2_) | (have H2_ := (Option.bind_some _ _).symm.trans H; with_reducible exact H2_) | with_reducible exact H | (rw [hy354]; exact H) | exact H
           have Ny354 := am hy354
           clear hy354
           by_cases c64 : t351.length + y354.length < 140737488355328
           ·rw [if_pos c64] at H
            have LMc64 := am c64
            clear c64
            obtain ⟨y357, hy357⟩ : ∃ y_ : List Int, y_ = (t351 ++ y354) := ⟨_, rfl⟩
            replace H : (impl_packConfig.l2 k2 y357 la2 (la2.length : Int) x60_2 ((rd_T64 la2 x60_2).f3) (((rd_T64 la2 x60_2).f3).length : Int) 0) = some r := by first | (rw [hy357]; with_reducible exact H) | (have H2_ := (Option.bind_some _ _).symm.trans H; rw [hy357]; with_reducible exact H2_) | (have H2_ := (Option.bind_some _ _).symm.trans H; with_reducible exact H2_) | with_reducible exact H | (rw [hy357]; exact H) | exact H
            have Ny357 := am hy357
            clear hy357
            have H' := am H
            clear H
            have p346 : 0 ≤ (x60_2 : Int) := of_decide_eq_true (by first | (with_reducible assumption) | assumption)
            have q346 : x60_2 < (la2.length : Int) := of_decide_eq_true (by first | (with_reducible assumption) | assumption)
            obtain ⟨ad346, A346_3, c346_3, e346, hx346_0, hx346_1, hx346_2, hx346_3, hl346_3, hi346_3⟩ := at_T64 HR0_2.out x60_2 p346 q346
            cases e346
            replace hx346_0 := (HB.out.cell (World.block_lt_of_cell? w _ hx346_0)).trans hx346_0
            replace hx346_1 := (HB.out.cell (World.block_lt_of_cell? w _ hx346_1)).trans hx346_1
            replace hx346_2 := (HB.out.cell (World.block_lt_of_cell? w _ hx346_2)).trans hx346_2
            replace hx346_3 := (HB.out.cell (World.block_lt_of_cell? w _ hx346_3)).trans hx346_3
            have HR346_3 := am hi346_3
            have HC346_3 := am hl346_3
            clear hi346_3 hl346_3
            replace p346 := eq_true p346
            replace q346 := eq_true q346
            try go_wp2_with (first | ((with_reducible refine gate_dst (N := 8) rfl ?_); refine box_event ?hg (N := 8) ?hd (cs := #[I q 0, I q 0, I q 0, .slice none 0 0]) (t := 64) ?hr ?_; (case hd => rfl); (case hg => rfl); (case hr => first | (go_simp; done) | (go_simp; rfl)); intro g347 hg w65 hbox hb; have N0 := am (rb (by (with_reducible repeat (first | apply ra | apply rN | apply rd1)); exact o0.out) hb); have N1 := am (bb (g := g304) (by (with_reducible repeat (first | apply bN | apply bd | apply ba)); exact B304.out) hb); have N2 := am (bp (by repeat (first | (with_reducible first | exact HB.out | apply pa | apply pN | apply p1 | refine bs ?_ E304.out) | exact HB.out)) hb); have N3 := am (hbox); have N4 := am ((by rw [hg]; exact (bz (by repeat (first | (with_reducible first | exact HB.out | apply pa | apply pN | apply p1 | refine bs ?_ E304.out) | exact HB.out))) : w.heap.size ≤ g347)); have N5 := am ((by rw [hg]; exact (bz (by repeat (first | (with_reducible first | exact HB.out | apply pa | apply pN | apply p1 | refine bs ?_ E304.out) | exact HB.out))) : w.heap.size ≤ g347)); have N6 := am ((by rw [hg]; exact Nat.ne_of_lt (bl (g := g304) (by (with_reducible repeat (first | apply bN | apply bd | apply ba)); exact B304.out)) : g304 ≠ g347)); have N7 := am ((by rw [hg]; exact Nat.ne_of_gt (bl (g := g304) (by (with_reducible repeat (first | apply bN | apply bd | apply ba)); exact B304.out)) : g347 ≠ g304)); clear o0 B304 HB; have o0 := N0; have B304 := N1; have HB := N2; have B347 := N3; have GW347 := N4; have E347 := N5; have NB304_347 := N6; have NB347_304 := N7; clear N0 N1 N2 N3 N4 N5 N6 N7 hb hbox hg; have hnb66 := NB347_304.out; have hnc66 := NB304_347.out; have hcz67_0 : w65.cell? ⟨g347, 0, none⟩ = some (I q 0) := (bc B347.out 0).trans rfl; have hcz67_1 : w65.cell? ⟨g347, 1, none⟩ = some (I q 0) := (bc B347.out 1).trans rfl; have hcz67_2 : w65.cell? ⟨g347, 2, none⟩ = some (I q 0) := (bc B347.out 2).trans rfl; have hcz67_3 : w65.cell? ⟨g347, 3, none⟩ = some (.slice none 0 0) := (bc B347.out 3).trans rfl; have hfz67_0 := bf B347.out 0; have hfz67_1 := bf B347.out 1; have hfz67_2 := bf B347.out 2; have hfz67_3 := bf B347.out 3))
            have N0 : Aside0 (Kd.R (Kd.int .u8) 5 ((((w65.setCell ⟨g347, 0, none⟩ (I q ((rd_T64 la2 x60_2).f0))).setCell ⟨g347, 1, none⟩ (I q ((rd_T64 la2 x60_2).f1))).setCell ⟨g347, 2, none⟩ (I q ((rd_T64 la2 x60_2).f2))).setCell ⟨g347, 3, none⟩ (J A346_3 ((rd_T64 la2 x60_2).f3).length c346_3)) w.heap.size (fun _ => True) u3 x3_2) := ⟨by (with_reducible repeat (first | apply ra | apply rN | apply rd1)); exact Kd.R_mono (rf (p := ⟨g347, 3, none⟩) (rf (p := ⟨g347, 2, none⟩) (rf (p := ⟨g347, 1, none⟩) (rf (p := ⟨g347, 0, none⟩) (Kd.R_types o0.out B347.out (by decide)) (fun _ hk => hk.2) (I q ((rd_T64 la2 x60_2).f0))) (fun _ hk => hk.2) (I q ((rd_T64 la2 x60_2).f1))) (fun _ hk => hk.2) (I q ((rd_T64 la2 x60_2).f2))) (fun _ hk => hk.2) (J A346_3 ((rd_T64 la2 x60_2).f3).length c346_3)) (fun _ hk => trivial)⟩
            have N1 : Aside0 (((((w65.setCell ⟨g347, 0, none⟩ (I q ((rd_T64 la2 x60_2).f0))).setCell ⟨g347, 1, none⟩ (I q ((rd_T64 la2 x60_2).f1))).setCell ⟨g347, 2, none⟩ (I q ((rd_T64 la2 x60_2).f2))).setCell ⟨g347, 3, none⟩ (J A346_3 ((rd_T64 la2 x60_2).f3).length c346_3)).heap[g304]? = some (.cells #[I q aa0, J Aa1 la1.length ca1, .slice (some ad346) la2.length ca2] 31 (0, 0))) := ⟨by (iterate 4 ((with_reducible repeat (first | apply bN | apply bd | apply ba)); refine bq ?_ NB304_347.out _)); (with_reducible repeat (first | apply bN | apply bd | apply ba)); exact B304.out⟩
            have N2 : Aside0 (((((w65.setCell ⟨g347, 0, none⟩ (I q ((rd_T64 la2 x60_2).f0))).setCell ⟨g347, 1, none⟩ (I q ((rd_T64 la2 x60_2).f1))).setCell ⟨g347, 2, none⟩ (I q ((rd_T64 la2 x60_2).f2))).setCell ⟨g347, 3, none⟩ (J A346_3 ((rd_T64 la2 x60_2).f3).length c346_3)).heap[g347]? = some (.cells #[I q ((rd_T64 la2 x60_2).f0), I q ((rd_T64 la2 x60_2).f1), I q ((rd_T64 la2 x60_2).f2), J A346_3 ((rd_T64 la2 x60_2).f3).length c346_3] 64 (0, 0))) := ⟨by (with_reducible repeat (first | apply bN | apply bd | apply ba)); exact pu4i B347.out⟩
            have N3 : Aside0 (Below w.heap.size w ((((w65.setCell ⟨g347, 0, none⟩ (I q ((rd_T64 la2 x60_2).f0))).setCell ⟨g347, 1, none⟩ (I q ((rd_T64 la2 x60_2).f1))).setCell ⟨g347, 2, none⟩ (I q ((rd_T64 la2 x60_2).f2))).setCell ⟨g347, 3, none⟩ (J A346_3 ((rd_T64 la2 x60_2).f3).length c346_3))) := ⟨by repeat (first | (with_reducible first | exact HB.out | apply pa | apply pN | apply p1 | refine bs ?_ E304.out | refine bs ?_ E347.out) | exact HB.out)⟩
            (try clear o0)
            (try clear B304)
            (try clear B347)
            (try clear HB)
            generalize ((((w65.setCell ⟨g347, 0, none⟩ (I q ((rd_T64 la2 x60_2).f0))).setCell ⟨g347, 1, none⟩ (I q ((rd_T64 la2 x60_2).f1))).setCell ⟨g347, 2, none⟩ (I q ((rd_T64 la2 x60_2).f2))).setCell ⟨g347, 3, none⟩ (J A346_3 ((rd_T64 la2 x60_2).f3).length c346_3)) = w68 at N0 N1 N2 N3 ⊢
            have o0 := N0
            have B304 := N1
            have B347 := N2
            have HB := N3
            clear N0 N1 N2 N3
            have N0 := am (rd1 o0.out)
            have N1 := am (bd B304.out)
            have N2 := am (bd B347.out)
            have N3 := am (p1 HB.out)
            clear o0
            clear B304
            clear B347
            clear HB
            have o0 := N0
            have B304 := N1
            have B347 := N2
            have HB := N3
            clear N0 N1 N2 N3
            obtain ⟨Ao70, co70, eo70⟩ := Kd.R_slice o0.out
            (first | subst eo70 | (injection eo70 with f1_ f2_ f3_; have f4_ := f1_.symm; have f5_ := f3_.symm; clear f1_ f2_ f3_; subst f4_; subst f5_))
            refine start_ (n := 8) (S := fun w' => w'.cell? ⟨g347, 0, none⟩ = some (I q ((rd_T64 la2 x60_2).f0)) ∧ w'.cell? ⟨g347, 1, none⟩ = some (I q ((rd_T64 la2 x60_2).f1)) ∧ w'.cell? ⟨g347, 2, none⟩ = some (I q ((rd_T64 la2 x60_2).f2)) ∧ w'.cell? ⟨g347, 3, none⟩ = some (J A346_3 ((rd_T64 la2 x60_2).f3).length c346_3)) (ds := []) #[false, false, false, false, false, false, false, false] (by kernel_rfl) rfl rfl ⟨(bc B347.out 0).trans rfl, (bc B347.out 1).trans rfl, (bc B347.out 2).trans rfl, (bc B347.out 3).trans rfl⟩ (fun hHeld => ?_); refine with_tabW impl_packConfig.tab14 impl_packConfig.bits14 (fun HT_ HW_ => ?_)
            generalize w68.drew = w69 at o0 B304 B347 HB hHeld ⊢
            refine pure_ (i := 0) (N := some 64) (v := ?_) (a' := ?_) #[true, false, false, false, false, false, false, false] rfl rfl (any_of HT_.out (by kernel_rfl)) (fun _ _ _ h => h) (Or.inl ⟨by rfl, ?_⟩) ?_ ?_
            rotate_left
            ·intro w'
             first | (go_simp; with_reducible rfl) | (go_simp; (try unfold Instr.field); go_simp; (try simp only [asAgg]); go_simp; with_reducible rfl)
            rotate_left
            ·simp only [Act.put, List.setIfInBounds_toArray, List.set_cons_zero, List.set_cons_succ, i64_w, i32_w]
             rfl
            refine pure_ (i := 1) (N := some 65) (v := ?_) (a' := ?_) #[true, true, false, false, false, false, false, false] rfl rfl (any_of HT_.out (by kernel_rfl)) (fun _ _ _ h => h) (Or.inl ⟨by rfl, ?_⟩) ?_ ?_
            rotate_left
            ·intro w'
             first | (go_simp; with_reducible rfl) | (go_simp; (try unfold Instr.field); go_simp; (try simp only [asAgg]); go_simp; with_reducible rfl)
            rotate_left
            ·simp only [Act.put, List.setIfInBounds_toArray, List.set_cons_zero, List.set_cons_succ, i64_w, i32_w]
             rfl
            refine pure_ (i := 4) (N := some 68) (v := ?_) (a' := ?_) #[true, true, false, false, true, false, false, false] rfl rfl (any_of HT_.out (by kernel_rfl)) (fun _ _ _ h => h) (Or.inl ⟨by rfl, ?_⟩) ?_ ?_
            rotate_left
            ·intro w'
             first | (go_simp; with_reducible rfl) | (go_simp; (try unfold Instr.field); go_simp; (try simp only [asAgg]); go_simp; with_reducible rfl)
            rotate_left
            ·simp only [Act.put, List.setIfInBounds_toArray, List.set_cons_zero, List.set_cons_succ, i64_w, i32_w]
             rfl
            refine take_ (i := 2) (N := some 66) (v := ?_) (a' := ?_) #[true, true, true, false, true, false, false, false] rfl rfl (take_ofW HT_.out HW_.out (by kernel_rfl)) (fun _ _ _ h => h) (Or.inl ⟨by rfl, ?_⟩) hHeld ?_ ?_
            rotate_left
            ·rintro w' ⟨s0, s1, s2, s3⟩
             go_simp
             with_reducible rfl
            rotate_left
            ·simp only [Act.put, List.setIfInBounds_toArray, List.set_cons_zero, List.set_cons_succ, i64_w, i32_w]
             rfl
            refine take_ (i := 5) (N := some 69) (v := ?_) (a' := ?_) #[true, true, true, false, true, true, false, false] rfl rfl (take_ofW HT_.out HW_.out (by kernel_rfl)) (fun _ _ _ h => h) (Or.inl ⟨by rfl, ?_⟩) hHeld ?_ ?_
            rotate_left
            ·rintro w' ⟨s0, s1, s2, s3⟩
             go_simp
             with_reducible rfl
            rotate_left
            ·simp only [Act.put, List.setIfInBounds_toArray, List.set_cons_zero, List.set_cons_succ, i64_w, i32_w]
             rfl
            refine one_ (i := 3) (N := some 67) #[true, true, true, true, true, true, false, false] rfl rfl (one_of HT_.out (by kernel_rfl)) (by decide) (fun K hK => ?_)
            refine goes_ Try.func125 (by kernel_rfl) rfl #[J Ao70 x3_2.length co70, I q ((rd_T64 la2 x60_2).f0), I q 4] (by rfl) rfl rfl (by (try simp only [List.map_toArray, List.map_cons, List.map_nil]); first | done | rfl | (simp only [List.length_drop, List.length_take]; rfl)) ?_
            with_reducible refine (impl_put.calls k2 (fun k_ => some k_ = (J Ao70 x3_2.length co70 : Value).ownBlock) (J Ao70 x3_2.length co70) x3_2 ((rd_T64 la2 x60_2).f0) 4 t348 w _ ?side1 ?side2 A62.out).mono ?_
            (case side1 => repeat (first | (with_reducible first | exact HB.out | apply pa | apply pN | apply p1 | refine bs ?_ E304.out | refine bs ?_ E347.out) | exact HB.out))
            (case side2 => exact Kd.R_tight rfl o0.out)
            rintro e w71 ⟨v349, rfl, ho0, hb, hkp⟩
            refine ⟨_, rfl, ?_⟩
            have N0 := am (blk_kept (by (with_reducible repeat (first | apply bN | apply bd | apply ba)); exact B304.out) hkp (fun hs_ => (fun e_ => (Kd.R_ne o0.out B304.out (by decide)) e_) hs_))
            have N1 := am (blk_kept (by (with_reducible repeat (first | apply bN | apply bd | apply ba)); exact B347.out) hkp (fun hs_ => (fun e_ => (Kd.R_ne o0.out B347.out (by decide)) e_) hs_))
            have N2 := am (Kd.R_mono (ok' := fun k_ => True) ho0 (fun k_ hk_ => trivial))
            have N3 := am (hb)
            clear B304
            clear B347
            clear HB
            clear o0
            have B304 := N0
            have B347 := N1
            have O350 := N2
            have HB := N3
            clear N0 N1 N2 N3
            (try clear hb)
            (try clear hkp)
            (try clear ho0)
            obtain ⟨Ao72, co72, eo72⟩ := Kd.R_slice O350.out
            (first | subst eo72 | (injection eo72 with f1_ f2_ f3_; have f4_ := f1_.symm; have f5_ := f3_.symm; clear f1_ f2_ f3_; subst f4_; subst f5_))
            refine hK.out _ _ ⟨(bc B347.out 0).trans rfl, (bc B347.out 1).trans rfl, (bc B347.out 2).trans rfl, (bc B347.out 3).trans rfl⟩ (fun hHeld => ?_)
            clear hK K
            refine norm_ (a' := ?_) ?_ ?_
            rotate_left
            ·show Act.put _ (some 67) _ = _
             simp only [Act.put, List.setIfInBounds_toArray, List.set_cons_zero, List.set_cons_succ, i64_w, i32_w]
             rfl
            refine one_ (i := 6) (N := some 70) #[true, true, true, true, true, true, true, false] rfl rfl (one_of HT_.out (by kernel_rfl)) (by decide) (fun K hK => ?_)
            refine goes_ Try.func125 (by kernel_rfl) rfl #[J Ao72 t348.length co72, I q ((rd_T64 la2 x60_2).f1), I q 2] (by rfl) rfl rfl (by (try simp only [List.map_toArray, List.map_cons, List.map_nil]); first | done | rfl | (simp only [List.length_drop, List.length_take]; rfl)) ?_
            with_reducible refine (impl_put.calls k2 (fun k_ => some k_ = (J Ao72 t348.length co72 : Value).ownBlock) (J Ao72 t348.length co72) t348 ((rd_T64 la2 x60_2).f1) 2 t351 w _ ?side1 ?side2 A63.out).mono ?_
            (case side1 => repeat (first | (with_reducible first | exact HB.out | apply pa | apply pN | apply p1 | refine bs ?_ E304.out | refine bs ?_ E347.out) | exact HB.out))
            (case side2 => exact Kd.R_tight rfl O350.out)
            rintro e w73 ⟨v352, rfl, ho0, hb, hkp⟩
            refine ⟨_, rfl, ?_⟩
            have N0 := am (blk_kept (by (with_reducible repeat (first | apply bN | apply bd | apply ba)); exact B304.out) hkp (fun hs_ => (fun e_ => (Kd.R_ne O350.out B304.out (by decide)) e_) hs_))
            have N1 := am (blk_kept (by (with_reducible repeat (first | apply bN | apply bd | apply ba)); exact B347.out) hkp (fun hs_ => (fun e_ => (Kd.R_ne O350.out B347.out (by decide)) e_) hs_))
            have N2 := am (Kd.R_mono (ok' := fun k_ => True) ho0 (fun k_ hk_ => trivial))
            have N3 := am (hb)
            clear B304
            clear B347
            clear HB
            clear O350
            have B304 := N0
            have B347 := N1
            have O353 := N2
            have HB := N3
            clear N0 N1 N2 N3
            (try clear hb)
            (try clear hkp)
            (try clear ho0)
            refine hK.out _ _ ⟨(bc B347.out 0).trans rfl, (bc B347.out 1).trans rfl, (bc B347.out 2).trans rfl, (bc B347.out 3).trans rfl⟩ (fun hHeld => ?_)
            clear hK K
            refine norm_ (a' := ?_) ?_ ?_
            rotate_left
            ·show Act.put _ (some 70) _ = _
             simp only [Act.put, List.setIfInBounds_toArray, List.set_cons_zero, List.set_cons_succ, i64_w, i32_w]
             rfl
            refine pure_ (i := 7) (N := some 3) (v := ?_) (a' := ?_) #[true, true, true, true, true, true, true, true] rfl rfl (any_of HT_.out (by kernel_rfl)) (fun _ _ _ h => h) (Or.inl ⟨by rfl, ?_⟩) ?_ ?_
            rotate_left
            ·intro w'
             first | (go_simp; with_reducible rfl) | (go_simp; (try unfold Instr.field); go_simp; (try simp only [asAgg]); go_simp; with_reducible rfl)
            rotate_left
            ·simp only [Act.put, List.setIfInBounds_toArray, List.set_cons_zero, List.set_cons_succ, i64_w, i32_w]
             rfl
            refine done_ (done_of HT_.out (by kernel_rfl)) ?_
            have hcz74_0 : w73.cell? ⟨g347, 0, none⟩ = some (I q ((rd_T64 la2 x60_2).f0)) := (bc B347.out 0).trans rfl
            have hcz74_1 : w73.cell? ⟨g347, 1, none⟩ = some (I q ((rd_T64 la2 x60_2).f1)) := (bc B347.out 1).trans rfl
            have hcz74_2 : w73.cell? ⟨g347, 2, none⟩ = some (I q ((rd_T64 la2 x60_2).f2)) := (bc B347.out 2).trans rfl
            have hcz74_3 : w73.cell? ⟨g347, 3, none⟩ = some (J A346_3 ((rd_T64 la2 x60_2).f3).length c346_3) := (bc B347.out 3).trans rfl
            have hfz74_0 := bf B347.out 0
            have hfz74_1 := bf B347.out 1
            have hfz74_2 := bf B347.out 2
            have hfz74_3 := bf B347.out 3
            try go_wp2_with (first | ((with_reducible refine gate_dst (N := 79) rfl ?_); refine Kd.R_lit (Kd.int .u8) _ 5 ?hg (N := 79) ?hd (xs := ([((rd_T64 la2 x60_2).f2) % 256, ((((rd_T64 la2 x60_2).f3).length : Int)) % 256] : List Int)) (inner := [.int .u8 (((rd_T64 la2 x60_2).f2) % 256), .int .u8 (((((rd_T64 la2 x60_2).f3).length : Int)) % 256)]) (ok := fun _ => True) (okp := fun _ => True) ?hr ?hp (fun _ hk => hk) trivial (Below.refl _ _) (Nat.le_refl _) (by simp) ?_; (case hd => rfl); (case hg => rfl); (case hr => first | (go_simp; done) | (go_simp; rfl)); (case hp => exact (Reps.one (show Kd.M (Kd.int .u8) _ _ _ (((rd_T64 la2 x60_2).f2) % 256) [.int .u8 (((rd_T64 la2 x60_2).f2) % 256)] from rfl) (Reps.one (show Kd.M (Kd.int .u8) _ _ _ (((((rd_T64 la2 x60_2).f3).length : Int)) % 256) [.int .u8 (((((rd_T64 la2 x60_2).f3).length : Int)) % 256)] from rfl) (Reps.none _ _)))); intro v355 w75 ho76 hb hg_ hnew_; clear hg_ hnew_; (first | rw [← Ny354.out] at ho76 | (simp only [Int.reduceToNat] at ho76; rw [← Ny354.out] at ho76)); have N0 := am (re (by (with_reducible repeat (first | apply ra | apply rN | apply rd1)); exact O353.out) (Kd.R_base ho76) hb); have N1 := am (rw1 (rn ho76 (rl (by (with_reducible repeat (first | apply ra | apply rN | apply rd1)); exact O353.out))) (bz (by repeat (first | (with_reducible first | exact HB.out | apply pa | apply pN | apply p1 | refine bs ?_ E304.out | refine bs ?_ E347.out) | exact HB.out)))); have N2 := am (bb (g := g304) (by (with_reducible repeat (first | apply bN | apply bd | apply ba)); exact B304.out) hb); have N3 := am (bb (g := g347) (by (with_reducible repeat (first | apply bN | apply bd | apply ba)); exact B347.out) hb); have N4 := am (bp (by repeat (first | (with_reducible first | exact HB.out | apply pa | apply pN | apply p1 | refine bs ?_ E304.out | refine bs ?_ E347.out) | exact HB.out)) hb); clear O353 B304 B347 HB; have O353 := N0; have O356 := N1; have B304 := N2; have B347 := N3; have HB := N4; clear N0 N1 N2 N3 N4 hb ho76; obtain ⟨Ao78, co78, eo78⟩ := Kd.R_slice O356.out; subst eo78) | ((with_reducible refine gate_builtin (b := .append) (xs := #[.tmp 71, .tmp 79]) rfl ?_); at_builtin; refine Kd.R_append_rows (Kd.int .u8) (w0 := w) w.heap.size rfl (.tmp 71) (.tmp 79) 58 5 (.int .u8 0) 1 rfl Try.underlying58 info5 rfl (by decide) (by omega) v352 t351 y354 _ _ _ (fun k_ => some k_ ≠ (J Ao78 y354.length co78 : Value).ownBlock) (fun _ => False) rfl rfl ?aO ?aR (fun _ _ h => h) (fun _ h => h.elim) ?aF ?aB ?aS ?aL ?_; (case aR => repeat (first | exact (Kd.R_reads' O356.out).2.2 | (with_reducible refine ca ?_ _) | (with_reducible refine cN ?_ _) | (with_reducible refine cd1 ?_))); (case aB => exact (by repeat (first | (with_reducible first | exact HB.out | apply pa | apply pN | apply p1 | refine bs ?_ E304.out | refine bs ?_ E347.out) | exact HB.out))); (case aF => exact (fun k_ hk => Kd.fresh' (rl (by (with_reducible repeat (first | apply ra | apply rN | apply rd1)); exact O356.out)) k_ hk)); (case aO => exact (by (with_reducible repeat (first | apply ra | apply rN | apply rd1)); exact Kd.R_mono O353.out (fun _ hk => hk.2))); (case aS => exact (bz (by repeat (first | (with_reducible first | exact HB.out | apply pa | apply pN | apply p1 | refine bs ?_ E304.out | refine bs ?_ E347.out) | exact HB.out)))); (case aL => have := LMc64.out; omega); intro v358 w77 ho hb hg hat; rw [← Ny357.out] at ho; have N0 := am (blk_grown (g := g304) (o := .cells #[I q aa0, J Aa1 la1.length ca1, .slice (some ad346) la2.length ca2] 31 (0, 0)) (by (with_reducible repeat (first | apply bN | apply bd | apply ba)); exact B304.out) hg (Kd.R_ne O353.out B304.out (by decide))); have N1 := am (blk_grown (g := g347) (o := .cells #[I q ((rd_T64 la2 x60_2).f0), I q ((rd_T64 la2 x60_2).f1), I q ((rd_T64 la2 x60_2).f2), J A346_3 ((rd_T64 la2 x60_2).f3).length c346_3] 64 (0, 0)) (by (with_reducible repeat (first | apply bN | apply bd | apply ba)); exact B347.out) hg (Kd.R_ne O353.out B347.out (by decide))); have N2 := am (Kd.R_after (ok := (fun _ => True)) (by (with_reducible repeat (first | apply ra | apply rN | apply rd1)); exact O356.out) hg hat); have N3 := am (hb); have N4 := am (ho); clear B304 B347 O356 HB O353; have B304 := N0; have B347 := N1; have O356 := N2; have HB := N3; have O359 := N4; clear N0 N1 N2 N3 N4 ho hb hg hat; have hcz79_0 : w77.cell? ⟨g347, 0, none⟩ = some (I q ((rd_T64 la2 x60_2).f0)) := (bc B347.out 0).trans rfl; have hcz79_1 : w77.cell? ⟨g347, 1, none⟩ = some (I q ((rd_T64 la2 x60_2).f1)) := (bc B347.out 1).trans rfl; have hcz79_2 : w77.cell? ⟨g347, 2, none⟩ = some (I q ((rd_T64 la2 x60_2).f2)) := (bc B347.out 2).trans rfl; have hcz79_3 : w77.cell? ⟨g347, 3, none⟩ = some (J A346_3 ((rd_T64 la2 x60_2).f3).length c346_3) := (bc B347.out 3).trans rfl; have hfz79_0 := bf B347.out 0; have hfz79_1 := bf B347.out 1; have hfz79_2 := bf B347.out 2; have hfz79_3 := bf B347.out 3))
            go_loopg [3, 84] k2 (fun kq v3 v84 w' => ∃ (x3_3 : List Int) (x84_3 : Int), v84 = I q x84_3 ∧ Aside0 (impl_packConfig.l2 kq x3_3 la2 (la2.length : Int) x60_2 ((rd_T64 la2 x60_2).f3) (((rd_T64 la2 x60_2).f3).length : Int) x84_3 = some r) ∧ Aside0 (kq ≤ k2) ∧ Aside0 (Kd.R (Kd.int .u8) 5 w' w.heap.size (fun _ => True) v3 x3_3) ∧ Aside0 (w'.heap[g304]? = some (.cells #[I q aa0, (J Aa1 la1.length ca1), (.slice (some ad346) la2.length ca2)] 31 (0, 0))) ∧ Aside0 (w'.heap[g347]? = some (.cells #[I q ((rd_T64 la2 x60_2).f0), I q ((rd_T64 la2 x60_2).f1), I q ((rd_T64 la2 x60_2).f2), (J A346_3 ((rd_T64 la2 x60_2).f3).length c346_3)] 64 (0, 0))) ∧ Aside0 (Below w.heap.size w w'))
            case atStart => exact ⟨(y357), (0), (by first | rfl | (simp; done) | (simp [*]; done)), H', ⟨Nat.le_refl _⟩, ⟨by (with_reducible repeat (first | apply ra | apply rN | apply rd1)); exact Kd.R_mono O359.out (fun _ hk => trivial)⟩, ⟨by (with_reducible repeat (first | apply bN | apply bd | apply ba)); exact B304.out⟩, ⟨by (with_reducible repeat (first | apply bN | apply bd | apply ba)); exact B347.out⟩, ⟨by repeat (first | (with_reducible first | exact HB.out | apply pa | apply pN | apply p1 | refine bs ?_ E304.out | refine bs ?_ E347.out) | exact HB.out)⟩⟩
            case round =>
             clear H'
             try clear c1
             try clear q1
             try clear c2
             try clear p2
             try clear c3
             try clear p3
             try clear q3
             try clear hx3
             try clear c5
             try clear c6
             try clear p6
             try clear c12
             try clear c13
             try clear c13b0
             try clear c14
             try clear c15
             try clear q16
             try clear c17
             try clear c20
             try clear p31
             try clear q31
             try clear hx31
             try clear c34
             try clear p34
             try clear q34
             try clear hx34
             try clear c37
             try clear c39
             try clear c52
             try clear c59
             try clear c59b0
             try clear c60
             try clear c60b0
             try clear c61
             try clear c61b0
             try clear c64
             try clear p64
             try clear c66
             try clear hcz40_0
             try clear hcz40_1
             try clear hcz40_2
             try clear hcz40_3
             try clear hcz40_4
             try clear hcz53_0
             try clear hcz53_1
             try clear hcz53_2
             try clear hcz58_0
             try clear hcz58_1
             try clear hcz58_2
             try clear hcz67_0
             try clear hcz67_1
             try clear hcz67_2
             try clear hcz67_3
             try clear hcz74_0
             try clear hcz74_1
             try clear hcz74_2
             try clear hcz74_3
             try clear hcz79_0
             try clear hcz79_1
             try clear hcz79_2
             try clear hcz79_3
             try clear hfz40_0
             try clear hfz40_1
             try clear hfz40_2
             try clear hfz40_3
             try clear hfz40_4
             try clear hfz53_0
             try clear hfz53_1
             try clear hfz53_2
             try clear hfz58_0
             try clear hfz58_1
             try clear hfz58_2
             try clear hfz67_0
             try clear hfz67_1
             try clear hfz67_2
             try clear hfz67_3
             try clear hfz74_0
             try clear hfz74_1
             try clear hfz74_2
             try clear hfz74_3
             try clear hfz79_0
             try clear hfz79_1
             try clear hfz79_2
             try clear hfz79_3
             try clear hx314_0
             try clear hx314_1
             try clear hx314_2
             try clear hx314_3
             try clear hx314_4
             try clear hx346_0
             try clear hx346_1
             try clear hx346_2
             try clear hx346_3
             try clear p2
             try clear p3
             try clear p31
             try clear p314
             try clear p346
             try clear p6
             try clear q1
             try clear q16
             try clear q3
             try clear q31
             try clear q314
             try clear q346
             obtain ⟨x3_3, x84_3, rfl, HA, HK3, o0, B304, B347, HB⟩ := hrel
             cases gk with
             | zero => exact absurd HA.out (by simp [impl_packConfig.l2])
             | succ k3 =>
              have H := HA.out
              clear HA
              simp only [impl_packConfig.l2] at H
              by_cases c80 : x84_3 < (((rd_T64 la2 x60_2).f3).length : Int)
              ·rw [if_pos c80] at H
               have c80b0 : decide (x84_3 < (((rd_T64 la2 x60_2).f3).length : Int)) = true := decide_eq_true c80
               clear c80
               by_cases c81 : 0 ≤ x84_3
               ·rw [if_pos c81] at H
                have c81b0 : decide (0 ≤ x84_3) = true := decide_eq_true c81
                clear c81
                by_cases c82 : x84_3 < (((rd_T64 la2 x60_2).f3).length : Int)
                ·rw [if_pos c82] at H
                 have c82b0 : decide (x84_3 < (((rd_T64 la2 x60_2).f3).length : Int)) = true := decide_eq_true c82
                 clear c82
                 replace H := Option.bind_eq_some_iff.mp H
                 obtain ⟨t361, A830, H⟩ := H
                 replace H : (impl_packConfig.l2 k3 t361 la2 (la2.length : Int) x60_2 ((rd_T64 la2 x60_2).f3) (((rd_T64 la2 x60_2).f3).length : Int) (wrap64 (x84_3 + 1))) = some r := H
                 have A83 := am A830
                 clear A830
                 have H' := am H
                 clear H
                 have p360 : 0 ≤ (x84_3 : Int) := of_decide_eq_true (by first | (with_reducible assumption) | assumption)
                 have q360 : x84_3 < (((rd_T64 la2 x60_2).f3).length : Int) := of_decide_eq_true (by first | (with_reducible assumption) | assumption)
                 obtain ⟨ad360, e360, hx360_0⟩ := Kd.at_int HR346_3.out x84_3 p360 q360
                 cases e360
                 replace hx360_0 := (HB.out.cell (World.block_lt_of_cell? w _ hx360_0)).trans hx360_0
                 replace p360 := eq_true p360
                 replace q360 := eq_true q360
                 obtain ⟨Ao84, co84, eo84⟩ := Kd.R_slice o0.out
                 subst eo84
                 go_wp2_with (first | ((with_reducible refine gate_callee (f := 125) rfl ?_); refine goesL_ (some 90) rfl rfl Try.func125 (by kernel_rfl) rfl #[J Ao84 x3_3.length co84, I q (rd ((rd_T64 la2 x60_2).f3) x84_3), I q 2] rfl (by (try simp only [List.map_toArray, List.map_cons, List.map_nil]); first | done | rfl) ?_; (with_reducible refine (impl_put.calls k3 (fun k_ => some k_ = (J Ao84 x3_3.length co84 : Value).ownBlock) (J Ao84 x3_3.length co84) x3_3 (rd ((rd_T64 la2 x60_2).f3) x84_3) 2 t361 w _ ?side1 ?side2 A83.out).mono ?_); (case side1 => repeat (first | (with_reducible first | exact HB.out | apply pa | apply pN | apply p1 | refine bs ?_ E304.out | refine bs ?_ E347.out) | exact HB.out)); (case side2 => exact Kd.R_tight rfl o0.out); rintro e w85 ⟨v362, rfl, ho0, hb, hkp⟩; refine ⟨_, rfl, ?_⟩; have N0 := am (blk_kept (by (with_reducible repeat (first | apply bN | apply bd | apply ba)); exact B304.out) hkp (fun hs_ => (fun e_ => (Kd.R_ne o0.out B304.out (by decide)) e_) hs_)); have N1 := am (blk_kept (by (with_reducible repeat (first | apply bN | apply bd | apply ba)); exact B347.out) hkp (fun hs_ => (fun e_ => (Kd.R_ne o0.out B347.out (by decide)) e_) hs_)); have N2 := am (Kd.R_mono (ok' := fun k_ => True) ho0 (fun k_ hk_ => trivial)); have N3 := am (hb); clear B304 B347 HB o0; have B304 := N0; have B347 := N1; have O363 := N2; have HB := N3; clear N0 N1 N2 N3; (try clear hb); (try clear hkp); (try clear ho0)))
                 go_roundg k3
                 case measure => have := HK1.out; have := HK2.out; have := HK3.out; omega
                 case rel => exact ⟨(t361), (wrap64 (x84_3 + 1)), (by first | rfl | (simp; done) | (simp [*]; done)), H', ⟨by have := HK1.out; have := HK2.out; have := HK3.out; omega⟩, ⟨by (with_reducible repeat (first | apply ra | apply rN | apply rd1)); exact O363.out⟩, ⟨by (with_reducible repeat (first | apply bN | apply bd | apply ba)); exact B304.out⟩, ⟨by (with_reducible repeat (first | apply bN | apply bd | apply ba)); exact B347.out⟩, ⟨by repeat (first | (with_reducible first | exact HB.out | apply pa | apply pN | apply p1 | refine bs ?_ E304.out | refine bs ?_ E347.out) | exact HB.out)⟩⟩
                ·rw [if_neg c82] at H
                 exact absurd H (by simp)
               ·rw [if_neg c81] at H
                exact absurd H (by simp)
              ·rw [if_neg c80] at H
               have c80b0 : decide (x84_3 < (((rd_T64 la2 x60_2).f3).length : Int)) = false := decide_eq_false c80
               clear c80
               have H' := am H
               clear H
               go_wp2
               go_roundg k3
               case measure => have := HK1.out; have := HK2.out; have := HK3.out; omega
               case rel => exact ⟨(x3_3), (wrap64 (x60_2 + 1)), (by first | rfl | (simp; done) | (simp [*]; done)), H', ⟨by have := HK1.out; have := HK2.out; have := HK3.out; omega⟩, ⟨by (with_reducible repeat (first | apply ra | apply rN | apply rd1)); exact o0.out⟩, ⟨by (with_reducible repeat (first | apply bN | apply bd | apply ba)); exact B304.out⟩, ⟨by repeat (first | (with_reducible first | exact HB.out | apply pa | apply pN | apply p1 | refine bs ?_ E304.out | refine bs ?_ E347.out) | exact HB.out)⟩⟩
           ·rw [if_neg c64] at H
            exact absurd H (by simp)
          ·rw [if_neg c61] at H
           exact absurd H (by simp)
         ·rw [if_neg c60] at H
          exact absurd H (by simp)
        ·rw [if_neg c59] at H
         have c59b0 : decide (x60_2 < (la2.length : Int)) = false := decide_eq_false c59
         clear c59
         obtain rfl := Option.some.inj H
         go_wp2
         go_ret
         exact ⟨_, by first | rfl | (simp [errW_none, errW_some] <;> rfl) | (simp [*, errW_none, errW_some] <;> rfl), by (with_reducible repeat (first | apply ra | apply rN | apply rd1)); exact o0.out, by repeat (first | (with_reducible first | exact HB.out | apply pa | apply pN | apply p1 | refine bs ?_ E304.out) | exact HB.out)⟩
     ·rw [if_neg c52] at H
      exact absurd H (by simp)
 ·rw [if_neg c3] at H
  exact absurd H (by simp)

end Go.Proofs.Ytfmlhpoaipeoeaa.QFnExactPackConfig
