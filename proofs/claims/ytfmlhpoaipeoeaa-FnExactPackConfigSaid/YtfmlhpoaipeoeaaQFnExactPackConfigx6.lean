-- MADE BY PROGRAM (qprint.py): walks of the functions that the law FnExactPackConfig reaches. Lean checks it.
import Derived.Test.YtfmlhpoaipeoeaaQFnExactPackConfigx0
import Derived.Test.YtfmlhpoaipeoeaaQFnExactPackConfigx5
namespace Go.Proofs.Ytfmlhpoaipeoeaa.QFnExactPackConfig
open Go.RowKit Go.Proofs.YtfmlhpoaipeoeaaW.PrintWords Go.Proofs.YtfmlhpoaipeoeaaW.PrintLast Go.Proofs.YtfmlhpoaipeoeaaW.PrintMore
open Go.Proofs.YtfmlhpoaipeoeaaW.PrintWords renaming blk_drewN → bN, blk_drew → bd, blk_alloc → ba, blk_cell → bc, blk_frozen → bf, below_set → bs, pw_below_drewN → pN, below_drew1 → p1, below_alloc → pa, blk_below → bb, below_size → bz, below_step → bp, blk_lt → bl, blk_far → bq, add_block → ab
open Go.Proofs.YtfmlhpoaipeoeaaW.PrintWords.Kd renaming R_drewN → rN, R_drew → rd1, R_alloc → ra, R_far → rf, R_below → rb, R_new' → rn, R_lt → rl, R_elder' → re, R_lower → rw1, C_alloc → ca, C_drewN → cN, C_drew → cd1, S_alloc → sa, S_drewN → sN, S_drew → sd, S_far → sf, S_mono → sm, S_types → st, S_lt → sl
open Go.Proofs.YtfmlhpoaipeoeaaW.PrintWords.Aside0 renaming mk → am
open Go.Value renaming int → I, slice → J
open Go.IntKind renaming i64 → q
attribute [local go_sem] max2_int min2_int max_two min_two max_three min_three max_four min_four   -- for this text's walks alone
set_option linter.unusedVariables false
set_option linter.unusedSimpArgs false
theorem pu4g {W : World} {g t : Nat} {u0 u1 u2 u3 v0 v1 v2 v3 : Value} (h : W.heap[g]? = some (.cells #[u0, u1, u2, u3] t (0, 0))) : ((((W.setCell ⟨g, 0, none⟩ v0).setCell ⟨g, 1, none⟩ v1).setCell ⟨g, 2, none⟩ v2).setCell ⟨g, 3, none⟩ v3).heap[g]? = some (.cells #[v0, v1, v2, v3] t (0, 0)) := by
 refine blk_put (cs := #[v0, v1, v2, u3]) ?_ 3 _ rfl
 refine blk_put (cs := #[v0, v1, u2, u3]) ?_ 2 _ rfl
 refine blk_put (cs := #[v0, u1, u2, u3]) ?_ 1 _ rfl
 exact blk_put (cs := #[u0, u1, u2, u3]) h 0 _ rfl
theorem pu5g {W : World} {g t : Nat} {u0 u1 u2 u3 u4 v0 v1 v2 v3 v4 : Value} (h : W.heap[g]? = some (.cells #[u0, u1, u2, u3, u4] t (0, 0))) : (((((W.setCell ⟨g, 0, none⟩ v0).setCell ⟨g, 1, none⟩ v1).setCell ⟨g, 2, none⟩ v2).setCell ⟨g, 3, none⟩ v3).setCell ⟨g, 4, none⟩ v4).heap[g]? = some (.cells #[v0, v1, v2, v3, v4] t (0, 0)) := by
 refine blk_put (cs := #[v0, v1, v2, v3, u4]) ?_ 4 _ rfl
 refine blk_put (cs := #[v0, v1, v2, u3, u4]) ?_ 3 _ rfl
 refine blk_put (cs := #[v0, v1, u2, u3, u4]) ?_ 2 _ rfl
 refine blk_put (cs := #[v0, u1, u2, u3, u4]) ?_ 1 _ rfl
 exact blk_put (cs := #[u0, u1, u2, u3, u4]) h 0 _ rfl

/-! ### spec_l6Config: function 85 -/
/-- A backend's byte. -/
def Cf.l6n (b : S36) : Int := if b.f4 = true then wrap64 (wrap64 (wrap64 (8 * b.f2) + wrap64 (2 * b.f3)) + 1) else wrap64 (wrap64 (8 * b.f2) + wrap64 (2 * b.f3))
mutual
def spec_l6Config.l0 : Nat → List Int → Int → Int → List (S36) → List (S64) → Option (List Int)
 | 0, _, _, _, _, _ => none
 | k + 1, x3, x4, x233000, x233001, x233002 => if x4 < (x233001.length : Int) then (if 0 ≤ x4 then ((spec_l1Bytes.f k ((rd_T36 x233001 x4).f0) 2).bind fun t244 => (if x3.length + t244.length < 140737488355328 then ((some (x3 ++ t244 : List Int)).bind fun y247 => ((spec_l1Bytes.f k ((rd_T36 x233001 x4).f1) 4).bind fun t250 => (if y247.length + t250.length < 140737488355328 then ((some (y247 ++ t250 : List Int)).bind fun y253 => ((some (([(Cf.l6n (rd_T36 x233001 x4)) % 256] : List Int) : List Int)).bind fun y256 => (if y253.length + y256.length < 140737488355328 then (spec_l6Config.l0 k (y253 ++ y256) (wrap64 (x4 + 1)) x233000 x233001 x233002) else (none)))) else (none)))) else (none))) else (none)) else ((some (([((x233002.length : Int)) % 256] : List Int) : List Int)).bind fun y262 => (if x3.length + y262.length < 140737488355328 then (spec_l6Config.l1 k (x3 ++ y262) 0 x233000 x233001 x233002) else (none)))
def spec_l6Config.l1 : Nat → List Int → Int → Int → List (S36) → List (S64) → Option (List Int)
 | 0, _, _, _, _, _ => none
 | k + 1, x3, x7, x233000, x233001, x233002 => if x7 < (x233002.length : Int) then (if 0 ≤ x7 then ((spec_l1Bytes.f k ((rd_T64 x233002 x7).f0) 4).bind fun t270 => (if x3.length + t270.length < 140737488355328 then ((some (x3 ++ t270 : List Int)).bind fun y273 => ((spec_l1Bytes.f k ((rd_T64 x233002 x7).f1) 2).bind fun t276 => (if y273.length + t276.length < 140737488355328 then ((some (y273 ++ t276 : List Int)).bind fun y279 => ((some (([((rd_T64 x233002 x7).f2) % 256, ((((rd_T64 x233002 x7).f3).length : Int)) % 256] : List Int) : List Int)).bind fun y282 => (if y279.length + y282.length < 140737488355328 then (spec_l6Config.l2 k (y279 ++ y282) x7 0 x233000 x233001 x233002 ((rd_T64 x233002 x7).f0) ((rd_T64 x233002 x7).f1) ((rd_T64 x233002 x7).f2) ((rd_T64 x233002 x7).f3)) else (none)))) else (none)))) else (none))) else (none)) else (some x3)
def spec_l6Config.l2 : Nat → List Int → Int → Int → Int → List (S36) → List (S64) → Int → Int → Int → List Int → Option (List Int)
 | 0, _, _, _, _, _, _, _, _, _, _ => none
 | k + 1, x3, x7, x9, x233000, x233001, x233002, x270000, x270001, x270002, x270003 => if x9 < (x270003.length : Int) then (if 0 ≤ x9 then ((spec_l1Bytes.f k (rd x270003 x9) 2).bind fun t289 => (if x3.length + t289.length < 140737488355328 then (spec_l6Config.l2 k (x3 ++ t289) x7 (wrap64 (x9 + 1)) x233000 x233001 x233002 x270000 x270001 x270002 x270003) else (none))) else (none)) else (spec_l6Config.l1 k x3 (wrap64 (x7 + 1)) x233000 x233001 x233002)
end
def spec_l6Config.f (k : Nat) (aa0 : Int) (la1 : List (S36)) (la2 : List (S64)) : Option (List Int) := (spec_l1Bytes.f k aa0 4).bind fun t233 => ((some (([((la1.length : Int)) % 256] : List Int) : List Int)).bind fun y236 => (if t233.length + y236.length < 140737488355328 then (spec_l6Config.l0 k (t233 ++ y236) 0 aa0 la1 la2) else (none)))
theorem spec_l6Config.mono_l : ∀ k, (∀ y0 y1 y2 y3 y4, LeO (spec_l6Config.l0 k y0 y1 y2 y3 y4) (spec_l6Config.l0 (k + 1) y0 y1 y2 y3 y4)) ∧ (∀ y0 y1 y2 y3 y4, LeO (spec_l6Config.l1 k y0 y1 y2 y3 y4) (spec_l6Config.l1 (k + 1) y0 y1 y2 y3 y4)) ∧ (∀ y0 y1 y2 y3 y4 y5 y6 y7 y8 y9, LeO (spec_l6Config.l2 k y0 y1 y2 y3 y4 y5 y6 y7 y8 y9) (spec_l6Config.l2 (k + 1) y0 y1 y2 y3 y4 y5 y6 y7 y8 y9))
 | 0 => ⟨fun _ _ _ _ _ r h => by simp [spec_l6Config.l0] at h, fun _ _ _ _ _ r h => by simp [spec_l6Config.l1] at h, fun _ _ _ _ _ _ _ _ _ _ r h => by simp [spec_l6Config.l2] at h⟩
 | k + 1 => by
  obtain ⟨ih0, ih1, ih2⟩ := spec_l6Config.mono_l k
  refine ⟨?_, ?_, ?_⟩
  ·intro y0 y1 y2 y3 y4
   unfold spec_l6Config.l0
   repeat' first
   | (with_reducible exact ih0 _ _ _ _ _)
   | (with_reducible exact ih1 _ _ _ _ _)
   | (with_reducible exact ih2 _ _ _ _ _ _ _ _ _ _)
   | (with_reducible exact spec_l1Bytes.mono _ _ _)
   | (with_reducible exact LeO.refl _)
   | (with_reducible exact LeO.none _)
   | (with_reducible refine LeO.ite ?_ ?_)
   | (with_reducible refine LeO.bind ?_ (fun _ => ?_))
   | exact ih0 _ _ _ _ _
   | exact ih1 _ _ _ _ _
   | exact ih2 _ _ _ _ _ _ _ _ _ _
   | exact spec_l1Bytes.mono _ _ _
   | exact LeO.none _
   | refine LeO.ite ?_ ?_
   | refine LeO.bind ?_ (fun _ => ?_)
  ·intro y0 y1 y2 y3 y4
   unfold spec_l6Config.l1
   repeat' first
   | (with_reducible exact ih0 _ _ _ _ _)
   | (with_reducible exact ih1 _ _ _ _ _)
   | (with_reducible exact ih2 _ _ _ _ _ _ _ _ _ _)
   | (with_reducible exact spec_l1Bytes.mono _ _ _)
   | (with_reducible exact LeO.refl _)
   | (with_reducible exact LeO.none _)
   | (with_reducible refine LeO.ite ?_ ?_)
   | (with_reducible refine LeO.bind ?_ (fun _ => ?_))
   | exact ih0 _ _ _ _ _
   | exact ih1 _ _ _ _ _
   | exact ih2 _ _ _ _ _ _ _ _ _ _
   | exact spec_l1Bytes.mono _ _ _
   | exact LeO.none _
   | refine LeO.ite ?_ ?_
   | refine LeO.bind ?_ (fun _ => ?_)
  ·intro y0 y1 y2 y3 y4 y5 y6 y7 y8 y9
   unfold spec_l6Config.l2
   repeat' first
   | (with_reducible exact ih0 _ _ _ _ _)
   | (with_reducible exact ih1 _ _ _ _ _)
   | (with_reducible exact ih2 _ _ _ _ _ _ _ _ _ _)
   | (with_reducible exact spec_l1Bytes.mono _ _ _)
   | (with_reducible exact LeO.refl _)
   | (with_reducible exact LeO.none _)
   | (with_reducible refine LeO.ite ?_ ?_)
   | (with_reducible refine LeO.bind ?_ (fun _ => ?_))
   | exact ih0 _ _ _ _ _
   | exact ih1 _ _ _ _ _
   | exact ih2 _ _ _ _ _ _ _ _ _ _
   | exact spec_l1Bytes.mono _ _ _
   | exact LeO.none _
   | refine LeO.ite ?_ ?_
   | refine LeO.bind ?_ (fun _ => ?_)
theorem spec_l6Config.mono : ∀ a0 a1 a2 k, LeO (spec_l6Config.f k a0 a1 a2) (spec_l6Config.f (k + 1) a0 a1 a2) := by
 intro a0 a1 a2 k
 obtain ⟨ih0, ih1, ih2⟩ := spec_l6Config.mono_l k
 unfold spec_l6Config.f
 repeat' first
   | (with_reducible exact ih0 _ _ _ _ _)
   | (with_reducible exact ih1 _ _ _ _ _)
   | (with_reducible exact ih2 _ _ _ _ _ _ _ _ _ _)
   | (with_reducible exact spec_l1Bytes.mono _ _ _)
   | (with_reducible exact LeO.refl _)
   | (with_reducible exact LeO.none _)
   | (with_reducible refine LeO.ite ?_ ?_)
   | (with_reducible refine LeO.bind ?_ (fun _ => ?_))
   | exact ih0 _ _ _ _ _
   | exact ih1 _ _ _ _ _
   | exact ih2 _ _ _ _ _ _ _ _ _ _
   | exact spec_l1Bytes.mono _ _ _
   | exact LeO.none _
   | refine LeO.ite ?_ ?_
   | refine LeO.bind ?_ (fun _ => ?_)
def spec_l6Config.T1 : Bool × List (List Nat × List Nat) := (true, [([], []), ([0], [0]), ([1], [1]), ([2], [2]), ([3], [3]), ([], []), ([5], [5]), ([6], [6]), ([7], [7]), ([8], [8]), ([9], [9]), ([10], [10]), ([4, 11, 4], [4, 11]), ([12, 12, 0, 1, 2, 3, 4, 5, 6, 7, 8, 9, 10, 11, 12], [12])])
def spec_l6Config.B1 : List Nat := [0, 1, 3, 7, 15, 0, 32, 96, 224, 480, 992, 2016, 4095, 8191]
theorem spec_l6Config.tab1 : rtab .any (opsOf Try.f85 1) = spec_l6Config.T1 := by kernel_rfl
theorem spec_l6Config.bits1 : waitsOk spec_l6Config.T1.2 spec_l6Config.B1 = true := by kernel_rfl
def spec_l6Config.T9 : Bool × List (List Nat × List Nat) := (true, [([], []), ([], []), ([1], [1]), ([2], [2]), ([0, 3, 3], [0, 3]), ([], []), ([5], [5]), ([6, 4], [6]), ([4, 7, 7], [4, 7]), ([], []), ([9], [9]), ([10], [10]), ([8, 11, 8], [8, 11]), ([12, 12, 0, 1, 2, 3, 4, 5, 6, 7, 8, 9, 10, 11, 12], [0, 12])])
def spec_l6Config.B9 : List Nat := [0, 0, 2, 6, 15, 0, 32, 127, 255, 0, 512, 1536, 4095, 8191]
theorem spec_l6Config.tab9 : rtab .any (opsOf Try.f85 9) = spec_l6Config.T9 := by kernel_rfl
theorem spec_l6Config.bits9 : waitsOk spec_l6Config.T9.2 spec_l6Config.B9 = true := by kernel_rfl
def spec_l6Config.T15 : Bool × List (List Nat × List Nat) := (true, [([], []), ([], []), ([1], [1]), ([2], [2]), ([0, 3, 3], [0, 3]), ([], []), ([5], [5]), ([6, 4], [6]), ([4, 7, 7], [4, 7]), ([], []), ([9], [9]), ([10], [10]), ([], []), ([12], [12]), ([13], [13]), ([14], [14]), ([11, 15], [11, 15]), ([8, 16, 8], [8, 16]), ([17, 17, 0, 1, 2, 3, 4, 5, 6, 7, 8, 9, 10, 11, 12, 13, 14, 15, 16, 17], [0, 17])])
def spec_l6Config.B15 : List Nat := [0, 0, 2, 6, 15, 0, 32, 127, 255, 0, 512, 1536, 0, 4096, 12288, 28672, 65024, 131071, 262143]
theorem spec_l6Config.tab15 : rtab .any (opsOf Try.f85 15) = spec_l6Config.T15 := by kernel_rfl
theorem spec_l6Config.bits15 : waitsOk spec_l6Config.T15.2 spec_l6Config.B15 = true := by kernel_rfl
set_option maxHeartbeats 8000000 in
set_option maxRecDepth 100000 in
theorem spec_l6Config.calls (k : Nat) (aa0 : Int) (Aa1 : Option Addr) (ca1 : Nat) (la1 : List (S36)) (Aa2 : Option Addr) (ca2 : Nat) (la2 : List (S64)) (r : List Int) (g232 : Nat) (w : World) (hbk : w.heap[g232]? = some (.cells #[I q aa0, J Aa1 la1.length ca1, J Aa2 la2.length ca2] 31 (0, 0))) (hr0_1 : Kd.C k36 w Aa1 la1.length la1) (hc0_1 : la1.length ≤ ca1) (hr0_2 : Kd.C k64 w Aa2 la2.length la2) (hc0_2 : la2.length ≤ ca2) (h : spec_l6Config.f k aa0 la1 la2 = some r) :
  Calls Try.prog 85 #[.pointer (some ⟨g232, 0, none⟩)] w fun e w' => ∃ v0_ : Value, e = .returned (v0_) ∧ Kd.R (Kd.int .u8) 5 w' w.heap.size (fun _ => True) v0_ r ∧ Below w.heap.size w w' := by
 have hu31 := Try.underlying31
 have hu36 := Try.underlying36
 have hu64 := Try.underlying64
 have HR0_1 := am hr0_1
 have HC0_1 := am hc0_1
 clear hr0_1 hc0_1
 have HR0_2 := am hr0_2
 have HC0_2 := am hc0_2
 clear hr0_2 hc0_2
 have HB := am (Below.refl w.heap.size w)
 have H : ((spec_l1Bytes.f k aa0 4).bind fun t233 => ((some (([((la1.length : Int)) % 256] : List Int) : List Int)).bind fun y236 => (if t233.length + y236.length < 140737488355328 then (spec_l6Config.l0 k (t233 ++ y236) 0 aa0 la1 la2) else (none)))) = some r := h
 clear h
 replace H := Option.bind_eq_some_iff.mp H
 obtain ⟨t233, A20, H⟩ := H
 replace H : ((some (([((la1.length : Int)) % 256] : List Int) : List Int)).bind fun y236 => (if t233.length + y236.length < 140737488355328 then (spec_l6Config.l0 k (t233 ++ y236) 0 aa0 la1 la2) else (none))) = some r := H
 have A2 := am A20
 clear A20
 obtain ⟨y236, hy236⟩ : ∃ y_ : List Int, y_ = (([((la1.length : Int)) % 256] : List Int)) := ⟨_, rfl⟩
 replace H : (if t233.length + y236.length < 140737488355328 then (spec_l6Config.l0 k (t233 ++ y236) 0 aa0 la1 la2) else (none)) = some r := by first | (rw [hy236]; with_reducible exact H) | (have H2_ := (Option.bind_some _ _).symm.trans H; rw [hy236]; with_reducible exact H2_) | (have H2_ := (Option.bind_some _ _).symm.trans H; with_reducible exact H2_) | with_reducible exact H | (rw [hy236]; exact H) | exact H
 have Ny236 := am hy236
 clear hy236
 by_cases c3 : t233.length + y236.length < 140737488355328
 ·rw [if_pos c3] at H
  have LMc3 := am c3
  clear c3
  obtain ⟨y239, hy239⟩ : ∃ y_ : List Int, y_ = (t233 ++ y236) := ⟨_, rfl⟩
  replace H : (spec_l6Config.l0 k y239 0 aa0 la1 la2) = some r := by first | (rw [hy239]; with_reducible exact H) | (have H2_ := (Option.bind_some _ _).symm.trans H; rw [hy239]; with_reducible exact H2_) | (have H2_ := (Option.bind_some _ _).symm.trans H; with_reducible exact H2_) | with_reducible exact H | (rw [hy239]; exact H) | exact H
  have Ny239 := am hy239
  clear hy239
  have H' := am H
  clear H
  go_enter Try.func85, Try.ntmps85
  have B232 := am hbk
  clear hbk
  try go_wp2
  have N0 := am (bd B232.out)
  have N1 := am (p1 HB.out)
  clear B232
  clear HB
  have B232 := N0
  have HB := N1
  clear N0 N1
  refine start_ (n := 14) (S := fun w' => w'.cell? ⟨g232, 0, none⟩ = some (I q aa0) ∧ w'.cell? ⟨g232, 1, none⟩ = some (J Aa1 la1.length ca1) ∧ w'.cell? ⟨g232, 2, none⟩ = some (J Aa2 la2.length ca2)) (ds := []) #[false, false, false, false, false, false, false, false, false, false, false, false, false, false] (by kernel_rfl) rfl rfl ⟨(bc B232.out 0).trans rfl, (bc B232.out 1).trans rfl, (bc B232.out 2).trans rfl⟩ (fun hHeld => ?_); refine with_tabW spec_l6Config.tab1 spec_l6Config.bits1 (fun HT_ HW_ => ?_)
  generalize w.drew = w5 at B232 HB hHeld ⊢
  refine pure_ (i := 0) (N := some 10) (v := ?_) (a' := ?_) #[true, false, false, false, false, false, false, false, false, false, false, false, false, false] rfl rfl (any_of HT_.out (by kernel_rfl)) (fun _ _ _ h => h) (Or.inl ⟨by rfl, ?_⟩) ?_ ?_
  rotate_left
  ·intro w'
   first | (go_simp; with_reducible rfl) | (go_simp; (try unfold Instr.field); go_simp; (try simp only [asAgg]); go_simp; with_reducible rfl)
  rotate_left
  ·simp only [Act.put, List.setIfInBounds_toArray, List.set_cons_zero, List.set_cons_succ, i64_w, i32_w]
   rfl
  refine pure_ (i := 1) (N := some 11) (v := ?_) (a' := ?_) #[true, true, false, false, false, false, false, false, false, false, false, false, false, false] rfl rfl (any_of HT_.out (by kernel_rfl)) (fun _ _ _ h => h) (Or.inl ⟨by rfl, ?_⟩) ?_ ?_
  rotate_left
  ·intro w'
   first | (go_simp; with_reducible rfl) | (go_simp; (try unfold Instr.field); go_simp; (try simp only [asAgg]); go_simp; with_reducible rfl)
  rotate_left
  ·simp only [Act.put, List.setIfInBounds_toArray, List.set_cons_zero, List.set_cons_succ, i64_w, i32_w]
   rfl
  refine pure_ (i := 2) (N := some 12) (v := ?_) (a' := ?_) #[true, true, true, false, false, false, false, false, false, false, false, false, false, false] rfl rfl (any_of HT_.out (by kernel_rfl)) (fun _ _ _ h => h) (Or.inl ⟨by rfl, ?_⟩) ?_ ?_
  rotate_left
  ·intro w'
   first | (go_simp; with_reducible rfl) | (go_simp; (try unfold Instr.field); go_simp; (try simp only [asAgg]); go_simp; with_reducible rfl)
  rotate_left
  ·simp only [Act.put, List.setIfInBounds_toArray, List.set_cons_zero, List.set_cons_succ, i64_w, i32_w]
   rfl
  refine pure_ (i := 5) (N := some 15) (v := ?_) (a' := ?_) #[true, true, true, false, false, true, false, false, false, false, false, false, false, false] rfl rfl (any_of HT_.out (by kernel_rfl)) (fun _ _ _ h => h) (Or.inl ⟨by rfl, ?_⟩) ?_ ?_
  rotate_left
  ·intro w'
   first | (go_simp; with_reducible rfl) | (go_simp; (try unfold Instr.field); go_simp; (try simp only [asAgg]); go_simp; with_reducible rfl)
  rotate_left
  ·simp only [Act.put, List.setIfInBounds_toArray, List.set_cons_zero, List.set_cons_succ, i64_w, i32_w]
   rfl
  refine pure_ (i := 6) (N := some 16) (v := ?_) (a' := ?_) #[true, true, true, false, false, true, true, false, false, false, false, false, false, false] rfl rfl (any_of HT_.out (by kernel_rfl)) (fun _ _ _ h => h) (Or.inl ⟨by rfl, ?_⟩) ?_ ?_
  rotate_left
  ·intro w'
   first | (go_simp; with_reducible rfl) | (go_simp; (try unfold Instr.field); go_simp; (try simp only [asAgg]); go_simp; with_reducible rfl)
  rotate_left
  ·simp only [Act.put, List.setIfInBounds_toArray, List.set_cons_zero, List.set_cons_succ, i64_w, i32_w]
   rfl
  refine pure_ (i := 7) (N := some 17) (v := ?_) (a' := ?_) #[true, true, true, false, false, true, true, true, false, false, false, false, false, false] rfl rfl (any_of HT_.out (by kernel_rfl)) (fun _ _ _ h => h) (Or.inl ⟨by rfl, ?_⟩) ?_ ?_
  rotate_left
  ·intro w'
   first | (go_simp; with_reducible rfl) | (go_simp; (try unfold Instr.field); go_simp; (try simp only [asAgg]); go_simp; with_reducible rfl)
  rotate_left
  ·simp only [Act.put, List.setIfInBounds_toArray, List.set_cons_zero, List.set_cons_succ, i64_w, i32_w]
   rfl
  refine take_ (i := 3) (N := some 13) (v := ?_) (a' := ?_) #[true, true, true, true, false, true, true, true, false, false, false, false, false, false] rfl rfl (take_ofW HT_.out HW_.out (by kernel_rfl)) (fun _ _ _ h => h) (Or.inl ⟨by rfl, ?_⟩) hHeld ?_ ?_
  rotate_left
  ·rintro w' ⟨s0, s1, s2⟩
   go_simp
   with_reducible rfl
  rotate_left
  ·simp only [Act.put, List.setIfInBounds_toArray, List.set_cons_zero, List.set_cons_succ, i64_w, i32_w]
   rfl
  refine take_ (i := 8) (N := some 18) (v := ?_) (a' := ?_) #[true, true, true, true, false, true, true, true, true, false, false, false, false, false] rfl rfl (take_ofW HT_.out HW_.out (by kernel_rfl)) (fun _ _ _ h => h) (Or.inl ⟨by rfl, ?_⟩) hHeld ?_ ?_
  rotate_left
  ·rintro w' ⟨s0, s1, s2⟩
   go_simp
   with_reducible rfl
  rotate_left
  ·simp only [Act.put, List.setIfInBounds_toArray, List.set_cons_zero, List.set_cons_succ, i64_w, i32_w]
   rfl
  refine pure_ (i := 9) (N := some 19) (v := ?_) (a' := ?_) #[true, true, true, true, false, true, true, true, true, true, false, false, false, false] rfl rfl (any_of HT_.out (by kernel_rfl)) (fun _ _ _ h => h) (Or.inl ⟨by rfl, ?_⟩) ?_ ?_
  rotate_left
  ·intro w'
   first | (go_simp; with_reducible rfl) | (go_simp; (try unfold Instr.field); go_simp; (try simp only [asAgg]); go_simp; with_reducible rfl)
  rotate_left
  ·simp only [Act.put, List.setIfInBounds_toArray, List.set_cons_zero, List.set_cons_succ, i64_w, i32_w]
   rfl
  refine pure_ (i := 10) (N := some 20) (v := ?_) (a' := ?_) #[true, true, true, true, false, true, true, true, true, true, true, false, false, false] rfl rfl (any_of HT_.out (by kernel_rfl)) (fun _ _ _ h => h) (Or.inl ⟨by rfl, ?_⟩) ?_ ?_
  rotate_left
  ·intro w'
   first | (go_simp; with_reducible rfl) | (go_simp; (try unfold Instr.field); go_simp; (try simp only [asAgg]); go_simp; with_reducible rfl)
  rotate_left
  ·simp only [Act.put, List.setIfInBounds_toArray, List.set_cons_zero, List.set_cons_succ, i64_w, i32_w]
   rfl
  refine join_ (σ := Value × Value) 2 #[true, true, true, true, true, true, true, true, true, true, true, true, false, false] (fun s_ => [(14, s_.1), (21, s_.2)]) (fun s_ w' => (w'.cell? ⟨g232, 0, none⟩ = some (I q aa0) ∧ w'.cell? ⟨g232, 1, none⟩ = some (J Aa1 la1.length ca1) ∧ w'.cell? ⟨g232, 2, none⟩ = some (J Aa2 la2.length ca2)) ∧ (Kd.R (Kd.int .u8) 5 w' w.heap.size (fun k_ => some k_ ≠ (s_.2 : Value).ownBlock) s_.1 t233) ∧ (Kd.R (Kd.int .u8) 5 w' w.heap.size (fun k_ => some k_ ≠ (s_.1 : Value).ownBlock) s_.2 y236) ∧ (w'.heap[g232]? = some (.cells #[I q aa0, J Aa1 la1.length ca1, J Aa2 la2.length ca2] 31 (0, 0))) ∧ (Below w.heap.size w w')) ?_ ?_
  rotate_left
  ·intro hCont
   refine two_ (i := 4) (j := 11) (Ni := some 14) (Nj := some 21) #[true, true, true, true, true, true, true, true, true, true, true, false, false, false] #[true, true, true, true, false, true, true, true, true, true, true, true, false, false] rfl rfl rfl rfl (two_of HT_.out (by kernel_rfl)) (by decide) (by decide) (fun K hK => ?_) (fun K hK => ?_)
   ·skip
    refine goes_ Try.func124 (by kernel_rfl) rfl #[I q aa0, I q 4] (by rfl) rfl rfl (by (try simp only [List.map_toArray, List.map_cons, List.map_nil]); first | done | rfl | (simp only [List.length_drop, List.length_take]; rfl)) ?_
    with_reducible refine (spec_l1Bytes.calls k aa0 4 t233 _ A2.out).mono ?_
    rintro e w6 ⟨v234, rfl, ho0, hb⟩
    refine ⟨_, rfl, ?_⟩
    have N0 := am (rw1 ho0 (bz (by repeat (first | (with_reducible first | exact HB.out | apply pa | apply pN | apply p1 | refine bs ?_ E232.out) | exact HB.out))))
    have N1 := am (bb (g := g232) (by (with_reducible repeat (first | apply bN | apply bd | apply ba)); exact B232.out) hb)
    have N2 := am (bp (by repeat (first | (with_reducible first | exact HB.out | apply pa | apply pN | apply p1 | refine bs ?_ E232.out) | exact HB.out)) hb)
    clear B232
    clear HB
    have O235 := N0
    have B232 := N1
    have HB := N2
    clear N0 N1 N2
    (try clear hb)
    (try clear hb2)
    (try clear hk)
    (try clear hi)
    (try clear ho0)
    refine hK.out _ _ ⟨(bc B232.out 0).trans rfl, (bc B232.out 1).trans rfl, (bc B232.out 2).trans rfl⟩ (fun hHeld => ?_)
    clear hK K
    refine norm_ (a' := ?_) ?_ ?_
    rotate_left
    ·show Act.put _ (some 14) _ = _
     simp only [Act.put, List.setIfInBounds_toArray, List.set_cons_zero, List.set_cons_succ, i64_w, i32_w]
     rfl
    refine one_ (i := 11) (N := some 21) #[true, true, true, true, true, true, true, true, true, true, true, true, false, false] rfl rfl (one_of HT_.out (by kernel_rfl)) (by decide) (fun K hK => ?_)
    refine Kd.R_lit_step (Kd.int .u8) _ 5 ?hg (N := 21) ?hd (xs := ([((la1.length : Int)) % 256] : List Int)) (inner := [.int .u8 (((la1.length : Int)) % 256)]) (ok := fun _ => True) (okp := fun _ => True) ?hr ?hp (fun _ hk => hk) trivial (Below.refl _ _) (Nat.le_refl _) (by simp) ?_; (case hd => rfl); (case hg => rfl); (case hr => first | (go_simp; done) | (go_simp; rfl)); (case hp => exact (Reps.one (show Kd.M (Kd.int .u8) _ _ _ (((la1.length : Int)) % 256) [.int .u8 (((la1.length : Int)) % 256)] from rfl) (Reps.none _ _)))
    intro v237 w7 ho8 hb hg_ hnew_
    clear hg_ hnew_
    (first | rw [← Ny236.out] at ho8 | (simp only [Int.reduceToNat] at ho8; rw [← Ny236.out] at ho8))
    have N0 := am (re (by (with_reducible repeat (first | apply ra | apply rN | apply rd1)); exact O235.out) (Kd.R_base ho8) hb)
    have N1 := am (rw1 (rn ho8 (rl (by (with_reducible repeat (first | apply ra | apply rN | apply rd1)); exact O235.out))) (bz (by repeat (first | (with_reducible first | exact HB.out | apply pa | apply pN | apply p1 | refine bs ?_ E232.out) | exact HB.out))))
    have N2 := am (bb (g := g232) (by (with_reducible repeat (first | apply bN | apply bd | apply ba)); exact B232.out) hb)
    have N3 := am (bp (by repeat (first | (with_reducible first | exact HB.out | apply pa | apply pN | apply p1 | refine bs ?_ E232.out) | exact HB.out)) hb)
    clear O235
    clear B232
    clear HB
    have O235 := N0
    have O238 := N1
    have B232 := N2
    have HB := N3
    clear N0 N1 N2 N3
    clear hb ho8
    refine hK.out _ _ ⟨(bc B232.out 0).trans rfl, (bc B232.out 1).trans rfl, (bc B232.out 2).trans rfl⟩ (fun hHeld => ?_)
    clear hK K
    refine norm_ (a' := ?_) ?_ ?_
    rotate_left
    ·show Act.put _ (some 21) _ = _
     simp only [Act.put, List.setIfInBounds_toArray, List.set_cons_zero, List.set_cons_succ, i64_w, i32_w]
     rfl
    exact norm_ (by simp only [putAll, Act.put, List.setIfInBounds_toArray, List.set_cons_zero, List.set_cons_succ]) (hCont (v234, v237) _ ⟨hHeld, (by (with_reducible repeat (first | apply ra | apply rN | apply rd1)); exact Kd.R_mono O235.out (fun _ hk => hk.2)), (by (with_reducible repeat (first | apply ra | apply rN | apply rd1)); exact Kd.R_mono O238.out (fun _ hk => hk.2)), (by (with_reducible repeat (first | apply bN | apply bd | apply ba)); exact B232.out), (by repeat (first | (with_reducible first | exact HB.out | apply pa | apply pN | apply p1 | refine bs ?_ E232.out) | exact HB.out))⟩)
   ·skip
    refine Kd.R_lit_step (Kd.int .u8) _ 5 ?hg (N := 21) ?hd (xs := ([((la1.length : Int)) % 256] : List Int)) (inner := [.int .u8 (((la1.length : Int)) % 256)]) (ok := fun _ => True) (okp := fun _ => True) ?hr ?hp (fun _ hk => hk) trivial (Below.refl _ _) (Nat.le_refl _) (by simp) ?_; (case hd => rfl); (case hg => rfl); (case hr => first | (go_simp; done) | (go_simp; rfl)); (case hp => exact (Reps.one (show Kd.M (Kd.int .u8) _ _ _ (((la1.length : Int)) % 256) [.int .u8 (((la1.length : Int)) % 256)] from rfl) (Reps.none _ _)))
    intro v237 w6 ho7 hb hg_ hnew_
    clear hg_ hnew_
    (first | rw [← Ny236.out] at ho7 | (simp only [Int.reduceToNat] at ho7; rw [← Ny236.out] at ho7))
    have N0 := am (rw1 ho7 (bz (by repeat (first | (with_reducible first | exact HB.out | apply pa | apply pN | apply p1 | refine bs ?_ E232.out) | exact HB.out))))
    have N1 := am (bb (g := g232) (by (with_reducible repeat (first | apply bN | apply bd | apply ba)); exact B232.out) hb)
    have N2 := am (bp (by repeat (first | (with_reducible first | exact HB.out | apply pa | apply pN | apply p1 | refine bs ?_ E232.out) | exact HB.out)) hb)
    clear B232
    clear HB
    have O238 := N0
    have B232 := N1
    have HB := N2
    clear N0 N1 N2
    clear hb ho7
    refine hK.out _ _ ⟨(bc B232.out 0).trans rfl, (bc B232.out 1).trans rfl, (bc B232.out 2).trans rfl⟩ (fun hHeld => ?_)
    clear hK K
    refine norm_ (a' := ?_) ?_ ?_
    rotate_left
    ·show Act.put _ (some 21) _ = _
     simp only [Act.put, List.setIfInBounds_toArray, List.set_cons_zero, List.set_cons_succ, i64_w, i32_w]
     rfl
    refine one_ (i := 4) (N := some 14) #[true, true, true, true, true, true, true, true, true, true, true, true, false, false] rfl rfl (one_of HT_.out (by kernel_rfl)) (by decide) (fun K hK => ?_)
    refine goes_ Try.func124 (by kernel_rfl) rfl #[I q aa0, I q 4] (by rfl) rfl rfl (by (try simp only [List.map_toArray, List.map_cons, List.map_nil]); first | done | rfl | (simp only [List.length_drop, List.length_take]; rfl)) ?_
    with_reducible refine (spec_l1Bytes.calls k aa0 4 t233 _ A2.out).mono ?_
    rintro e w8 ⟨v234, rfl, ho0, hb⟩
    refine ⟨_, rfl, ?_⟩
    have N0 := am (re (by (with_reducible repeat (first | apply ra | apply rN | apply rd1)); exact O238.out) (Kd.R_base ho0) hb)
    have N1 := am (rw1 (rn ho0 (rl (by (with_reducible repeat (first | apply ra | apply rN | apply rd1)); exact O238.out))) (bz (by repeat (first | (with_reducible first | exact HB.out | apply pa | apply pN | apply p1 | refine bs ?_ E232.out) | exact HB.out))))
    have N2 := am (bb (g := g232) (by (with_reducible repeat (first | apply bN | apply bd | apply ba)); exact B232.out) hb)
    have N3 := am (bp (by repeat (first | (with_reducible first | exact HB.out | apply pa | apply pN | apply p1 | refine bs ?_ E232.out) | exact HB.out)) hb)
    clear O238
    clear B232
    clear HB
    have O238 := N0
    have O235 := N1
    have B232 := N2
    have HB := N3
    clear N0 N1 N2 N3
    (try clear hb)
    (try clear hb2)
    (try clear hk)
    (try clear hi)
    (try clear ho0)
    refine hK.out _ _ ⟨(bc B232.out 0).trans rfl, (bc B232.out 1).trans rfl, (bc B232.out 2).trans rfl⟩ (fun hHeld => ?_)
    clear hK K
    refine norm_ (a' := ?_) ?_ ?_
    rotate_left
    ·show Act.put _ (some 14) _ = _
     simp only [Act.put, List.setIfInBounds_toArray, List.set_cons_zero, List.set_cons_succ, i64_w, i32_w]
     rfl
    exact norm_ (by simp only [putAll, Act.put, List.setIfInBounds_toArray, List.set_cons_zero, List.set_cons_succ]) (hCont (v234, v237) _ ⟨hHeld, (by (with_reducible repeat (first | apply ra | apply rN | apply rd1)); exact Kd.R_mono O235.out (fun _ hk => hk.2)), (by (with_reducible repeat (first | apply ra | apply rN | apply rd1)); exact Kd.R_mono O238.out (fun _ hk => hk.2)), (by (with_reducible repeat (first | apply bN | apply bd | apply ba)); exact B232.out), (by repeat (first | (with_reducible first | exact HB.out | apply pa | apply pN | apply p1 | refine bs ?_ E232.out) | exact HB.out))⟩)
  rintro ⟨v234, v237⟩ w9 ⟨hS_, h0_, h1_, h2_, h3_⟩
  have N0 : Aside0 (Kd.R (Kd.int .u8) 5 w9 w.heap.size (fun k_ => some k_ ≠ (v237 : Value).ownBlock) v234 t233) := ⟨h0_⟩
  have N1 : Aside0 (Kd.R (Kd.int .u8) 5 w9 w.heap.size (fun k_ => some k_ ≠ (v234 : Value).ownBlock) v237 y236) := ⟨h1_⟩
  have N2 : Aside0 (w9.heap[g232]? = some (.cells #[I q aa0, J Aa1 la1.length ca1, J Aa2 la2.length ca2] 31 (0, 0))) := ⟨h2_⟩
  have N3 : Aside0 (Below w.heap.size w w9) := ⟨h3_⟩
  clear B232
  clear HB
  clear h0_ h1_ h2_ h3_
  have O235 := N0
  have O238 := N1
  have B232 := N2
  have HB := N3
  clear N0 N1 N2 N3
  have hHeld : w9.cell? ⟨g232, 0, none⟩ = some (I q aa0) ∧ w9.cell? ⟨g232, 1, none⟩ = some (J Aa1 la1.length ca1) ∧ w9.cell? ⟨g232, 2, none⟩ = some (J Aa2 la2.length ca2) := hS_
  obtain ⟨Ao11, co11, eo11⟩ := Kd.R_slice O238.out
  (first | subst eo11 | (injection eo11 with f1_ f2_ f3_; have f4_ := f1_.symm; have f5_ := f3_.symm; clear f1_ f2_ f3_; subst f4_; subst f5_))
  refine norm_ (a' := ?_) ?_ ?_
  rotate_left
  ·simp only [putAll, Act.put, List.setIfInBounds_toArray, List.set_cons_zero, List.set_cons_succ]
   rfl
  refine one_ (i := 12) (N := some 22) #[true, true, true, true, true, true, true, true, true, true, true, true, true, false] rfl rfl (one_of HT_.out (by kernel_rfl)) (by decide) (fun K hK => ?_)
  refine Kd.R_append_rows_step (Kd.int .u8) (w0 := w) w.heap.size (by rfl) (.tmp 14) (.tmp 21) 58 5 (.int .u8 0) 1 rfl Try.underlying58 info5 rfl (by decide) (by omega) v234 t233 y236 _ _ _ (fun k_ => some k_ ≠ (J Ao11 y236.length co11 : Value).ownBlock) (fun _ => False) rfl rfl ?aO ?aR (fun _ _ h => h) (fun _ h => h.elim) ?aF ?aB ?aS ?aL ?_
  (case aR => repeat (first | exact (Kd.R_reads' O238.out).2.2 | (with_reducible refine ca ?_ _) | (with_reducible refine cN ?_ _) | (with_reducible refine cd1 ?_)))
  (case aB => exact (by repeat (first | (with_reducible first | exact HB.out | apply pa | apply pN | apply p1 | refine bs ?_ E232.out) | exact HB.out)))
  (case aF => exact (fun k_ hk => Kd.fresh' (rl (by (with_reducible repeat (first | apply ra | apply rN | apply rd1)); exact O238.out)) k_ hk))
  (case aO => exact (by (with_reducible repeat (first | apply ra | apply rN | apply rd1)); exact O235.out))
  (case aS => exact (bz (by repeat (first | (with_reducible first | exact HB.out | apply pa | apply pN | apply p1 | refine bs ?_ E232.out) | exact HB.out))))
  (case aL => have := LMc3.out; omega)
  intro v240 w10 ho hb hg hat
  rw [← Ny239.out] at ho
  have N0 := am (blk_grown (g := g232) (o := .cells #[I q aa0, J Aa1 la1.length ca1, J Aa2 la2.length ca2] 31 (0, 0)) (by (with_reducible repeat (first | apply bN | apply bd | apply ba)); exact B232.out) hg (Kd.R_ne O235.out B232.out (by decide)))
  have N1 := am (Kd.R_after (ok := (fun _ => True)) (by (with_reducible repeat (first | apply ra | apply rN | apply rd1)); exact Kd.R_mono O238.out (fun _ hk => ⟨trivial, hk⟩)) hg hat)
  have N2 := am (hb)
  have N3 := am (ho)
  clear B232
  clear O238
  clear HB
  clear O235
  have B232 := N0
  have O238 := N1
  have HB := N2
  have O241 := N3
  clear N0 N1 N2 N3
  clear ho hb hg hat
  refine hK.out _ _ ⟨(bc B232.out 0).trans rfl, (bc B232.out 1).trans rfl, (bc B232.out 2).trans rfl⟩ (fun hHeld => ?_)
  clear hK K
  refine norm_ (a' := ?_) ?_ ?_
  rotate_left
  ·show Act.put _ (some 22) _ = _
   simp only [Act.put, List.setIfInBounds_toArray, List.set_cons_zero, List.set_cons_succ, i64_w, i32_w]
   rfl
  refine pure_ (i := 13) (N := some 3) (v := ?_) (a' := ?_) #[true, true, true, true, true, true, true, true, true, true, true, true, true, true] rfl rfl (any_of HT_.out (by kernel_rfl)) (fun _ _ _ h => h) (Or.inl ⟨by rfl, ?_⟩) ?_ ?_
  rotate_left
  ·intro w'
   first | (go_simp; with_reducible rfl) | (go_simp; (try unfold Instr.field); go_simp; (try simp only [asAgg]); go_simp; with_reducible rfl)
  rotate_left
  ·simp only [Act.put, List.setIfInBounds_toArray, List.set_cons_zero, List.set_cons_succ, i64_w, i32_w]
   rfl
  refine done_ (done_of HT_.out (by kernel_rfl)) ?_
  try go_wp2
  go_loopg [3, 4] k (fun kq v3 v4 w' => ∃ (x3_1 : List Int) (x4_1 : Int), v4 = I q x4_1 ∧ Aside0 (spec_l6Config.l0 kq x3_1 x4_1 aa0 la1 la2 = some r) ∧ Aside0 (kq ≤ k) ∧ Aside0 (Kd.R (Kd.int .u8) 5 w' w.heap.size (fun _ => True) v3 x3_1) ∧ Aside0 (w'.heap[g232]? = some (.cells #[I q aa0, (J Aa1 la1.length ca1), (J Aa2 la2.length ca2)] 31 (0, 0))) ∧ Aside0 (Below w.heap.size w w'))
  case atStart => exact ⟨(y239), (0), (by first | rfl | (simp; done) | (simp [*]; done)), H', ⟨Nat.le_refl _⟩, ⟨by (with_reducible repeat (first | apply ra | apply rN | apply rd1)); exact Kd.R_mono O241.out (fun _ hk => trivial)⟩, ⟨by (with_reducible repeat (first | apply bN | apply bd | apply ba)); exact B232.out⟩, ⟨by repeat (first | (with_reducible first | exact HB.out | apply pa | apply pN | apply p1 | refine bs ?_ E232.out) | exact HB.out)⟩⟩
  case round =>
   clear H'
   try clear c1
   try clear p2
   try clear c3
   try clear c8
   obtain ⟨x3_1, x4_1, rfl, HA, HK1, o0, B232, HB⟩ := hrel
   cases gk with
   | zero => exact absurd HA.out (by simp [spec_l6Config.l0])
   | succ k1 =>
    have H := HA.out
    clear HA
    simp only [spec_l6Config.l0] at H
    by_cases c12 : x4_1 < (la1.length : Int)
    ·rw [if_pos c12] at H
     have c12b0 : decide (x4_1 < (la1.length : Int)) = true := decide_eq_true c12
     clear c12
     by_cases c13 : 0 ≤ x4_1
     ·rw [if_pos c13] at H
      have c13b0 : decide (0 ≤ x4_1) = true := decide_eq_true c13
      clear c13
      replace H := Option.bind_eq_some_iff.mp H
      obtain ⟨t244, A140, H⟩ := H
      replace H : (if x3_1.length + t244.length < 140737488355328 then ((some (x3_1 ++ t244 : List Int)).bind fun y247 => ((spec_l1Bytes.f k1 ((rd_T36 la1 x4_1).f1) 4).bind fun t250 => (if y247.length + t250.length < 140737488355328 then ((some (y247 ++ t250 : List Int)).bind fun y253 => ((some (([(Cf.l6n (rd_T36 la1 x4_1)) % 256] : List Int) : List Int)).bind fun y256 => (if y253.length + y256.length < 140737488355328 then (spec_l6Config.l0 k1 (y253 ++ y256) (wrap64 (x4_1 + 1)) aa0 la1 la2) else (none)))) else (none)))) else (none)) = some r := H
      have A14 := am A140
      clear A140
      by_cases c15 : x3_1.length + t244.length < 140737488355328
      ·rw [if_pos c15] at H
       have LMc15 := am c15
       clear c15
       obtain ⟨y247, hy247⟩ : ∃ y_ : List Int, y_ = (x3_1 ++ t244) := ⟨_, rfl⟩
       replace H : ((spec_l1Bytes.f k1 ((rd_T36 la1 x4_1).f1) 4).bind fun t250 => (if y247.length + t250.length < 140737488355328 then ((some (y247 ++ t250 : List Int)).bind fun y253 => ((some (([(Cf.l6n (rd_T36 la1 x4_1)) % 256] : List Int) : List Int)).bind fun y256 => (if y253.length + y256.length < 140737488355328 then (spec_l6Config.l0 k1 (y253 ++ y256) (wrap64 (x4_1 + 1)) aa0 la1 la2) else (none)))) else (none))) = some r := by first | (rw [hy247]; with_reducible exact H) | (have H2_ := (Option.bind_some _ _).symm.trans H; rw [hy247]; with_reducible exact H2_) | (have H2_ := (Option.bind_some _ _).symm.trans H; with_reducible exact H2_) | with_reducible exact H | (rw [hy247]; exact H) | exact H
       have Ny247 := am hy247
       clear hy247
       replace H := Option.bind_eq_some_iff.mp H
       obtain ⟨t250, A160, H⟩ := H
       replace H : (if y247.length + t250.length < 140737488355328 then ((some (y247 ++ t250 : List Int)).bind fun y253 => ((some (([(Cf.l6n (rd_T36 la1 x4_1)) % 256] : List Int) : List Int)).bind fun y256 => (if y253.length + y256.length < 140737488355328 then (spec_l6Config.l0 k1 (y253 ++ y256) (wrap64 (x4_1 + 1)) aa0 la1 la2) else (none)))) else (none)) = some r := H
       have A16 := am A160
       clear A160
       by_cases c17 : y247.length + t250.length < 140737488355328
       ·rw [if_pos c17] at H
        have LMc17 := am c17
        clear c17
        obtain ⟨y253, hy253⟩ : ∃ y_ : List Int, y_ = (y247 ++ t250) := ⟨_, rfl⟩
        replace H : ((some (([(Cf.l6n (rd_T36 la1 x4_1)) % 256] : List Int) : List Int)).bind fun y256 => (if y253.length + y256.length < 140737488355328 then (spec_l6Config.l0 k1 (y253 ++ y256) (wrap64 (x4_1 + 1)) aa0 la1 la2) else (none))) = some r := by first | (rw [hy253]; with_reducible exact H) | (have H2_ := (Option.bind_some _ _).symm.trans H; rw [hy253]; with_reducible exact H2_) | (have H2_ := (Option.bind_some _ _).symm.trans H; with_reducible exact H2_) | with_reducible exact H | (rw [hy253]; exact H) | exact H
        have Ny253 := am hy253
        clear hy253
        obtain ⟨y256, hy256⟩ : ∃ y_ : List Int, y_ = (([(Cf.l6n (rd_T36 la1 x4_1)) % 256] : List Int)) := ⟨_, rfl⟩
        replace H : (if y253.length + y256.length < 140737488355328 then (spec_l6Config.l0 k1 (y253 ++ y256) (wrap64 (x4_1 + 1)) aa0 la1 la2) else (none)) = some r := by first | (rw [hy256]; with_reducible exact H) | (have H2_ := (Option.bind_some _ _).symm.trans H; rw [hy256]; with_reducible exact H2_) | (have H2_ := (Option.bind_some _ _).symm.trans H; with_reducible exact H2_) | with_reducible exact H | (rw [hy256]; exact H) | exact H
        have Ny256 := am hy256
        clear hy256
        by_cases c18 : y253.length + y256.length < 140737488355328
        ·rw [if_pos c18] at H
         have LMc18 := am c18
         clear c18
         obtain ⟨y259, hy259⟩ : ∃ y_ : List Int, y_ = (y253 ++ y256) := ⟨_, rfl⟩
         replace H : (spec_l6Config.l0 k1 y259 (wrap64 (x4_1 + 1)) aa0 la1 la2) = some r := by first | (rw [hy259]; with_reducible exact H) | (have H2_ := (Option.bind_some _ _).symm.trans H; rw [hy259]; with_reducible exact H2_) | (have H2_ := (Option.bind_some _ _).symm.trans H; with_reducible exact H2_) | with_reducible exact H | (rw [hy259]; exact H) | exact H
         have Ny259 := am hy259
         clear hy259
         have H' := am H
         clear H
         have hcz19_0 : wr.cell? ⟨g232, 0, none⟩ = some (I q aa0) := (bc B232.out 0).trans rfl
         have hcz19_1 : wr.cell? ⟨g232, 1, none⟩ = some (J Aa1 la1.length ca1) := (bc B232.out 1).trans rfl
         have hcz19_2 : wr.cell? ⟨g232, 2, none⟩ = some (J Aa2 la2.length ca2) := (bc B232.out 2).trans rfl
         have hfz19_0 := bf B232.out 0
         have hfz19_1 := bf B232.out 1
         have hfz19_2 := bf B232.out 2
         have p242 : 0 ≤ (x4_1 : Int) := of_decide_eq_true (by first | (with_reducible assumption) | assumption)
         have q242 : x4_1 < (la1.length : Int) := of_decide_eq_true (by first | (with_reducible assumption) | assumption)
         obtain ⟨ad242, e242, hx242_0, hx242_1, hx242_2, hx242_3, hx242_4⟩ := at_T36 HR0_1.out x4_1 p242 q242
         cases e242
         replace hx242_0 := (HB.out.cell (World.block_lt_of_cell? w _ hx242_0)).trans hx242_0
         replace hx242_1 := (HB.out.cell (World.block_lt_of_cell? w _ hx242_1)).trans hx242_1
         replace hx242_2 := (HB.out.cell (World.block_lt_of_cell? w _ hx242_2)).trans hx242_2
         replace hx242_3 := (HB.out.cell (World.block_lt_of_cell? w _ hx242_3)).trans hx242_3
         replace hx242_4 := (HB.out.cell (World.block_lt_of_cell? w _ hx242_4)).trans hx242_4
         replace p242 := eq_true p242
         replace q242 := eq_true q242
         go_upto_if 47 with (first | ((with_reducible refine gate_dst (N := 5) rfl ?_); refine box_event ?hg (N := 5) ?hd (cs := #[I q 0, I q 0, I q 0, I q 0, .bool false]) (t := 36) ?hr ?_; (case hd => rfl); (case hg => rfl); (case hr => first | (go_simp; done) | (go_simp; rfl)); intro g243 hg w20 hbox hb; have N0 := am (rb (by (with_reducible repeat (first | apply ra | apply rN | apply rd1)); exact o0.out) hb); have N1 := am (bb (g := g232) (by (with_reducible repeat (first | apply bN | apply bd | apply ba)); exact B232.out) hb); have N2 := am (bp (by repeat (first | (with_reducible first | exact HB.out | apply pa | apply pN | apply p1 | refine bs ?_ E232.out) | exact HB.out)) hb); have N3 := am (hbox); have N4 := am ((by rw [hg]; exact (bz (by repeat (first | (with_reducible first | exact HB.out | apply pa | apply pN | apply p1 | refine bs ?_ E232.out) | exact HB.out))) : w.heap.size ≤ g243)); have N5 := am ((by rw [hg]; exact (bz (by repeat (first | (with_reducible first | exact HB.out | apply pa | apply pN | apply p1 | refine bs ?_ E232.out) | exact HB.out))) : w.heap.size ≤ g243)); have N6 := am ((by rw [hg]; exact Nat.ne_of_lt (bl (g := g232) (by (with_reducible repeat (first | apply bN | apply bd | apply ba)); exact B232.out)) : g232 ≠ g243)); have N7 := am ((by rw [hg]; exact Nat.ne_of_gt (bl (g := g232) (by (with_reducible repeat (first | apply bN | apply bd | apply ba)); exact B232.out)) : g243 ≠ g232)); clear o0 B232 HB; have o0 := N0; have B232 := N1; have HB := N2; have B243 := N3; have GW243 := N4; have E243 := N5; have NB232_243 := N6; have NB243_232 := N7; clear N0 N1 N2 N3 N4 N5 N6 N7 hb hbox hg; have hnb21 := NB243_232.out; have hnc21 := NB232_243.out; have hcz22_0 : w20.cell? ⟨g243, 0, none⟩ = some (I q 0) := (bc B243.out 0).trans rfl; have hcz22_1 : w20.cell? ⟨g243, 1, none⟩ = some (I q 0) := (bc B243.out 1).trans rfl; have hcz22_2 : w20.cell? ⟨g243, 2, none⟩ = some (I q 0) := (bc B243.out 2).trans rfl; have hcz22_3 : w20.cell? ⟨g243, 3, none⟩ = some (I q 0) := (bc B243.out 3).trans rfl; have hcz22_4 : w20.cell? ⟨g243, 4, none⟩ = some (.bool false) := (bc B243.out 4).trans rfl; have hfz22_0 := bf B243.out 0; have hfz22_1 := bf B243.out 1; have hfz22_2 := bf B243.out 2; have hfz22_3 := bf B243.out 3; have hfz22_4 := bf B243.out 4; obtain ⟨Ao23, co23, eo23⟩ := Kd.R_slice o0.out; subst eo23))
         go_cut [6] (fun v6 wc => wc = (((((w20.setCell ⟨g243, 0, none⟩ (I q ((rd_T36 la1 x4_1).f0))).setCell ⟨g243, 1, none⟩ (I q ((rd_T36 la1 x4_1).f1))).setCell ⟨g243, 2, none⟩ (I q ((rd_T36 la1 x4_1).f2))).setCell ⟨g243, 3, none⟩ (I q ((rd_T36 la1 x4_1).f3))).setCell ⟨g243, 4, none⟩ (.bool ((rd_T36 la1 x4_1).f4))) ∧ v6 = I q (Cf.l6n (rd_T36 la1 x4_1)))
         case first =>
          obtain ⟨bq_, hbq_⟩ : ∃ b_, b_ = (rd_T36 la1 x4_1).f4 := ⟨_, rfl⟩
          rw [← hbq_]
          cases bq_ with
          | true =>
           go_wp2
           go_meet
           case rel => exact ⟨by rw [← hbq_], by unfold Cf.l6n; rw [← hbq_]; simp⟩
          | false =>
           go_wp2
           go_meet
           case rel => exact ⟨by rw [← hbq_], by unfold Cf.l6n; rw [← hbq_]; simp⟩
         case rest =>
         obtain ⟨rfl, rfl⟩ := hcut
         try go_wp2
         have N0 : Aside0 (Kd.R (Kd.int .u8) 5 (((((w20.setCell ⟨g243, 0, none⟩ (I q ((rd_T36 la1 x4_1).f0))).setCell ⟨g243, 1, none⟩ (I q ((rd_T36 la1 x4_1).f1))).setCell ⟨g243, 2, none⟩ (I q ((rd_T36 la1 x4_1).f2))).setCell ⟨g243, 3, none⟩ (I q ((rd_T36 la1 x4_1).f3))).setCell ⟨g243, 4, none⟩ (.bool ((rd_T36 la1 x4_1).f4))) w.heap.size (fun _ => True) (J Ao23 x3_1.length co23) x3_1) := ⟨by (with_reducible repeat (first | apply ra | apply rN | apply rd1)); exact Kd.R_mono (rf (p := ⟨g243, 4, none⟩) (rf (p := ⟨g243, 3, none⟩) (rf (p := ⟨g243, 2, none⟩) (rf (p := ⟨g243, 1, none⟩) (rf (p := ⟨g243, 0, none⟩) (Kd.R_types o0.out B243.out (by decide)) (fun _ hk => hk.2) (I q ((rd_T36 la1 x4_1).f0))) (fun _ hk => hk.2) (I q ((rd_T36 la1 x4_1).f1))) (fun _ hk => hk.2) (I q ((rd_T36 la1 x4_1).f2))) (fun _ hk => hk.2) (I q ((rd_T36 la1 x4_1).f3))) (fun _ hk => hk.2) (.bool ((rd_T36 la1 x4_1).f4))) (fun _ hk => trivial)⟩
         have N1 : Aside0 ((((((w20.setCell ⟨g243, 0, none⟩ (I q ((rd_T36 la1 x4_1).f0))).setCell ⟨g243, 1, none⟩ (I q ((rd_T36 la1 x4_1).f1))).setCell ⟨g243, 2, none⟩ (I q ((rd_T36 la1 x4_1).f2))).setCell ⟨g243, 3, none⟩ (I q ((rd_T36 la1 x4_1).f3))).setCell ⟨g243, 4, none⟩ (.bool ((rd_T36 la1 x4_1).f4))).heap[g232]? = some (.cells #[I q aa0, .slice (some ad242) la1.length ca1, J Aa2 la2.length ca2] 31 (0, 0))) := ⟨by (iterate 5 ((with_reducible repeat (first | apply bN | apply bd | apply ba)); refine bq ?_ NB232_243.out _)); (with_reducible repeat (first | apply bN | apply bd | apply ba)); exact B232.out⟩
         have N2 : Aside0 ((((((w20.setCell ⟨g243, 0, none⟩ (I q ((rd_T36 la1 x4_1).f0))).setCell ⟨g243, 1, none⟩ (I q ((rd_T36 la1 x4_1).f1))).setCell ⟨g243, 2, none⟩ (I q ((rd_T36 la1 x4_1).f2))).setCell ⟨g243, 3, none⟩ (I q ((rd_T36 la1 x4_1).f3))).setCell ⟨g243, 4, none⟩ (.bool ((rd_T36 la1 x4_1).f4))).heap[g243]? = some (.cells #[I q ((rd_T36 la1 x4_1).f0), I q ((rd_T36 la1 x4_1).f1), I q ((rd_T36 la1 x4_1).f2), I q ((rd_T36 la1 x4_1).f3), .bool ((rd_T36 la1 x4_1).f4)] 36 (0, 0))) := ⟨by (with_reducible repeat (first | apply bN | apply bd | apply ba)); exact pu5g B243.out⟩
         have N3 : Aside0 (Below w.heap.size w (((((w20.setCell ⟨g243, 0, none⟩ (I q ((rd_T36 la1 x4_1).f0))).setCell ⟨g243, 1, none⟩ (I q ((rd_T36 la1 x4_1).f1))).setCell ⟨g243, 2, none⟩ (I q ((rd_T36 la1 x4_1).f2))).setCell ⟨g243, 3, none⟩ (I q ((rd_T36 la1 x4_1).f3))).setCell ⟨g243, 4, none⟩ (.bool ((rd_T36 la1 x4_1).f4)))) := ⟨by repeat (first | (with_reducible first | exact HB.out | apply pa | apply pN | apply p1 | refine bs ?_ E232.out | refine bs ?_ E243.out) | exact HB.out)⟩
         (try clear o0)
         (try clear B232)
         (try clear B243)
         (try clear HB)
         generalize (((((w20.setCell ⟨g243, 0, none⟩ (I q ((rd_T36 la1 x4_1).f0))).setCell ⟨g243, 1, none⟩ (I q ((rd_T36 la1 x4_1).f1))).setCell ⟨g243, 2, none⟩ (I q ((rd_T36 la1 x4_1).f2))).setCell ⟨g243, 3, none⟩ (I q ((rd_T36 la1 x4_1).f3))).setCell ⟨g243, 4, none⟩ (.bool ((rd_T36 la1 x4_1).f4))) = w24 at N0 N1 N2 N3 ⊢
         have o0 := N0
         have B232 := N1
         have B243 := N2
         have HB := N3
         clear N0 N1 N2 N3
         have N0 := am (rd1 o0.out)
         have N1 := am (bd B232.out)
         have N2 := am (bd B243.out)
         have N3 := am (p1 HB.out)
         clear o0
         clear B232
         clear B243
         clear HB
         have o0 := N0
         have B232 := N1
         have B243 := N2
         have HB := N3
         clear N0 N1 N2 N3
         refine start_ (n := 14) (S := fun w' => w'.cell? ⟨g243, 0, none⟩ = some (I q ((rd_T36 la1 x4_1).f0)) ∧ w'.cell? ⟨g243, 1, none⟩ = some (I q ((rd_T36 la1 x4_1).f1)) ∧ w'.cell? ⟨g243, 2, none⟩ = some (I q ((rd_T36 la1 x4_1).f2)) ∧ w'.cell? ⟨g243, 3, none⟩ = some (I q ((rd_T36 la1 x4_1).f3)) ∧ w'.cell? ⟨g243, 4, none⟩ = some (.bool ((rd_T36 la1 x4_1).f4))) (ds := []) #[false, false, false, false, false, false, false, false, false, false, false, false, false, false] (by kernel_rfl) rfl rfl ⟨(bc B243.out 0).trans rfl, (bc B243.out 1).trans rfl, (bc B243.out 2).trans rfl, (bc B243.out 3).trans rfl, (bc B243.out 4).trans rfl⟩ (fun hHeld => ?_); refine with_tabW spec_l6Config.tab9 spec_l6Config.bits9 (fun HT_ HW_ => ?_)
         generalize w24.drew = w25 at o0 B232 B243 HB hHeld ⊢
         refine pure_ (i := 0) (N := some 50) (v := ?_) (a' := ?_) #[true, false, false, false, false, false, false, false, false, false, false, false, false, false] rfl rfl (any_of HT_.out (by kernel_rfl)) (fun _ _ _ h => h) (Or.inl ⟨by rfl, ?_⟩) ?_ ?_
         rotate_left
         ·intro w'
          first | (go_simp; with_reducible rfl) | (go_simp; (try unfold Instr.field); go_simp; (try simp only [asAgg]); go_simp; with_reducible rfl)
         rotate_left
         ·simp only [Act.put, List.setIfInBounds_toArray, List.set_cons_zero, List.set_cons_succ, i64_w, i32_w]
          rfl
         refine pure_ (i := 1) (N := some 51) (v := ?_) (a' := ?_) #[true, true, false, false, false, false, false, false, false, false, false, false, false, false] rfl rfl (any_of HT_.out (by kernel_rfl)) (fun _ _ _ h => h) (Or.inl ⟨by rfl, ?_⟩) ?_ ?_
         rotate_left
         ·intro w'
          first | (go_simp; with_reducible rfl) | (go_simp; (try unfold Instr.field); go_simp; (try simp only [asAgg]); go_simp; with_reducible rfl)
         rotate_left
         ·simp only [Act.put, List.setIfInBounds_toArray, List.set_cons_zero, List.set_cons_succ, i64_w, i32_w]
          rfl
         refine pure_ (i := 5) (N := some 55) (v := ?_) (a' := ?_) #[true, true, false, false, false, true, false, false, false, false, false, false, false, false] rfl rfl (any_of HT_.out (by kernel_rfl)) (fun _ _ _ h => h) (Or.inl ⟨by rfl, ?_⟩) ?_ ?_
         rotate_left
         ·intro w'
          first | (go_simp; with_reducible rfl) | (go_simp; (try unfold Instr.field); go_simp; (try simp only [asAgg]); go_simp; with_reducible rfl)
         rotate_left
         ·simp only [Act.put, List.setIfInBounds_toArray, List.set_cons_zero, List.set_cons_succ, i64_w, i32_w]
          rfl
         refine pure_ (i := 9) (N := some 59) (v := ?_) (a' := ?_) #[true, true, false, false, false, true, false, false, false, true, false, false, false, false] rfl rfl (any_of HT_.out (by kernel_rfl)) (fun _ _ _ h => h) (Or.inl ⟨by rfl, ?_⟩) ?_ ?_
         rotate_left
         ·intro w'
          first | (go_simp; with_reducible rfl) | (go_simp; (try unfold Instr.field); go_simp; (try simp only [asAgg]); go_simp; with_reducible rfl)
         rotate_left
         ·simp only [Act.put, List.setIfInBounds_toArray, List.set_cons_zero, List.set_cons_succ, i64_w, i32_w]
          rfl
         refine pure_ (i := 10) (N := some 60) (v := ?_) (a' := ?_) #[true, true, false, false, false, true, false, false, false, true, true, false, false, false] rfl rfl (any_of HT_.out (by kernel_rfl)) (fun _ _ _ h => h) (Or.inl ⟨by rfl, ?_⟩) ?_ ?_
         rotate_left
         ·intro w'
          first | (go_simp; with_reducible rfl) | (go_simp; (try unfold Instr.field); go_simp; (try simp only [asAgg]); go_simp; with_reducible rfl)
         rotate_left
         ·simp only [Act.put, List.setIfInBounds_toArray, List.set_cons_zero, List.set_cons_succ, i64_w, i32_w]
          rfl
         refine take_ (i := 2) (N := some 52) (v := ?_) (a' := ?_) #[true, true, true, false, false, true, false, false, false, true, true, false, false, false] rfl rfl (take_ofW HT_.out HW_.out (by kernel_rfl)) (fun _ _ _ h => h) (Or.inl ⟨by rfl, ?_⟩) hHeld ?_ ?_
         rotate_left
         ·rintro w' ⟨s0, s1, s2, s3, s4⟩
          go_simp
          with_reducible rfl
         rotate_left
         ·simp only [Act.put, List.setIfInBounds_toArray, List.set_cons_zero, List.set_cons_succ, i64_w, i32_w]
          rfl
         refine take_ (i := 6) (N := some 56) (v := ?_) (a' := ?_) #[true, true, true, false, false, true, true, false, false, true, true, false, false, false] rfl rfl (take_ofW HT_.out HW_.out (by kernel_rfl)) (fun _ _ _ h => h) (Or.inl ⟨by rfl, ?_⟩) hHeld ?_ ?_
         rotate_left
         ·rintro w' ⟨s0, s1, s2, s3, s4⟩
          go_simp
          with_reducible rfl
         rotate_left
         ·simp only [Act.put, List.setIfInBounds_toArray, List.set_cons_zero, List.set_cons_succ, i64_w, i32_w]
          rfl
         refine join_ (σ := Value × Value × Value × Value × Value) 2 #[true, true, true, true, true, true, true, true, true, true, true, true, false, false] (fun s_ => [(53, s_.1), (54, s_.2.1), (57, s_.2.2.1), (58, s_.2.2.2.1), (61, s_.2.2.2.2)]) (fun s_ w' => (w'.cell? ⟨g243, 0, none⟩ = some (I q ((rd_T36 la1 x4_1).f0)) ∧ w'.cell? ⟨g243, 1, none⟩ = some (I q ((rd_T36 la1 x4_1).f1)) ∧ w'.cell? ⟨g243, 2, none⟩ = some (I q ((rd_T36 la1 x4_1).f2)) ∧ w'.cell? ⟨g243, 3, none⟩ = some (I q ((rd_T36 la1 x4_1).f3)) ∧ w'.cell? ⟨g243, 4, none⟩ = some (.bool ((rd_T36 la1 x4_1).f4))) ∧ (Kd.R (Kd.int .u8) 5 w' w.heap.size (fun k_ => some k_ ≠ (s_.2.2.1 : Value).ownBlock ∧ some k_ ≠ (s_.2.2.2.1 : Value).ownBlock ∧ some k_ ≠ (s_.2.2.2.2 : Value).ownBlock) s_.1 t244) ∧ (Kd.R (Kd.int .u8) 5 w' w.heap.size (fun k_ => some k_ ≠ (s_.1 : Value).ownBlock ∧ some k_ ≠ (s_.2.2.2.1 : Value).ownBlock ∧ some k_ ≠ (s_.2.2.2.2 : Value).ownBlock) s_.2.2.1 t250) ∧ (Kd.R (Kd.int .u8) 5 w' w.heap.size (fun k_ => some k_ ≠ (s_.1 : Value).ownBlock ∧ some k_ ≠ (s_.2.2.1 : Value).ownBlock ∧ some k_ ≠ (s_.2.2.2.2 : Value).ownBlock) s_.2.2.2.1 y253) ∧ (Kd.R (Kd.int .u8) 5 w' w.heap.size (fun k_ => some k_ ≠ (s_.1 : Value).ownBlock ∧ some k_ ≠ (s_.2.2.1 : Value).ownBlock ∧ some k_ ≠ (s_.2.2.2.1 : Value).ownBlock) s_.2.2.2.2 y256) ∧ (w'.heap[g232]? = some (.cells #[I q aa0, .slice (some ad242) la1.length ca1, J Aa2 la2.length ca2] 31 (0, 0))) ∧ (w'.heap[g243]? = some (.cells #[I q ((rd_T36 la1 x4_1).f0), I q ((rd_T36 la1 x4_1).f1), I q ((rd_T36 la1 x4_1).f2), I q ((rd_T36 la1 x4_1).f3), .bool ((rd_T36 la1 x4_1).f4)] 36 (0, 0))) ∧ (Below w.heap.size w w')) ?_ ?_
         rotate_left
         ·intro hJ3_4_7_8_11
          refine join_ (σ := Value × Value × Value × Value) 3 #[true, true, true, true, true, true, true, true, true, true, true, false, false, false] (fun s_ => [(53, s_.1), (54, s_.2.1), (57, s_.2.2.1), (58, s_.2.2.2)]) (fun s_ w' => (w'.cell? ⟨g243, 0, none⟩ = some (I q ((rd_T36 la1 x4_1).f0)) ∧ w'.cell? ⟨g243, 1, none⟩ = some (I q ((rd_T36 la1 x4_1).f1)) ∧ w'.cell? ⟨g243, 2, none⟩ = some (I q ((rd_T36 la1 x4_1).f2)) ∧ w'.cell? ⟨g243, 3, none⟩ = some (I q ((rd_T36 la1 x4_1).f3)) ∧ w'.cell? ⟨g243, 4, none⟩ = some (.bool ((rd_T36 la1 x4_1).f4))) ∧ (Kd.R (Kd.int .u8) 5 w' w.heap.size (fun k_ => some k_ ≠ (s_.2.2.1 : Value).ownBlock ∧ some k_ ≠ (s_.2.2.2 : Value).ownBlock) s_.1 t244) ∧ (Kd.R (Kd.int .u8) 5 w' w.heap.size (fun k_ => some k_ ≠ (s_.1 : Value).ownBlock ∧ some k_ ≠ (s_.2.2.2 : Value).ownBlock) s_.2.2.1 t250) ∧ (Kd.R (Kd.int .u8) 5 w' w.heap.size (fun k_ => some k_ ≠ (s_.1 : Value).ownBlock ∧ some k_ ≠ (s_.2.2.1 : Value).ownBlock) s_.2.2.2 y253) ∧ (w'.heap[g232]? = some (.cells #[I q aa0, .slice (some ad242) la1.length ca1, J Aa2 la2.length ca2] 31 (0, 0))) ∧ (w'.heap[g243]? = some (.cells #[I q ((rd_T36 la1 x4_1).f0), I q ((rd_T36 la1 x4_1).f1), I q ((rd_T36 la1 x4_1).f2), I q ((rd_T36 la1 x4_1).f3), .bool ((rd_T36 la1 x4_1).f4)] 36 (0, 0))) ∧ (Below w.heap.size w w')) ?_ ?_
          rotate_left
          ·intro hJ3_4_7_8
           refine join_ (σ := Value × Value × Value × Value) 3 #[true, true, true, true, true, true, true, true, false, true, true, true, false, false] (fun s_ => [(53, s_.1), (54, s_.2.1), (57, s_.2.2.1), (61, s_.2.2.2)]) (fun s_ w' => (w'.cell? ⟨g243, 0, none⟩ = some (I q ((rd_T36 la1 x4_1).f0)) ∧ w'.cell? ⟨g243, 1, none⟩ = some (I q ((rd_T36 la1 x4_1).f1)) ∧ w'.cell? ⟨g243, 2, none⟩ = some (I q ((rd_T36 la1 x4_1).f2)) ∧ w'.cell? ⟨g243, 3, none⟩ = some (I q ((rd_T36 la1 x4_1).f3)) ∧ w'.cell? ⟨g243, 4, none⟩ = some (.bool ((rd_T36 la1 x4_1).f4))) ∧ (Kd.R (Kd.int .u8) 5 w' w.heap.size (fun k_ => some k_ ≠ (s_.2.1 : Value).ownBlock ∧ some k_ ≠ (s_.2.2.1 : Value).ownBlock ∧ some k_ ≠ (s_.2.2.2 : Value).ownBlock) s_.1 t244) ∧ (Kd.R (Kd.int .u8) 5 w' w.heap.size (fun k_ => some k_ ≠ (s_.1 : Value).ownBlock ∧ some k_ ≠ (s_.2.2.1 : Value).ownBlock ∧ some k_ ≠ (s_.2.2.2 : Value).ownBlock) s_.2.1 y247) ∧ (Kd.R (Kd.int .u8) 5 w' w.heap.size (fun k_ => some k_ ≠ (s_.1 : Value).ownBlock ∧ some k_ ≠ (s_.2.1 : Value).ownBlock ∧ some k_ ≠ (s_.2.2.2 : Value).ownBlock) s_.2.2.1 t250) ∧ (Kd.R (Kd.int .u8) 5 w' w.heap.size (fun k_ => some k_ ≠ (s_.1 : Value).ownBlock ∧ some k_ ≠ (s_.2.1 : Value).ownBlock ∧ some k_ ≠ (s_.2.2.1 : Value).ownBlock) s_.2.2.2 y256) ∧ (w'.heap[g232]? = some (.cells #[I q aa0, .slice (some ad242) la1.length ca1, J Aa2 la2.length ca2] 31 (0, 0))) ∧ (w'.heap[g243]? = some (.cells #[I q ((rd_T36 la1 x4_1).f0), I q ((rd_T36 la1 x4_1).f1), I q ((rd_T36 la1 x4_1).f2), I q ((rd_T36 la1 x4_1).f3), .bool ((rd_T36 la1 x4_1).f4)] 36 (0, 0))) ∧ (Below w.heap.size w w')) ?_ ?_
           rotate_left
           ·intro hJ3_4_7_11
            refine join_ (σ := Value × Value × Value) 4 #[true, true, true, true, true, true, true, true, false, true, true, false, false, false] (fun s_ => [(53, s_.1), (54, s_.2.1), (57, s_.2.2)]) (fun s_ w' => (w'.cell? ⟨g243, 0, none⟩ = some (I q ((rd_T36 la1 x4_1).f0)) ∧ w'.cell? ⟨g243, 1, none⟩ = some (I q ((rd_T36 la1 x4_1).f1)) ∧ w'.cell? ⟨g243, 2, none⟩ = some (I q ((rd_T36 la1 x4_1).f2)) ∧ w'.cell? ⟨g243, 3, none⟩ = some (I q ((rd_T36 la1 x4_1).f3)) ∧ w'.cell? ⟨g243, 4, none⟩ = some (.bool ((rd_T36 la1 x4_1).f4))) ∧ (Kd.R (Kd.int .u8) 5 w' w.heap.size (fun k_ => some k_ ≠ (s_.2.1 : Value).ownBlock ∧ some k_ ≠ (s_.2.2 : Value).ownBlock) s_.1 t244) ∧ (Kd.R (Kd.int .u8) 5 w' w.heap.size (fun k_ => some k_ ≠ (s_.1 : Value).ownBlock ∧ some k_ ≠ (s_.2.2 : Value).ownBlock) s_.2.1 y247) ∧ (Kd.R (Kd.int .u8) 5 w' w.heap.size (fun k_ => some k_ ≠ (s_.1 : Value).ownBlock ∧ some k_ ≠ (s_.2.1 : Value).ownBlock) s_.2.2 t250) ∧ (w'.heap[g232]? = some (.cells #[I q aa0, .slice (some ad242) la1.length ca1, J Aa2 la2.length ca2] 31 (0, 0))) ∧ (w'.heap[g243]? = some (.cells #[I q ((rd_T36 la1 x4_1).f0), I q ((rd_T36 la1 x4_1).f1), I q ((rd_T36 la1 x4_1).f2), I q ((rd_T36 la1 x4_1).f3), .bool ((rd_T36 la1 x4_1).f4)] 36 (0, 0))) ∧ (Below w.heap.size w w')) ?_ ?_
            rotate_left
            ·intro hJ3_4_7
             refine join_ (σ := Value × Value × Value) 4 #[true, true, true, true, true, true, true, false, false, true, true, true, false, false] (fun s_ => [(53, s_.1), (54, s_.2.1), (61, s_.2.2)]) (fun s_ w' => (w'.cell? ⟨g243, 0, none⟩ = some (I q ((rd_T36 la1 x4_1).f0)) ∧ w'.cell? ⟨g243, 1, none⟩ = some (I q ((rd_T36 la1 x4_1).f1)) ∧ w'.cell? ⟨g243, 2, none⟩ = some (I q ((rd_T36 la1 x4_1).f2)) ∧ w'.cell? ⟨g243, 3, none⟩ = some (I q ((rd_T36 la1 x4_1).f3)) ∧ w'.cell? ⟨g243, 4, none⟩ = some (.bool ((rd_T36 la1 x4_1).f4))) ∧ (Kd.R (Kd.int .u8) 5 w' w.heap.size (fun k_ => some k_ ≠ (s_.2.1 : Value).ownBlock ∧ some k_ ≠ (s_.2.2 : Value).ownBlock) s_.1 t244) ∧ (Kd.R (Kd.int .u8) 5 w' w.heap.size (fun k_ => some k_ ≠ (s_.1 : Value).ownBlock ∧ some k_ ≠ (s_.2.2 : Value).ownBlock) s_.2.1 y247) ∧ (Kd.R (Kd.int .u8) 5 w' w.heap.size (fun k_ => some k_ ≠ (s_.1 : Value).ownBlock ∧ some k_ ≠ (s_.2.1 : Value).ownBlock) s_.2.2 y256) ∧ (w'.heap[g232]? = some (.cells #[I q aa0, .slice (some ad242) la1.length ca1, J Aa2 la2.length ca2] 31 (0, 0))) ∧ (w'.heap[g243]? = some (.cells #[I q ((rd_T36 la1 x4_1).f0), I q ((rd_T36 la1 x4_1).f1), I q ((rd_T36 la1 x4_1).f2), I q ((rd_T36 la1 x4_1).f3), .bool ((rd_T36 la1 x4_1).f4)] 36 (0, 0))) ∧ (Below w.heap.size w w')) ?_ ?_
             rotate_left
             ·intro hJ3_4_11
              refine join_ (σ := Value × Value) 5 #[true, true, true, true, true, true, true, false, false, true, true, false, false, false] (fun s_ => [(53, s_.1), (54, s_.2)]) (fun s_ w' => (w'.cell? ⟨g243, 0, none⟩ = some (I q ((rd_T36 la1 x4_1).f0)) ∧ w'.cell? ⟨g243, 1, none⟩ = some (I q ((rd_T36 la1 x4_1).f1)) ∧ w'.cell? ⟨g243, 2, none⟩ = some (I q ((rd_T36 la1 x4_1).f2)) ∧ w'.cell? ⟨g243, 3, none⟩ = some (I q ((rd_T36 la1 x4_1).f3)) ∧ w'.cell? ⟨g243, 4, none⟩ = some (.bool ((rd_T36 la1 x4_1).f4))) ∧ (Kd.R (Kd.int .u8) 5 w' w.heap.size (fun k_ => some k_ ≠ (s_.2 : Value).ownBlock) s_.1 t244) ∧ (Kd.R (Kd.int .u8) 5 w' w.heap.size (fun k_ => some k_ ≠ (s_.1 : Value).ownBlock) s_.2 y247) ∧ (w'.heap[g232]? = some (.cells #[I q aa0, .slice (some ad242) la1.length ca1, J Aa2 la2.length ca2] 31 (0, 0))) ∧ (w'.heap[g243]? = some (.cells #[I q ((rd_T36 la1 x4_1).f0), I q ((rd_T36 la1 x4_1).f1), I q ((rd_T36 la1 x4_1).f2), I q ((rd_T36 la1 x4_1).f3), .bool ((rd_T36 la1 x4_1).f4)] 36 (0, 0))) ∧ (Below w.heap.size w w')) ?_ ?_
              rotate_left
              ·intro hJ3_4
               refine join_ (σ := Value × Value) 5 #[true, true, true, true, false, true, true, false, false, true, true, true, false, false] (fun s_ => [(53, s_.1), (61, s_.2)]) (fun s_ w' => (w'.cell? ⟨g243, 0, none⟩ = some (I q ((rd_T36 la1 x4_1).f0)) ∧ w'.cell? ⟨g243, 1, none⟩ = some (I q ((rd_T36 la1 x4_1).f1)) ∧ w'.cell? ⟨g243, 2, none⟩ = some (I q ((rd_T36 la1 x4_1).f2)) ∧ w'.cell? ⟨g243, 3, none⟩ = some (I q ((rd_T36 la1 x4_1).f3)) ∧ w'.cell? ⟨g243, 4, none⟩ = some (.bool ((rd_T36 la1 x4_1).f4))) ∧ (Kd.R (Kd.int .u8) 5 w' w.heap.size (fun k_ => some k_ ≠ (s_.2 : Value).ownBlock ∧ some k_ ≠ (J Ao23 x3_1.length co23 : Value).ownBlock) s_.1 t244) ∧ (Kd.R (Kd.int .u8) 5 w' w.heap.size (fun k_ => some k_ ≠ (s_.1 : Value).ownBlock ∧ some k_ ≠ (J Ao23 x3_1.length co23 : Value).ownBlock) s_.2 y256) ∧ (Kd.R (Kd.int .u8) 5 w' w.heap.size (fun k_ => some k_ ≠ (s_.1 : Value).ownBlock ∧ some k_ ≠ (s_.2 : Value).ownBlock) (J Ao23 x3_1.length co23) x3_1) ∧ (w'.heap[g232]? = some (.cells #[I q aa0, .slice (some ad242) la1.length ca1, J Aa2 la2.length ca2] 31 (0, 0))) ∧ (w'.heap[g243]? = some (.cells #[I q ((rd_T36 la1 x4_1).f0), I q ((rd_T36 la1 x4_1).f1), I q ((rd_T36 la1 x4_1).f2), I q ((rd_T36 la1 x4_1).f3), .bool ((rd_T36 la1 x4_1).f4)] 36 (0, 0))) ∧ (Below w.heap.size w w')) ?_ ?_
               rotate_left
               ·intro hJ3_11
                refine join_ (σ := Value) 6 #[true, true, true, true, false, true, true, false, false, true, true, false, false, false] (fun s_ => [(53, s_)]) (fun s_ w' => (w'.cell? ⟨g243, 0, none⟩ = some (I q ((rd_T36 la1 x4_1).f0)) ∧ w'.cell? ⟨g243, 1, none⟩ = some (I q ((rd_T36 la1 x4_1).f1)) ∧ w'.cell? ⟨g243, 2, none⟩ = some (I q ((rd_T36 la1 x4_1).f2)) ∧ w'.cell? ⟨g243, 3, none⟩ = some (I q ((rd_T36 la1 x4_1).f3)) ∧ w'.cell? ⟨g243, 4, none⟩ = some (.bool ((rd_T36 la1 x4_1).f4))) ∧ (Kd.R (Kd.int .u8) 5 w' w.heap.size (fun k_ => some k_ ≠ (J Ao23 x3_1.length co23 : Value).ownBlock) s_ t244) ∧ (Kd.R (Kd.int .u8) 5 w' w.heap.size (fun k_ => some k_ ≠ (s_ : Value).ownBlock) (J Ao23 x3_1.length co23) x3_1) ∧ (w'.heap[g232]? = some (.cells #[I q aa0, .slice (some ad242) la1.length ca1, J Aa2 la2.length ca2] 31 (0, 0))) ∧ (w'.heap[g243]? = some (.cells #[I q ((rd_T36 la1 x4_1).f0), I q ((rd_T36 la1 x4_1).f1), I q ((rd_T36 la1 x4_1).f2), I q ((rd_T36 la1 x4_1).f3), .bool ((rd_T36 la1 x4_1).f4)] 36 (0, 0))) ∧ (Below w.heap.size w w')) ?_ ?_
                rotate_left
                ·intro hJ3
                 refine join_ (σ := Value) 6 #[true, true, true, false, false, true, true, false, false, true, true, true, false, false] (fun s_ => [(61, s_)]) (fun s_ w' => (w'.cell? ⟨g243, 0, none⟩ = some (I q ((rd_T36 la1 x4_1).f0)) ∧ w'.cell? ⟨g243, 1, none⟩ = some (I q ((rd_T36 la1 x4_1).f1)) ∧ w'.cell? ⟨g243, 2, none⟩ = some (I q ((rd_T36 la1 x4_1).f2)) ∧ w'.cell? ⟨g243, 3, none⟩ = some (I q ((rd_T36 la1 x4_1).f3)) ∧ w'.cell? ⟨g243, 4, none⟩ = some (.bool ((rd_T36 la1 x4_1).f4))) ∧ (Kd.R (Kd.int .u8) 5 w' w.heap.size (fun k_ => some k_ ≠ (J Ao23 x3_1.length co23 : Value).ownBlock) s_ y256) ∧ (Kd.R (Kd.int .u8) 5 w' w.heap.size (fun k_ => some k_ ≠ (s_ : Value).ownBlock) (J Ao23 x3_1.length co23) x3_1) ∧ (w'.heap[g232]? = some (.cells #[I q aa0, .slice (some ad242) la1.length ca1, J Aa2 la2.length ca2] 31 (0, 0))) ∧ (w'.heap[g243]? = some (.cells #[I q ((rd_T36 la1 x4_1).f0), I q ((rd_T36 la1 x4_1).f1), I q ((rd_T36 la1 x4_1).f2), I q ((rd_T36 la1 x4_1).f3), .bool ((rd_T36 la1 x4_1).f4)] 36 (0, 0))) ∧ (Below w.heap.size w w')) ?_ ?_
                 rotate_left
                 ·intro hJ11
                  refine two_ (i := 3) (j := 11) (Ni := some 53) (Nj := some 61) #[true, true, true, true, false, true, true, false, false, true, true, false, false, false] #[true, true, true, false, false, true, true, false, false, true, true, true, false, false] rfl rfl rfl rfl (two_of HT_.out (by kernel_rfl)) (by decide) (by decide) (fun K hK => ?_) (fun K hK => ?_)
                  ·skip
                   refine goes_ Try.func124 (by kernel_rfl) rfl #[I q ((rd_T36 la1 x4_1).f0), I q 2] (by rfl) rfl rfl (by (try simp only [List.map_toArray, List.map_cons, List.map_nil]); first | done | rfl | (simp only [List.length_drop, List.length_take]; rfl)) ?_
                   with_reducible refine (spec_l1Bytes.calls k1 ((rd_T36 la1 x4_1).f0) 2 t244 _ A14.out).mono ?_
                   rintro e w26 ⟨v245, rfl, ho0, hb⟩
                   refine ⟨_, rfl, ?_⟩
                   have N0 := am (re (by (with_reducible repeat (first | apply ra | apply rN | apply rd1)); exact o0.out) (Kd.R_base ho0) hb)
                   have N1 := am (rw1 (rn ho0 (rl (by (with_reducible repeat (first | apply ra | apply rN | apply rd1)); exact o0.out))) (bz (by repeat (first | (with_reducible first | exact HB.out | apply pa | apply pN | apply p1 | refine bs ?_ E232.out | refine bs ?_ E243.out) | exact HB.out))))
                   have N2 := am (bb (g := g232) (by (with_reducible repeat (first | apply bN | apply bd | apply ba)); exact B232.out) hb)
                   have N3 := am (bb (g := g243) (by (with_reducible repeat (first | apply bN | apply bd | apply ba)); exact B243.out) hb)
                   have N4 := am (bp (by repeat (first | (with_reducible first | exact HB.out | apply pa | apply pN | apply p1 | refine bs ?_ E232.out | refine bs ?_ E243.out) | exact HB.out)) hb)
                   clear o0
                   clear B232
                   clear B243
                   clear HB
                   have o0 := N0
                   have O246 := N1
                   have B232 := N2
                   have B243 := N3
                   have HB := N4
                   clear N0 N1 N2 N3 N4
                   (try clear hb)
                   (try clear hb2)
                   (try clear hk)
                   (try clear hi)
                   (try clear ho0)
                   refine hK.out _ _ ⟨(bc B243.out 0).trans rfl, (bc B243.out 1).trans rfl, (bc B243.out 2).trans rfl, (bc B243.out 3).trans rfl, (bc B243.out 4).trans rfl⟩ (fun hHeld => ?_)
                   clear hK K
                   refine norm_ (a' := ?_) ?_ ?_
                   rotate_left
                   ·show Act.put _ (some 53) _ = _
                    simp only [Act.put, List.setIfInBounds_toArray, List.set_cons_zero, List.set_cons_succ, i64_w, i32_w]
                    rfl
                   exact norm_ (by first | (simp only [putAll, Act.put, List.setIfInBounds_toArray, List.set_cons_zero, List.set_cons_succ]; done) | (simp only [putAll, Act.put, List.setIfInBounds_toArray, List.set_cons_zero, List.set_cons_succ]; rfl)) (hJ3 (v245) _ ⟨hHeld, (by (with_reducible repeat (first | apply ra | apply rN | apply rd1)); exact Kd.R_mono O246.out (fun _ hk => hk.2)), (by (with_reducible repeat (first | apply ra | apply rN | apply rd1)); exact Kd.R_mono o0.out (fun _ hk => hk.2)), (by (with_reducible repeat (first | apply bN | apply bd | apply ba)); exact B232.out), (by (with_reducible repeat (first | apply bN | apply bd | apply ba)); exact B243.out), (by repeat (first | (with_reducible first | exact HB.out | apply pa | apply pN | apply p1 | refine bs ?_ E232.out | refine bs ?_ E243.out) | exact HB.out))⟩)
                  ·skip
                   refine Kd.R_lit_step (Kd.int .u8) _ 5 ?hg (N := 61) ?hd (xs := ([(Cf.l6n (rd_T36 la1 x4_1)) % 256] : List Int)) (inner := [.int .u8 ((Cf.l6n (rd_T36 la1 x4_1)) % 256)]) (ok := fun _ => True) (okp := fun _ => True) ?hr ?hp (fun _ hk => hk) trivial (Below.refl _ _) (Nat.le_refl _) (by simp) ?_; (case hd => rfl); (case hg => rfl); (case hr => first | (go_simp; done) | (go_simp; rfl)); (case hp => exact (Reps.one (show Kd.M (Kd.int .u8) _ _ _ ((Cf.l6n (rd_T36 la1 x4_1)) % 256) [.int .u8 ((Cf.l6n (rd_T36 la1 x4_1)) % 256)] from rfl) (Reps.none _ _)))
                   intro v257 w26 ho27 hb hg_ hnew_
                   clear hg_ hnew_
                   (first | rw [← Ny256.out] at ho27 | (simp only [Int.reduceToNat] at ho27; rw [← Ny256.out] at ho27))
                   have N0 := am (re (by (with_reducible repeat (first | apply ra | apply rN | apply rd1)); exact o0.out) (Kd.R_base ho27) hb)
                   have N1 := am (rw1 (rn ho27 (rl (by (with_reducible repeat (first | apply ra | apply rN | apply rd1)); exact o0.out))) (bz (by repeat (first | (with_reducible first | exact HB.out | apply pa | apply pN | apply p1 | refine bs ?_ E232.out | refine bs ?_ E243.out) | exact HB.out))))
                   have N2 := am (bb (g := g232) (by (with_reducible repeat (first | apply bN | apply bd | apply ba)); exact B232.out) hb)
                   have N3 := am (bb (g := g243) (by (with_reducible repeat (first | apply bN | apply bd | apply ba)); exact B243.out) hb)
                   have N4 := am (bp (by repeat (first | (with_reducible first | exact HB.out | apply pa | apply pN | apply p1 | refine bs ?_ E232.out | refine bs ?_ E243.out) | exact HB.out)) hb)
                   clear o0
                   clear B232
                   clear B243
                   clear HB
                   have o0 := N0
                   have O258 := N1
                   have B232 := N2
                   have B243 := N3
                   have HB := N4
                   clear N0 N1 N2 N3 N4
                   clear hb ho27
                   refine hK.out _ _ ⟨(bc B243.out 0).trans rfl, (bc B243.out 1).trans rfl, (bc B243.out 2).trans rfl, (bc B243.out 3).trans rfl, (bc B243.out 4).trans rfl⟩ (fun hHeld => ?_)
                   clear hK K
                   refine norm_ (a' := ?_) ?_ ?_
                   rotate_left
                   ·show Act.put _ (some 61) _ = _
                    simp only [Act.put, List.setIfInBounds_toArray, List.set_cons_zero, List.set_cons_succ, i64_w, i32_w]
                    rfl
                   exact norm_ (by first | (simp only [putAll, Act.put, List.setIfInBounds_toArray, List.set_cons_zero, List.set_cons_succ]; done) | (simp only [putAll, Act.put, List.setIfInBounds_toArray, List.set_cons_zero, List.set_cons_succ]; rfl)) (hJ11 (v257) _ ⟨hHeld, (by (with_reducible repeat (first | apply ra | apply rN | apply rd1)); exact Kd.R_mono O258.out (fun _ hk => hk.2)), (by (with_reducible repeat (first | apply ra | apply rN | apply rd1)); exact Kd.R_mono o0.out (fun _ hk => hk.2)), (by (with_reducible repeat (first | apply bN | apply bd | apply ba)); exact B232.out), (by (with_reducible repeat (first | apply bN | apply bd | apply ba)); exact B243.out), (by repeat (first | (with_reducible first | exact HB.out | apply pa | apply pN | apply p1 | refine bs ?_ E232.out | refine bs ?_ E243.out) | exact HB.out))⟩)
                 ·skip
                  rintro v257 w28 ⟨hS_, h0_, h1_, h2_, h3_, h4_⟩
                  have N0 : Aside0 (Kd.R (Kd.int .u8) 5 w28 w.heap.size (fun k_ => some k_ ≠ (J Ao23 x3_1.length co23 : Value).ownBlock) v257 y256) := ⟨h0_⟩
                  have N1 : Aside0 (Kd.R (Kd.int .u8) 5 w28 w.heap.size (fun k_ => some k_ ≠ (v257 : Value).ownBlock) (J Ao23 x3_1.length co23) x3_1) := ⟨h1_⟩
                  have N2 : Aside0 (w28.heap[g232]? = some (.cells #[I q aa0, .slice (some ad242) la1.length ca1, J Aa2 la2.length ca2] 31 (0, 0))) := ⟨h2_⟩
                  have N3 : Aside0 (w28.heap[g243]? = some (.cells #[I q ((rd_T36 la1 x4_1).f0), I q ((rd_T36 la1 x4_1).f1), I q ((rd_T36 la1 x4_1).f2), I q ((rd_T36 la1 x4_1).f3), .bool ((rd_T36 la1 x4_1).f4)] 36 (0, 0))) := ⟨h3_⟩
                  have N4 : Aside0 (Below w.heap.size w w28) := ⟨h4_⟩
                  clear o0
                  clear B232
                  clear B243
                  clear HB
                  clear h0_ h1_ h2_ h3_ h4_
                  have O258 := N0
                  have o0 := N1
                  have B232 := N2
                  have B243 := N3
                  have HB := N4
                  clear N0 N1 N2 N3 N4
                  have hHeld : w28.cell? ⟨g243, 0, none⟩ = some (I q ((rd_T36 la1 x4_1).f0)) ∧ w28.cell? ⟨g243, 1, none⟩ = some (I q ((rd_T36 la1 x4_1).f1)) ∧ w28.cell? ⟨g243, 2, none⟩ = some (I q ((rd_T36 la1 x4_1).f2)) ∧ w28.cell? ⟨g243, 3, none⟩ = some (I q ((rd_T36 la1 x4_1).f3)) ∧ w28.cell? ⟨g243, 4, none⟩ = some (.bool ((rd_T36 la1 x4_1).f4)) := hS_
                  refine norm_ (a' := ?_) ?_ ?_
                  rotate_left
                  ·simp only [putAll, Act.put, List.setIfInBounds_toArray, List.set_cons_zero, List.set_cons_succ]
                   rfl
                  refine one_ (i := 3) (N := some 53) #[true, true, true, true, false, true, true, false, false, true, true, true, false, false] rfl rfl (one_of HT_.out (by kernel_rfl)) (by decide) (fun K hK => ?_)
                  refine goes_ Try.func124 (by kernel_rfl) rfl #[I q ((rd_T36 la1 x4_1).f0), I q 2] (by rfl) rfl rfl (by (try simp only [List.map_toArray, List.map_cons, List.map_nil]); first | done | rfl | (simp only [List.length_drop, List.length_take]; rfl)) ?_
                  with_reducible refine (spec_l1Bytes.calls k1 ((rd_T36 la1 x4_1).f0) 2 t244 _ A14.out).mono ?_
                  rintro e w29 ⟨v245, rfl, ho0, hb⟩
                  refine ⟨_, rfl, ?_⟩
                  have N0 := am (re (by (with_reducible repeat (first | apply ra | apply rN | apply rd1)); exact o0.out) (Kd.R_base ho0) hb)
                  have N1 := am (re (by (with_reducible repeat (first | apply ra | apply rN | apply rd1)); exact O258.out) (Kd.R_base ho0) hb)
                  have N2 := am (rw1 (rn (rn ho0 (rl (by (with_reducible repeat (first | apply ra | apply rN | apply rd1)); exact o0.out))) (rl (by (with_reducible repeat (first | apply ra | apply rN | apply rd1)); exact O258.out))) (bz (by repeat (first | (with_reducible first | exact HB.out | apply pa | apply pN | apply p1 | refine bs ?_ E232.out | refine bs ?_ E243.out) | exact HB.out))))
                  have N3 := am (bb (g := g232) (by (with_reducible repeat (first | apply bN | apply bd | apply ba)); exact B232.out) hb)
                  have N4 := am (bb (g := g243) (by (with_reducible repeat (first | apply bN | apply bd | apply ba)); exact B243.out) hb)
                  have N5 := am (bp (by repeat (first | (with_reducible first | exact HB.out | apply pa | apply pN | apply p1 | refine bs ?_ E232.out | refine bs ?_ E243.out) | exact HB.out)) hb)
                  clear o0
                  clear O258
                  clear B232
                  clear B243
                  clear HB
                  have o0 := N0
                  have O258 := N1
                  have O246 := N2
                  have B232 := N3
                  have B243 := N4
                  have HB := N5
                  clear N0 N1 N2 N3 N4 N5
                  (try clear hb)
                  (try clear hb2)
                  (try clear hk)
                  (try clear hi)
                  (try clear ho0)
                  refine hK.out _ _ ⟨(bc B243.out 0).trans rfl, (bc B243.out 1).trans rfl, (bc B243.out 2).trans rfl, (bc B243.out 3).trans rfl, (bc B243.out 4).trans rfl⟩ (fun hHeld => ?_)
                  clear hK K
                  refine norm_ (a' := ?_) ?_ ?_
                  rotate_left
                  ·show Act.put _ (some 53) _ = _
                   simp only [Act.put, List.setIfInBounds_toArray, List.set_cons_zero, List.set_cons_succ, i64_w, i32_w]
                   rfl
                  exact norm_ (by first | (simp only [putAll, Act.put, List.setIfInBounds_toArray, List.set_cons_zero, List.set_cons_succ]; done) | (simp only [putAll, Act.put, List.setIfInBounds_toArray, List.set_cons_zero, List.set_cons_succ]; rfl)) (hJ3_11 (v245, v257) _ ⟨hHeld, (by (with_reducible repeat (first | apply ra | apply rN | apply rd1)); exact Kd.R_mono O246.out (fun _ hk => ⟨hk.2, hk.1.2⟩)), (by (with_reducible repeat (first | apply ra | apply rN | apply rd1)); exact Kd.R_mono O258.out (fun _ hk => ⟨hk.2, hk.1⟩)), (by (with_reducible repeat (first | apply ra | apply rN | apply rd1)); exact Kd.R_mono o0.out (fun _ hk => ⟨hk.2, hk.1⟩)), (by (with_reducible repeat (first | apply bN | apply bd | apply ba)); exact B232.out), (by (with_reducible repeat (first | apply bN | apply bd | apply ba)); exact B243.out), (by repeat (first | (with_reducible first | exact HB.out | apply pa | apply pN | apply p1 | refine bs ?_ E232.out | refine bs ?_ E243.out) | exact HB.out))⟩)
                ·skip
                 rintro v245 w27 ⟨hS_, h0_, h1_, h2_, h3_, h4_⟩
                 have N0 : Aside0 (Kd.R (Kd.int .u8) 5 w27 w.heap.size (fun k_ => some k_ ≠ (J Ao23 x3_1.length co23 : Value).ownBlock) v245 t244) := ⟨h0_⟩
                 have N1 : Aside0 (Kd.R (Kd.int .u8) 5 w27 w.heap.size (fun k_ => some k_ ≠ (v245 : Value).ownBlock) (J Ao23 x3_1.length co23) x3_1) := ⟨h1_⟩
                 have N2 : Aside0 (w27.heap[g232]? = some (.cells #[I q aa0, .slice (some ad242) la1.length ca1, J Aa2 la2.length ca2] 31 (0, 0))) := ⟨h2_⟩
                 have N3 : Aside0 (w27.heap[g243]? = some (.cells #[I q ((rd_T36 la1 x4_1).f0), I q ((rd_T36 la1 x4_1).f1), I q ((rd_T36 la1 x4_1).f2), I q ((rd_T36 la1 x4_1).f3), .bool ((rd_T36 la1 x4_1).f4)] 36 (0, 0))) := ⟨h3_⟩
                 have N4 : Aside0 (Below w.heap.size w w27) := ⟨h4_⟩
                 clear o0
                 clear B232
                 clear B243
                 clear HB
                 clear h0_ h1_ h2_ h3_ h4_
                 have O246 := N0
                 have o0 := N1
                 have B232 := N2
                 have B243 := N3
                 have HB := N4
                 clear N0 N1 N2 N3 N4
                 have hHeld : w27.cell? ⟨g243, 0, none⟩ = some (I q ((rd_T36 la1 x4_1).f0)) ∧ w27.cell? ⟨g243, 1, none⟩ = some (I q ((rd_T36 la1 x4_1).f1)) ∧ w27.cell? ⟨g243, 2, none⟩ = some (I q ((rd_T36 la1 x4_1).f2)) ∧ w27.cell? ⟨g243, 3, none⟩ = some (I q ((rd_T36 la1 x4_1).f3)) ∧ w27.cell? ⟨g243, 4, none⟩ = some (.bool ((rd_T36 la1 x4_1).f4)) := hS_
                 obtain ⟨Ao29, co29, eo29⟩ := Kd.R_slice O246.out
                 (first | subst eo29 | (injection eo29 with f1_ f2_ f3_; have f4_ := f1_.symm; have f5_ := f3_.symm; clear f1_ f2_ f3_; subst f4_; subst f5_))
                 refine norm_ (a' := ?_) ?_ ?_
                 rotate_left
                 ·simp only [putAll, Act.put, List.setIfInBounds_toArray, List.set_cons_zero, List.set_cons_succ]
                  rfl
                 refine two_ (i := 4) (j := 11) (Ni := some 54) (Nj := some 61) #[true, true, true, true, true, true, true, false, false, true, true, false, false, false] #[true, true, true, true, false, true, true, false, false, true, true, true, false, false] rfl rfl rfl rfl (two_of HT_.out (by kernel_rfl)) (by decide) (by decide) (fun K hK => ?_) (fun K hK => ?_)
                 ·skip
                  refine Kd.R_append_rows_step (Kd.int .u8) (w0 := w) w.heap.size (by rfl) (.tmp 50) (.tmp 53) 58 5 (.int .u8 0) 1 rfl Try.underlying58 info5 rfl (by decide) (by omega) (J Ao23 x3_1.length co23) x3_1 t244 _ _ _ (fun k_ => some k_ ≠ (J Ao29 t244.length co29 : Value).ownBlock) (fun _ => False) rfl rfl ?aO ?aR (fun _ _ h => h) (fun _ h => h.elim) ?aF ?aB ?aS ?aL ?_
                  (case aR => repeat (first | exact (Kd.R_reads' O246.out).2.2 | (with_reducible refine ca ?_ _) | (with_reducible refine cN ?_ _) | (with_reducible refine cd1 ?_)))
                  (case aB => exact (by repeat (first | (with_reducible first | exact HB.out | apply pa | apply pN | apply p1 | refine bs ?_ E232.out | refine bs ?_ E243.out) | exact HB.out)))
                  (case aF => exact (fun k_ hk => Kd.fresh' (rl (by (with_reducible repeat (first | apply ra | apply rN | apply rd1)); exact O246.out)) k_ hk))
                  (case aO => exact (by (with_reducible repeat (first | apply ra | apply rN | apply rd1)); exact o0.out))
                  (case aS => exact (bz (by repeat (first | (with_reducible first | exact HB.out | apply pa | apply pN | apply p1 | refine bs ?_ E232.out | refine bs ?_ E243.out) | exact HB.out))))
                  (case aL => have := LMc15.out; omega)
                  intro v248 w28 ho hb hg hat
                  rw [← Ny247.out] at ho
                  have N0 := am (blk_grown (g := g232) (o := .cells #[I q aa0, .slice (some ad242) la1.length ca1, J Aa2 la2.length ca2] 31 (0, 0)) (by (with_reducible repeat (first | apply bN | apply bd | apply ba)); exact B232.out) hg (Kd.R_ne o0.out B232.out (by decide)))
                  have N1 := am (blk_grown (g := g243) (o := .cells #[I q ((rd_T36 la1 x4_1).f0), I q ((rd_T36 la1 x4_1).f1), I q ((rd_T36 la1 x4_1).f2), I q ((rd_T36 la1 x4_1).f3), .bool ((rd_T36 la1 x4_1).f4)] 36 (0, 0)) (by (with_reducible repeat (first | apply bN | apply bd | apply ba)); exact B243.out) hg (Kd.R_ne o0.out B243.out (by decide)))
                  have N2 := am (Kd.R_after (ok := (fun _ => True)) (by (with_reducible repeat (first | apply ra | apply rN | apply rd1)); exact Kd.R_mono O246.out (fun _ hk => ⟨trivial, hk⟩)) hg hat)
                  have N3 := am (hb)
                  have N4 := am (ho)
                  clear B232
                  clear B243
                  clear O246
                  clear HB
                  clear o0
                  have B232 := N0
                  have B243 := N1
                  have O246 := N2
                  have HB := N3
                  have O249 := N4
                  clear N0 N1 N2 N3 N4
                  clear ho hb hg hat
                  refine hK.out _ _ ⟨(bc B243.out 0).trans rfl, (bc B243.out 1).trans rfl, (bc B243.out 2).trans rfl, (bc B243.out 3).trans rfl, (bc B243.out 4).trans rfl⟩ (fun hHeld => ?_)
                  clear hK K
                  refine norm_ (a' := ?_) ?_ ?_
                  rotate_left
                  ·show Act.put _ (some 54) _ = _
                   simp only [Act.put, List.setIfInBounds_toArray, List.set_cons_zero, List.set_cons_succ, i64_w, i32_w]
                   rfl
                  exact norm_ (by first | (simp only [putAll, Act.put, List.setIfInBounds_toArray, List.set_cons_zero, List.set_cons_succ]; done) | (simp only [putAll, Act.put, List.setIfInBounds_toArray, List.set_cons_zero, List.set_cons_succ]; rfl)) (hJ3_4 (J Ao29 t244.length co29, v248) _ ⟨hHeld, (by (with_reducible repeat (first | apply ra | apply rN | apply rd1)); exact Kd.R_mono O246.out (fun _ hk => hk.2)), (by (with_reducible repeat (first | apply ra | apply rN | apply rd1)); exact O249.out), (by (with_reducible repeat (first | apply bN | apply bd | apply ba)); exact B232.out), (by (with_reducible repeat (first | apply bN | apply bd | apply ba)); exact B243.out), (by repeat (first | (with_reducible first | exact HB.out | apply pa | apply pN | apply p1 | refine bs ?_ E232.out | refine bs ?_ E243.out) | exact HB.out))⟩)
                 ·skip
                  refine Kd.R_lit_step (Kd.int .u8) _ 5 ?hg (N := 61) ?hd (xs := ([(Cf.l6n (rd_T36 la1 x4_1)) % 256] : List Int)) (inner := [.int .u8 ((Cf.l6n (rd_T36 la1 x4_1)) % 256)]) (ok := fun _ => True) (okp := fun _ => True) ?hr ?hp (fun _ hk => hk) trivial (Below.refl _ _) (Nat.le_refl _) (by simp) ?_; (case hd => rfl); (case hg => rfl); (case hr => first | (go_simp; done) | (go_simp; rfl)); (case hp => exact (Reps.one (show Kd.M (Kd.int .u8) _ _ _ ((Cf.l6n (rd_T36 la1 x4_1)) % 256) [.int .u8 ((Cf.l6n (rd_T36 la1 x4_1)) % 256)] from rfl) (Reps.none _ _)))
                  intro v257 w28 ho29 hb hg_ hnew_
                  clear hg_ hnew_
                  (first | rw [← Ny256.out] at ho29 | (simp only [Int.reduceToNat] at ho29; rw [← Ny256.out] at ho29))
                  have N0 := am (re (by (with_reducible repeat (first | apply ra | apply rN | apply rd1)); exact o0.out) (Kd.R_base ho29) hb)
                  have N1 := am (re (by (with_reducible repeat (first | apply ra | apply rN | apply rd1)); exact O246.out) (Kd.R_base ho29) hb)
                  have N2 := am (rw1 (rn (rn ho29 (rl (by (with_reducible repeat (first | apply ra | apply rN | apply rd1)); exact o0.out))) (rl (by (with_reducible repeat (first | apply ra | apply rN | apply rd1)); exact O246.out))) (bz (by repeat (first | (with_reducible first | exact HB.out | apply pa | apply pN | apply p1 | refine bs ?_ E232.out | refine bs ?_ E243.out) | exact HB.out))))
                  have N3 := am (bb (g := g232) (by (with_reducible repeat (first | apply bN | apply bd | apply ba)); exact B232.out) hb)
                  have N4 := am (bb (g := g243) (by (with_reducible repeat (first | apply bN | apply bd | apply ba)); exact B243.out) hb)
                  have N5 := am (bp (by repeat (first | (with_reducible first | exact HB.out | apply pa | apply pN | apply p1 | refine bs ?_ E232.out | refine bs ?_ E243.out) | exact HB.out)) hb)
                  clear o0
                  clear O246
                  clear B232
                  clear B243
                  clear HB
                  have o0 := N0
                  have O246 := N1
                  have O258 := N2
                  have B232 := N3
                  have B243 := N4
                  have HB := N5
                  clear N0 N1 N2 N3 N4 N5
                  clear hb ho29
                  refine hK.out _ _ ⟨(bc B243.out 0).trans rfl, (bc B243.out 1).trans rfl, (bc B243.out 2).trans rfl, (bc B243.out 3).trans rfl, (bc B243.out 4).trans rfl⟩ (fun hHeld => ?_)
                  clear hK K
                  refine norm_ (a' := ?_) ?_ ?_
                  rotate_left
                  ·show Act.put _ (some 61) _ = _
                   simp only [Act.put, List.setIfInBounds_toArray, List.set_cons_zero, List.set_cons_succ, i64_w, i32_w]
                   rfl
                  exact norm_ (by first | (simp only [putAll, Act.put, List.setIfInBounds_toArray, List.set_cons_zero, List.set_cons_succ]; done) | (simp only [putAll, Act.put, List.setIfInBounds_toArray, List.set_cons_zero, List.set_cons_succ]; rfl)) (hJ3_11 ((J Ao29 t244.length co29 : Value), v257) _ ⟨hHeld, (by (with_reducible repeat (first | apply ra | apply rN | apply rd1)); exact Kd.R_mono O246.out (fun _ hk => ⟨hk.2, hk.1⟩)), (by (with_reducible repeat (first | apply ra | apply rN | apply rd1)); exact Kd.R_mono O258.out (fun _ hk => ⟨hk.2, hk.1.2⟩)), (by (with_reducible repeat (first | apply ra | apply rN | apply rd1)); exact o0.out), (by (with_reducible repeat (first | apply bN | apply bd | apply ba)); exact B232.out), (by (with_reducible repeat (first | apply bN | apply bd | apply ba)); exact B243.out), (by repeat (first | (with_reducible first | exact HB.out | apply pa | apply pN | apply p1 | refine bs ?_ E232.out | refine bs ?_ E243.out) | exact HB.out))⟩)
               ·skip
                rintro ⟨v245, v257⟩ w29 ⟨hS_, h0_, h1_, h2_, h3_, h4_, h5_⟩
                have N0 : Aside0 (Kd.R (Kd.int .u8) 5 w29 w.heap.size (fun k_ => some k_ ≠ (v257 : Value).ownBlock ∧ some k_ ≠ (J Ao23 x3_1.length co23 : Value).ownBlock) v245 t244) := ⟨h0_⟩
                have N1 : Aside0 (Kd.R (Kd.int .u8) 5 w29 w.heap.size (fun k_ => some k_ ≠ (v245 : Value).ownBlock ∧ some k_ ≠ (J Ao23 x3_1.length co23 : Value).ownBlock) v257 y256) := ⟨h1_⟩
                have N2 : Aside0 (Kd.R (Kd.int .u8) 5 w29 w.heap.size (fun k_ => some k_ ≠ (v245 : Value).ownBlock ∧ some k_ ≠ (v257 : Value).ownBlock) (J Ao23 x3_1.length co23) x3_1) := ⟨h2_⟩
                have N3 : Aside0 (w29.heap[g232]? = some (.cells #[I q aa0, .slice (some ad242) la1.length ca1, J Aa2 la2.length ca2] 31 (0, 0))) := ⟨h3_⟩
                have N4 : Aside0 (w29.heap[g243]? = some (.cells #[I q ((rd_T36 la1 x4_1).f0), I q ((rd_T36 la1 x4_1).f1), I q ((rd_T36 la1 x4_1).f2), I q ((rd_T36 la1 x4_1).f3), .bool ((rd_T36 la1 x4_1).f4)] 36 (0, 0))) := ⟨h4_⟩
                have N5 : Aside0 (Below w.heap.size w w29) := ⟨h5_⟩
                clear o0
                clear B232
                clear B243
                clear HB
                clear h0_ h1_ h2_ h3_ h4_ h5_
                have O246 := N0
                have O258 := N1
                have o0 := N2
                have B232 := N3
                have B243 := N4
                have HB := N5
                clear N0 N1 N2 N3 N4 N5
                have hHeld : w29.cell? ⟨g243, 0, none⟩ = some (I q ((rd_T36 la1 x4_1).f0)) ∧ w29.cell? ⟨g243, 1, none⟩ = some (I q ((rd_T36 la1 x4_1).f1)) ∧ w29.cell? ⟨g243, 2, none⟩ = some (I q ((rd_T36 la1 x4_1).f2)) ∧ w29.cell? ⟨g243, 3, none⟩ = some (I q ((rd_T36 la1 x4_1).f3)) ∧ w29.cell? ⟨g243, 4, none⟩ = some (.bool ((rd_T36 la1 x4_1).f4)) := hS_
                obtain ⟨Ao31, co31, eo31⟩ := Kd.R_slice O246.out
                (first | subst eo31 | (injection eo31 with f1_ f2_ f3_; have f4_ := f1_.symm; have f5_ := f3_.symm; clear f1_ f2_ f3_; subst f4_; subst f5_))
                refine norm_ (a' := ?_) ?_ ?_
                rotate_left
                ·simp only [putAll, Act.put, List.setIfInBounds_toArray, List.set_cons_zero, List.set_cons_succ]
                 rfl
                refine one_ (i := 4) (N := some 54) #[true, true, true, true, true, true, true, false, false, true, true, true, false, false] rfl rfl (one_of HT_.out (by kernel_rfl)) (by decide) (fun K hK => ?_)
                refine Kd.R_append_rows_step (Kd.int .u8) (w0 := w) w.heap.size (by rfl) (.tmp 50) (.tmp 53) 58 5 (.int .u8 0) 1 rfl Try.underlying58 info5 rfl (by decide) (by omega) (J Ao23 x3_1.length co23) x3_1 t244 _ _ _ (fun k_ => some k_ ≠ (J Ao31 t244.length co31 : Value).ownBlock ∧ some k_ ≠ (v257 : Value).ownBlock) (fun _ => False) rfl rfl ?aO ?aR (fun _ _ h => h) (fun _ h => h.elim) ?aF ?aB ?aS ?aL ?_
                (case aR => repeat (first | exact (Kd.R_reads' O246.out).2.2 | (with_reducible refine ca ?_ _) | (with_reducible refine cN ?_ _) | (with_reducible refine cd1 ?_)))
                (case aB => exact (by repeat (first | (with_reducible first | exact HB.out | apply pa | apply pN | apply p1 | refine bs ?_ E232.out | refine bs ?_ E243.out) | exact HB.out)))
                (case aF => exact (fun k_ hk => ⟨Kd.fresh' (rl (by (with_reducible repeat (first | apply ra | apply rN | apply rd1)); exact O246.out)) k_ hk, Kd.fresh' (rl (by (with_reducible repeat (first | apply ra | apply rN | apply rd1)); exact O258.out)) k_ hk⟩))
                (case aO => exact (by (with_reducible repeat (first | apply ra | apply rN | apply rd1)); exact o0.out))
                (case aS => exact (bz (by repeat (first | (with_reducible first | exact HB.out | apply pa | apply pN | apply p1 | refine bs ?_ E232.out | refine bs ?_ E243.out) | exact HB.out))))
                (case aL => have := LMc15.out; omega)
                intro v248 w30 ho hb hg hat
                rw [← Ny247.out] at ho
                have N0 := am (blk_grown (g := g232) (o := .cells #[I q aa0, .slice (some ad242) la1.length ca1, J Aa2 la2.length ca2] 31 (0, 0)) (by (with_reducible repeat (first | apply bN | apply bd | apply ba)); exact B232.out) hg (Kd.R_ne o0.out B232.out (by decide)))
                have N1 := am (blk_grown (g := g243) (o := .cells #[I q ((rd_T36 la1 x4_1).f0), I q ((rd_T36 la1 x4_1).f1), I q ((rd_T36 la1 x4_1).f2), I q ((rd_T36 la1 x4_1).f3), .bool ((rd_T36 la1 x4_1).f4)] 36 (0, 0)) (by (with_reducible repeat (first | apply bN | apply bd | apply ba)); exact B243.out) hg (Kd.R_ne o0.out B243.out (by decide)))
                have N2 := am (Kd.R_after (ok := (fun k_ => some k_ ≠ (v257 : Value).ownBlock)) (by (with_reducible repeat (first | apply ra | apply rN | apply rd1)); exact O246.out) hg hat)
                have N3 := am (Kd.R_after (ok := (fun k_ => some k_ ≠ (J Ao31 t244.length co31 : Value).ownBlock)) (by (with_reducible repeat (first | apply ra | apply rN | apply rd1)); exact O258.out) hg hat)
                have N4 := am (hb)
                have N5 := am (ho)
                clear B232
                clear B243
                clear O246
                clear O258
                clear HB
                clear o0
                have B232 := N0
                have B243 := N1
                have O246 := N2
                have O258 := N3
                have HB := N4
                have O249 := N5
                clear N0 N1 N2 N3 N4 N5
                clear ho hb hg hat
                refine hK.out _ _ ⟨(bc B243.out 0).trans rfl, (bc B243.out 1).trans rfl, (bc B243.out 2).trans rfl, (bc B243.out 3).trans rfl, (bc B243.out 4).trans rfl⟩ (fun hHeld => ?_)
                clear hK K
                refine norm_ (a' := ?_) ?_ ?_
                rotate_left
                ·show Act.put _ (some 54) _ = _
                 simp only [Act.put, List.setIfInBounds_toArray, List.set_cons_zero, List.set_cons_succ, i64_w, i32_w]
                 rfl
                exact norm_ (by first | (simp only [putAll, Act.put, List.setIfInBounds_toArray, List.set_cons_zero, List.set_cons_succ]; done) | (simp only [putAll, Act.put, List.setIfInBounds_toArray, List.set_cons_zero, List.set_cons_succ]; rfl)) (hJ3_4_11 (J Ao31 t244.length co31, v248, v257) _ ⟨hHeld, (by (with_reducible repeat (first | apply ra | apply rN | apply rd1)); exact Kd.R_mono O246.out (fun _ hk => ⟨hk.2, hk.1⟩)), (by (with_reducible repeat (first | apply ra | apply rN | apply rd1)); exact O249.out), (by (with_reducible repeat (first | apply ra | apply rN | apply rd1)); exact O258.out), (by (with_reducible repeat (first | apply bN | apply bd | apply ba)); exact B232.out), (by (with_reducible repeat (first | apply bN | apply bd | apply ba)); exact B243.out), (by repeat (first | (with_reducible first | exact HB.out | apply pa | apply pN | apply p1 | refine bs ?_ E232.out | refine bs ?_ E243.out) | exact HB.out))⟩)
              ·skip
               rintro ⟨v245, v248⟩ w29 ⟨hS_, h0_, h1_, h2_, h3_, h4_⟩
               have N0 : Aside0 (Kd.R (Kd.int .u8) 5 w29 w.heap.size (fun k_ => some k_ ≠ (v248 : Value).ownBlock) v245 t244) := ⟨h0_⟩
               have N1 : Aside0 (Kd.R (Kd.int .u8) 5 w29 w.heap.size (fun k_ => some k_ ≠ (v245 : Value).ownBlock) v248 y247) := ⟨h1_⟩
               have N2 : Aside0 (w29.heap[g232]? = some (.cells #[I q aa0, .slice (some ad242) la1.length ca1, J Aa2 la2.length ca2] 31 (0, 0))) := ⟨h2_⟩
               have N3 : Aside0 (w29.heap[g243]? = some (.cells #[I q ((rd_T36 la1 x4_1).f0), I q ((rd_T36 la1 x4_1).f1), I q ((rd_T36 la1 x4_1).f2), I q ((rd_T36 la1 x4_1).f3), .bool ((rd_T36 la1 x4_1).f4)] 36 (0, 0))) := ⟨h3_⟩
               have N4 : Aside0 (Below w.heap.size w w29) := ⟨h4_⟩
               clear o0
               clear B232
               clear B243
               clear HB
               clear h0_ h1_ h2_ h3_ h4_
               have O246 := N0
               have O249 := N1
               have B232 := N2
               have B243 := N3
               have HB := N4
               clear N0 N1 N2 N3 N4
               have hHeld : w29.cell? ⟨g243, 0, none⟩ = some (I q ((rd_T36 la1 x4_1).f0)) ∧ w29.cell? ⟨g243, 1, none⟩ = some (I q ((rd_T36 la1 x4_1).f1)) ∧ w29.cell? ⟨g243, 2, none⟩ = some (I q ((rd_T36 la1 x4_1).f2)) ∧ w29.cell? ⟨g243, 3, none⟩ = some (I q ((rd_T36 la1 x4_1).f3)) ∧ w29.cell? ⟨g243, 4, none⟩ = some (.bool ((rd_T36 la1 x4_1).f4)) := hS_
               refine norm_ (a' := ?_) ?_ ?_
               rotate_left
               ·simp only [putAll, Act.put, List.setIfInBounds_toArray, List.set_cons_zero, List.set_cons_succ]
                rfl
               refine two_ (i := 7) (j := 11) (Ni := some 57) (Nj := some 61) #[true, true, true, true, true, true, true, true, false, true, true, false, false, false] #[true, true, true, true, true, true, true, false, false, true, true, true, false, false] rfl rfl rfl rfl (two_of HT_.out (by kernel_rfl)) (by decide) (by decide) (fun K hK => ?_) (fun K hK => ?_)
               ·skip
                refine goes_ Try.func124 (by kernel_rfl) rfl #[I q ((rd_T36 la1 x4_1).f1), I q 4] (by rfl) rfl rfl (by (try simp only [List.map_toArray, List.map_cons, List.map_nil]); first | done | rfl | (simp only [List.length_drop, List.length_take]; rfl)) ?_
                with_reducible refine (spec_l1Bytes.calls k1 ((rd_T36 la1 x4_1).f1) 4 t250 _ A16.out).mono ?_
                rintro e w30 ⟨v251, rfl, ho0, hb⟩
                refine ⟨_, rfl, ?_⟩
                have N0 := am (re (by (with_reducible repeat (first | apply ra | apply rN | apply rd1)); exact O246.out) (Kd.R_base ho0) hb)
                have N1 := am (re (by (with_reducible repeat (first | apply ra | apply rN | apply rd1)); exact O249.out) (Kd.R_base ho0) hb)
                have N2 := am (rw1 (rn (rn ho0 (rl (by (with_reducible repeat (first | apply ra | apply rN | apply rd1)); exact O246.out))) (rl (by (with_reducible repeat (first | apply ra | apply rN | apply rd1)); exact O249.out))) (bz (by repeat (first | (with_reducible first | exact HB.out | apply pa | apply pN | apply p1 | refine bs ?_ E232.out | refine bs ?_ E243.out) | exact HB.out))))
                have N3 := am (bb (g := g232) (by (with_reducible repeat (first | apply bN | apply bd | apply ba)); exact B232.out) hb)
                have N4 := am (bb (g := g243) (by (with_reducible repeat (first | apply bN | apply bd | apply ba)); exact B243.out) hb)
                have N5 := am (bp (by repeat (first | (with_reducible first | exact HB.out | apply pa | apply pN | apply p1 | refine bs ?_ E232.out | refine bs ?_ E243.out) | exact HB.out)) hb)
                clear O246
                clear O249
                clear B232
                clear B243
                clear HB
                have O246 := N0
                have O249 := N1
                have O252 := N2
                have B232 := N3
                have B243 := N4
                have HB := N5
                clear N0 N1 N2 N3 N4 N5
                (try clear hb)
                (try clear hb2)
                (try clear hk)
                (try clear hi)
                (try clear ho0)
                refine hK.out _ _ ⟨(bc B243.out 0).trans rfl, (bc B243.out 1).trans rfl, (bc B243.out 2).trans rfl, (bc B243.out 3).trans rfl, (bc B243.out 4).trans rfl⟩ (fun hHeld => ?_)
                clear hK K
                refine norm_ (a' := ?_) ?_ ?_
                rotate_left
                ·show Act.put _ (some 57) _ = _
                 simp only [Act.put, List.setIfInBounds_toArray, List.set_cons_zero, List.set_cons_succ, i64_w, i32_w]
                 rfl
                exact norm_ (by first | (simp only [putAll, Act.put, List.setIfInBounds_toArray, List.set_cons_zero, List.set_cons_succ]; done) | (simp only [putAll, Act.put, List.setIfInBounds_toArray, List.set_cons_zero, List.set_cons_succ]; rfl)) (hJ3_4_7 (v245, v248, v251) _ ⟨hHeld, (by (with_reducible repeat (first | apply ra | apply rN | apply rd1)); exact O246.out), (by (with_reducible repeat (first | apply ra | apply rN | apply rd1)); exact O249.out), (by (with_reducible repeat (first | apply ra | apply rN | apply rd1)); exact Kd.R_mono O252.out (fun _ hk => ⟨hk.1.2, hk.2⟩)), (by (with_reducible repeat (first | apply bN | apply bd | apply ba)); exact B232.out), (by (with_reducible repeat (first | apply bN | apply bd | apply ba)); exact B243.out), (by repeat (first | (with_reducible first | exact HB.out | apply pa | apply pN | apply p1 | refine bs ?_ E232.out | refine bs ?_ E243.out) | exact HB.out))⟩)
               ·skip
                refine Kd.R_lit_step (Kd.int .u8) _ 5 ?hg (N := 61) ?hd (xs := ([(Cf.l6n (rd_T36 la1 x4_1)) % 256] : List Int)) (inner := [.int .u8 ((Cf.l6n (rd_T36 la1 x4_1)) % 256)]) (ok := fun _ => True) (okp := fun _ => True) ?hr ?hp (fun _ hk => hk) trivial (Below.refl _ _) (Nat.le_refl _) (by simp) ?_; (case hd => rfl); (case hg => rfl); (case hr => first | (go_simp; done) | (go_simp; rfl)); (case hp => exact (Reps.one (show Kd.M (Kd.int .u8) _ _ _ ((Cf.l6n (rd_T36 la1 x4_1)) % 256) [.int .u8 ((Cf.l6n (rd_T36 la1 x4_1)) % 256)] from rfl) (Reps.none _ _)))
                intro v257 w30 ho31 hb hg_ hnew_
                clear hg_ hnew_
                (first | rw [← Ny256.out] at ho31 | (simp only [Int.reduceToNat] at ho31; rw [← Ny256.out] at ho31))
                have N0 := am (re (by (with_reducible repeat (first | apply ra | apply rN | apply rd1)); exact O246.out) (Kd.R_base ho31) hb)
                have N1 := am (re (by (with_reducible repeat (first | apply ra | apply rN | apply rd1)); exact O249.out) (Kd.R_base ho31) hb)
                have N2 := am (rw1 (rn (rn ho31 (rl (by (with_reducible repeat (first | apply ra | apply rN | apply rd1)); exact O246.out))) (rl (by (with_reducible repeat (first | apply ra | apply rN | apply rd1)); exact O249.out))) (bz (by repeat (first | (with_reducible first | exact HB.out | apply pa | apply pN | apply p1 | refine bs ?_ E232.out | refine bs ?_ E243.out) | exact HB.out))))
                have N3 := am (bb (g := g232) (by (with_reducible repeat (first | apply bN | apply bd | apply ba)); exact B232.out) hb)
                have N4 := am (bb (g := g243) (by (with_reducible repeat (first | apply bN | apply bd | apply ba)); exact B243.out) hb)
                have N5 := am (bp (by repeat (first | (with_reducible first | exact HB.out | apply pa | apply pN | apply p1 | refine bs ?_ E232.out | refine bs ?_ E243.out) | exact HB.out)) hb)
                clear O246
                clear O249
                clear B232
                clear B243
                clear HB
                have O246 := N0
                have O249 := N1
                have O258 := N2
                have B232 := N3
                have B243 := N4
                have HB := N5
                clear N0 N1 N2 N3 N4 N5
                clear hb ho31
                refine hK.out _ _ ⟨(bc B243.out 0).trans rfl, (bc B243.out 1).trans rfl, (bc B243.out 2).trans rfl, (bc B243.out 3).trans rfl, (bc B243.out 4).trans rfl⟩ (fun hHeld => ?_)
                clear hK K
                refine norm_ (a' := ?_) ?_ ?_
                rotate_left
                ·show Act.put _ (some 61) _ = _
                 simp only [Act.put, List.setIfInBounds_toArray, List.set_cons_zero, List.set_cons_succ, i64_w, i32_w]
                 rfl
                exact norm_ (by first | (simp only [putAll, Act.put, List.setIfInBounds_toArray, List.set_cons_zero, List.set_cons_succ]; done) | (simp only [putAll, Act.put, List.setIfInBounds_toArray, List.set_cons_zero, List.set_cons_succ]; rfl)) (hJ3_4_11 (v245, v248, v257) _ ⟨hHeld, (by (with_reducible repeat (first | apply ra | apply rN | apply rd1)); exact O246.out), (by (with_reducible repeat (first | apply ra | apply rN | apply rd1)); exact O249.out), (by (with_reducible repeat (first | apply ra | apply rN | apply rd1)); exact Kd.R_mono O258.out (fun _ hk => ⟨hk.1.2, hk.2⟩)), (by (with_reducible repeat (first | apply bN | apply bd | apply ba)); exact B232.out), (by (with_reducible repeat (first | apply bN | apply bd | apply ba)); exact B243.out), (by repeat (first | (with_reducible first | exact HB.out | apply pa | apply pN | apply p1 | refine bs ?_ E232.out | refine bs ?_ E243.out) | exact HB.out))⟩)
             ·skip
              rintro ⟨v245, v248, v257⟩ w31 ⟨hS_, h0_, h1_, h2_, h3_, h4_, h5_⟩
              have N0 : Aside0 (Kd.R (Kd.int .u8) 5 w31 w.heap.size (fun k_ => some k_ ≠ (v248 : Value).ownBlock ∧ some k_ ≠ (v257 : Value).ownBlock) v245 t244) := ⟨h0_⟩
              have N1 : Aside0 (Kd.R (Kd.int .u8) 5 w31 w.heap.size (fun k_ => some k_ ≠ (v245 : Value).ownBlock ∧ some k_ ≠ (v257 : Value).ownBlock) v248 y247) := ⟨h1_⟩
              have N2 : Aside0 (Kd.R (Kd.int .u8) 5 w31 w.heap.size (fun k_ => some k_ ≠ (v245 : Value).ownBlock ∧ some k_ ≠ (v248 : Value).ownBlock) v257 y256) := ⟨h2_⟩
              have N3 : Aside0 (w31.heap[g232]? = some (.cells #[I q aa0, .slice (some ad242) la1.length ca1, J Aa2 la2.length ca2] 31 (0, 0))) := ⟨h3_⟩
              have N4 : Aside0 (w31.heap[g243]? = some (.cells #[I q ((rd_T36 la1 x4_1).f0), I q ((rd_T36 la1 x4_1).f1), I q ((rd_T36 la1 x4_1).f2), I q ((rd_T36 la1 x4_1).f3), .bool ((rd_T36 la1 x4_1).f4)] 36 (0, 0))) := ⟨h4_⟩
              have N5 : Aside0 (Below w.heap.size w w31) := ⟨h5_⟩
              clear o0
              clear B232
              clear B243
              clear HB
              clear h0_ h1_ h2_ h3_ h4_ h5_
              have O246 := N0
              have O249 := N1
              have O258 := N2
              have B232 := N3
              have B243 := N4
              have HB := N5
              clear N0 N1 N2 N3 N4 N5
              have hHeld : w31.cell? ⟨g243, 0, none⟩ = some (I q ((rd_T36 la1 x4_1).f0)) ∧ w31.cell? ⟨g243, 1, none⟩ = some (I q ((rd_T36 la1 x4_1).f1)) ∧ w31.cell? ⟨g243, 2, none⟩ = some (I q ((rd_T36 la1 x4_1).f2)) ∧ w31.cell? ⟨g243, 3, none⟩ = some (I q ((rd_T36 la1 x4_1).f3)) ∧ w31.cell? ⟨g243, 4, none⟩ = some (.bool ((rd_T36 la1 x4_1).f4)) := hS_
              refine norm_ (a' := ?_) ?_ ?_
              rotate_left
              ·simp only [putAll, Act.put, List.setIfInBounds_toArray, List.set_cons_zero, List.set_cons_succ]
               rfl
              refine one_ (i := 7) (N := some 57) #[true, true, true, true, true, true, true, true, false, true, true, true, false, false] rfl rfl (one_of HT_.out (by kernel_rfl)) (by decide) (fun K hK => ?_)
              refine goes_ Try.func124 (by kernel_rfl) rfl #[I q ((rd_T36 la1 x4_1).f1), I q 4] (by rfl) rfl rfl (by (try simp only [List.map_toArray, List.map_cons, List.map_nil]); first | done | rfl | (simp only [List.length_drop, List.length_take]; rfl)) ?_
              with_reducible refine (spec_l1Bytes.calls k1 ((rd_T36 la1 x4_1).f1) 4 t250 _ A16.out).mono ?_
              rintro e w32 ⟨v251, rfl, ho0, hb⟩
              refine ⟨_, rfl, ?_⟩
              have N0 := am (re (by (with_reducible repeat (first | apply ra | apply rN | apply rd1)); exact O246.out) (Kd.R_base ho0) hb)
              have N1 := am (re (by (with_reducible repeat (first | apply ra | apply rN | apply rd1)); exact O249.out) (Kd.R_base ho0) hb)
              have N2 := am (re (by (with_reducible repeat (first | apply ra | apply rN | apply rd1)); exact O258.out) (Kd.R_base ho0) hb)
              have N3 := am (rw1 (rn (rn (rn ho0 (rl (by (with_reducible repeat (first | apply ra | apply rN | apply rd1)); exact O246.out))) (rl (by (with_reducible repeat (first | apply ra | apply rN | apply rd1)); exact O249.out))) (rl (by (with_reducible repeat (first | apply ra | apply rN | apply rd1)); exact O258.out))) (bz (by repeat (first | (with_reducible first | exact HB.out | apply pa | apply pN | apply p1 | refine bs ?_ E232.out | refine bs ?_ E243.out) | exact HB.out))))
              have N4 := am (bb (g := g232) (by (with_reducible repeat (first | apply bN | apply bd | apply ba)); exact B232.out) hb)
              have N5 := am (bb (g := g243) (by (with_reducible repeat (first | apply bN | apply bd | apply ba)); exact B243.out) hb)
              have N6 := am (bp (by repeat (first | (with_reducible first | exact HB.out | apply pa | apply pN | apply p1 | refine bs ?_ E232.out | refine bs ?_ E243.out) | exact HB.out)) hb)
              clear O246
              clear O249
              clear O258
              clear B232
              clear B243
              clear HB
              have O246 := N0
              have O249 := N1
              have O258 := N2
              have O252 := N3
              have B232 := N4
              have B243 := N5
              have HB := N6
              clear N0 N1 N2 N3 N4 N5 N6
              (try clear hb)
              (try clear hb2)
              (try clear hk)
              (try clear hi)
              (try clear ho0)
              refine hK.out _ _ ⟨(bc B243.out 0).trans rfl, (bc B243.out 1).trans rfl, (bc B243.out 2).trans rfl, (bc B243.out 3).trans rfl, (bc B243.out 4).trans rfl⟩ (fun hHeld => ?_)
              clear hK K
              refine norm_ (a' := ?_) ?_ ?_
              rotate_left
              ·show Act.put _ (some 57) _ = _
               simp only [Act.put, List.setIfInBounds_toArray, List.set_cons_zero, List.set_cons_succ, i64_w, i32_w]
               rfl
              exact norm_ (by first | (simp only [putAll, Act.put, List.setIfInBounds_toArray, List.set_cons_zero, List.set_cons_succ]; done) | (simp only [putAll, Act.put, List.setIfInBounds_toArray, List.set_cons_zero, List.set_cons_succ]; rfl)) (hJ3_4_7_11 (v245, v248, v251, v257) _ ⟨hHeld, (by (with_reducible repeat (first | apply ra | apply rN | apply rd1)); exact Kd.R_mono O246.out (fun _ hk => ⟨hk.1.1, ⟨hk.2, hk.1.2⟩⟩)), (by (with_reducible repeat (first | apply ra | apply rN | apply rd1)); exact Kd.R_mono O249.out (fun _ hk => ⟨hk.1.1, ⟨hk.2, hk.1.2⟩⟩)), (by (with_reducible repeat (first | apply ra | apply rN | apply rd1)); exact Kd.R_mono O252.out (fun _ hk => ⟨hk.1.1.2, ⟨hk.1.2, hk.2⟩⟩)), (by (with_reducible repeat (first | apply ra | apply rN | apply rd1)); exact Kd.R_mono O258.out (fun _ hk => ⟨hk.1.1, ⟨hk.1.2, hk.2⟩⟩)), (by (with_reducible repeat (first | apply bN | apply bd | apply ba)); exact B232.out), (by (with_reducible repeat (first | apply bN | apply bd | apply ba)); exact B243.out), (by repeat (first | (with_reducible first | exact HB.out | apply pa | apply pN | apply p1 | refine bs ?_ E232.out | refine bs ?_ E243.out) | exact HB.out))⟩)
            ·skip
             rintro ⟨v245, v248, v251⟩ w30 ⟨hS_, h0_, h1_, h2_, h3_, h4_, h5_⟩
             have N0 : Aside0 (Kd.R (Kd.int .u8) 5 w30 w.heap.size (fun k_ => some k_ ≠ (v248 : Value).ownBlock ∧ some k_ ≠ (v251 : Value).ownBlock) v245 t244) := ⟨h0_⟩
             have N1 : Aside0 (Kd.R (Kd.int .u8) 5 w30 w.heap.size (fun k_ => some k_ ≠ (v245 : Value).ownBlock ∧ some k_ ≠ (v251 : Value).ownBlock) v248 y247) := ⟨h1_⟩
             have N2 : Aside0 (Kd.R (Kd.int .u8) 5 w30 w.heap.size (fun k_ => some k_ ≠ (v245 : Value).ownBlock ∧ some k_ ≠ (v248 : Value).ownBlock) v251 t250) := ⟨h2_⟩
             have N3 : Aside0 (w30.heap[g232]? = some (.cells #[I q aa0, .slice (some ad242) la1.length ca1, J Aa2 la2.length ca2] 31 (0, 0))) := ⟨h3_⟩
             have N4 : Aside0 (w30.heap[g243]? = some (.cells #[I q ((rd_T36 la1 x4_1).f0), I q ((rd_T36 la1 x4_1).f1), I q ((rd_T36 la1 x4_1).f2), I q ((rd_T36 la1 x4_1).f3), .bool ((rd_T36 la1 x4_1).f4)] 36 (0, 0))) := ⟨h4_⟩
             have N5 : Aside0 (Below w.heap.size w w30) := ⟨h5_⟩
             clear o0
             clear B232
             clear B243
             clear HB
             clear h0_ h1_ h2_ h3_ h4_ h5_
             have O246 := N0
             have O249 := N1
             have O252 := N2
             have B232 := N3
             have B243 := N4
             have HB := N5
             clear N0 N1 N2 N3 N4 N5
             have hHeld : w30.cell? ⟨g243, 0, none⟩ = some (I q ((rd_T36 la1 x4_1).f0)) ∧ w30.cell? ⟨g243, 1, none⟩ = some (I q ((rd_T36 la1 x4_1).f1)) ∧ w30.cell? ⟨g243, 2, none⟩ = some (I q ((rd_T36 la1 x4_1).f2)) ∧ w30.cell? ⟨g243, 3, none⟩ = some (I q ((rd_T36 la1 x4_1).f3)) ∧ w30.cell? ⟨g243, 4, none⟩ = some (.bool ((rd_T36 la1 x4_1).f4)) := hS_
             obtain ⟨Ao32, co32, eo32⟩ := Kd.R_slice O252.out
             (first | subst eo32 | (injection eo32 with f1_ f2_ f3_; have f4_ := f1_.symm; have f5_ := f3_.symm; clear f1_ f2_ f3_; subst f4_; subst f5_))
             refine norm_ (a' := ?_) ?_ ?_
             rotate_left
             ·simp only [putAll, Act.put, List.setIfInBounds_toArray, List.set_cons_zero, List.set_cons_succ]
              rfl
             refine two_ (i := 8) (j := 11) (Ni := some 58) (Nj := some 61) #[true, true, true, true, true, true, true, true, true, true, true, false, false, false] #[true, true, true, true, true, true, true, true, false, true, true, true, false, false] rfl rfl rfl rfl (two_of HT_.out (by kernel_rfl)) (by decide) (by decide) (fun K hK => ?_) (fun K hK => ?_)
             ·skip
              refine Kd.R_append_rows_step (Kd.int .u8) (w0 := w) w.heap.size (by rfl) (.tmp 54) (.tmp 57) 58 5 (.int .u8 0) 1 rfl Try.underlying58 info5 rfl (by decide) (by omega) v248 y247 t250 _ _ _ (fun k_ => some k_ ≠ (v245 : Value).ownBlock ∧ some k_ ≠ (J Ao32 t250.length co32 : Value).ownBlock) (fun _ => False) rfl rfl ?aO ?aR (fun _ _ h => h) (fun _ h => h.elim) ?aF ?aB ?aS ?aL ?_
              (case aR => repeat (first | exact (Kd.R_reads' O252.out).2.2 | (with_reducible refine ca ?_ _) | (with_reducible refine cN ?_ _) | (with_reducible refine cd1 ?_)))
              (case aB => exact (by repeat (first | (with_reducible first | exact HB.out | apply pa | apply pN | apply p1 | refine bs ?_ E232.out | refine bs ?_ E243.out) | exact HB.out)))
              (case aF => exact (fun k_ hk => ⟨Kd.fresh' (rl (by (with_reducible repeat (first | apply ra | apply rN | apply rd1)); exact O246.out)) k_ hk, Kd.fresh' (rl (by (with_reducible repeat (first | apply ra | apply rN | apply rd1)); exact O252.out)) k_ hk⟩))
              (case aO => exact (by (with_reducible repeat (first | apply ra | apply rN | apply rd1)); exact O249.out))
              (case aS => exact (bz (by repeat (first | (with_reducible first | exact HB.out | apply pa | apply pN | apply p1 | refine bs ?_ E232.out | refine bs ?_ E243.out) | exact HB.out))))
              (case aL => have := LMc17.out; omega)
              intro v254 w31 ho hb hg hat
              rw [← Ny253.out] at ho
              have N0 := am (blk_grown (g := g232) (o := .cells #[I q aa0, .slice (some ad242) la1.length ca1, J Aa2 la2.length ca2] 31 (0, 0)) (by (with_reducible repeat (first | apply bN | apply bd | apply ba)); exact B232.out) hg (Kd.R_ne O249.out B232.out (by decide)))
              have N1 := am (blk_grown (g := g243) (o := .cells #[I q ((rd_T36 la1 x4_1).f0), I q ((rd_T36 la1 x4_1).f1), I q ((rd_T36 la1 x4_1).f2), I q ((rd_T36 la1 x4_1).f3), .bool ((rd_T36 la1 x4_1).f4)] 36 (0, 0)) (by (with_reducible repeat (first | apply bN | apply bd | apply ba)); exact B243.out) hg (Kd.R_ne O249.out B243.out (by decide)))
              have N2 := am (Kd.R_after (ok := (fun k_ => some k_ ≠ (J Ao32 t250.length co32 : Value).ownBlock)) (by (with_reducible repeat (first | apply ra | apply rN | apply rd1)); exact Kd.R_mono O246.out (fun _ hk => ⟨hk.2, hk.1⟩)) hg hat)
              have N3 := am (Kd.R_after (ok := (fun k_ => some k_ ≠ (v245 : Value).ownBlock)) (by (with_reducible repeat (first | apply ra | apply rN | apply rd1)); exact O252.out) hg hat)
              have N4 := am (hb)
              have N5 := am (ho)
              clear B232
              clear B243
              clear O246
              clear O252
              clear HB
              clear O249
              have B232 := N0
              have B243 := N1
              have O246 := N2
              have O252 := N3
              have HB := N4
              have O255 := N5
              clear N0 N1 N2 N3 N4 N5
              clear ho hb hg hat
              refine hK.out _ _ ⟨(bc B243.out 0).trans rfl, (bc B243.out 1).trans rfl, (bc B243.out 2).trans rfl, (bc B243.out 3).trans rfl, (bc B243.out 4).trans rfl⟩ (fun hHeld => ?_)
              clear hK K
              refine norm_ (a' := ?_) ?_ ?_
              rotate_left
              ·show Act.put _ (some 58) _ = _
               simp only [Act.put, List.setIfInBounds_toArray, List.set_cons_zero, List.set_cons_succ, i64_w, i32_w]
               rfl
              exact norm_ (by first | (simp only [putAll, Act.put, List.setIfInBounds_toArray, List.set_cons_zero, List.set_cons_succ]; done) | (simp only [putAll, Act.put, List.setIfInBounds_toArray, List.set_cons_zero, List.set_cons_succ]; rfl)) (hJ3_4_7_8 (v245, v248, J Ao32 t250.length co32, v254) _ ⟨hHeld, (by (with_reducible repeat (first | apply ra | apply rN | apply rd1)); exact O246.out), (by (with_reducible repeat (first | apply ra | apply rN | apply rd1)); exact O252.out), (by (with_reducible repeat (first | apply ra | apply rN | apply rd1)); exact O255.out), (by (with_reducible repeat (first | apply bN | apply bd | apply ba)); exact B232.out), (by (with_reducible repeat (first | apply bN | apply bd | apply ba)); exact B243.out), (by repeat (first | (with_reducible first | exact HB.out | apply pa | apply pN | apply p1 | refine bs ?_ E232.out | refine bs ?_ E243.out) | exact HB.out))⟩)
             ·skip
              refine Kd.R_lit_step (Kd.int .u8) _ 5 ?hg (N := 61) ?hd (xs := ([(Cf.l6n (rd_T36 la1 x4_1)) % 256] : List Int)) (inner := [.int .u8 ((Cf.l6n (rd_T36 la1 x4_1)) % 256)]) (ok := fun _ => True) (okp := fun _ => True) ?hr ?hp (fun _ hk => hk) trivial (Below.refl _ _) (Nat.le_refl _) (by simp) ?_; (case hd => rfl); (case hg => rfl); (case hr => first | (go_simp; done) | (go_simp; rfl)); (case hp => exact (Reps.one (show Kd.M (Kd.int .u8) _ _ _ ((Cf.l6n (rd_T36 la1 x4_1)) % 256) [.int .u8 ((Cf.l6n (rd_T36 la1 x4_1)) % 256)] from rfl) (Reps.none _ _)))
              intro v257 w31 ho32 hb hg_ hnew_
              clear hg_ hnew_
              (first | rw [← Ny256.out] at ho32 | (simp only [Int.reduceToNat] at ho32; rw [← Ny256.out] at ho32))
              have N0 := am (re (by (with_reducible repeat (first | apply ra | apply rN | apply rd1)); exact O246.out) (Kd.R_base ho32) hb)
              have N1 := am (re (by (with_reducible repeat (first | apply ra | apply rN | apply rd1)); exact O249.out) (Kd.R_base ho32) hb)
              have N2 := am (re (by (with_reducible repeat (first | apply ra | apply rN | apply rd1)); exact O252.out) (Kd.R_base ho32) hb)
              have N3 := am (rw1 (rn (rn (rn ho32 (rl (by (with_reducible repeat (first | apply ra | apply rN | apply rd1)); exact O246.out))) (rl (by (with_reducible repeat (first | apply ra | apply rN | apply rd1)); exact O249.out))) (rl (by (with_reducible repeat (first | apply ra | apply rN | apply rd1)); exact O252.out))) (bz (by repeat (first | (with_reducible first | exact HB.out | apply pa | apply pN | apply p1 | refine bs ?_ E232.out | refine bs ?_ E243.out) | exact HB.out))))
              have N4 := am (bb (g := g232) (by (with_reducible repeat (first | apply bN | apply bd | apply ba)); exact B232.out) hb)
              have N5 := am (bb (g := g243) (by (with_reducible repeat (first | apply bN | apply bd | apply ba)); exact B243.out) hb)
              have N6 := am (bp (by repeat (first | (with_reducible first | exact HB.out | apply pa | apply pN | apply p1 | refine bs ?_ E232.out | refine bs ?_ E243.out) | exact HB.out)) hb)
              clear O246
              clear O249
              clear O252
              clear B232
              clear B243
              clear HB
              have O246 := N0
              have O249 := N1
              have O252 := N2
              have O258 := N3
              have B232 := N4
              have B243 := N5
              have HB := N6
              clear N0 N1 N2 N3 N4 N5 N6
              clear hb ho32
              refine hK.out _ _ ⟨(bc B243.out 0).trans rfl, (bc B243.out 1).trans rfl, (bc B243.out 2).trans rfl, (bc B243.out 3).trans rfl, (bc B243.out 4).trans rfl⟩ (fun hHeld => ?_)
              clear hK K
              refine norm_ (a' := ?_) ?_ ?_
              rotate_left
              ·show Act.put _ (some 61) _ = _
               simp only [Act.put, List.setIfInBounds_toArray, List.set_cons_zero, List.set_cons_succ, i64_w, i32_w]
               rfl
              exact norm_ (by first | (simp only [putAll, Act.put, List.setIfInBounds_toArray, List.set_cons_zero, List.set_cons_succ]; done) | (simp only [putAll, Act.put, List.setIfInBounds_toArray, List.set_cons_zero, List.set_cons_succ]; rfl)) (hJ3_4_7_11 (v245, v248, (J Ao32 t250.length co32 : Value), v257) _ ⟨hHeld, (by (with_reducible repeat (first | apply ra | apply rN | apply rd1)); exact Kd.R_mono O246.out (fun _ hk => ⟨hk.1.1, ⟨hk.1.2, hk.2⟩⟩)), (by (with_reducible repeat (first | apply ra | apply rN | apply rd1)); exact Kd.R_mono O249.out (fun _ hk => ⟨hk.1.1, ⟨hk.1.2, hk.2⟩⟩)), (by (with_reducible repeat (first | apply ra | apply rN | apply rd1)); exact Kd.R_mono O252.out (fun _ hk => ⟨hk.1.1, ⟨hk.1.2, hk.2⟩⟩)), (by (with_reducible repeat (first | apply ra | apply rN | apply rd1)); exact Kd.R_mono O258.out (fun _ hk => ⟨hk.1.1.2, ⟨hk.1.2, hk.2⟩⟩)), (by (with_reducible repeat (first | apply bN | apply bd | apply ba)); exact B232.out), (by (with_reducible repeat (first | apply bN | apply bd | apply ba)); exact B243.out), (by repeat (first | (with_reducible first | exact HB.out | apply pa | apply pN | apply p1 | refine bs ?_ E232.out | refine bs ?_ E243.out) | exact HB.out))⟩)
           ·skip
            rintro ⟨v245, v248, v251, v257⟩ w32 ⟨hS_, h0_, h1_, h2_, h3_, h4_, h5_, h6_⟩
            have N0 : Aside0 (Kd.R (Kd.int .u8) 5 w32 w.heap.size (fun k_ => some k_ ≠ (v248 : Value).ownBlock ∧ some k_ ≠ (v251 : Value).ownBlock ∧ some k_ ≠ (v257 : Value).ownBlock) v245 t244) := ⟨h0_⟩
            have N1 : Aside0 (Kd.R (Kd.int .u8) 5 w32 w.heap.size (fun k_ => some k_ ≠ (v245 : Value).ownBlock ∧ some k_ ≠ (v251 : Value).ownBlock ∧ some k_ ≠ (v257 : Value).ownBlock) v248 y247) := ⟨h1_⟩
            have N2 : Aside0 (Kd.R (Kd.int .u8) 5 w32 w.heap.size (fun k_ => some k_ ≠ (v245 : Value).ownBlock ∧ some k_ ≠ (v248 : Value).ownBlock ∧ some k_ ≠ (v257 : Value).ownBlock) v251 t250) := ⟨h2_⟩
            have N3 : Aside0 (Kd.R (Kd.int .u8) 5 w32 w.heap.size (fun k_ => some k_ ≠ (v245 : Value).ownBlock ∧ some k_ ≠ (v248 : Value).ownBlock ∧ some k_ ≠ (v251 : Value).ownBlock) v257 y256) := ⟨h3_⟩
            have N4 : Aside0 (w32.heap[g232]? = some (.cells #[I q aa0, .slice (some ad242) la1.length ca1, J Aa2 la2.length ca2] 31 (0, 0))) := ⟨h4_⟩
            have N5 : Aside0 (w32.heap[g243]? = some (.cells #[I q ((rd_T36 la1 x4_1).f0), I q ((rd_T36 la1 x4_1).f1), I q ((rd_T36 la1 x4_1).f2), I q ((rd_T36 la1 x4_1).f3), .bool ((rd_T36 la1 x4_1).f4)] 36 (0, 0))) := ⟨h5_⟩
            have N6 : Aside0 (Below w.heap.size w w32) := ⟨h6_⟩
            clear o0
            clear B232
            clear B243
            clear HB
            clear h0_ h1_ h2_ h3_ h4_ h5_ h6_
            have O246 := N0
            have O249 := N1
            have O252 := N2
            have O258 := N3
            have B232 := N4
            have B243 := N5
            have HB := N6
            clear N0 N1 N2 N3 N4 N5 N6
            have hHeld : w32.cell? ⟨g243, 0, none⟩ = some (I q ((rd_T36 la1 x4_1).f0)) ∧ w32.cell? ⟨g243, 1, none⟩ = some (I q ((rd_T36 la1 x4_1).f1)) ∧ w32.cell? ⟨g243, 2, none⟩ = some (I q ((rd_T36 la1 x4_1).f2)) ∧ w32.cell? ⟨g243, 3, none⟩ = some (I q ((rd_T36 la1 x4_1).f3)) ∧ w32.cell? ⟨g243, 4, none⟩ = some (.bool ((rd_T36 la1 x4_1).f4)) := hS_
            obtain ⟨Ao34, co34, eo34⟩ := Kd.R_slice O252.out
            (first | subst eo34 | (injection eo34 with f1_ f2_ f3_; have f4_ := f1_.symm; have f5_ := f3_.symm; clear f1_ f2_ f3_; subst f4_; subst f5_))
            refine norm_ (a' := ?_) ?_ ?_
            rotate_left
            ·simp only [putAll, Act.put, List.setIfInBounds_toArray, List.set_cons_zero, List.set_cons_succ]
             rfl
            refine one_ (i := 8) (N := some 58) #[true, true, true, true, true, true, true, true, true, true, true, true, false, false] rfl rfl (one_of HT_.out (by kernel_rfl)) (by decide) (fun K hK => ?_)
            refine Kd.R_append_rows_step (Kd.int .u8) (w0 := w) w.heap.size (by rfl) (.tmp 54) (.tmp 57) 58 5 (.int .u8 0) 1 rfl Try.underlying58 info5 rfl (by decide) (by omega) v248 y247 t250 _ _ _ (fun k_ => some k_ ≠ (v245 : Value).ownBlock ∧ some k_ ≠ (J Ao34 t250.length co34 : Value).ownBlock ∧ some k_ ≠ (v257 : Value).ownBlock) (fun _ => False) rfl rfl ?aO ?aR (fun _ _ h => h) (fun _ h => h.elim) ?aF ?aB ?aS ?aL ?_
            (case aR => repeat (first | exact (Kd.R_reads' O252.out).2.2 | (with_reducible refine ca ?_ _) | (with_reducible refine cN ?_ _) | (with_reducible refine cd1 ?_)))
            (case aB => exact (by repeat (first | (with_reducible first | exact HB.out | apply pa | apply pN | apply p1 | refine bs ?_ E232.out | refine bs ?_ E243.out) | exact HB.out)))
            (case aF => exact (fun k_ hk => ⟨Kd.fresh' (rl (by (with_reducible repeat (first | apply ra | apply rN | apply rd1)); exact O246.out)) k_ hk, Kd.fresh' (rl (by (with_reducible repeat (first | apply ra | apply rN | apply rd1)); exact O252.out)) k_ hk, Kd.fresh' (rl (by (with_reducible repeat (first | apply ra | apply rN | apply rd1)); exact O258.out)) k_ hk⟩))
            (case aO => exact (by (with_reducible repeat (first | apply ra | apply rN | apply rd1)); exact O249.out))
            (case aS => exact (bz (by repeat (first | (with_reducible first | exact HB.out | apply pa | apply pN | apply p1 | refine bs ?_ E232.out | refine bs ?_ E243.out) | exact HB.out))))
            (case aL => have := LMc17.out; omega)
            intro v254 w33 ho hb hg hat
            rw [← Ny253.out] at ho
            have N0 := am (blk_grown (g := g232) (o := .cells #[I q aa0, .slice (some ad242) la1.length ca1, J Aa2 la2.length ca2] 31 (0, 0)) (by (with_reducible repeat (first | apply bN | apply bd | apply ba)); exact B232.out) hg (Kd.R_ne O249.out B232.out (by decide)))
            have N1 := am (blk_grown (g := g243) (o := .cells #[I q ((rd_T36 la1 x4_1).f0), I q ((rd_T36 la1 x4_1).f1), I q ((rd_T36 la1 x4_1).f2), I q ((rd_T36 la1 x4_1).f3), .bool ((rd_T36 la1 x4_1).f4)] 36 (0, 0)) (by (with_reducible repeat (first | apply bN | apply bd | apply ba)); exact B243.out) hg (Kd.R_ne O249.out B243.out (by decide)))
            have N2 := am (Kd.R_after (ok := (fun k_ => some k_ ≠ (J Ao34 t250.length co34 : Value).ownBlock ∧ some k_ ≠ (v257 : Value).ownBlock)) (by (with_reducible repeat (first | apply ra | apply rN | apply rd1)); exact Kd.R_mono O246.out (fun _ hk => ⟨⟨hk.2.1, hk.2.2⟩, hk.1⟩)) hg hat)
            have N3 := am (Kd.R_after (ok := (fun k_ => some k_ ≠ (v245 : Value).ownBlock ∧ some k_ ≠ (v257 : Value).ownBlock)) (by (with_reducible repeat (first | apply ra | apply rN | apply rd1)); exact Kd.R_mono O252.out (fun _ hk => ⟨⟨hk.1, hk.2.2⟩, hk.2.1⟩)) hg hat)
            have N4 := am (Kd.R_after (ok := (fun k_ => some k_ ≠ (v245 : Value).ownBlock ∧ some k_ ≠ (J Ao34 t250.length co34 : Value).ownBlock)) (by (with_reducible repeat (first | apply ra | apply rN | apply rd1)); exact Kd.R_mono O258.out (fun _ hk => ⟨⟨hk.1, hk.2.2⟩, hk.2.1⟩)) hg hat)
            have N5 := am (hb)
            have N6 := am (ho)
            clear B232
            clear B243
            clear O246
            clear O252
            clear O258
            clear HB
            clear O249
            have B232 := N0
            have B243 := N1
            have O246 := N2
            have O252 := N3
            have O258 := N4
            have HB := N5
            have O255 := N6
            clear N0 N1 N2 N3 N4 N5 N6
            clear ho hb hg hat
            refine hK.out _ _ ⟨(bc B243.out 0).trans rfl, (bc B243.out 1).trans rfl, (bc B243.out 2).trans rfl, (bc B243.out 3).trans rfl, (bc B243.out 4).trans rfl⟩ (fun hHeld => ?_)
            clear hK K
            refine norm_ (a' := ?_) ?_ ?_
            rotate_left
            ·show Act.put _ (some 58) _ = _
             simp only [Act.put, List.setIfInBounds_toArray, List.set_cons_zero, List.set_cons_succ, i64_w, i32_w]
             rfl
            exact norm_ (by first | (simp only [putAll, Act.put, List.setIfInBounds_toArray, List.set_cons_zero, List.set_cons_succ]; done) | (simp only [putAll, Act.put, List.setIfInBounds_toArray, List.set_cons_zero, List.set_cons_succ]; rfl)) (hJ3_4_7_8_11 (v245, v248, J Ao34 t250.length co34, v254, v257) _ ⟨hHeld, (by (with_reducible repeat (first | apply ra | apply rN | apply rd1)); exact Kd.R_mono O246.out (fun _ hk => ⟨hk.1.1, ⟨hk.2, hk.1.2⟩⟩)), (by (with_reducible repeat (first | apply ra | apply rN | apply rd1)); exact Kd.R_mono O252.out (fun _ hk => ⟨hk.1.1, ⟨hk.2, hk.1.2⟩⟩)), (by (with_reducible repeat (first | apply ra | apply rN | apply rd1)); exact O255.out), (by (with_reducible repeat (first | apply ra | apply rN | apply rd1)); exact Kd.R_mono O258.out (fun _ hk => ⟨hk.1.1, ⟨hk.1.2, hk.2⟩⟩)), (by (with_reducible repeat (first | apply bN | apply bd | apply ba)); exact B232.out), (by (with_reducible repeat (first | apply bN | apply bd | apply ba)); exact B243.out), (by repeat (first | (with_reducible first | exact HB.out | apply pa | apply pN | apply p1 | refine bs ?_ E232.out | refine bs ?_ E243.out) | exact HB.out))⟩)
          ·skip
           rintro ⟨v245, v248, v251, v254⟩ w32 ⟨hS_, h0_, h1_, h2_, h3_, h4_, h5_⟩
           have N0 : Aside0 (Kd.R (Kd.int .u8) 5 w32 w.heap.size (fun k_ => some k_ ≠ (v251 : Value).ownBlock ∧ some k_ ≠ (v254 : Value).ownBlock) v245 t244) := ⟨h0_⟩
           have N1 : Aside0 (Kd.R (Kd.int .u8) 5 w32 w.heap.size (fun k_ => some k_ ≠ (v245 : Value).ownBlock ∧ some k_ ≠ (v254 : Value).ownBlock) v251 t250) := ⟨h1_⟩
           have N2 : Aside0 (Kd.R (Kd.int .u8) 5 w32 w.heap.size (fun k_ => some k_ ≠ (v245 : Value).ownBlock ∧ some k_ ≠ (v251 : Value).ownBlock) v254 y253) := ⟨h2_⟩
           have N3 : Aside0 (w32.heap[g232]? = some (.cells #[I q aa0, .slice (some ad242) la1.length ca1, J Aa2 la2.length ca2] 31 (0, 0))) := ⟨h3_⟩
           have N4 : Aside0 (w32.heap[g243]? = some (.cells #[I q ((rd_T36 la1 x4_1).f0), I q ((rd_T36 la1 x4_1).f1), I q ((rd_T36 la1 x4_1).f2), I q ((rd_T36 la1 x4_1).f3), .bool ((rd_T36 la1 x4_1).f4)] 36 (0, 0))) := ⟨h4_⟩
           have N5 : Aside0 (Below w.heap.size w w32) := ⟨h5_⟩
           clear o0
           clear B232
           clear B243
           clear HB
           clear h0_ h1_ h2_ h3_ h4_ h5_
           have O246 := N0
           have O252 := N1
           have O255 := N2
           have B232 := N3
           have B243 := N4
           have HB := N5
           clear N0 N1 N2 N3 N4 N5
           have hHeld : w32.cell? ⟨g243, 0, none⟩ = some (I q ((rd_T36 la1 x4_1).f0)) ∧ w32.cell? ⟨g243, 1, none⟩ = some (I q ((rd_T36 la1 x4_1).f1)) ∧ w32.cell? ⟨g243, 2, none⟩ = some (I q ((rd_T36 la1 x4_1).f2)) ∧ w32.cell? ⟨g243, 3, none⟩ = some (I q ((rd_T36 la1 x4_1).f3)) ∧ w32.cell? ⟨g243, 4, none⟩ = some (.bool ((rd_T36 la1 x4_1).f4)) := hS_
           refine norm_ (a' := ?_) ?_ ?_
           rotate_left
           ·simp only [putAll, Act.put, List.setIfInBounds_toArray, List.set_cons_zero, List.set_cons_succ]
            rfl
           refine one_ (i := 11) (N := some 61) #[true, true, true, true, true, true, true, true, true, true, true, true, false, false] rfl rfl (one_of HT_.out (by kernel_rfl)) (by decide) (fun K hK => ?_)
           refine Kd.R_lit_step (Kd.int .u8) _ 5 ?hg (N := 61) ?hd (xs := ([(Cf.l6n (rd_T36 la1 x4_1)) % 256] : List Int)) (inner := [.int .u8 ((Cf.l6n (rd_T36 la1 x4_1)) % 256)]) (ok := fun _ => True) (okp := fun _ => True) ?hr ?hp (fun _ hk => hk) trivial (Below.refl _ _) (Nat.le_refl _) (by simp) ?_; (case hd => rfl); (case hg => rfl); (case hr => first | (go_simp; done) | (go_simp; rfl)); (case hp => exact (Reps.one (show Kd.M (Kd.int .u8) _ _ _ ((Cf.l6n (rd_T36 la1 x4_1)) % 256) [.int .u8 ((Cf.l6n (rd_T36 la1 x4_1)) % 256)] from rfl) (Reps.none _ _)))
           intro v257 w33 ho34 hb hg_ hnew_
           clear hg_ hnew_
           (first | rw [← Ny256.out] at ho34 | (simp only [Int.reduceToNat] at ho34; rw [← Ny256.out] at ho34))
           have N0 := am (re (by (with_reducible repeat (first | apply ra | apply rN | apply rd1)); exact O246.out) (Kd.R_base ho34) hb)
           have N1 := am (re (by (with_reducible repeat (first | apply ra | apply rN | apply rd1)); exact O252.out) (Kd.R_base ho34) hb)
           have N2 := am (re (by (with_reducible repeat (first | apply ra | apply rN | apply rd1)); exact O255.out) (Kd.R_base ho34) hb)
           have N3 := am (rw1 (rn (rn (rn ho34 (rl (by (with_reducible repeat (first | apply ra | apply rN | apply rd1)); exact O246.out))) (rl (by (with_reducible repeat (first | apply ra | apply rN | apply rd1)); exact O252.out))) (rl (by (with_reducible repeat (first | apply ra | apply rN | apply rd1)); exact O255.out))) (bz (by repeat (first | (with_reducible first | exact HB.out | apply pa | apply pN | apply p1 | refine bs ?_ E232.out | refine bs ?_ E243.out) | exact HB.out))))
           have N4 := am (bb (g := g232) (by (with_reducible repeat (first | apply bN | apply bd | apply ba)); exact B232.out) hb)
           have N5 := am (bb (g := g243) (by (with_reducible repeat (first | apply bN | apply bd | apply ba)); exact B243.out) hb)
           have N6 := am (bp (by repeat (first | (with_reducible first | exact HB.out | apply pa | apply pN | apply p1 | refine bs ?_ E232.out | refine bs ?_ E243.out) | exact HB.out)) hb)
           clear O246
           clear O252
           clear O255
           clear B232
           clear B243
           clear HB
           have O246 := N0
           have O252 := N1
           have O255 := N2
           have O258 := N3
           have B232 := N4
           have B243 := N5
           have HB := N6
           clear N0 N1 N2 N3 N4 N5 N6
           clear hb ho34
           refine hK.out _ _ ⟨(bc B243.out 0).trans rfl, (bc B243.out 1).trans rfl, (bc B243.out 2).trans rfl, (bc B243.out 3).trans rfl, (bc B243.out 4).trans rfl⟩ (fun hHeld => ?_)
           clear hK K
           refine norm_ (a' := ?_) ?_ ?_
           rotate_left
           ·show Act.put _ (some 61) _ = _
            simp only [Act.put, List.setIfInBounds_toArray, List.set_cons_zero, List.set_cons_succ, i64_w, i32_w]
            rfl
           exact norm_ (by first | (simp only [putAll, Act.put, List.setIfInBounds_toArray, List.set_cons_zero, List.set_cons_succ]; done) | (simp only [putAll, Act.put, List.setIfInBounds_toArray, List.set_cons_zero, List.set_cons_succ]; rfl)) (hJ3_4_7_8_11 (v245, v248, v251, v254, v257) _ ⟨hHeld, (by (with_reducible repeat (first | apply ra | apply rN | apply rd1)); exact Kd.R_mono O246.out (fun _ hk => ⟨hk.1.1, ⟨hk.1.2, hk.2⟩⟩)), (by (with_reducible repeat (first | apply ra | apply rN | apply rd1)); exact Kd.R_mono O252.out (fun _ hk => ⟨hk.1.1, ⟨hk.1.2, hk.2⟩⟩)), (by (with_reducible repeat (first | apply ra | apply rN | apply rd1)); exact Kd.R_mono O255.out (fun _ hk => ⟨hk.1.1, ⟨hk.1.2, hk.2⟩⟩)), (by (with_reducible repeat (first | apply ra | apply rN | apply rd1)); exact Kd.R_mono O258.out (fun _ hk => ⟨hk.1.1.2, ⟨hk.1.2, hk.2⟩⟩)), (by (with_reducible repeat (first | apply bN | apply bd | apply ba)); exact B232.out), (by (with_reducible repeat (first | apply bN | apply bd | apply ba)); exact B243.out), (by repeat (first | (with_reducible first | exact HB.out | apply pa | apply pN | apply p1 | refine bs ?_ E232.out | refine bs ?_ E243.out) | exact HB.out))⟩)
         rintro ⟨v245, v248, v251, v254, v257⟩ w34 ⟨hS_, h0_, h1_, h2_, h3_, h4_, h5_, h6_⟩
         have N0 : Aside0 (Kd.R (Kd.int .u8) 5 w34 w.heap.size (fun k_ => some k_ ≠ (v251 : Value).ownBlock ∧ some k_ ≠ (v254 : Value).ownBlock ∧ some k_ ≠ (v257 : Value).ownBlock) v245 t244) := ⟨h0_⟩
         have N1 : Aside0 (Kd.R (Kd.int .u8) 5 w34 w.heap.size (fun k_ => some k_ ≠ (v245 : Value).ownBlock ∧ some k_ ≠ (v254 : Value).ownBlock ∧ some k_ ≠ (v257 : Value).ownBlock) v251 t250) := ⟨h1_⟩
         have N2 : Aside0 (Kd.R (Kd.int .u8) 5 w34 w.heap.size (fun k_ => some k_ ≠ (v245 : Value).ownBlock ∧ some k_ ≠ (v251 : Value).ownBlock ∧ some k_ ≠ (v257 : Value).ownBlock) v254 y253) := ⟨h2_⟩
         have N3 : Aside0 (Kd.R (Kd.int .u8) 5 w34 w.heap.size (fun k_ => some k_ ≠ (v245 : Value).ownBlock ∧ some k_ ≠ (v251 : Value).ownBlock ∧ some k_ ≠ (v254 : Value).ownBlock) v257 y256) := ⟨h3_⟩
         have N4 : Aside0 (w34.heap[g232]? = some (.cells #[I q aa0, .slice (some ad242) la1.length ca1, J Aa2 la2.length ca2] 31 (0, 0))) := ⟨h4_⟩
         have N5 : Aside0 (w34.heap[g243]? = some (.cells #[I q ((rd_T36 la1 x4_1).f0), I q ((rd_T36 la1 x4_1).f1), I q ((rd_T36 la1 x4_1).f2), I q ((rd_T36 la1 x4_1).f3), .bool ((rd_T36 la1 x4_1).f4)] 36 (0, 0))) := ⟨h5_⟩
         have N6 : Aside0 (Below w.heap.size w w34) := ⟨h6_⟩
         clear o0
         clear B232
         clear B243
         clear HB
         clear h0_ h1_ h2_ h3_ h4_ h5_ h6_
         have O246 := N0
         have O252 := N1
         have O255 := N2
         have O258 := N3
         have B232 := N4
         have B243 := N5
         have HB := N6
         clear N0 N1 N2 N3 N4 N5 N6
         have hHeld : w34.cell? ⟨g243, 0, none⟩ = some (I q ((rd_T36 la1 x4_1).f0)) ∧ w34.cell? ⟨g243, 1, none⟩ = some (I q ((rd_T36 la1 x4_1).f1)) ∧ w34.cell? ⟨g243, 2, none⟩ = some (I q ((rd_T36 la1 x4_1).f2)) ∧ w34.cell? ⟨g243, 3, none⟩ = some (I q ((rd_T36 la1 x4_1).f3)) ∧ w34.cell? ⟨g243, 4, none⟩ = some (.bool ((rd_T36 la1 x4_1).f4)) := hS_
         obtain ⟨Ao36, co36, eo36⟩ := Kd.R_slice O258.out
         (first | subst eo36 | (injection eo36 with f1_ f2_ f3_; have f4_ := f1_.symm; have f5_ := f3_.symm; clear f1_ f2_ f3_; subst f4_; subst f5_))
         refine norm_ (a' := ?_) ?_ ?_
         rotate_left
         ·simp only [putAll, Act.put, List.setIfInBounds_toArray, List.set_cons_zero, List.set_cons_succ]
          rfl
         refine one_ (i := 12) (N := some 62) #[true, true, true, true, true, true, true, true, true, true, true, true, true, false] rfl rfl (one_of HT_.out (by kernel_rfl)) (by decide) (fun K hK => ?_)
         refine Kd.R_append_rows_step (Kd.int .u8) (w0 := w) w.heap.size (by rfl) (.tmp 58) (.tmp 61) 58 5 (.int .u8 0) 1 rfl Try.underlying58 info5 rfl (by decide) (by omega) v254 y253 y256 _ _ _ (fun k_ => some k_ ≠ (v245 : Value).ownBlock ∧ some k_ ≠ (v251 : Value).ownBlock ∧ some k_ ≠ (J Ao36 y256.length co36 : Value).ownBlock) (fun _ => False) rfl rfl ?aO ?aR (fun _ _ h => h) (fun _ h => h.elim) ?aF ?aB ?aS ?aL ?_
         (case aR => repeat (first | exact (Kd.R_reads' O258.out).2.2 | (with_reducible refine ca ?_ _) | (with_reducible refine cN ?_ _) | (with_reducible refine cd1 ?_)))
         (case aB => exact (by repeat (first | (with_reducible first | exact HB.out | apply pa | apply pN | apply p1 | refine bs ?_ E232.out | refine bs ?_ E243.out) | exact HB.out)))
         (case aF => exact (fun k_ hk => ⟨Kd.fresh' (rl (by (with_reducible repeat (first | apply ra | apply rN | apply rd1)); exact O246.out)) k_ hk, Kd.fresh' (rl (by (with_reducible repeat (first | apply ra | apply rN | apply rd1)); exact O252.out)) k_ hk, Kd.fresh' (rl (by (with_reducible repeat (first | apply ra | apply rN | apply rd1)); exact O258.out)) k_ hk⟩))
         (case aO => exact (by (with_reducible repeat (first | apply ra | apply rN | apply rd1)); exact O255.out))
         (case aS => exact (bz (by repeat (first | (with_reducible first | exact HB.out | apply pa | apply pN | apply p1 | refine bs ?_ E232.out | refine bs ?_ E243.out) | exact HB.out))))
         (case aL => have := LMc18.out; omega)
         intro v260 w35 ho hb hg hat
         rw [← Ny259.out] at ho
         have N0 := am (blk_grown (g := g232) (o := .cells #[I q aa0, .slice (some ad242) la1.length ca1, J Aa2 la2.length ca2] 31 (0, 0)) (by (with_reducible repeat (first | apply bN | apply bd | apply ba)); exact B232.out) hg (Kd.R_ne O255.out B232.out (by decide)))
         have N1 := am (blk_grown (g := g243) (o := .cells #[I q ((rd_T36 la1 x4_1).f0), I q ((rd_T36 la1 x4_1).f1), I q ((rd_T36 la1 x4_1).f2), I q ((rd_T36 la1 x4_1).f3), .bool ((rd_T36 la1 x4_1).f4)] 36 (0, 0)) (by (with_reducible repeat (first | apply bN | apply bd | apply ba)); exact B243.out) hg (Kd.R_ne O255.out B243.out (by decide)))
         have N2 := am (Kd.R_after (ok := (fun k_ => some k_ ≠ (v251 : Value).ownBlock ∧ some k_ ≠ (J Ao36 y256.length co36 : Value).ownBlock)) (by (with_reducible repeat (first | apply ra | apply rN | apply rd1)); exact Kd.R_mono O246.out (fun _ hk => ⟨⟨hk.1, hk.2.2⟩, hk.2.1⟩)) hg hat)
         have N3 := am (Kd.R_after (ok := (fun k_ => some k_ ≠ (v245 : Value).ownBlock ∧ some k_ ≠ (J Ao36 y256.length co36 : Value).ownBlock)) (by (with_reducible repeat (first | apply ra | apply rN | apply rd1)); exact Kd.R_mono O252.out (fun _ hk => ⟨⟨hk.1, hk.2.2⟩, hk.2.1⟩)) hg hat)
         have N4 := am (Kd.R_after (ok := (fun k_ => some k_ ≠ (v245 : Value).ownBlock ∧ some k_ ≠ (v251 : Value).ownBlock)) (by (with_reducible repeat (first | apply ra | apply rN | apply rd1)); exact Kd.R_mono O258.out (fun _ hk => ⟨⟨hk.1, hk.2.1⟩, hk.2.2⟩)) hg hat)
         have N5 := am (hb)
         have N6 := am (ho)
         clear B232
         clear B243
         clear O246
         clear O252
         clear O258
         clear HB
         clear O255
         have B232 := N0
         have B243 := N1
         have O246 := N2
         have O252 := N3
         have O258 := N4
         have HB := N5
         have O261 := N6
         clear N0 N1 N2 N3 N4 N5 N6
         clear ho hb hg hat
         refine hK.out _ _ ⟨(bc B243.out 0).trans rfl, (bc B243.out 1).trans rfl, (bc B243.out 2).trans rfl, (bc B243.out 3).trans rfl, (bc B243.out 4).trans rfl⟩ (fun hHeld => ?_)
         clear hK K
         refine norm_ (a' := ?_) ?_ ?_
         rotate_left
         ·show Act.put _ (some 62) _ = _
          simp only [Act.put, List.setIfInBounds_toArray, List.set_cons_zero, List.set_cons_succ, i64_w, i32_w]
          rfl
         refine pure_ (i := 13) (N := some 3) (v := ?_) (a' := ?_) #[true, true, true, true, true, true, true, true, true, true, true, true, true, true] rfl rfl (any_of HT_.out (by kernel_rfl)) (fun _ _ _ h => h) (Or.inl ⟨by rfl, ?_⟩) ?_ ?_
         rotate_left
         ·intro w'
          first | (go_simp; with_reducible rfl) | (go_simp; (try unfold Instr.field); go_simp; (try simp only [asAgg]); go_simp; with_reducible rfl)
         rotate_left
         ·simp only [Act.put, List.setIfInBounds_toArray, List.set_cons_zero, List.set_cons_succ, i64_w, i32_w]
          rfl
         refine done_ (done_of HT_.out (by kernel_rfl)) ?_
         try go_wp2
         go_roundg k1
         case measure => have := HK1.out; omega
         case rel => exact ⟨(y259), (wrap64 (x4_1 + 1)), (by first | rfl | (simp; done) | (simp [*]; done)), H', ⟨by have := HK1.out; omega⟩, ⟨by (with_reducible repeat (first | apply ra | apply rN | apply rd1)); exact Kd.R_mono O261.out (fun _ hk => trivial)⟩, ⟨by (with_reducible repeat (first | apply bN | apply bd | apply ba)); exact B232.out⟩, ⟨by repeat (first | (with_reducible first | exact HB.out | apply pa | apply pN | apply p1 | refine bs ?_ E232.out | refine bs ?_ E243.out) | exact HB.out)⟩⟩
        ·rw [if_neg c18] at H
         exact absurd H (by simp)
       ·rw [if_neg c17] at H
        exact absurd H (by simp)
      ·rw [if_neg c15] at H
       exact absurd H (by simp)
     ·rw [if_neg c13] at H
      exact absurd H (by simp)
    ·rw [if_neg c12] at H
     have c12b0 : decide (x4_1 < (la1.length : Int)) = false := decide_eq_false c12
     clear c12
     obtain ⟨y262, hy262⟩ : ∃ y_ : List Int, y_ = (([((la2.length : Int)) % 256] : List Int)) := ⟨_, rfl⟩
     replace H : (if x3_1.length + y262.length < 140737488355328 then (spec_l6Config.l1 k1 (x3_1 ++ y262) 0 aa0 la1 la2) else (none)) = some r := by first | (rw [hy262]; with_reducible exact H) | (have H2_ := (Option.bind_some _ _).symm.trans H; rw [hy262]; with_reducible exact H2_) | (have H2_ := (Option.bind_some _ _).symm.trans H; with_reducible exact H2_) | with_reducible exact H | (rw [hy262]; exact H) | exact H
     have Ny262 := am hy262
     clear hy262
     by_cases c37 : x3_1.length + y262.length < 140737488355328
     ·rw [if_pos c37] at H
      have LMc37 := am c37
      clear c37
      obtain ⟨y265, hy265⟩ : ∃ y_ : List Int, y_ = (x3_1 ++ y262) := ⟨_, rfl⟩
      replace H : (spec_l6Config.l1 k1 y265 0 aa0 la1 la2) = some r := by first | (rw [hy265]; with_reducible exact H) | (have H2_ := (Option.bind_some _ _).symm.trans H; rw [hy265]; with_reducible exact H2_) | (have H2_ := (Option.bind_some _ _).symm.trans H; with_reducible exact H2_) | with_reducible exact H | (rw [hy265]; exact H) | exact H
      have Ny265 := am hy265
      clear hy265
      have H' := am H
      clear H
      have hcz38_0 : wr.cell? ⟨g232, 0, none⟩ = some (I q aa0) := (bc B232.out 0).trans rfl
      have hcz38_1 : wr.cell? ⟨g232, 1, none⟩ = some (J Aa1 la1.length ca1) := (bc B232.out 1).trans rfl
      have hcz38_2 : wr.cell? ⟨g232, 2, none⟩ = some (J Aa2 la2.length ca2) := (bc B232.out 2).trans rfl
      have hfz38_0 := bf B232.out 0
      have hfz38_1 := bf B232.out 1
      have hfz38_2 := bf B232.out 2
      go_wp2_with (first | ((with_reducible refine gate_dst (N := 70) rfl ?_); refine Kd.R_lit (Kd.int .u8) _ 5 ?hg (N := 70) ?hd (xs := ([((la2.length : Int)) % 256] : List Int)) (inner := [.int .u8 (((la2.length : Int)) % 256)]) (ok := fun _ => True) (okp := fun _ => True) ?hr ?hp (fun _ hk => hk) trivial (Below.refl _ _) (Nat.le_refl _) (by simp) ?_; (case hd => rfl); (case hg => rfl); (case hr => first | (go_simp; done) | (go_simp; rfl)); (case hp => exact (Reps.one (show Kd.M (Kd.int .u8) _ _ _ (((la2.length : Int)) % 256) [.int .u8 (((la2.length : Int)) % 256)] from rfl) (Reps.none _ _))); intro v263 w39 ho40 hb hg_ hnew_; clear hg_ hnew_; (first | rw [← Ny262.out] at ho40 | (simp only [Int.reduceToNat] at ho40; rw [← Ny262.out] at ho40)); have N0 := am (re (by (with_reducible repeat (first | apply ra | apply rN | apply rd1)); exact o0.out) (Kd.R_base ho40) hb); have N1 := am (rw1 (rn ho40 (rl (by (with_reducible repeat (first | apply ra | apply rN | apply rd1)); exact o0.out))) (bz (by repeat (first | (with_reducible first | exact HB.out | apply pa | apply pN | apply p1 | refine bs ?_ E232.out) | exact HB.out)))); have N2 := am (bb (g := g232) (by (with_reducible repeat (first | apply bN | apply bd | apply ba)); exact B232.out) hb); have N3 := am (bp (by repeat (first | (with_reducible first | exact HB.out | apply pa | apply pN | apply p1 | refine bs ?_ E232.out) | exact HB.out)) hb); clear o0 B232 HB; have o0 := N0; have O264 := N1; have B232 := N2; have HB := N3; clear N0 N1 N2 N3 hb ho40; obtain ⟨Ao42, co42, eo42⟩ := Kd.R_slice O264.out; subst eo42) | ((with_reducible refine gate_builtin (b := .append) (xs := #[.tmp 63, .tmp 70]) rfl ?_); at_builtin; refine Kd.R_append_rows (Kd.int .u8) (w0 := w) w.heap.size rfl (.tmp 63) (.tmp 70) 58 5 (.int .u8 0) 1 rfl Try.underlying58 info5 rfl (by decide) (by omega) u3 x3_1 y262 _ _ _ (fun k_ => some k_ ≠ (J Ao42 y262.length co42 : Value).ownBlock) (fun _ => False) rfl rfl ?aO ?aR (fun _ _ h => h) (fun _ h => h.elim) ?aF ?aB ?aS ?aL ?_; (case aR => repeat (first | exact (Kd.R_reads' O264.out).2.2 | (with_reducible refine ca ?_ _) | (with_reducible refine cN ?_ _) | (with_reducible refine cd1 ?_))); (case aB => exact (by repeat (first | (with_reducible first | exact HB.out | apply pa | apply pN | apply p1 | refine bs ?_ E232.out) | exact HB.out))); (case aF => exact (fun k_ hk => Kd.fresh' (rl (by (with_reducible repeat (first | apply ra | apply rN | apply rd1)); exact O264.out)) k_ hk)); (case aO => exact (by (with_reducible repeat (first | apply ra | apply rN | apply rd1)); exact Kd.R_mono o0.out (fun _ hk => hk.2))); (case aS => exact (bz (by repeat (first | (with_reducible first | exact HB.out | apply pa | apply pN | apply p1 | refine bs ?_ E232.out) | exact HB.out)))); (case aL => have := LMc37.out; omega); intro v266 w41 ho hb hg hat; rw [← Ny265.out] at ho; have N0 := am (blk_grown (g := g232) (o := .cells #[I q aa0, J Aa1 la1.length ca1, J Aa2 la2.length ca2] 31 (0, 0)) (by (with_reducible repeat (first | apply bN | apply bd | apply ba)); exact B232.out) hg (Kd.R_ne o0.out B232.out (by decide))); have N1 := am (Kd.R_after (ok := (fun _ => True)) (by (with_reducible repeat (first | apply ra | apply rN | apply rd1)); exact O264.out) hg hat); have N2 := am (hb); have N3 := am (ho); clear B232 O264 HB o0; have B232 := N0; have O264 := N1; have HB := N2; have O267 := N3; clear N0 N1 N2 N3 ho hb hg hat))
      go_loopg [3, 7] k1 (fun kq v3 v7 w' => ∃ (x3_2 : List Int) (x7_2 : Int), v7 = I q x7_2 ∧ Aside0 (spec_l6Config.l1 kq x3_2 x7_2 aa0 la1 la2 = some r) ∧ Aside0 (kq ≤ k1) ∧ Aside0 (Kd.R (Kd.int .u8) 5 w' w.heap.size (fun _ => True) v3 x3_2) ∧ Aside0 (w'.heap[g232]? = some (.cells #[I q aa0, (J Aa1 la1.length ca1), (J Aa2 la2.length ca2)] 31 (0, 0))) ∧ Aside0 (Below w.heap.size w w'))
      case atStart => exact ⟨(y265), (0), (by first | rfl | (simp; done) | (simp [*]; done)), H', ⟨Nat.le_refl _⟩, ⟨by (with_reducible repeat (first | apply ra | apply rN | apply rd1)); exact Kd.R_mono O267.out (fun _ hk => trivial)⟩, ⟨by (with_reducible repeat (first | apply bN | apply bd | apply ba)); exact B232.out⟩, ⟨by repeat (first | (with_reducible first | exact HB.out | apply pa | apply pN | apply p1 | refine bs ?_ E232.out) | exact HB.out)⟩⟩
      case round =>
       clear H'
       try clear c1
       try clear p2
       try clear c3
       try clear p6
       try clear c12
       try clear c12b0
       try clear c13
       try clear c15
       try clear c17
       try clear c18
       try clear c37
       try clear hcz38_0
       try clear hcz38_1
       try clear hcz38_2
       try clear hfz38_0
       try clear hfz38_1
       try clear hfz38_2
       obtain ⟨x3_2, x7_2, rfl, HA, HK2, o0, B232, HB⟩ := hrel
       cases gk with
       | zero => exact absurd HA.out (by simp [spec_l6Config.l1])
       | succ k2 =>
        have H := HA.out
        clear HA
        simp only [spec_l6Config.l1] at H
        by_cases c43 : x7_2 < (la2.length : Int)
        ·rw [if_pos c43] at H
         have c43b0 : decide (x7_2 < (la2.length : Int)) = true := decide_eq_true c43
         clear c43
         by_cases c44 : 0 ≤ x7_2
         ·rw [if_pos c44] at H
          have c44b0 : decide (0 ≤ x7_2) = true := decide_eq_true c44
          clear c44
          replace H := Option.bind_eq_some_iff.mp H
          obtain ⟨t270, A450, H⟩ := H
          replace H : (if x3_2.length + t270.length < 140737488355328 then ((some (x3_2 ++ t270 : List Int)).bind fun y273 => ((spec_l1Bytes.f k2 ((rd_T64 la2 x7_2).f1) 2).bind fun t276 => (if y273.length + t276.length < 140737488355328 then ((some (y273 ++ t276 : List Int)).bind fun y279 => ((some (([((rd_T64 la2 x7_2).f2) % 256, ((((rd_T64 la2 x7_2).f3).length : Int)) % 256] : List Int) : List Int)).bind fun y282 => (if y279.length + y282.length < 140737488355328 then (spec_l6Config.l2 k2 (y279 ++ y282) x7_2 0 aa0 la1 la2 ((rd_T64 la2 x7_2).f0) ((rd_T64 la2 x7_2).f1) ((rd_T64 la2 x7_2).f2) ((rd_T64 la2 x7_2).f3)) else (none)))) else (none)))) else (none)) = some r := H
          have A45 := am A450
          clear A450
          by_cases c46 : x3_2.length + t270.length < 140737488355328
          ·rw [if_pos c46] at H
           have LMc46 := am c46
           clear c46
           obtain ⟨y273, hy273⟩ : ∃ y_ : List Int, y_ = (x3_2 ++ t270) := ⟨_, rfl⟩
           replace H : ((spec_l1Bytes.f k2 ((rd_T64 la2 x7_2).f1) 2).bind fun t276 => (if y273.length + t276.length < 140737488355328 then ((some (y273 ++ t276 : List Int)).bind fun y279 => ((some (([((rd_T64 la2 x7_2).f2) % 256, ((((rd_T64 la2 x7_2).f3).length : Int)) % 256] : List Int) : List Int)).bind fun y282 => (if y279.length + y282.length < 140737488355328 then (spec_l6Config.l2 k2 (y279 ++ y282) x7_2 0 aa0 la1 la2 ((rd_T64 la2 x7_2).f0) ((rd_T64 la2 x7_2).f1) ((rd_T64 la2 x7_2).f2) ((rd_T64 la2 x7_2).f3)) else (none)))) else (none))) = some r := by first | (rw [hy273]; with_reducible exact H) | (have H2_ := (Option.bind_some _ _).symm.trans H; rw [hy273]; with_reducible exact H2_) | (have H2_ := (Option.bind_some _ _).symm.trans H; with_reducible exact H2_) | with_reducible exact H | (rw [hy273]; exact H) | exact H
           have Ny273 := am hy273
           clear hy273
           replace H := Option.bind_eq_some_iff.mp H
           obtain ⟨t276, A470, H⟩ := H
           replace H : (if y273.length + t276.length < 140737488355328 then ((some (y273 ++ t276 : List Int)).bind fun y279 => ((some (([((rd_T64 la2 x7_2).f2) % 256, ((((rd_T64 la2 x7_2).f3).length : Int)) % 256] : List Int) : List Int)).bind fun y282 => (if y279.length + y282.length < 140737488355328 then (spec_l6Config.l2 k2 (y279 ++ y282) x7_2 0 aa0 la1 la2 ((rd_T64 la2 x7_2).f0) ((rd_T64 la2 x7_2).f1) ((rd_T64 la2 x7_2).f2) ((rd_T64 la2 x7_2).f3)) else (none)))) else (none)) = some r := H
           have A47 := am A470
           clear A470
           by_cases c48 : y273.length + t276.length < 140737488355328
           ·rw [if_pos c48] at H
            have LMc48 := am c48
            clear c48
            obtain ⟨y279, hy279⟩ : ∃ y_ : List Int, y_ = (y273 ++ t276) := ⟨_, rfl⟩
            replace H : ((some (([((rd_T64 la2 x7_2).f2) % 256, ((((rd_T64 la2 x7_2).f3).length : Int)) % 256] : List Int) : List Int)).bind fun y282 => (if y279.length + y282.length < 140737488355328 then (spec_l6Config.l2 k2 (y279 ++ y282) x7_2 0 aa0 la1 la2 ((rd_T64 la2 x7_2).f0) ((rd_T64 la2 x7_2).f1) ((rd_T64 la2 x7_2).f2) ((rd_T64 la2 x7_2).f3)) else (none))) = some r := by first | (rw [hy279]; with_reducible exact H) | (have H2_ := (Option.bind_some _ _).symm.trans H; rw [hy279]; with_reducible exact H2_) | (have H2_ := (Option.bind_some _ _).symm.trans H; with_reducible exact H2_) | with_reducible exact H | (rw [hy279]; exact H) | exact H
            have Ny279 := am hy279
            clear hy279
            obtain ⟨y282, hy282⟩ : ∃ y_ : List Int, y_ = (([((rd_T64 la2 x7_2).f2) % 256, ((((rd_T64 la2 x7_2).f3).length : Int)) % 256] : List Int)) := ⟨_, rfl⟩
            replace H : (if y279.length + y282.length < 140737488355328 then (spec_l6Config.l2 k2 (y279 ++ y282) x7_2 0 aa0 la1 la2 ((rd_T64 la2 x7_2).f0) ((rd_T64 la2 x7_2).f1) ((rd_T64 la2 x7_2).f2) ((rd_T64 la2 x7_2).f3)) else (none)) = some r := by first | (rw [hy282]; with_reducible exact H) | (have H2_ := (Option.bind_some _ _).symm.trans H; rw [hy282]; with_reducible exact H2_) | (have H2_ := (Option.bind_some _ _).symm.trans H; with_reducible exact H2_) | with_reducible exact H | (rw [hy282]; exact H) | exact H
            have Ny282 := am hy282
            clear hy282
            by_cases c49 : y279.length + y282.length < 140737488355328
            ·rw [if_pos c49] at H
             have LMc49 := am c49
             clear c49
             obtain ⟨y285, hy285⟩ : ∃ y_ : List Int, y_ = (y279 ++ y282) := ⟨_, rfl⟩
             replace H : (spec_l6Config.l2 k2 y285 x7_2 0 aa0 la1 la2 ((rd_T64 la2 x7_2).f0) ((rd_T64 la2 x7_2).f1) ((rd_T64 la2 x7_2).f2) ((rd_T64 la2 x7_2).f3)) = some r := by first | (rw [hy285]; with_reducible exact H) | (have H2_ := (Option.bind_some _ _).symm.trans H; rw [hy285]; with_reducible exact H2_) | (have H2_ := (Option.bind_some _ _).symm.trans H; with_reducible exact H2_) | with_reducible exact H | (rw [hy285]; exact H) | exact H
             have Ny285 := am hy285
             clear hy285
             have H' := am H
             clear H
             have hcz50_0 : wr.cell? ⟨g232, 0, none⟩ = some (I q aa0) := (bc B232.out 0).trans rfl
             have hcz50_1 : wr.cell? ⟨g232, 1, none⟩ = some (J Aa1 la1.length ca1) := (bc B232.out 1).trans rfl
             have hcz50_2 : wr.cell? ⟨g232, 2, none⟩ = some (J Aa2 la2.length ca2) := (bc B232.out 2).trans rfl
             have hfz50_0 := bf B232.out 0
             have hfz50_1 := bf B232.out 1
             have hfz50_2 := bf B232.out 2
             have p268 : 0 ≤ (x7_2 : Int) := of_decide_eq_true (by first | (with_reducible assumption) | assumption)
             have q268 : x7_2 < (la2.length : Int) := of_decide_eq_true (by first | (with_reducible assumption) | assumption)
             obtain ⟨ad268, A268_3, c268_3, e268, hx268_0, hx268_1, hx268_2, hx268_3, hl268_3, hi268_3⟩ := at_T64 HR0_2.out x7_2 p268 q268
             cases e268
             replace hx268_0 := (HB.out.cell (World.block_lt_of_cell? w _ hx268_0)).trans hx268_0
             replace hx268_1 := (HB.out.cell (World.block_lt_of_cell? w _ hx268_1)).trans hx268_1
             replace hx268_2 := (HB.out.cell (World.block_lt_of_cell? w _ hx268_2)).trans hx268_2
             replace hx268_3 := (HB.out.cell (World.block_lt_of_cell? w _ hx268_3)).trans hx268_3
             have HR268_3 := am hi268_3
             have HC268_3 := am hl268_3
             clear hi268_3 hl268_3
             replace p268 := eq_true p268
             replace q268 := eq_true q268
             try go_wp2_with (first | ((with_reducible refine gate_dst (N := 8) rfl ?_); refine box_event ?hg (N := 8) ?hd (cs := #[I q 0, I q 0, I q 0, .slice none 0 0]) (t := 64) ?hr ?_; (case hd => rfl); (case hg => rfl); (case hr => first | (go_simp; done) | (go_simp; rfl)); intro g269 hg w51 hbox hb; have N0 := am (rb (by (with_reducible repeat (first | apply ra | apply rN | apply rd1)); exact o0.out) hb); have N1 := am (bb (g := g232) (by (with_reducible repeat (first | apply bN | apply bd | apply ba)); exact B232.out) hb); have N2 := am (bp (by repeat (first | (with_reducible first | exact HB.out | apply pa | apply pN | apply p1 | refine bs ?_ E232.out) | exact HB.out)) hb); have N3 := am (hbox); have N4 := am ((by rw [hg]; exact (bz (by repeat (first | (with_reducible first | exact HB.out | apply pa | apply pN | apply p1 | refine bs ?_ E232.out) | exact HB.out))) : w.heap.size ≤ g269)); have N5 := am ((by rw [hg]; exact (bz (by repeat (first | (with_reducible first | exact HB.out | apply pa | apply pN | apply p1 | refine bs ?_ E232.out) | exact HB.out))) : w.heap.size ≤ g269)); have N6 := am ((by rw [hg]; exact Nat.ne_of_lt (bl (g := g232) (by (with_reducible repeat (first | apply bN | apply bd | apply ba)); exact B232.out)) : g232 ≠ g269)); have N7 := am ((by rw [hg]; exact Nat.ne_of_gt (bl (g := g232) (by (with_reducible repeat (first | apply bN | apply bd | apply ba)); exact B232.out)) : g269 ≠ g232)); clear o0 B232 HB; have o0 := N0; have B232 := N1; have HB := N2; have B269 := N3; have GW269 := N4; have E269 := N5; have NB232_269 := N6; have NB269_232 := N7; clear N0 N1 N2 N3 N4 N5 N6 N7 hb hbox hg; have hnb52 := NB269_232.out; have hnc52 := NB232_269.out; have hcz53_0 : w51.cell? ⟨g269, 0, none⟩ = some (I q 0) := (bc B269.out 0).trans rfl; have hcz53_1 : w51.cell? ⟨g269, 1, none⟩ = some (I q 0) := (bc B269.out 1).trans rfl; have hcz53_2 : w51.cell? ⟨g269, 2, none⟩ = some (I q 0) := (bc B269.out 2).trans rfl; have hcz53_3 : w51.cell? ⟨g269, 3, none⟩ = some (.slice none 0 0) := (bc B269.out 3).trans rfl; have hfz53_0 := bf B269.out 0; have hfz53_1 := bf B269.out 1; have hfz53_2 := bf B269.out 2; have hfz53_3 := bf B269.out 3; obtain ⟨Ao54, co54, eo54⟩ := Kd.R_slice o0.out; subst eo54))
             have N0 : Aside0 (Kd.R (Kd.int .u8) 5 ((((w51.setCell ⟨g269, 0, none⟩ (I q ((rd_T64 la2 x7_2).f0))).setCell ⟨g269, 1, none⟩ (I q ((rd_T64 la2 x7_2).f1))).setCell ⟨g269, 2, none⟩ (I q ((rd_T64 la2 x7_2).f2))).setCell ⟨g269, 3, none⟩ (J A268_3 ((rd_T64 la2 x7_2).f3).length c268_3)) w.heap.size (fun _ => True) (J Ao54 x3_2.length co54) x3_2) := ⟨by (with_reducible repeat (first | apply ra | apply rN | apply rd1)); exact Kd.R_mono (rf (p := ⟨g269, 3, none⟩) (rf (p := ⟨g269, 2, none⟩) (rf (p := ⟨g269, 1, none⟩) (rf (p := ⟨g269, 0, none⟩) (Kd.R_types o0.out B269.out (by decide)) (fun _ hk => hk.2) (I q ((rd_T64 la2 x7_2).f0))) (fun _ hk => hk.2) (I q ((rd_T64 la2 x7_2).f1))) (fun _ hk => hk.2) (I q ((rd_T64 la2 x7_2).f2))) (fun _ hk => hk.2) (J A268_3 ((rd_T64 la2 x7_2).f3).length c268_3)) (fun _ hk => trivial)⟩
             have N1 : Aside0 (((((w51.setCell ⟨g269, 0, none⟩ (I q ((rd_T64 la2 x7_2).f0))).setCell ⟨g269, 1, none⟩ (I q ((rd_T64 la2 x7_2).f1))).setCell ⟨g269, 2, none⟩ (I q ((rd_T64 la2 x7_2).f2))).setCell ⟨g269, 3, none⟩ (J A268_3 ((rd_T64 la2 x7_2).f3).length c268_3)).heap[g232]? = some (.cells #[I q aa0, J Aa1 la1.length ca1, .slice (some ad268) la2.length ca2] 31 (0, 0))) := ⟨by (iterate 4 ((with_reducible repeat (first | apply bN | apply bd | apply ba)); refine bq ?_ NB232_269.out _)); (with_reducible repeat (first | apply bN | apply bd | apply ba)); exact B232.out⟩
             have N2 : Aside0 (((((w51.setCell ⟨g269, 0, none⟩ (I q ((rd_T64 la2 x7_2).f0))).setCell ⟨g269, 1, none⟩ (I q ((rd_T64 la2 x7_2).f1))).setCell ⟨g269, 2, none⟩ (I q ((rd_T64 la2 x7_2).f2))).setCell ⟨g269, 3, none⟩ (J A268_3 ((rd_T64 la2 x7_2).f3).length c268_3)).heap[g269]? = some (.cells #[I q ((rd_T64 la2 x7_2).f0), I q ((rd_T64 la2 x7_2).f1), I q ((rd_T64 la2 x7_2).f2), J A268_3 ((rd_T64 la2 x7_2).f3).length c268_3] 64 (0, 0))) := ⟨by (with_reducible repeat (first | apply bN | apply bd | apply ba)); exact pu4g B269.out⟩
             have N3 : Aside0 (Below w.heap.size w ((((w51.setCell ⟨g269, 0, none⟩ (I q ((rd_T64 la2 x7_2).f0))).setCell ⟨g269, 1, none⟩ (I q ((rd_T64 la2 x7_2).f1))).setCell ⟨g269, 2, none⟩ (I q ((rd_T64 la2 x7_2).f2))).setCell ⟨g269, 3, none⟩ (J A268_3 ((rd_T64 la2 x7_2).f3).length c268_3))) := ⟨by repeat (first | (with_reducible first | exact HB.out | apply pa | apply pN | apply p1 | refine bs ?_ E232.out | refine bs ?_ E269.out) | exact HB.out)⟩
             (try clear o0)
             (try clear B232)
             (try clear B269)
             (try clear HB)
             generalize ((((w51.setCell ⟨g269, 0, none⟩ (I q ((rd_T64 la2 x7_2).f0))).setCell ⟨g269, 1, none⟩ (I q ((rd_T64 la2 x7_2).f1))).setCell ⟨g269, 2, none⟩ (I q ((rd_T64 la2 x7_2).f2))).setCell ⟨g269, 3, none⟩ (J A268_3 ((rd_T64 la2 x7_2).f3).length c268_3)) = w55 at N0 N1 N2 N3 ⊢
             have o0 := N0
             have B232 := N1
             have B269 := N2
             have HB := N3
             clear N0 N1 N2 N3
             have N0 := am (rd1 o0.out)
             have N1 := am (bd B232.out)
             have N2 := am (bd B269.out)
             have N3 := am (p1 HB.out)
             clear o0
             clear B232
             clear B269
             clear HB
             have o0 := N0
             have B232 := N1
             have B269 := N2
             have HB := N3
             clear N0 N1 N2 N3
             refine start_ (n := 19) (S := fun w' => w'.cell? ⟨g269, 0, none⟩ = some (I q ((rd_T64 la2 x7_2).f0)) ∧ w'.cell? ⟨g269, 1, none⟩ = some (I q ((rd_T64 la2 x7_2).f1)) ∧ w'.cell? ⟨g269, 2, none⟩ = some (I q ((rd_T64 la2 x7_2).f2)) ∧ w'.cell? ⟨g269, 3, none⟩ = some (J A268_3 ((rd_T64 la2 x7_2).f3).length c268_3)) (ds := []) #[false, false, false, false, false, false, false, false, false, false, false, false, false, false, false, false, false, false, false] (by kernel_rfl) rfl rfl ⟨(bc B269.out 0).trans rfl, (bc B269.out 1).trans rfl, (bc B269.out 2).trans rfl, (bc B269.out 3).trans rfl⟩ (fun hHeld => ?_); refine with_tabW spec_l6Config.tab15 spec_l6Config.bits15 (fun HT_ HW_ => ?_)
             generalize w55.drew = w56 at o0 B232 B269 HB hHeld ⊢
             refine pure_ (i := 0) (N := some 88) (v := ?_) (a' := ?_) #[true, false, false, false, false, false, false, false, false, false, false, false, false, false, false, false, false, false, false] rfl rfl (any_of HT_.out (by kernel_rfl)) (fun _ _ _ h => h) (Or.inl ⟨by rfl, ?_⟩) ?_ ?_
             rotate_left
             ·intro w'
              first | (go_simp; with_reducible rfl) | (go_simp; (try unfold Instr.field); go_simp; (try simp only [asAgg]); go_simp; with_reducible rfl)
             rotate_left
             ·simp only [Act.put, List.setIfInBounds_toArray, List.set_cons_zero, List.set_cons_succ, i64_w, i32_w]
              rfl
             refine pure_ (i := 1) (N := some 89) (v := ?_) (a' := ?_) #[true, true, false, false, false, false, false, false, false, false, false, false, false, false, false, false, false, false, false] rfl rfl (any_of HT_.out (by kernel_rfl)) (fun _ _ _ h => h) (Or.inl ⟨by rfl, ?_⟩) ?_ ?_
             rotate_left
             ·intro w'
              first | (go_simp; with_reducible rfl) | (go_simp; (try unfold Instr.field); go_simp; (try simp only [asAgg]); go_simp; with_reducible rfl)
             rotate_left
             ·simp only [Act.put, List.setIfInBounds_toArray, List.set_cons_zero, List.set_cons_succ, i64_w, i32_w]
              rfl
             refine pure_ (i := 5) (N := some 93) (v := ?_) (a' := ?_) #[true, true, false, false, false, true, false, false, false, false, false, false, false, false, false, false, false, false, false] rfl rfl (any_of HT_.out (by kernel_rfl)) (fun _ _ _ h => h) (Or.inl ⟨by rfl, ?_⟩) ?_ ?_
             rotate_left
             ·intro w'
              first | (go_simp; with_reducible rfl) | (go_simp; (try unfold Instr.field); go_simp; (try simp only [asAgg]); go_simp; with_reducible rfl)
             rotate_left
             ·simp only [Act.put, List.setIfInBounds_toArray, List.set_cons_zero, List.set_cons_succ, i64_w, i32_w]
              rfl
             refine pure_ (i := 9) (N := some 97) (v := ?_) (a' := ?_) #[true, true, false, false, false, true, false, false, false, true, false, false, false, false, false, false, false, false, false] rfl rfl (any_of HT_.out (by kernel_rfl)) (fun _ _ _ h => h) (Or.inl ⟨by rfl, ?_⟩) ?_ ?_
             rotate_left
             ·intro w'
              first | (go_simp; with_reducible rfl) | (go_simp; (try unfold Instr.field); go_simp; (try simp only [asAgg]); go_simp; with_reducible rfl)
             rotate_left
             ·simp only [Act.put, List.setIfInBounds_toArray, List.set_cons_zero, List.set_cons_succ, i64_w, i32_w]
              rfl
             refine pure_ (i := 12) (N := some 100) (v := ?_) (a' := ?_) #[true, true, false, false, false, true, false, false, false, true, false, false, true, false, false, false, false, false, false] rfl rfl (any_of HT_.out (by kernel_rfl)) (fun _ _ _ h => h) (Or.inl ⟨by rfl, ?_⟩) ?_ ?_
             rotate_left
             ·intro w'
              first | (go_simp; with_reducible rfl) | (go_simp; (try unfold Instr.field); go_simp; (try simp only [asAgg]); go_simp; with_reducible rfl)
             rotate_left
             ·simp only [Act.put, List.setIfInBounds_toArray, List.set_cons_zero, List.set_cons_succ, i64_w, i32_w]
              rfl
             refine take_ (i := 2) (N := some 90) (v := ?_) (a' := ?_) #[true, true, true, false, false, true, false, false, false, true, false, false, true, false, false, false, false, false, false] rfl rfl (take_ofW HT_.out HW_.out (by kernel_rfl)) (fun _ _ _ h => h) (Or.inl ⟨by rfl, ?_⟩) hHeld ?_ ?_
             rotate_left
             ·rintro w' ⟨s0, s1, s2, s3⟩
              go_simp
              with_reducible rfl
             rotate_left
             ·simp only [Act.put, List.setIfInBounds_toArray, List.set_cons_zero, List.set_cons_succ, i64_w, i32_w]
              rfl
             refine take_ (i := 6) (N := some 94) (v := ?_) (a' := ?_) #[true, true, true, false, false, true, true, false, false, true, false, false, true, false, false, false, false, false, false] rfl rfl (take_ofW HT_.out HW_.out (by kernel_rfl)) (fun _ _ _ h => h) (Or.inl ⟨by rfl, ?_⟩) hHeld ?_ ?_
             rotate_left
             ·rintro w' ⟨s0, s1, s2, s3⟩
              go_simp
              with_reducible rfl
             rotate_left
             ·simp only [Act.put, List.setIfInBounds_toArray, List.set_cons_zero, List.set_cons_succ, i64_w, i32_w]
              rfl
             refine take_ (i := 10) (N := some 98) (v := ?_) (a' := ?_) #[true, true, true, false, false, true, true, false, false, true, true, false, true, false, false, false, false, false, false] rfl rfl (take_ofW HT_.out HW_.out (by kernel_rfl)) (fun _ _ _ h => h) (Or.inl ⟨by rfl, ?_⟩) hHeld ?_ ?_
             rotate_left
             ·rintro w' ⟨s0, s1, s2, s3⟩
              go_simp
              with_reducible rfl
             rotate_left
             ·simp only [Act.put, List.setIfInBounds_toArray, List.set_cons_zero, List.set_cons_succ, i64_w, i32_w]
              rfl
             refine pure_ (i := 11) (N := some 99) (v := ?_) (a' := ?_) #[true, true, true, false, false, true, true, false, false, true, true, true, true, false, false, false, false, false, false] rfl rfl (any_of HT_.out (by kernel_rfl)) (fun _ _ _ h => h) (Or.inl ⟨by rfl, ?_⟩) ?_ ?_
             rotate_left
             ·intro w'
              first | (go_simp; with_reducible rfl) | (go_simp; (try unfold Instr.field); go_simp; (try simp only [asAgg]); go_simp; with_reducible rfl)
             rotate_left
             ·simp only [Act.put, List.setIfInBounds_toArray, List.set_cons_zero, List.set_cons_succ, i64_w, i32_w]
              rfl
             refine take_ (i := 13) (N := some 101) (v := ?_) (a' := ?_) #[true, true, true, false, false, true, true, false, false, true, true, true, true, true, false, false, false, false, false] rfl rfl (take_ofW HT_.out HW_.out (by kernel_rfl)) (fun _ _ _ h => h) (Or.inl ⟨by rfl, ?_⟩) hHeld ?_ ?_
             rotate_left
             ·rintro w' ⟨s0, s1, s2, s3⟩
              go_simp
              with_reducible rfl
             rotate_left
             ·simp only [Act.put, List.setIfInBounds_toArray, List.set_cons_zero, List.set_cons_succ, i64_w, i32_w]
              rfl
             refine pure_ (i := 14) (N := some 102) (v := ?_) (a' := ?_) #[true, true, true, false, false, true, true, false, false, true, true, true, true, true, true, false, false, false, false] rfl rfl (any_of HT_.out (by kernel_rfl)) (fun _ _ _ h => h) (Or.inl ⟨by rfl, ?_⟩) ?_ ?_
             rotate_left
             ·intro w'
              first | (go_simp; with_reducible rfl) | (go_simp; (try unfold Instr.field); go_simp; (try simp only [asAgg]); go_simp; with_reducible rfl)
             rotate_left
             ·simp only [Act.put, List.setIfInBounds_toArray, List.set_cons_zero, List.set_cons_succ, i64_w, i32_w]
              rfl
             refine pure_ (i := 15) (N := some 103) (v := ?_) (a' := ?_) #[true, true, true, false, false, true, true, false, false, true, true, true, true, true, true, true, false, false, false] rfl rfl (any_of HT_.out (by kernel_rfl)) (fun _ _ _ h => h) (Or.inl ⟨by rfl, ?_⟩) ?_ ?_
             rotate_left
             ·intro w'
              first | (go_simp; with_reducible rfl) | (go_simp; (try unfold Instr.field); go_simp; (try simp only [asAgg]); go_simp; with_reducible rfl)
             rotate_left
             ·simp only [Act.put, List.setIfInBounds_toArray, List.set_cons_zero, List.set_cons_succ, i64_w, i32_w]
              rfl
             refine join_ (σ := Value × Value × Value × Value × Value) 2 #[true, true, true, true, true, true, true, true, true, true, true, true, true, true, true, true, true, false, false] (fun s_ => [(91, s_.1), (92, s_.2.1), (95, s_.2.2.1), (96, s_.2.2.2.1), (104, s_.2.2.2.2)]) (fun s_ w' => (w'.cell? ⟨g269, 0, none⟩ = some (I q ((rd_T64 la2 x7_2).f0)) ∧ w'.cell? ⟨g269, 1, none⟩ = some (I q ((rd_T64 la2 x7_2).f1)) ∧ w'.cell? ⟨g269, 2, none⟩ = some (I q ((rd_T64 la2 x7_2).f2)) ∧ w'.cell? ⟨g269, 3, none⟩ = some (J A268_3 ((rd_T64 la2 x7_2).f3).length c268_3)) ∧ (Kd.R (Kd.int .u8) 5 w' w.heap.size (fun k_ => some k_ ≠ (s_.2.2.1 : Value).ownBlock ∧ some k_ ≠ (s_.2.2.2.1 : Value).ownBlock ∧ some k_ ≠ (s_.2.2.2.2 : Value).ownBlock) s_.1 t270) ∧ (Kd.R (Kd.int .u8) 5 w' w.heap.size (fun k_ => some k_ ≠ (s_.1 : Value).ownBlock ∧ some k_ ≠ (s_.2.2.2.1 : Value).ownBlock ∧ some k_ ≠ (s_.2.2.2.2 : Value).ownBlock) s_.2.2.1 t276) ∧ (Kd.R (Kd.int .u8) 5 w' w.heap.size (fun k_ => some k_ ≠ (s_.1 : Value).ownBlock ∧ some k_ ≠ (s_.2.2.1 : Value).ownBlock ∧ some k_ ≠ (s_.2.2.2.2 : Value).ownBlock) s_.2.2.2.1 y279) ∧ (Kd.R (Kd.int .u8) 5 w' w.heap.size (fun k_ => some k_ ≠ (s_.1 : Value).ownBlock ∧ some k_ ≠ (s_.2.2.1 : Value).ownBlock ∧ some k_ ≠ (s_.2.2.2.1 : Value).ownBlock) s_.2.2.2.2 y282) ∧ (w'.heap[g232]? = some (.cells #[I q aa0, J Aa1 la1.length ca1, .slice (some ad268) la2.length ca2] 31 (0, 0))) ∧ (w'.heap[g269]? = some (.cells #[I q ((rd_T64 la2 x7_2).f0), I q ((rd_T64 la2 x7_2).f1), I q ((rd_T64 la2 x7_2).f2), J A268_3 ((rd_T64 la2 x7_2).f3).length c268_3] 64 (0, 0))) ∧ (Below w.heap.size w w')) ?_ ?_
             rotate_left
             ·intro hJ3_4_7_8_16
              refine join_ (σ := Value × Value × Value × Value) 3 #[true, true, true, true, true, true, true, true, true, true, true, true, true, true, true, true, false, false, false] (fun s_ => [(91, s_.1), (92, s_.2.1), (95, s_.2.2.1), (96, s_.2.2.2)]) (fun s_ w' => (w'.cell? ⟨g269, 0, none⟩ = some (I q ((rd_T64 la2 x7_2).f0)) ∧ w'.cell? ⟨g269, 1, none⟩ = some (I q ((rd_T64 la2 x7_2).f1)) ∧ w'.cell? ⟨g269, 2, none⟩ = some (I q ((rd_T64 la2 x7_2).f2)) ∧ w'.cell? ⟨g269, 3, none⟩ = some (J A268_3 ((rd_T64 la2 x7_2).f3).length c268_3)) ∧ (Kd.R (Kd.int .u8) 5 w' w.heap.size (fun k_ => some k_ ≠ (s_.2.2.1 : Value).ownBlock ∧ some k_ ≠ (s_.2.2.2 : Value).ownBlock) s_.1 t270) ∧ (Kd.R (Kd.int .u8) 5 w' w.heap.size (fun k_ => some k_ ≠ (s_.1 : Value).ownBlock ∧ some k_ ≠ (s_.2.2.2 : Value).ownBlock) s_.2.2.1 t276) ∧ (Kd.R (Kd.int .u8) 5 w' w.heap.size (fun k_ => some k_ ≠ (s_.1 : Value).ownBlock ∧ some k_ ≠ (s_.2.2.1 : Value).ownBlock) s_.2.2.2 y279) ∧ (w'.heap[g232]? = some (.cells #[I q aa0, J Aa1 la1.length ca1, .slice (some ad268) la2.length ca2] 31 (0, 0))) ∧ (w'.heap[g269]? = some (.cells #[I q ((rd_T64 la2 x7_2).f0), I q ((rd_T64 la2 x7_2).f1), I q ((rd_T64 la2 x7_2).f2), J A268_3 ((rd_T64 la2 x7_2).f3).length c268_3] 64 (0, 0))) ∧ (Below w.heap.size w w')) ?_ ?_
              rotate_left
              ·intro hJ3_4_7_8
               refine join_ (σ := Value × Value × Value × Value) 3 #[true, true, true, true, true, true, true, true, false, true, true, true, true, true, true, true, true, false, false] (fun s_ => [(91, s_.1), (92, s_.2.1), (95, s_.2.2.1), (104, s_.2.2.2)]) (fun s_ w' => (w'.cell? ⟨g269, 0, none⟩ = some (I q ((rd_T64 la2 x7_2).f0)) ∧ w'.cell? ⟨g269, 1, none⟩ = some (I q ((rd_T64 la2 x7_2).f1)) ∧ w'.cell? ⟨g269, 2, none⟩ = some (I q ((rd_T64 la2 x7_2).f2)) ∧ w'.cell? ⟨g269, 3, none⟩ = some (J A268_3 ((rd_T64 la2 x7_2).f3).length c268_3)) ∧ (Kd.R (Kd.int .u8) 5 w' w.heap.size (fun k_ => some k_ ≠ (s_.2.1 : Value).ownBlock ∧ some k_ ≠ (s_.2.2.1 : Value).ownBlock ∧ some k_ ≠ (s_.2.2.2 : Value).ownBlock) s_.1 t270) ∧ (Kd.R (Kd.int .u8) 5 w' w.heap.size (fun k_ => some k_ ≠ (s_.1 : Value).ownBlock ∧ some k_ ≠ (s_.2.2.1 : Value).ownBlock ∧ some k_ ≠ (s_.2.2.2 : Value).ownBlock) s_.2.1 y273) ∧ (Kd.R (Kd.int .u8) 5 w' w.heap.size (fun k_ => some k_ ≠ (s_.1 : Value).ownBlock ∧ some k_ ≠ (s_.2.1 : Value).ownBlock ∧ some k_ ≠ (s_.2.2.2 : Value).ownBlock) s_.2.2.1 t276) ∧ (Kd.R (Kd.int .u8) 5 w' w.heap.size (fun k_ => some k_ ≠ (s_.1 : Value).ownBlock ∧ some k_ ≠ (s_.2.1 : Value).ownBlock ∧ some k_ ≠ (s_.2.2.1 : Value).ownBlock) s_.2.2.2 y282) ∧ (w'.heap[g232]? = some (.cells #[I q aa0, J Aa1 la1.length ca1, .slice (some ad268) la2.length ca2] 31 (0, 0))) ∧ (w'.heap[g269]? = some (.cells #[I q ((rd_T64 la2 x7_2).f0), I q ((rd_T64 la2 x7_2).f1), I q ((rd_T64 la2 x7_2).f2), J A268_3 ((rd_T64 la2 x7_2).f3).length c268_3] 64 (0, 0))) ∧ (Below w.heap.size w w')) ?_ ?_
               rotate_left
               ·intro hJ3_4_7_16
                refine join_ (σ := Value × Value × Value) 4 #[true, true, true, true, true, true, true, true, false, true, true, true, true, true, true, true, false, false, false] (fun s_ => [(91, s_.1), (92, s_.2.1), (95, s_.2.2)]) (fun s_ w' => (w'.cell? ⟨g269, 0, none⟩ = some (I q ((rd_T64 la2 x7_2).f0)) ∧ w'.cell? ⟨g269, 1, none⟩ = some (I q ((rd_T64 la2 x7_2).f1)) ∧ w'.cell? ⟨g269, 2, none⟩ = some (I q ((rd_T64 la2 x7_2).f2)) ∧ w'.cell? ⟨g269, 3, none⟩ = some (J A268_3 ((rd_T64 la2 x7_2).f3).length c268_3)) ∧ (Kd.R (Kd.int .u8) 5 w' w.heap.size (fun k_ => some k_ ≠ (s_.2.1 : Value).ownBlock ∧ some k_ ≠ (s_.2.2 : Value).ownBlock) s_.1 t270) ∧ (Kd.R (Kd.int .u8) 5 w' w.heap.size (fun k_ => some k_ ≠ (s_.1 : Value).ownBlock ∧ some k_ ≠ (s_.2.2 : Value).ownBlock) s_.2.1 y273) ∧ (Kd.R (Kd.int .u8) 5 w' w.heap.size (fun k_ => some k_ ≠ (s_.1 : Value).ownBlock ∧ some k_ ≠ (s_.2.1 : Value).ownBlock) s_.2.2 t276) ∧ (w'.heap[g232]? = some (.cells #[I q aa0, J Aa1 la1.length ca1, .slice (some ad268) la2.length ca2] 31 (0, 0))) ∧ (w'.heap[g269]? = some (.cells #[I q ((rd_T64 la2 x7_2).f0), I q ((rd_T64 la2 x7_2).f1), I q ((rd_T64 la2 x7_2).f2), J A268_3 ((rd_T64 la2 x7_2).f3).length c268_3] 64 (0, 0))) ∧ (Below w.heap.size w w')) ?_ ?_
                rotate_left
                ·intro hJ3_4_7
                 refine join_ (σ := Value × Value × Value) 4 #[true, true, true, true, true, true, true, false, false, true, true, true, true, true, true, true, true, false, false] (fun s_ => [(91, s_.1), (92, s_.2.1), (104, s_.2.2)]) (fun s_ w' => (w'.cell? ⟨g269, 0, none⟩ = some (I q ((rd_T64 la2 x7_2).f0)) ∧ w'.cell? ⟨g269, 1, none⟩ = some (I q ((rd_T64 la2 x7_2).f1)) ∧ w'.cell? ⟨g269, 2, none⟩ = some (I q ((rd_T64 la2 x7_2).f2)) ∧ w'.cell? ⟨g269, 3, none⟩ = some (J A268_3 ((rd_T64 la2 x7_2).f3).length c268_3)) ∧ (Kd.R (Kd.int .u8) 5 w' w.heap.size (fun k_ => some k_ ≠ (s_.2.1 : Value).ownBlock ∧ some k_ ≠ (s_.2.2 : Value).ownBlock) s_.1 t270) ∧ (Kd.R (Kd.int .u8) 5 w' w.heap.size (fun k_ => some k_ ≠ (s_.1 : Value).ownBlock ∧ some k_ ≠ (s_.2.2 : Value).ownBlock) s_.2.1 y273) ∧ (Kd.R (Kd.int .u8) 5 w' w.heap.size (fun k_ => some k_ ≠ (s_.1 : Value).ownBlock ∧ some k_ ≠ (s_.2.1 : Value).ownBlock) s_.2.2 y282) ∧ (w'.heap[g232]? = some (.cells #[I q aa0, J Aa1 la1.length ca1, .slice (some ad268) la2.length ca2] 31 (0, 0))) ∧ (w'.heap[g269]? = some (.cells #[I q ((rd_T64 la2 x7_2).f0), I q ((rd_T64 la2 x7_2).f1), I q ((rd_T64 la2 x7_2).f2), J A268_3 ((rd_T64 la2 x7_2).f3).length c268_3] 64 (0, 0))) ∧ (Below w.heap.size w w')) ?_ ?_
                 rotate_left
                 ·intro hJ3_4_16
                  refine join_ (σ := Value × Value) 5 #[true, true, true, true, true, true, true, false, false, true, true, true, true, true, true, true, false, false, false] (fun s_ => [(91, s_.1), (92, s_.2)]) (fun s_ w' => (w'.cell? ⟨g269, 0, none⟩ = some (I q ((rd_T64 la2 x7_2).f0)) ∧ w'.cell? ⟨g269, 1, none⟩ = some (I q ((rd_T64 la2 x7_2).f1)) ∧ w'.cell? ⟨g269, 2, none⟩ = some (I q ((rd_T64 la2 x7_2).f2)) ∧ w'.cell? ⟨g269, 3, none⟩ = some (J A268_3 ((rd_T64 la2 x7_2).f3).length c268_3)) ∧ (Kd.R (Kd.int .u8) 5 w' w.heap.size (fun k_ => some k_ ≠ (s_.2 : Value).ownBlock) s_.1 t270) ∧ (Kd.R (Kd.int .u8) 5 w' w.heap.size (fun k_ => some k_ ≠ (s_.1 : Value).ownBlock) s_.2 y273) ∧ (w'.heap[g232]? = some (.cells #[I q aa0, J Aa1 la1.length ca1, .slice (some ad268) la2.length ca2] 31 (0, 0))) ∧ (w'.heap[g269]? = some (.cells #[I q ((rd_T64 la2 x7_2).f0), I q ((rd_T64 la2 x7_2).f1), I q ((rd_T64 la2 x7_2).f2), J A268_3 ((rd_T64 la2 x7_2).f3).length c268_3] 64 (0, 0))) ∧ (Below w.heap.size w w')) ?_ ?_
                  rotate_left
                  ·intro hJ3_4
                   refine join_ (σ := Value × Value) 5 #[true, true, true, true, false, true, true, false, false, true, true, true, true, true, true, true, true, false, false] (fun s_ => [(91, s_.1), (104, s_.2)]) (fun s_ w' => (w'.cell? ⟨g269, 0, none⟩ = some (I q ((rd_T64 la2 x7_2).f0)) ∧ w'.cell? ⟨g269, 1, none⟩ = some (I q ((rd_T64 la2 x7_2).f1)) ∧ w'.cell? ⟨g269, 2, none⟩ = some (I q ((rd_T64 la2 x7_2).f2)) ∧ w'.cell? ⟨g269, 3, none⟩ = some (J A268_3 ((rd_T64 la2 x7_2).f3).length c268_3)) ∧ (Kd.R (Kd.int .u8) 5 w' w.heap.size (fun k_ => some k_ ≠ (s_.2 : Value).ownBlock ∧ some k_ ≠ (J Ao54 x3_2.length co54 : Value).ownBlock) s_.1 t270) ∧ (Kd.R (Kd.int .u8) 5 w' w.heap.size (fun k_ => some k_ ≠ (s_.1 : Value).ownBlock ∧ some k_ ≠ (J Ao54 x3_2.length co54 : Value).ownBlock) s_.2 y282) ∧ (Kd.R (Kd.int .u8) 5 w' w.heap.size (fun k_ => some k_ ≠ (s_.1 : Value).ownBlock ∧ some k_ ≠ (s_.2 : Value).ownBlock) (J Ao54 x3_2.length co54) x3_2) ∧ (w'.heap[g232]? = some (.cells #[I q aa0, J Aa1 la1.length ca1, .slice (some ad268) la2.length ca2] 31 (0, 0))) ∧ (w'.heap[g269]? = some (.cells #[I q ((rd_T64 la2 x7_2).f0), I q ((rd_T64 la2 x7_2).f1), I q ((rd_T64 la2 x7_2).f2), J A268_3 ((rd_T64 la2 x7_2).f3).length c268_3] 64 (0, 0))) ∧ (Below w.heap.size w w')) ?_ ?_
                   rotate_left
                   ·intro hJ3_16
                    refine join_ (σ := Value) 6 #[true, true, true, true, false, true, true, false, false, true, true, true, true, true, true, true, false, false, false] (fun s_ => [(91, s_)]) (fun s_ w' => (w'.cell? ⟨g269, 0, none⟩ = some (I q ((rd_T64 la2 x7_2).f0)) ∧ w'.cell? ⟨g269, 1, none⟩ = some (I q ((rd_T64 la2 x7_2).f1)) ∧ w'.cell? ⟨g269, 2, none⟩ = some (I q ((rd_T64 la2 x7_2).f2)) ∧ w'.cell? ⟨g269, 3, none⟩ = some (J A268_3 ((rd_T64 la2 x7_2).f3).length c268_3)) ∧ (Kd.R (Kd.int .u8) 5 w' w.heap.size (fun k_ => some k_ ≠ (J Ao54 x3_2.length co54 : Value).ownBlock) s_ t270) ∧ (Kd.R (Kd.int .u8) 5 w' w.heap.size (fun k_ => some k_ ≠ (s_ : Value).ownBlock) (J Ao54 x3_2.length co54) x3_2) ∧ (w'.heap[g232]? = some (.cells #[I q aa0, J Aa1 la1.length ca1, .slice (some ad268) la2.length ca2] 31 (0, 0))) ∧ (w'.heap[g269]? = some (.cells #[I q ((rd_T64 la2 x7_2).f0), I q ((rd_T64 la2 x7_2).f1), I q ((rd_T64 la2 x7_2).f2), J A268_3 ((rd_T64 la2 x7_2).f3).length c268_3] 64 (0, 0))) ∧ (Below w.heap.size w w')) ?_ ?_
                    rotate_left
                    ·intro hJ3
                     refine join_ (σ := Value) 6 #[true, true, true, false, false, true, true, false, false, true, true, true, true, true, true, true, true, false, false] (fun s_ => [(104, s_)]) (fun s_ w' => (w'.cell? ⟨g269, 0, none⟩ = some (I q ((rd_T64 la2 x7_2).f0)) ∧ w'.cell? ⟨g269, 1, none⟩ = some (I q ((rd_T64 la2 x7_2).f1)) ∧ w'.cell? ⟨g269, 2, none⟩ = some (I q ((rd_T64 la2 x7_2).f2)) ∧ w'.cell? ⟨g269, 3, none⟩ = some (J A268_3 ((rd_T64 la2 x7_2).f3).length c268_3)) ∧ (Kd.R (Kd.int .u8) 5 w' w.heap.size (fun k_ => some k_ ≠ (J Ao54 x3_2.length co54 : Value).ownBlock) s_ y282) ∧ (Kd.R (Kd.int .u8) 5 w' w.heap.size (fun k_ => some k_ ≠ (s_ : Value).ownBlock) (J Ao54 x3_2.length co54) x3_2) ∧ (w'.heap[g232]? = some (.cells #[I q aa0, J Aa1 la1.length ca1, .slice (some ad268) la2.length ca2] 31 (0, 0))) ∧ (w'.heap[g269]? = some (.cells #[I q ((rd_T64 la2 x7_2).f0), I q ((rd_T64 la2 x7_2).f1), I q ((rd_T64 la2 x7_2).f2), J A268_3 ((rd_T64 la2 x7_2).f3).length c268_3] 64 (0, 0))) ∧ (Below w.heap.size w w')) ?_ ?_
                     rotate_left
                     ·intro hJ16
                      refine two_ (i := 3) (j := 16) (Ni := some 91) (Nj := some 104) #[true, true, true, true, false, true, true, false, false, true, true, true, true, true, true, true, false, false, false] #[true, true, true, false, false, true, true, false, false, true, true, true, true, true, true, true, true, false, false] rfl rfl rfl rfl (two_of HT_.out (by kernel_rfl)) (by decide) (by decide) (fun K hK => ?_) (fun K hK => ?_)
                      ·skip
                       refine goes_ Try.func124 (by kernel_rfl) rfl #[I q ((rd_T64 la2 x7_2).f0), I q 4] (by rfl) rfl rfl (by (try simp only [List.map_toArray, List.map_cons, List.map_nil]); first | done | rfl | (simp only [List.length_drop, List.length_take]; rfl)) ?_
                       with_reducible refine (spec_l1Bytes.calls k2 ((rd_T64 la2 x7_2).f0) 4 t270 _ A45.out).mono ?_
                       rintro e w57 ⟨v271, rfl, ho0, hb⟩
                       refine ⟨_, rfl, ?_⟩
                       have N0 := am (re (by (with_reducible repeat (first | apply ra | apply rN | apply rd1)); exact o0.out) (Kd.R_base ho0) hb)
                       have N1 := am (rw1 (rn ho0 (rl (by (with_reducible repeat (first | apply ra | apply rN | apply rd1)); exact o0.out))) (bz (by repeat (first | (with_reducible first | exact HB.out | apply pa | apply pN | apply p1 | refine bs ?_ E232.out | refine bs ?_ E269.out) | exact HB.out))))
                       have N2 := am (bb (g := g232) (by (with_reducible repeat (first | apply bN | apply bd | apply ba)); exact B232.out) hb)
                       have N3 := am (bb (g := g269) (by (with_reducible repeat (first | apply bN | apply bd | apply ba)); exact B269.out) hb)
                       have N4 := am (bp (by repeat (first | (with_reducible first | exact HB.out | apply pa | apply pN | apply p1 | refine bs ?_ E232.out | refine bs ?_ E269.out) | exact HB.out)) hb)
                       clear o0
                       clear B232
                       clear B269
                       clear HB
                       have o0 := N0
                       have O272 := N1
                       have B232 := N2
                       have B269 := N3
                       have HB := N4
                       clear N0 N1 N2 N3 N4
                       (try clear hb)
                       (try clear hb2)
                       (try clear hk)
                       (try clear hi)
                       (try clear ho0)
                       refine hK.out _ _ ⟨(bc B269.out 0).trans rfl, (bc B269.out 1).trans rfl, (bc B269.out 2).trans rfl, (bc B269.out 3).trans rfl⟩ (fun hHeld => ?_)
                       clear hK K
                       refine norm_ (a' := ?_) ?_ ?_
                       rotate_left
                       ·show Act.put _ (some 91) _ = _
                        simp only [Act.put, List.setIfInBounds_toArray, List.set_cons_zero, List.set_cons_succ, i64_w, i32_w]
                        rfl
                       exact norm_ (by first | (simp only [putAll, Act.put, List.setIfInBounds_toArray, List.set_cons_zero, List.set_cons_succ]; done) | (simp only [putAll, Act.put, List.setIfInBounds_toArray, List.set_cons_zero, List.set_cons_succ]; rfl)) (hJ3 (v271) _ ⟨hHeld, (by (with_reducible repeat (first | apply ra | apply rN | apply rd1)); exact Kd.R_mono O272.out (fun _ hk => hk.2)), (by (with_reducible repeat (first | apply ra | apply rN | apply rd1)); exact Kd.R_mono o0.out (fun _ hk => hk.2)), (by (with_reducible repeat (first | apply bN | apply bd | apply ba)); exact B232.out), (by (with_reducible repeat (first | apply bN | apply bd | apply ba)); exact B269.out), (by repeat (first | (with_reducible first | exact HB.out | apply pa | apply pN | apply p1 | refine bs ?_ E232.out | refine bs ?_ E269.out) | exact HB.out))⟩)
                      ·skip
                       refine Kd.R_lit_step (Kd.int .u8) _ 5 ?hg (N := 104) ?hd (xs := ([((rd_T64 la2 x7_2).f2) % 256, ((((rd_T64 la2 x7_2).f3).length : Int)) % 256] : List Int)) (inner := [.int .u8 (((rd_T64 la2 x7_2).f2) % 256), .int .u8 (((((rd_T64 la2 x7_2).f3).length : Int)) % 256)]) (ok := fun _ => True) (okp := fun _ => True) ?hr ?hp (fun _ hk => hk) trivial (Below.refl _ _) (Nat.le_refl _) (by simp) ?_; (case hd => rfl); (case hg => rfl); (case hr => first | (go_simp; done) | (go_simp; rfl)); (case hp => exact (Reps.one (show Kd.M (Kd.int .u8) _ _ _ (((rd_T64 la2 x7_2).f2) % 256) [.int .u8 (((rd_T64 la2 x7_2).f2) % 256)] from rfl) (Reps.one (show Kd.M (Kd.int .u8) _ _ _ (((((rd_T64 la2 x7_2).f3).length : Int)) % 256) [.int .u8 (((((rd_T64 la2 x7_2).f3).length : Int)) % 256)] from rfl) (Reps.none _ _))))
                       intro v283 w57 ho58 hb hg_ hnew_
                       clear hg_ hnew_
                       (first | rw [← Ny282.out] at ho58 | (simp only [Int.reduceToNat] at ho58; rw [← Ny282.out] at ho58))
                       have N0 := am (re (by (with_reducible repeat (first | apply ra | apply rN | apply rd1)); exact o0.out) (Kd.R_base ho58) hb)
                       have N1 := am (rw1 (rn ho58 (rl (by (with_reducible repeat (first | apply ra | apply rN | apply rd1)); exact o0.out))) (bz (by repeat (first | (with_reducible first | exact HB.out | apply pa | apply pN | apply p1 | refine bs ?_ E232.out | refine bs ?_ E269.out) | exact HB.out))))
                       have N2 := am (bb (g := g232) (by (with_reducible repeat (first | apply bN | apply bd | apply ba)); exact B232.out) hb)
                       have N3 := am (bb (g := g269) (by (with_reducible repeat (first | apply bN | apply bd | apply ba)); exact B269.out) hb)
                       have N4 := am (bp (by repeat (first | (with_reducible first | exact HB.out | apply pa | apply pN | apply p1 | refine bs ?_ E232.out | refine bs ?_ E269.out) | exact HB.out)) hb)
                       clear o0
                       clear B232
                       clear B269
                       clear HB
                       have o0 := N0
                       have O284 := N1
                       have B232 := N2
                       have B269 := N3
                       have HB := N4
                       clear N0 N1 N2 N3 N4
                       clear hb ho58
                       refine hK.out _ _ ⟨(bc B269.out 0).trans rfl, (bc B269.out 1).trans rfl, (bc B269.out 2).trans rfl, (bc B269.out 3).trans rfl⟩ (fun hHeld => ?_)
                       clear hK K
                       refine norm_ (a' := ?_) ?_ ?_
                       rotate_left
                       ·show Act.put _ (some 104) _ = _
                        simp only [Act.put, List.setIfInBounds_toArray, List.set_cons_zero, List.set_cons_succ, i64_w, i32_w]
                        rfl
                       exact norm_ (by first | (simp only [putAll, Act.put, List.setIfInBounds_toArray, List.set_cons_zero, List.set_cons_succ]; done) | (simp only [putAll, Act.put, List.setIfInBounds_toArray, List.set_cons_zero, List.set_cons_succ]; rfl)) (hJ16 (v283) _ ⟨hHeld, (by (with_reducible repeat (first | apply ra | apply rN | apply rd1)); exact Kd.R_mono O284.out (fun _ hk => hk.2)), (by (with_reducible repeat (first | apply ra | apply rN | apply rd1)); exact Kd.R_mono o0.out (fun _ hk => hk.2)), (by (with_reducible repeat (first | apply bN | apply bd | apply ba)); exact B232.out), (by (with_reducible repeat (first | apply bN | apply bd | apply ba)); exact B269.out), (by repeat (first | (with_reducible first | exact HB.out | apply pa | apply pN | apply p1 | refine bs ?_ E232.out | refine bs ?_ E269.out) | exact HB.out))⟩)
                     ·skip
                      rintro v283 w59 ⟨hS_, h0_, h1_, h2_, h3_, h4_⟩
                      have N0 : Aside0 (Kd.R (Kd.int .u8) 5 w59 w.heap.size (fun k_ => some k_ ≠ (J Ao54 x3_2.length co54 : Value).ownBlock) v283 y282) := ⟨h0_⟩
                      have N1 : Aside0 (Kd.R (Kd.int .u8) 5 w59 w.heap.size (fun k_ => some k_ ≠ (v283 : Value).ownBlock) (J Ao54 x3_2.length co54) x3_2) := ⟨h1_⟩
                      have N2 : Aside0 (w59.heap[g232]? = some (.cells #[I q aa0, J Aa1 la1.length ca1, .slice (some ad268) la2.length ca2] 31 (0, 0))) := ⟨h2_⟩
                      have N3 : Aside0 (w59.heap[g269]? = some (.cells #[I q ((rd_T64 la2 x7_2).f0), I q ((rd_T64 la2 x7_2).f1), I q ((rd_T64 la2 x7_2).f2), J A268_3 ((rd_T64 la2 x7_2).f3).length c268_3] 64 (0, 0))) := ⟨h3_⟩
                      have N4 : Aside0 (Below w.heap.size w w59) := ⟨h4_⟩
                      clear o0
                      clear B232
                      clear B269
                      clear HB
                      clear h0_ h1_ h2_ h3_ h4_
                      have O284 := N0
                      have o0 := N1
                      have B232 := N2
                      have B269 := N3
                      have HB := N4
                      clear N0 N1 N2 N3 N4
                      have hHeld : w59.cell? ⟨g269, 0, none⟩ = some (I q ((rd_T64 la2 x7_2).f0)) ∧ w59.cell? ⟨g269, 1, none⟩ = some (I q ((rd_T64 la2 x7_2).f1)) ∧ w59.cell? ⟨g269, 2, none⟩ = some (I q ((rd_T64 la2 x7_2).f2)) ∧ w59.cell? ⟨g269, 3, none⟩ = some (J A268_3 ((rd_T64 la2 x7_2).f3).length c268_3) := hS_
                      refine norm_ (a' := ?_) ?_ ?_
                      rotate_left
                      ·simp only [putAll, Act.put, List.setIfInBounds_toArray, List.set_cons_zero, List.set_cons_succ]
                       rfl
                      refine one_ (i := 3) (N := some 91) #[true, true, true, true, false, true, true, false, false, true, true, true, true, true, true, true, true, false, false] rfl rfl (one_of HT_.out (by kernel_rfl)) (by decide) (fun K hK => ?_)
                      refine goes_ Try.func124 (by kernel_rfl) rfl #[I q ((rd_T64 la2 x7_2).f0), I q 4] (by rfl) rfl rfl (by (try simp only [List.map_toArray, List.map_cons, List.map_nil]); first | done | rfl | (simp only [List.length_drop, List.length_take]; rfl)) ?_
                      with_reducible refine (spec_l1Bytes.calls k2 ((rd_T64 la2 x7_2).f0) 4 t270 _ A45.out).mono ?_
                      rintro e w60 ⟨v271, rfl, ho0, hb⟩
                      refine ⟨_, rfl, ?_⟩
                      have N0 := am (re (by (with_reducible repeat (first | apply ra | apply rN | apply rd1)); exact o0.out) (Kd.R_base ho0) hb)
                      have N1 := am (re (by (with_reducible repeat (first | apply ra | apply rN | apply rd1)); exact O284.out) (Kd.R_base ho0) hb)
                      have N2 := am (rw1 (rn (rn ho0 (rl (by (with_reducible repeat (first | apply ra | apply rN | apply rd1)); exact o0.out))) (rl (by (with_reducible repeat (first | apply ra | apply rN | apply rd1)); exact O284.out))) (bz (by repeat (first | (with_reducible first | exact HB.out | apply pa | apply pN | apply p1 | refine bs ?_ E232.out | refine bs ?_ E269.out) | exact HB.out))))
                      have N3 := am (bb (g := g232) (by (with_reducible repeat (first | apply bN | apply bd | apply ba)); exact B232.out) hb)
                      have N4 := am (bb (g := g269) (by (with_reducible repeat (first | apply bN | apply bd | apply ba)); exact B269.out) hb)
                      have N5 := am (bp (by repeat (first | (with_reducible first | exact HB.out | apply pa | apply pN | apply p1 | refine bs ?_ E232.out | refine bs ?_ E269.out) | exact HB.out)) hb)
                      clear o0
                      clear O284
                      clear B232
                      clear B269
                      clear HB
                      have o0 := N0
                      have O284 := N1
                      have O272 := N2
                      have B232 := N3
                      have B269 := N4
                      have HB := N5
                      clear N0 N1 N2 N3 N4 N5
                      (try clear hb)
                      (try clear hb2)
                      (try clear hk)
                      (try clear hi)
                      (try clear ho0)
                      refine hK.out _ _ ⟨(bc B269.out 0).trans rfl, (bc B269.out 1).trans rfl, (bc B269.out 2).trans rfl, (bc B269.out 3).trans rfl⟩ (fun hHeld => ?_)
                      clear hK K
                      refine norm_ (a' := ?_) ?_ ?_
                      rotate_left
                      ·show Act.put _ (some 91) _ = _
                       simp only [Act.put, List.setIfInBounds_toArray, List.set_cons_zero, List.set_cons_succ, i64_w, i32_w]
                       rfl
                      exact norm_ (by first | (simp only [putAll, Act.put, List.setIfInBounds_toArray, List.set_cons_zero, List.set_cons_succ]; done) | (simp only [putAll, Act.put, List.setIfInBounds_toArray, List.set_cons_zero, List.set_cons_succ]; rfl)) (hJ3_16 (v271, v283) _ ⟨hHeld, (by (with_reducible repeat (first | apply ra | apply rN | apply rd1)); exact Kd.R_mono O272.out (fun _ hk => ⟨hk.2, hk.1.2⟩)), (by (with_reducible repeat (first | apply ra | apply rN | apply rd1)); exact Kd.R_mono O284.out (fun _ hk => ⟨hk.2, hk.1⟩)), (by (with_reducible repeat (first | apply ra | apply rN | apply rd1)); exact Kd.R_mono o0.out (fun _ hk => ⟨hk.2, hk.1⟩)), (by (with_reducible repeat (first | apply bN | apply bd | apply ba)); exact B232.out), (by (with_reducible repeat (first | apply bN | apply bd | apply ba)); exact B269.out), (by repeat (first | (with_reducible first | exact HB.out | apply pa | apply pN | apply p1 | refine bs ?_ E232.out | refine bs ?_ E269.out) | exact HB.out))⟩)
                    ·skip
                     rintro v271 w58 ⟨hS_, h0_, h1_, h2_, h3_, h4_⟩
                     have N0 : Aside0 (Kd.R (Kd.int .u8) 5 w58 w.heap.size (fun k_ => some k_ ≠ (J Ao54 x3_2.length co54 : Value).ownBlock) v271 t270) := ⟨h0_⟩
                     have N1 : Aside0 (Kd.R (Kd.int .u8) 5 w58 w.heap.size (fun k_ => some k_ ≠ (v271 : Value).ownBlock) (J Ao54 x3_2.length co54) x3_2) := ⟨h1_⟩
                     have N2 : Aside0 (w58.heap[g232]? = some (.cells #[I q aa0, J Aa1 la1.length ca1, .slice (some ad268) la2.length ca2] 31 (0, 0))) := ⟨h2_⟩
                     have N3 : Aside0 (w58.heap[g269]? = some (.cells #[I q ((rd_T64 la2 x7_2).f0), I q ((rd_T64 la2 x7_2).f1), I q ((rd_T64 la2 x7_2).f2), J A268_3 ((rd_T64 la2 x7_2).f3).length c268_3] 64 (0, 0))) := ⟨h3_⟩
                     have N4 : Aside0 (Below w.heap.size w w58) := ⟨h4_⟩
                     clear o0
                     clear B232
                     clear B269
                     clear HB
                     clear h0_ h1_ h2_ h3_ h4_
                     have O272 := N0
                     have o0 := N1
                     have B232 := N2
                     have B269 := N3
                     have HB := N4
                     clear N0 N1 N2 N3 N4
                     have hHeld : w58.cell? ⟨g269, 0, none⟩ = some (I q ((rd_T64 la2 x7_2).f0)) ∧ w58.cell? ⟨g269, 1, none⟩ = some (I q ((rd_T64 la2 x7_2).f1)) ∧ w58.cell? ⟨g269, 2, none⟩ = some (I q ((rd_T64 la2 x7_2).f2)) ∧ w58.cell? ⟨g269, 3, none⟩ = some (J A268_3 ((rd_T64 la2 x7_2).f3).length c268_3) := hS_
                     obtain ⟨Ao60, co60, eo60⟩ := Kd.R_slice O272.out
                     (first | subst eo60 | (injection eo60 with f1_ f2_ f3_; have f4_ := f1_.symm; have f5_ := f3_.symm; clear f1_ f2_ f3_; subst f4_; subst f5_))
                     refine norm_ (a' := ?_) ?_ ?_
                     rotate_left
                     ·simp only [putAll, Act.put, List.setIfInBounds_toArray, List.set_cons_zero, List.set_cons_succ]
                      rfl
                     refine two_ (i := 4) (j := 16) (Ni := some 92) (Nj := some 104) #[true, true, true, true, true, true, true, false, false, true, true, true, true, true, true, true, false, false, false] #[true, true, true, true, false, true, true, false, false, true, true, true, true, true, true, true, true, false, false] rfl rfl rfl rfl (two_of HT_.out (by kernel_rfl)) (by decide) (by decide) (fun K hK => ?_) (fun K hK => ?_)
                     ·skip
                      refine Kd.R_append_rows_step (Kd.int .u8) (w0 := w) w.heap.size (by rfl) (.tmp 88) (.tmp 91) 58 5 (.int .u8 0) 1 rfl Try.underlying58 info5 rfl (by decide) (by omega) (J Ao54 x3_2.length co54) x3_2 t270 _ _ _ (fun k_ => some k_ ≠ (J Ao60 t270.length co60 : Value).ownBlock) (fun _ => False) rfl rfl ?aO ?aR (fun _ _ h => h) (fun _ h => h.elim) ?aF ?aB ?aS ?aL ?_
                      (case aR => repeat (first | exact (Kd.R_reads' O272.out).2.2 | (with_reducible refine ca ?_ _) | (with_reducible refine cN ?_ _) | (with_reducible refine cd1 ?_)))
                      (case aB => exact (by repeat (first | (with_reducible first | exact HB.out | apply pa | apply pN | apply p1 | refine bs ?_ E232.out | refine bs ?_ E269.out) | exact HB.out)))
                      (case aF => exact (fun k_ hk => Kd.fresh' (rl (by (with_reducible repeat (first | apply ra | apply rN | apply rd1)); exact O272.out)) k_ hk))
                      (case aO => exact (by (with_reducible repeat (first | apply ra | apply rN | apply rd1)); exact o0.out))
                      (case aS => exact (bz (by repeat (first | (with_reducible first | exact HB.out | apply pa | apply pN | apply p1 | refine bs ?_ E232.out | refine bs ?_ E269.out) | exact HB.out))))
                      (case aL => have := LMc46.out; omega)
                      intro v274 w59 ho hb hg hat
                      rw [← Ny273.out] at ho
                      have N0 := am (blk_grown (g := g232) (o := .cells #[I q aa0, J Aa1 la1.length ca1, .slice (some ad268) la2.length ca2] 31 (0, 0)) (by (with_reducible repeat (first | apply bN | apply bd | apply ba)); exact B232.out) hg (Kd.R_ne o0.out B232.out (by decide)))
                      have N1 := am (blk_grown (g := g269) (o := .cells #[I q ((rd_T64 la2 x7_2).f0), I q ((rd_T64 la2 x7_2).f1), I q ((rd_T64 la2 x7_2).f2), J A268_3 ((rd_T64 la2 x7_2).f3).length c268_3] 64 (0, 0)) (by (with_reducible repeat (first | apply bN | apply bd | apply ba)); exact B269.out) hg (Kd.R_ne o0.out B269.out (by decide)))
                      have N2 := am (Kd.R_after (ok := (fun _ => True)) (by (with_reducible repeat (first | apply ra | apply rN | apply rd1)); exact Kd.R_mono O272.out (fun _ hk => ⟨trivial, hk⟩)) hg hat)
                      have N3 := am (hb)
                      have N4 := am (ho)
                      clear B232
                      clear B269
                      clear O272
                      clear HB
                      clear o0
                      have B232 := N0
                      have B269 := N1
                      have O272 := N2
                      have HB := N3
                      have O275 := N4
                      clear N0 N1 N2 N3 N4
                      clear ho hb hg hat
                      refine hK.out _ _ ⟨(bc B269.out 0).trans rfl, (bc B269.out 1).trans rfl, (bc B269.out 2).trans rfl, (bc B269.out 3).trans rfl⟩ (fun hHeld => ?_)
                      clear hK K
                      refine norm_ (a' := ?_) ?_ ?_
                      rotate_left
                      ·show Act.put _ (some 92) _ = _
                       simp only [Act.put, List.setIfInBounds_toArray, List.set_cons_zero, List.set_cons_succ, i64_w, i32_w]
                       rfl
                      exact norm_ (by first | (simp only [putAll, Act.put, List.setIfInBounds_toArray, List.set_cons_zero, List.set_cons_succ]; done) | (simp only [putAll, Act.put, List.setIfInBounds_toArray, List.set_cons_zero, List.set_cons_succ]; rfl)) (hJ3_4 (J Ao60 t270.length co60, v274) _ ⟨hHeld, (by (with_reducible repeat (first | apply ra | apply rN | apply rd1)); exact Kd.R_mono O272.out (fun _ hk => hk.2)), (by (with_reducible repeat (first | apply ra | apply rN | apply rd1)); exact O275.out), (by (with_reducible repeat (first | apply bN | apply bd | apply ba)); exact B232.out), (by (with_reducible repeat (first | apply bN | apply bd | apply ba)); exact B269.out), (by repeat (first | (with_reducible first | exact HB.out | apply pa | apply pN | apply p1 | refine bs ?_ E232.out | refine bs ?_ E269.out) | exact HB.out))⟩)
                     ·skip
                      refine Kd.R_lit_step (Kd.int .u8) _ 5 ?hg (N := 104) ?hd (xs := ([((rd_T64 la2 x7_2).f2) % 256, ((((rd_T64 la2 x7_2).f3).length : Int)) % 256] : List Int)) (inner := [.int .u8 (((rd_T64 la2 x7_2).f2) % 256), .int .u8 (((((rd_T64 la2 x7_2).f3).length : Int)) % 256)]) (ok := fun _ => True) (okp := fun _ => True) ?hr ?hp (fun _ hk => hk) trivial (Below.refl _ _) (Nat.le_refl _) (by simp) ?_; (case hd => rfl); (case hg => rfl); (case hr => first | (go_simp; done) | (go_simp; rfl)); (case hp => exact (Reps.one (show Kd.M (Kd.int .u8) _ _ _ (((rd_T64 la2 x7_2).f2) % 256) [.int .u8 (((rd_T64 la2 x7_2).f2) % 256)] from rfl) (Reps.one (show Kd.M (Kd.int .u8) _ _ _ (((((rd_T64 la2 x7_2).f3).length : Int)) % 256) [.int .u8 (((((rd_T64 la2 x7_2).f3).length : Int)) % 256)] from rfl) (Reps.none _ _))))
                      intro v283 w59 ho60 hb hg_ hnew_
                      clear hg_ hnew_
                      (first | rw [← Ny282.out] at ho60 | (simp only [Int.reduceToNat] at ho60; rw [← Ny282.out] at ho60))
                      have N0 := am (re (by (with_reducible repeat (first | apply ra | apply rN | apply rd1)); exact o0.out) (Kd.R_base ho60) hb)
                      have N1 := am (re (by (with_reducible repeat (first | apply ra | apply rN | apply rd1)); exact O272.out) (Kd.R_base ho60) hb)
                      have N2 := am (rw1 (rn (rn ho60 (rl (by (with_reducible repeat (first | apply ra | apply rN | apply rd1)); exact o0.out))) (rl (by (with_reducible repeat (first | apply ra | apply rN | apply rd1)); exact O272.out))) (bz (by repeat (first | (with_reducible first | exact HB.out | apply pa | apply pN | apply p1 | refine bs ?_ E232.out | refine bs ?_ E269.out) | exact HB.out))))
                      have N3 := am (bb (g := g232) (by (with_reducible repeat (first | apply bN | apply bd | apply ba)); exact B232.out) hb)
                      have N4 := am (bb (g := g269) (by (with_reducible repeat (first | apply bN | apply bd | apply ba)); exact B269.out) hb)
                      have N5 := am (bp (by repeat (first | (with_reducible first | exact HB.out | apply pa | apply pN | apply p1 | refine bs ?_ E232.out | refine bs ?_ E269.out) | exact HB.out)) hb)
                      clear o0
                      clear O272
                      clear B232
                      clear B269
                      clear HB
                      have o0 := N0
                      have O272 := N1
                      have O284 := N2
                      have B232 := N3
                      have B269 := N4
                      have HB := N5
                      clear N0 N1 N2 N3 N4 N5
                      clear hb ho60
                      refine hK.out _ _ ⟨(bc B269.out 0).trans rfl, (bc B269.out 1).trans rfl, (bc B269.out 2).trans rfl, (bc B269.out 3).trans rfl⟩ (fun hHeld => ?_)
                      clear hK K
                      refine norm_ (a' := ?_) ?_ ?_
                      rotate_left
                      ·show Act.put _ (some 104) _ = _
                       simp only [Act.put, List.setIfInBounds_toArray, List.set_cons_zero, List.set_cons_succ, i64_w, i32_w]
                       rfl
                      exact norm_ (by first | (simp only [putAll, Act.put, List.setIfInBounds_toArray, List.set_cons_zero, List.set_cons_succ]; done) | (simp only [putAll, Act.put, List.setIfInBounds_toArray, List.set_cons_zero, List.set_cons_succ]; rfl)) (hJ3_16 ((J Ao60 t270.length co60 : Value), v283) _ ⟨hHeld, (by (with_reducible repeat (first | apply ra | apply rN | apply rd1)); exact Kd.R_mono O272.out (fun _ hk => ⟨hk.2, hk.1⟩)), (by (with_reducible repeat (first | apply ra | apply rN | apply rd1)); exact Kd.R_mono O284.out (fun _ hk => ⟨hk.2, hk.1.2⟩)), (by (with_reducible repeat (first | apply ra | apply rN | apply rd1)); exact o0.out), (by (with_reducible repeat (first | apply bN | apply bd | apply ba)); exact B232.out), (by (with_reducible repeat (first | apply bN | apply bd | apply ba)); exact B269.out), (by repeat (first | (with_reducible first | exact HB.out | apply pa | apply pN | apply p1 | refine bs ?_ E232.out | refine bs ?_ E269.out) | exact HB.out))⟩)
                   ·skip
                    rintro ⟨v271, v283⟩ w60 ⟨hS_, h0_, h1_, h2_, h3_, h4_, h5_⟩
                    have N0 : Aside0 (Kd.R (Kd.int .u8) 5 w60 w.heap.size (fun k_ => some k_ ≠ (v283 : Value).ownBlock ∧ some k_ ≠ (J Ao54 x3_2.length co54 : Value).ownBlock) v271 t270) := ⟨h0_⟩
                    have N1 : Aside0 (Kd.R (Kd.int .u8) 5 w60 w.heap.size (fun k_ => some k_ ≠ (v271 : Value).ownBlock ∧ some k_ ≠ (J Ao54 x3_2.length co54 : Value).ownBlock) v283 y282) := ⟨h1_⟩
                    have N2 : Aside0 (Kd.R (Kd.int .u8) 5 w60 w.heap.size (fun k_ => some k_ ≠ (v271 : Value).ownBlock ∧ some k_ ≠ (v283 : Value).ownBlock) (J Ao54 x3_2.length co54) x3_2) := ⟨h2_⟩
                    have N3 : Aside0 (w60.heap[g232]? = some (.cells #[I q aa0, J Aa1 la1.length ca1, .slice (some ad268) la2.length ca2] 31 (0, 0))) := ⟨h3_⟩
                    have N4 : Aside0 (w60.heap[g269]? = some (.cells #[I q ((rd_T64 la2 x7_2).f0), I q ((rd_T64 la2 x7_2).f1), I q ((rd_T64 la2 x7_2).f2), J A268_3 ((rd_T64 la2 x7_2).f3).length c268_3] 64 (0, 0))) := ⟨h4_⟩
                    have N5 : Aside0 (Below w.heap.size w w60) := ⟨h5_⟩
                    clear o0
                    clear B232
                    clear B269
                    clear HB
                    clear h0_ h1_ h2_ h3_ h4_ h5_
                    have O272 := N0
                    have O284 := N1
                    have o0 := N2
                    have B232 := N3
                    have B269 := N4
                    have HB := N5
                    clear N0 N1 N2 N3 N4 N5
                    have hHeld : w60.cell? ⟨g269, 0, none⟩ = some (I q ((rd_T64 la2 x7_2).f0)) ∧ w60.cell? ⟨g269, 1, none⟩ = some (I q ((rd_T64 la2 x7_2).f1)) ∧ w60.cell? ⟨g269, 2, none⟩ = some (I q ((rd_T64 la2 x7_2).f2)) ∧ w60.cell? ⟨g269, 3, none⟩ = some (J A268_3 ((rd_T64 la2 x7_2).f3).length c268_3) := hS_
                    obtain ⟨Ao62, co62, eo62⟩ := Kd.R_slice O272.out
                    (first | subst eo62 | (injection eo62 with f1_ f2_ f3_; have f4_ := f1_.symm; have f5_ := f3_.symm; clear f1_ f2_ f3_; subst f4_; subst f5_))
                    refine norm_ (a' := ?_) ?_ ?_
                    rotate_left
                    ·simp only [putAll, Act.put, List.setIfInBounds_toArray, List.set_cons_zero, List.set_cons_succ]
                     rfl
                    refine one_ (i := 4) (N := some 92) #[true, true, true, true, true, true, true, false, false, true, true, true, true, true, true, true, true, false, false] rfl rfl (one_of HT_.out (by kernel_rfl)) (by decide) (fun K hK => ?_)
                    refine Kd.R_append_rows_step (Kd.int .u8) (w0 := w) w.heap.size (by rfl) (.tmp 88) (.tmp 91) 58 5 (.int .u8 0) 1 rfl Try.underlying58 info5 rfl (by decide) (by omega) (J Ao54 x3_2.length co54) x3_2 t270 _ _ _ (fun k_ => some k_ ≠ (J Ao62 t270.length co62 : Value).ownBlock ∧ some k_ ≠ (v283 : Value).ownBlock) (fun _ => False) rfl rfl ?aO ?aR (fun _ _ h => h) (fun _ h => h.elim) ?aF ?aB ?aS ?aL ?_
                    (case aR => repeat (first | exact (Kd.R_reads' O272.out).2.2 | (with_reducible refine ca ?_ _) | (with_reducible refine cN ?_ _) | (with_reducible refine cd1 ?_)))
                    (case aB => exact (by repeat (first | (with_reducible first | exact HB.out | apply pa | apply pN | apply p1 | refine bs ?_ E232.out | refine bs ?_ E269.out) | exact HB.out)))
                    (case aF => exact (fun k_ hk => ⟨Kd.fresh' (rl (by (with_reducible repeat (first | apply ra | apply rN | apply rd1)); exact O272.out)) k_ hk, Kd.fresh' (rl (by (with_reducible repeat (first | apply ra | apply rN | apply rd1)); exact O284.out)) k_ hk⟩))
                    (case aO => exact (by (with_reducible repeat (first | apply ra | apply rN | apply rd1)); exact o0.out))
                    (case aS => exact (bz (by repeat (first | (with_reducible first | exact HB.out | apply pa | apply pN | apply p1 | refine bs ?_ E232.out | refine bs ?_ E269.out) | exact HB.out))))
                    (case aL => have := LMc46.out; omega)
                    intro v274 w61 ho hb hg hat
                    rw [← Ny273.out] at ho
                    have N0 := am (blk_grown (g := g232) (o := .cells #[I q aa0, J Aa1 la1.length ca1, .slice (some ad268) la2.length ca2] 31 (0, 0)) (by (with_reducible repeat (first | apply bN | apply bd | apply ba)); exact B232.out) hg (Kd.R_ne o0.out B232.out (by decide)))
                    have N1 := am (blk_grown (g := g269) (o := .cells #[I q ((rd_T64 la2 x7_2).f0), I q ((rd_T64 la2 x7_2).f1), I q ((rd_T64 la2 x7_2).f2), J A268_3 ((rd_T64 la2 x7_2).f3).length c268_3] 64 (0, 0)) (by (with_reducible repeat (first | apply bN | apply bd | apply ba)); exact B269.out) hg (Kd.R_ne o0.out B269.out (by decide)))
                    have N2 := am (Kd.R_after (ok := (fun k_ => some k_ ≠ (v283 : Value).ownBlock)) (by (with_reducible repeat (first | apply ra | apply rN | apply rd1)); exact O272.out) hg hat)
                    have N3 := am (Kd.R_after (ok := (fun k_ => some k_ ≠ (J Ao62 t270.length co62 : Value).ownBlock)) (by (with_reducible repeat (first | apply ra | apply rN | apply rd1)); exact O284.out) hg hat)
                    have N4 := am (hb)
                    have N5 := am (ho)
                    clear B232
                    clear B269
                    clear O272
                    clear O284
                    clear HB
                    clear o0
                    have B232 := N0
                    have B269 := N1
                    have O272 := N2
                    have O284 := N3
                    have HB := N4
                    have O275 := N5
                    clear N0 N1 N2 N3 N4 N5
                    clear ho hb hg hat
                    refine hK.out _ _ ⟨(bc B269.out 0).trans rfl, (bc B269.out 1).trans rfl, (bc B269.out 2).trans rfl, (bc B269.out 3).trans rfl⟩ (fun hHeld => ?_)
                    clear hK K
                    refine norm_ (a' := ?_) ?_ ?_
                    rotate_left
                    ·show Act.put _ (some 92) _ = _
                     simp only [Act.put, List.setIfInBounds_toArray, List.set_cons_zero, List.set_cons_succ, i64_w, i32_w]
                     rfl
                    exact norm_ (by first | (simp only [putAll, Act.put, List.setIfInBounds_toArray, List.set_cons_zero, List.set_cons_succ]; done) | (simp only [putAll, Act.put, List.setIfInBounds_toArray, List.set_cons_zero, List.set_cons_succ]; rfl)) (hJ3_4_16 (J Ao62 t270.length co62, v274, v283) _ ⟨hHeld, (by (with_reducible repeat (first | apply ra | apply rN | apply rd1)); exact Kd.R_mono O272.out (fun _ hk => ⟨hk.2, hk.1⟩)), (by (with_reducible repeat (first | apply ra | apply rN | apply rd1)); exact O275.out), (by (with_reducible repeat (first | apply ra | apply rN | apply rd1)); exact O284.out), (by (with_reducible repeat (first | apply bN | apply bd | apply ba)); exact B232.out), (by (with_reducible repeat (first | apply bN | apply bd | apply ba)); exact B269.out), (by repeat (first | (with_reducible first | exact HB.out | apply pa | apply pN | apply p1 | refine bs ?_ E232.out | refine bs ?_ E269.out) | exact HB.out))⟩)
                  ·skip
                   rintro ⟨v271, v274⟩ w60 ⟨hS_, h0_, h1_, h2_, h3_, h4_⟩
                   have N0 : Aside0 (Kd.R (Kd.int .u8) 5 w60 w.heap.size (fun k_ => some k_ ≠ (v274 : Value).ownBlock) v271 t270) := ⟨h0_⟩
                   have N1 : Aside0 (Kd.R (Kd.int .u8) 5 w60 w.heap.size (fun k_ => some k_ ≠ (v271 : Value).ownBlock) v274 y273) := ⟨h1_⟩
                   have N2 : Aside0 (w60.heap[g232]? = some (.cells #[I q aa0, J Aa1 la1.length ca1, .slice (some ad268) la2.length ca2] 31 (0, 0))) := ⟨h2_⟩
                   have N3 : Aside0 (w60.heap[g269]? = some (.cells #[I q ((rd_T64 la2 x7_2).f0), I q ((rd_T64 la2 x7_2).f1), I q ((rd_T64 la2 x7_2).f2), J A268_3 ((rd_T64 la2 x7_2).f3).length c268_3] 64 (0, 0))) := ⟨h3_⟩
                   have N4 : Aside0 (Below w.heap.size w w60) := ⟨h4_⟩
                   clear o0
                   clear B232
                   clear B269
                   clear HB
                   clear h0_ h1_ h2_ h3_ h4_
                   have O272 := N0
                   have O275 := N1
                   have B232 := N2
                   have B269 := N3
                   have HB := N4
                   clear N0 N1 N2 N3 N4
                   have hHeld : w60.cell? ⟨g269, 0, none⟩ = some (I q ((rd_T64 la2 x7_2).f0)) ∧ w60.cell? ⟨g269, 1, none⟩ = some (I q ((rd_T64 la2 x7_2).f1)) ∧ w60.cell? ⟨g269, 2, none⟩ = some (I q ((rd_T64 la2 x7_2).f2)) ∧ w60.cell? ⟨g269, 3, none⟩ = some (J A268_3 ((rd_T64 la2 x7_2).f3).length c268_3) := hS_
                   refine norm_ (a' := ?_) ?_ ?_
                   rotate_left
                   ·simp only [putAll, Act.put, List.setIfInBounds_toArray, List.set_cons_zero, List.set_cons_succ]
                    rfl
                   refine two_ (i := 7) (j := 16) (Ni := some 95) (Nj := some 104) #[true, true, true, true, true, true, true, true, false, true, true, true, true, true, true, true, false, false, false] #[true, true, true, true, true, true, true, false, false, true, true, true, true, true, true, true, true, false, false] rfl rfl rfl rfl (two_of HT_.out (by kernel_rfl)) (by decide) (by decide) (fun K hK => ?_) (fun K hK => ?_)
                   ·skip
                    refine goes_ Try.func124 (by kernel_rfl) rfl #[I q ((rd_T64 la2 x7_2).f1), I q 2] (by rfl) rfl rfl (by (try simp only [List.map_toArray, List.map_cons, List.map_nil]); first | done | rfl | (simp only [List.length_drop, List.length_take]; rfl)) ?_
                    with_reducible refine (spec_l1Bytes.calls k2 ((rd_T64 la2 x7_2).f1) 2 t276 _ A47.out).mono ?_
                    rintro e w61 ⟨v277, rfl, ho0, hb⟩
                    refine ⟨_, rfl, ?_⟩
                    have N0 := am (re (by (with_reducible repeat (first | apply ra | apply rN | apply rd1)); exact O272.out) (Kd.R_base ho0) hb)
                    have N1 := am (re (by (with_reducible repeat (first | apply ra | apply rN | apply rd1)); exact O275.out) (Kd.R_base ho0) hb)
                    have N2 := am (rw1 (rn (rn ho0 (rl (by (with_reducible repeat (first | apply ra | apply rN | apply rd1)); exact O272.out))) (rl (by (with_reducible repeat (first | apply ra | apply rN | apply rd1)); exact O275.out))) (bz (by repeat (first | (with_reducible first | exact HB.out | apply pa | apply pN | apply p1 | refine bs ?_ E232.out | refine bs ?_ E269.out) | exact HB.out))))
                    have N3 := am (bb (g := g232) (by (with_reducible repeat (first | apply bN | apply bd | apply ba)); exact B232.out) hb)
                    have N4 := am (bb (g := g269) (by (with_reducible repeat (first | apply bN | apply bd | apply ba)); exact B269.out) hb)
                    have N5 := am (bp (by repeat (first | (with_reducible first | exact HB.out | apply pa | apply pN | apply p1 | refine bs ?_ E232.out | refine bs ?_ E269.out) | exact HB.out)) hb)
                    clear O272
                    clear O275
                    clear B232
                    clear B269
                    clear HB
                    have O272 := N0
                    have O275 := N1
                    have O278 := N2
                    have B232 := N3
                    have B269 := N4
                    have HB := N5
                    clear N0 N1 N2 N3 N4 N5
                    (try clear hb)
                    (try clear hb2)
                    (try clear hk)
                    (try clear hi)
                    (try clear ho0)
                    refine hK.out _ _ ⟨(bc B269.out 0).trans rfl, (bc B269.out 1).trans rfl, (bc B269.out 2).trans rfl, (bc B269.out 3).trans rfl⟩ (fun hHeld => ?_)
                    clear hK K
                    refine norm_ (a' := ?_) ?_ ?_
                    rotate_left
                    ·show Act.put _ (some 95) _ = _
                     simp only [Act.put, List.setIfInBounds_toArray, List.set_cons_zero, List.set_cons_succ, i64_w, i32_w]
                     rfl
                    exact norm_ (by first | (simp only [putAll, Act.put, List.setIfInBounds_toArray, List.set_cons_zero, List.set_cons_succ]; done) | (simp only [putAll, Act.put, List.setIfInBounds_toArray, List.set_cons_zero, List.set_cons_succ]; rfl)) (hJ3_4_7 (v271, v274, v277) _ ⟨hHeld, (by (with_reducible repeat (first | apply ra | apply rN | apply rd1)); exact O272.out), (by (with_reducible repeat (first | apply ra | apply rN | apply rd1)); exact O275.out), (by (with_reducible repeat (first | apply ra | apply rN | apply rd1)); exact Kd.R_mono O278.out (fun _ hk => ⟨hk.1.2, hk.2⟩)), (by (with_reducible repeat (first | apply bN | apply bd | apply ba)); exact B232.out), (by (with_reducible repeat (first | apply bN | apply bd | apply ba)); exact B269.out), (by repeat (first | (with_reducible first | exact HB.out | apply pa | apply pN | apply p1 | refine bs ?_ E232.out | refine bs ?_ E269.out) | exact HB.out))⟩)
                   ·skip
                    refine Kd.R_lit_step (Kd.int .u8) _ 5 ?hg (N := 104) ?hd (xs := ([((rd_T64 la2 x7_2).f2) % 256, ((((rd_T64 la2 x7_2).f3).length : Int)) % 256] : List Int)) (inner := [.int .u8 (((rd_T64 la2 x7_2).f2) % 256), .int .u8 (((((rd_T64 la2 x7_2).f3).length : Int)) % 256)]) (ok := fun _ => True) (okp := fun _ => True) ?hr ?hp (fun _ hk => hk) trivial (Below.refl _ _) (Nat.le_refl _) (by simp) ?_; (case hd => rfl); (case hg => rfl); (case hr => first | (go_simp; done) | (go_simp; rfl)); (case hp => exact (Reps.one (show Kd.M (Kd.int .u8) _ _ _ (((rd_T64 la2 x7_2).f2) % 256) [.int .u8 (((rd_T64 la2 x7_2).f2) % 256)] from rfl) (Reps.one (show Kd.M (Kd.int .u8) _ _ _ (((((rd_T64 la2 x7_2).f3).length : Int)) % 256) [.int .u8 (((((rd_T64 la2 x7_2).f3).length : Int)) % 256)] from rfl) (Reps.none _ _))))
                    intro v283 w61 ho62 hb hg_ hnew_
                    clear hg_ hnew_
                    (first | rw [← Ny282.out] at ho62 | (simp only [Int.reduceToNat] at ho62; rw [← Ny282.out] at ho62))
                    have N0 := am (re (by (with_reducible repeat (first | apply ra | apply rN | apply rd1)); exact O272.out) (Kd.R_base ho62) hb)
                    have N1 := am (re (by (with_reducible repeat (first | apply ra | apply rN | apply rd1)); exact O275.out) (Kd.R_base ho62) hb)
                    have N2 := am (rw1 (rn (rn ho62 (rl (by (with_reducible repeat (first | apply ra | apply rN | apply rd1)); exact O272.out))) (rl (by (with_reducible repeat (first | apply ra | apply rN | apply rd1)); exact O275.out))) (bz (by repeat (first | (with_reducible first | exact HB.out | apply pa | apply pN | apply p1 | refine bs ?_ E232.out | refine bs ?_ E269.out) | exact HB.out))))
                    have N3 := am (bb (g := g232) (by (with_reducible repeat (first | apply bN | apply bd | apply ba)); exact B232.out) hb)
                    have N4 := am (bb (g := g269) (by (with_reducible repeat (first | apply bN | apply bd | apply ba)); exact B269.out) hb)
                    have N5 := am (bp (by repeat (first | (with_reducible first | exact HB.out | apply pa | apply pN | apply p1 | refine bs ?_ E232.out | refine bs ?_ E269.out) | exact HB.out)) hb)
                    clear O272
                    clear O275
                    clear B232
                    clear B269
                    clear HB
                    have O272 := N0
                    have O275 := N1
                    have O284 := N2
                    have B232 := N3
                    have B269 := N4
                    have HB := N5
                    clear N0 N1 N2 N3 N4 N5
                    clear hb ho62
                    refine hK.out _ _ ⟨(bc B269.out 0).trans rfl, (bc B269.out 1).trans rfl, (bc B269.out 2).trans rfl, (bc B269.out 3).trans rfl⟩ (fun hHeld => ?_)
                    clear hK K
                    refine norm_ (a' := ?_) ?_ ?_
                    rotate_left
                    ·show Act.put _ (some 104) _ = _
                     simp only [Act.put, List.setIfInBounds_toArray, List.set_cons_zero, List.set_cons_succ, i64_w, i32_w]
                     rfl
                    exact norm_ (by first | (simp only [putAll, Act.put, List.setIfInBounds_toArray, List.set_cons_zero, List.set_cons_succ]; done) | (simp only [putAll, Act.put, List.setIfInBounds_toArray, List.set_cons_zero, List.set_cons_succ]; rfl)) (hJ3_4_16 (v271, v274, v283) _ ⟨hHeld, (by (with_reducible repeat (first | apply ra | apply rN | apply rd1)); exact O272.out), (by (with_reducible repeat (first | apply ra | apply rN | apply rd1)); exact O275.out), (by (with_reducible repeat (first | apply ra | apply rN | apply rd1)); exact Kd.R_mono O284.out (fun _ hk => ⟨hk.1.2, hk.2⟩)), (by (with_reducible repeat (first | apply bN | apply bd | apply ba)); exact B232.out), (by (with_reducible repeat (first | apply bN | apply bd | apply ba)); exact B269.out), (by repeat (first | (with_reducible first | exact HB.out | apply pa | apply pN | apply p1 | refine bs ?_ E232.out | refine bs ?_ E269.out) | exact HB.out))⟩)
                 ·skip
                  rintro ⟨v271, v274, v283⟩ w62 ⟨hS_, h0_, h1_, h2_, h3_, h4_, h5_⟩
                  have N0 : Aside0 (Kd.R (Kd.int .u8) 5 w62 w.heap.size (fun k_ => some k_ ≠ (v274 : Value).ownBlock ∧ some k_ ≠ (v283 : Value).ownBlock) v271 t270) := ⟨h0_⟩
                  have N1 : Aside0 (Kd.R (Kd.int .u8) 5 w62 w.heap.size (fun k_ => some k_ ≠ (v271 : Value).ownBlock ∧ some k_ ≠ (v283 : Value).ownBlock) v274 y273) := ⟨h1_⟩
                  have N2 : Aside0 (Kd.R (Kd.int .u8) 5 w62 w.heap.size (fun k_ => some k_ ≠ (v271 : Value).ownBlock ∧ some k_ ≠ (v274 : Value).ownBlock) v283 y282) := ⟨h2_⟩
                  have N3 : Aside0 (w62.heap[g232]? = some (.cells #[I q aa0, J Aa1 la1.length ca1, .slice (some ad268) la2.length ca2] 31 (0, 0))) := ⟨h3_⟩
                  have N4 : Aside0 (w62.heap[g269]? = some (.cells #[I q ((rd_T64 la2 x7_2).f0), I q ((rd_T64 la2 x7_2).f1), I q ((rd_T64 la2 x7_2).f2), J A268_3 ((rd_T64 la2 x7_2).f3).length c268_3] 64 (0, 0))) := ⟨h4_⟩
                  have N5 : Aside0 (Below w.heap.size w w62) := ⟨h5_⟩
                  clear o0
                  clear B232
                  clear B269
                  clear HB
                  clear h0_ h1_ h2_ h3_ h4_ h5_
                  have O272 := N0
                  have O275 := N1
                  have O284 := N2
                  have B232 := N3
                  have B269 := N4
                  have HB := N5
                  clear N0 N1 N2 N3 N4 N5
                  have hHeld : w62.cell? ⟨g269, 0, none⟩ = some (I q ((rd_T64 la2 x7_2).f0)) ∧ w62.cell? ⟨g269, 1, none⟩ = some (I q ((rd_T64 la2 x7_2).f1)) ∧ w62.cell? ⟨g269, 2, none⟩ = some (I q ((rd_T64 la2 x7_2).f2)) ∧ w62.cell? ⟨g269, 3, none⟩ = some (J A268_3 ((rd_T64 la2 x7_2).f3).length c268_3) := hS_
                  refine norm_ (a' := ?_) ?_ ?_
                  rotate_left
                  ·simp only [putAll, Act.put, List.setIfInBounds_toArray, List.set_cons_zero, List.set_cons_succ]
                   rfl
                  refine one_ (i := 7) (N := some 95) #[true, true, true, true, true, true, true, true, false, true, true, true, true, true, true, true, true, false, false] rfl rfl (one_of HT_.out (by kernel_rfl)) (by decide) (fun K hK => ?_)
                  refine goes_ Try.func124 (by kernel_rfl) rfl #[I q ((rd_T64 la2 x7_2).f1), I q 2] (by rfl) rfl rfl (by (try simp only [List.map_toArray, List.map_cons, List.map_nil]); first | done | rfl | (simp only [List.length_drop, List.length_take]; rfl)) ?_
                  with_reducible refine (spec_l1Bytes.calls k2 ((rd_T64 la2 x7_2).f1) 2 t276 _ A47.out).mono ?_
                  rintro e w63 ⟨v277, rfl, ho0, hb⟩
                  refine ⟨_, rfl, ?_⟩
                  have N0 := am (re (by (with_reducible repeat (first | apply ra | apply rN | apply rd1)); exact O272.out) (Kd.R_base ho0) hb)
                  have N1 := am (re (by (with_reducible repeat (first | apply ra | apply rN | apply rd1)); exact O275.out) (Kd.R_base ho0) hb)
                  have N2 := am (re (by (with_reducible repeat (first | apply ra | apply rN | apply rd1)); exact O284.out) (Kd.R_base ho0) hb)
                  have N3 := am (rw1 (rn (rn (rn ho0 (rl (by (with_reducible repeat (first | apply ra | apply rN | apply rd1)); exact O272.out))) (rl (by (with_reducible repeat (first | apply ra | apply rN | apply rd1)); exact O275.out))) (rl (by (with_reducible repeat (first | apply ra | apply rN | apply rd1)); exact O284.out))) (bz (by repeat (first | (with_reducible first | exact HB.out | apply pa | apply pN | apply p1 | refine bs ?_ E232.out | refine bs ?_ E269.out) | exact HB.out))))
                  have N4 := am (bb (g := g232) (by (with_reducible repeat (first | apply bN | apply bd | apply ba)); exact B232.out) hb)
                  have N5 := am (bb (g := g269) (by (with_reducible repeat (first | apply bN | apply bd | apply ba)); exact B269.out) hb)
                  have N6 := am (bp (by repeat (first | (with_reducible first | exact HB.out | apply pa | apply pN | apply p1 | refine bs ?_ E232.out | refine bs ?_ E269.out) | exact HB.out)) hb)
                  clear O272
                  clear O275
                  clear O284
                  clear B232
                  clear B269
                  clear HB
                  have O272 := N0
                  have O275 := N1
                  have O284 := N2
                  have O278 := N3
                  have B232 := N4
                  have B269 := N5
                  have HB := N6
                  clear N0 N1 N2 N3 N4 N5 N6
                  (try clear hb)
                  (try clear hb2)
                  (try clear hk)
                  (try clear hi)
                  (try clear ho0)
                  refine hK.out _ _ ⟨(bc B269.out 0).trans rfl, (bc B269.out 1).trans rfl, (bc B269.out 2).trans rfl, (bc B269.out 3).trans rfl⟩ (fun hHeld => ?_)
                  clear hK K
                  refine norm_ (a' := ?_) ?_ ?_
                  rotate_left
                  ·show Act.put _ (some 95) _ = _
                   simp only [Act.put, List.setIfInBounds_toArray, List.set_cons_zero, List.set_cons_succ, i64_w, i32_w]
                   rfl
                  exact norm_ (by first | (simp only [putAll, Act.put, List.setIfInBounds_toArray, List.set_cons_zero, List.set_cons_succ]; done) | (simp only [putAll, Act.put, List.setIfInBounds_toArray, List.set_cons_zero, List.set_cons_succ]; rfl)) (hJ3_4_7_16 (v271, v274, v277, v283) _ ⟨hHeld, (by (with_reducible repeat (first | apply ra | apply rN | apply rd1)); exact Kd.R_mono O272.out (fun _ hk => ⟨hk.1.1, ⟨hk.2, hk.1.2⟩⟩)), (by (with_reducible repeat (first | apply ra | apply rN | apply rd1)); exact Kd.R_mono O275.out (fun _ hk => ⟨hk.1.1, ⟨hk.2, hk.1.2⟩⟩)), (by (with_reducible repeat (first | apply ra | apply rN | apply rd1)); exact Kd.R_mono O278.out (fun _ hk => ⟨hk.1.1.2, ⟨hk.1.2, hk.2⟩⟩)), (by (with_reducible repeat (first | apply ra | apply rN | apply rd1)); exact Kd.R_mono O284.out (fun _ hk => ⟨hk.1.1, ⟨hk.1.2, hk.2⟩⟩)), (by (with_reducible repeat (first | apply bN | apply bd | apply ba)); exact B232.out), (by (with_reducible repeat (first | apply bN | apply bd | apply ba)); exact B269.out), (by repeat (first | (with_reducible first | exact HB.out | apply pa | apply pN | apply p1 | refine bs ?_ E232.out | refine bs ?_ E269.out) | exact HB.out))⟩)
                ·skip
                 rintro ⟨v271, v274, v277⟩ w61 ⟨hS_, h0_, h1_, h2_, h3_, h4_, h5_⟩
                 have N0 : Aside0 (Kd.R (Kd.int .u8) 5 w61 w.heap.size (fun k_ => some k_ ≠ (v274 : Value).ownBlock ∧ some k_ ≠ (v277 : Value).ownBlock) v271 t270) := ⟨h0_⟩
                 have N1 : Aside0 (Kd.R (Kd.int .u8) 5 w61 w.heap.size (fun k_ => some k_ ≠ (v271 : Value).ownBlock ∧ some k_ ≠ (v277 : Value).ownBlock) v274 y273) := ⟨h1_⟩
                 have N2 : Aside0 (Kd.R (Kd.int .u8) 5 w61 w.heap.size (fun k_ => some k_ ≠ (v271 : Value).ownBlock ∧ some k_ ≠ (v274 : Value).ownBlock) v277 t276) := ⟨h2_⟩
                 have N3 : Aside0 (w61.heap[g232]? = some (.cells #[I q aa0, J Aa1 la1.length ca1, .slice (some ad268) la2.length ca2] 31 (0, 0))) := ⟨h3_⟩
                 have N4 : Aside0 (w61.heap[g269]? = some (.cells #[I q ((rd_T64 la2 x7_2).f0), I q ((rd_T64 la2 x7_2).f1), I q ((rd_T64 la2 x7_2).f2), J A268_3 ((rd_T64 la2 x7_2).f3).length c268_3] 64 (0, 0))) := ⟨h4_⟩
                 have N5 : Aside0 (Below w.heap.size w w61) := ⟨h5_⟩
                 clear o0
                 clear B232
                 clear B269
                 clear HB
                 clear h0_ h1_ h2_ h3_ h4_ h5_
                 have O272 := N0
                 have O275 := N1
                 have O278 := N2
                 have B232 := N3
                 have B269 := N4
                 have HB := N5
                 clear N0 N1 N2 N3 N4 N5
                 have hHeld : w61.cell? ⟨g269, 0, none⟩ = some (I q ((rd_T64 la2 x7_2).f0)) ∧ w61.cell? ⟨g269, 1, none⟩ = some (I q ((rd_T64 la2 x7_2).f1)) ∧ w61.cell? ⟨g269, 2, none⟩ = some (I q ((rd_T64 la2 x7_2).f2)) ∧ w61.cell? ⟨g269, 3, none⟩ = some (J A268_3 ((rd_T64 la2 x7_2).f3).length c268_3) := hS_
                 obtain ⟨Ao63, co63, eo63⟩ := Kd.R_slice O278.out
                 (first | subst eo63 | (injection eo63 with f1_ f2_ f3_; have f4_ := f1_.symm; have f5_ := f3_.symm; clear f1_ f2_ f3_; subst f4_; subst f5_))
                 refine norm_ (a' := ?_) ?_ ?_
                 rotate_left
                 ·simp only [putAll, Act.put, List.setIfInBounds_toArray, List.set_cons_zero, List.set_cons_succ]
                  rfl
                 refine two_ (i := 8) (j := 16) (Ni := some 96) (Nj := some 104) #[true, true, true, true, true, true, true, true, true, true, true, true, true, true, true, true, false, false, false] #[true, true, true, true, true, true, true, true, false, true, true, true, true, true, true, true, true, false, false] rfl rfl rfl rfl (two_of HT_.out (by kernel_rfl)) (by decide) (by decide) (fun K hK => ?_) (fun K hK => ?_)
                 ·skip
                  refine Kd.R_append_rows_step (Kd.int .u8) (w0 := w) w.heap.size (by rfl) (.tmp 92) (.tmp 95) 58 5 (.int .u8 0) 1 rfl Try.underlying58 info5 rfl (by decide) (by omega) v274 y273 t276 _ _ _ (fun k_ => some k_ ≠ (v271 : Value).ownBlock ∧ some k_ ≠ (J Ao63 t276.length co63 : Value).ownBlock) (fun _ => False) rfl rfl ?aO ?aR (fun _ _ h => h) (fun _ h => h.elim) ?aF ?aB ?aS ?aL ?_
                  (case aR => repeat (first | exact (Kd.R_reads' O278.out).2.2 | (with_reducible refine ca ?_ _) | (with_reducible refine cN ?_ _) | (with_reducible refine cd1 ?_)))
                  (case aB => exact (by repeat (first | (with_reducible first | exact HB.out | apply pa | apply pN | apply p1 | refine bs ?_ E232.out | refine bs ?_ E269.out) | exact HB.out)))
                  (case aF => exact (fun k_ hk => ⟨Kd.fresh' (rl (by (with_reducible repeat (first | apply ra | apply rN | apply rd1)); exact O272.out)) k_ hk, Kd.fresh' (rl (by (with_reducible repeat (first | apply ra | apply rN | apply rd1)); exact O278.out)) k_ hk⟩))
                  (case aO => exact (by (with_reducible repeat (first | apply ra | apply rN | apply rd1)); exact O275.out))
                  (case aS => exact (bz (by repeat (first | (with_reducible first | exact HB.out | apply pa | apply pN | apply p1 | refine bs ?_ E232.out | refine bs ?_ E269.out) | exact HB.out))))
                  (case aL => have := LMc48.out; omega)
                  intro v280 w62 ho hb hg hat
                  rw [← Ny279.out] at ho
                  have N0 := am (blk_grown (g := g232) (o := .cells #[I q aa0, J Aa1 la1.length ca1, .slice (some ad268) la2.length ca2] 31 (0, 0)) (by (with_reducible repeat (first | apply bN | apply bd | apply ba)); exact B232.out) hg (Kd.R_ne O275.out B232.out (by decide)))
                  have N1 := am (blk_grown (g := g269) (o := .cells #[I q ((rd_T64 la2 x7_2).f0), I q ((rd_T64 la2 x7_2).f1), I q ((rd_T64 la2 x7_2).f2), J A268_3 ((rd_T64 la2 x7_2).f3).length c268_3] 64 (0, 0)) (by (with_reducible repeat (first | apply bN | apply bd | apply ba)); exact B269.out) hg (Kd.R_ne O275.out B269.out (by decide)))
                  have N2 := am (Kd.R_after (ok := (fun k_ => some k_ ≠ (J Ao63 t276.length co63 : Value).ownBlock)) (by (with_reducible repeat (first | apply ra | apply rN | apply rd1)); exact Kd.R_mono O272.out (fun _ hk => ⟨hk.2, hk.1⟩)) hg hat)
                  have N3 := am (Kd.R_after (ok := (fun k_ => some k_ ≠ (v271 : Value).ownBlock)) (by (with_reducible repeat (first | apply ra | apply rN | apply rd1)); exact O278.out) hg hat)
                  have N4 := am (hb)
                  have N5 := am (ho)
                  clear B232
                  clear B269
                  clear O272
                  clear O278
                  clear HB
                  clear O275
                  have B232 := N0
                  have B269 := N1
                  have O272 := N2
                  have O278 := N3
                  have HB := N4
                  have O281 := N5
                  clear N0 N1 N2 N3 N4 N5
                  clear ho hb hg hat
                  refine hK.out _ _ ⟨(bc B269.out 0).trans rfl, (bc B269.out 1).trans rfl, (bc B269.out 2).trans rfl, (bc B269.out 3).trans rfl⟩ (fun hHeld => ?_)
                  clear hK K
                  refine norm_ (a' := ?_) ?_ ?_
                  rotate_left
                  ·show Act.put _ (some 96) _ = _
                   simp only [Act.put, List.setIfInBounds_toArray, List.set_cons_zero, List.set_cons_succ, i64_w, i32_w]
                   rfl
                  exact norm_ (by first | (simp only [putAll, Act.put, List.setIfInBounds_toArray, List.set_cons_zero, List.set_cons_succ]; done) | (simp only [putAll, Act.put, List.setIfInBounds_toArray, List.set_cons_zero, List.set_cons_succ]; rfl)) (hJ3_4_7_8 (v271, v274, J Ao63 t276.length co63, v280) _ ⟨hHeld, (by (with_reducible repeat (first | apply ra | apply rN | apply rd1)); exact O272.out), (by (with_reducible repeat (first | apply ra | apply rN | apply rd1)); exact O278.out), (by (with_reducible repeat (first | apply ra | apply rN | apply rd1)); exact O281.out), (by (with_reducible repeat (first | apply bN | apply bd | apply ba)); exact B232.out), (by (with_reducible repeat (first | apply bN | apply bd | apply ba)); exact B269.out), (by repeat (first | (with_reducible first | exact HB.out | apply pa | apply pN | apply p1 | refine bs ?_ E232.out | refine bs ?_ E269.out) | exact HB.out))⟩)
                 ·skip
                  refine Kd.R_lit_step (Kd.int .u8) _ 5 ?hg (N := 104) ?hd (xs := ([((rd_T64 la2 x7_2).f2) % 256, ((((rd_T64 la2 x7_2).f3).length : Int)) % 256] : List Int)) (inner := [.int .u8 (((rd_T64 la2 x7_2).f2) % 256), .int .u8 (((((rd_T64 la2 x7_2).f3).length : Int)) % 256)]) (ok := fun _ => True) (okp := fun _ => True) ?hr ?hp (fun _ hk => hk) trivial (Below.refl _ _) (Nat.le_refl _) (by simp) ?_; (case hd => rfl); (case hg => rfl); (case hr => first | (go_simp; done) | (go_simp; rfl)); (case hp => exact (Reps.one (show Kd.M (Kd.int .u8) _ _ _ (((rd_T64 la2 x7_2).f2) % 256) [.int .u8 (((rd_T64 la2 x7_2).f2) % 256)] from rfl) (Reps.one (show Kd.M (Kd.int .u8) _ _ _ (((((rd_T64 la2 x7_2).f3).length : Int)) % 256) [.int .u8 (((((rd_T64 la2 x7_2).f3).length : Int)) % 256)] from rfl) (Reps.none _ _))))
                  intro v283 w62 ho63 hb hg_ hnew_
                  clear hg_ hnew_
                  (first | rw [← Ny282.out] at ho63 | (simp only [Int.reduceToNat] at ho63; rw [← Ny282.out] at ho63))
                  have N0 := am (re (by (with_reducible repeat (first | apply ra | apply rN | apply rd1)); exact O272.out) (Kd.R_base ho63) hb)
                  have N1 := am (re (by (with_reducible repeat (first | apply ra | apply rN | apply rd1)); exact O275.out) (Kd.R_base ho63) hb)
                  have N2 := am (re (by (with_reducible repeat (first | apply ra | apply rN | apply rd1)); exact O278.out) (Kd.R_base ho63) hb)
                  have N3 := am (rw1 (rn (rn (rn ho63 (rl (by (with_reducible repeat (first | apply ra | apply rN | apply rd1)); exact O272.out))) (rl (by (with_reducible repeat (first | apply ra | apply rN | apply rd1)); exact O275.out))) (rl (by (with_reducible repeat (first | apply ra | apply rN | apply rd1)); exact O278.out))) (bz (by repeat (first | (with_reducible first | exact HB.out | apply pa | apply pN | apply p1 | refine bs ?_ E232.out | refine bs ?_ E269.out) | exact HB.out))))
                  have N4 := am (bb (g := g232) (by (with_reducible repeat (first | apply bN | apply bd | apply ba)); exact B232.out) hb)
                  have N5 := am (bb (g := g269) (by (with_reducible repeat (first | apply bN | apply bd | apply ba)); exact B269.out) hb)
                  have N6 := am (bp (by repeat (first | (with_reducible first | exact HB.out | apply pa | apply pN | apply p1 | refine bs ?_ E232.out | refine bs ?_ E269.out) | exact HB.out)) hb)
                  clear O272
                  clear O275
                  clear O278
                  clear B232
                  clear B269
                  clear HB
                  have O272 := N0
                  have O275 := N1
                  have O278 := N2
                  have O284 := N3
                  have B232 := N4
                  have B269 := N5
                  have HB := N6
                  clear N0 N1 N2 N3 N4 N5 N6
                  clear hb ho63
                  refine hK.out _ _ ⟨(bc B269.out 0).trans rfl, (bc B269.out 1).trans rfl, (bc B269.out 2).trans rfl, (bc B269.out 3).trans rfl⟩ (fun hHeld => ?_)
                  clear hK K
                  refine norm_ (a' := ?_) ?_ ?_
                  rotate_left
                  ·show Act.put _ (some 104) _ = _
                   simp only [Act.put, List.setIfInBounds_toArray, List.set_cons_zero, List.set_cons_succ, i64_w, i32_w]
                   rfl
                  exact norm_ (by first | (simp only [putAll, Act.put, List.setIfInBounds_toArray, List.set_cons_zero, List.set_cons_succ]; done) | (simp only [putAll, Act.put, List.setIfInBounds_toArray, List.set_cons_zero, List.set_cons_succ]; rfl)) (hJ3_4_7_16 (v271, v274, (J Ao63 t276.length co63 : Value), v283) _ ⟨hHeld, (by (with_reducible repeat (first | apply ra | apply rN | apply rd1)); exact Kd.R_mono O272.out (fun _ hk => ⟨hk.1.1, ⟨hk.1.2, hk.2⟩⟩)), (by (with_reducible repeat (first | apply ra | apply rN | apply rd1)); exact Kd.R_mono O275.out (fun _ hk => ⟨hk.1.1, ⟨hk.1.2, hk.2⟩⟩)), (by (with_reducible repeat (first | apply ra | apply rN | apply rd1)); exact Kd.R_mono O278.out (fun _ hk => ⟨hk.1.1, ⟨hk.1.2, hk.2⟩⟩)), (by (with_reducible repeat (first | apply ra | apply rN | apply rd1)); exact Kd.R_mono O284.out (fun _ hk => ⟨hk.1.1.2, ⟨hk.1.2, hk.2⟩⟩)), (by (with_reducible repeat (first | apply bN | apply bd | apply ba)); exact B232.out), (by (with_reducible repeat (first | apply bN | apply bd | apply ba)); exact B269.out), (by repeat (first | (with_reducible first | exact HB.out | apply pa | apply pN | apply p1 | refine bs ?_ E232.out | refine bs ?_ E269.out) | exact HB.out))⟩)
               ·skip
                rintro ⟨v271, v274, v277, v283⟩ w63 ⟨hS_, h0_, h1_, h2_, h3_, h4_, h5_, h6_⟩
                have N0 : Aside0 (Kd.R (Kd.int .u8) 5 w63 w.heap.size (fun k_ => some k_ ≠ (v274 : Value).ownBlock ∧ some k_ ≠ (v277 : Value).ownBlock ∧ some k_ ≠ (v283 : Value).ownBlock) v271 t270) := ⟨h0_⟩
                have N1 : Aside0 (Kd.R (Kd.int .u8) 5 w63 w.heap.size (fun k_ => some k_ ≠ (v271 : Value).ownBlock ∧ some k_ ≠ (v277 : Value).ownBlock ∧ some k_ ≠ (v283 : Value).ownBlock) v274 y273) := ⟨h1_⟩
                have N2 : Aside0 (Kd.R (Kd.int .u8) 5 w63 w.heap.size (fun k_ => some k_ ≠ (v271 : Value).ownBlock ∧ some k_ ≠ (v274 : Value).ownBlock ∧ some k_ ≠ (v283 : Value).ownBlock) v277 t276) := ⟨h2_⟩
                have N3 : Aside0 (Kd.R (Kd.int .u8) 5 w63 w.heap.size (fun k_ => some k_ ≠ (v271 : Value).ownBlock ∧ some k_ ≠ (v274 : Value).ownBlock ∧ some k_ ≠ (v277 : Value).ownBlock) v283 y282) := ⟨h3_⟩
                have N4 : Aside0 (w63.heap[g232]? = some (.cells #[I q aa0, J Aa1 la1.length ca1, .slice (some ad268) la2.length ca2] 31 (0, 0))) := ⟨h4_⟩
                have N5 : Aside0 (w63.heap[g269]? = some (.cells #[I q ((rd_T64 la2 x7_2).f0), I q ((rd_T64 la2 x7_2).f1), I q ((rd_T64 la2 x7_2).f2), J A268_3 ((rd_T64 la2 x7_2).f3).length c268_3] 64 (0, 0))) := ⟨h5_⟩
                have N6 : Aside0 (Below w.heap.size w w63) := ⟨h6_⟩
                clear o0
                clear B232
                clear B269
                clear HB
                clear h0_ h1_ h2_ h3_ h4_ h5_ h6_
                have O272 := N0
                have O275 := N1
                have O278 := N2
                have O284 := N3
                have B232 := N4
                have B269 := N5
                have HB := N6
                clear N0 N1 N2 N3 N4 N5 N6
                have hHeld : w63.cell? ⟨g269, 0, none⟩ = some (I q ((rd_T64 la2 x7_2).f0)) ∧ w63.cell? ⟨g269, 1, none⟩ = some (I q ((rd_T64 la2 x7_2).f1)) ∧ w63.cell? ⟨g269, 2, none⟩ = some (I q ((rd_T64 la2 x7_2).f2)) ∧ w63.cell? ⟨g269, 3, none⟩ = some (J A268_3 ((rd_T64 la2 x7_2).f3).length c268_3) := hS_
                obtain ⟨Ao65, co65, eo65⟩ := Kd.R_slice O278.out
                (first | subst eo65 | (injection eo65 with f1_ f2_ f3_; have f4_ := f1_.symm; have f5_ := f3_.symm; clear f1_ f2_ f3_; subst f4_; subst f5_))
                refine norm_ (a' := ?_) ?_ ?_
                rotate_left
                ·simp only [putAll, Act.put, List.setIfInBounds_toArray, List.set_cons_zero, List.set_cons_succ]
                 rfl
                refine one_ (i := 8) (N := some 96) #[true, true, true, true, true, true, true, true, true, true, true, true, true, true, true, true, true, false, false] rfl rfl (one_of HT_.out (by kernel_rfl)) (by decide) (fun K hK => ?_)
                refine Kd.R_append_rows_step (Kd.int .u8) (w0 := w) w.heap.size (by rfl) (.tmp 92) (.tmp 95) 58 5 (.int .u8 0) 1 rfl Try.underlying58 info5 rfl (by decide) (by omega) v274 y273 t276 _ _ _ (fun k_ => some k_ ≠ (v271 : Value).ownBlock ∧ some k_ ≠ (J Ao65 t276.length co65 : Value).ownBlock ∧ some k_ ≠ (v283 : Value).ownBlock) (fun _ => False) rfl rfl ?aO ?aR (fun _ _ h => h) (fun _ h => h.elim) ?aF ?aB ?aS ?aL ?_
                (case aR => repeat (first | exact (Kd.R_reads' O278.out).2.2 | (with_reducible refine ca ?_ _) | (with_reducible refine cN ?_ _) | (with_reducible refine cd1 ?_)))
                (case aB => exact (by repeat (first | (with_reducible first | exact HB.out | apply pa | apply pN | apply p1 | refine bs ?_ E232.out | refine bs ?_ E269.out) | exact HB.out)))
                (case aF => exact (fun k_ hk => ⟨Kd.fresh' (rl (by (with_reducible repeat (first | apply ra | apply rN | apply rd1)); exact O272.out)) k_ hk, Kd.fresh' (rl (by (with_reducible repeat (first | apply ra | apply rN | apply rd1)); exact O278.out)) k_ hk, Kd.fresh' (rl (by (with_reducible repeat (first | apply ra | apply rN | apply rd1)); exact O284.out)) k_ hk⟩))
                (case aO => exact (by (with_reducible repeat (first | apply ra | apply rN | apply rd1)); exact O275.out))
                (case aS => exact (bz (by repeat (first | (with_reducible first | exact HB.out | apply pa | apply pN | apply p1 | refine bs ?_ E232.out | refine bs ?_ E269.out) | exact HB.out))))
                (case aL => have := LMc48.out; omega)
                intro v280 w64 ho hb hg hat
                rw [← Ny279.out] at ho
                have N0 := am (blk_grown (g := g232) (o := .cells #[I q aa0, J Aa1 la1.length ca1, .slice (some ad268) la2.length ca2] 31 (0, 0)) (by (with_reducible repeat (first | apply bN | apply bd | apply ba)); exact B232.out) hg (Kd.R_ne O275.out B232.out (by decide)))
                have N1 := am (blk_grown (g := g269) (o := .cells #[I q ((rd_T64 la2 x7_2).f0), I q ((rd_T64 la2 x7_2).f1), I q ((rd_T64 la2 x7_2).f2), J A268_3 ((rd_T64 la2 x7_2).f3).length c268_3] 64 (0, 0)) (by (with_reducible repeat (first | apply bN | apply bd | apply ba)); exact B269.out) hg (Kd.R_ne O275.out B269.out (by decide)))
                have N2 := am (Kd.R_after (ok := (fun k_ => some k_ ≠ (J Ao65 t276.length co65 : Value).ownBlock ∧ some k_ ≠ (v283 : Value).ownBlock)) (by (with_reducible repeat (first | apply ra | apply rN | apply rd1)); exact Kd.R_mono O272.out (fun _ hk => ⟨⟨hk.2.1, hk.2.2⟩, hk.1⟩)) hg hat)
                have N3 := am (Kd.R_after (ok := (fun k_ => some k_ ≠ (v271 : Value).ownBlock ∧ some k_ ≠ (v283 : Value).ownBlock)) (by (with_reducible repeat (first | apply ra | apply rN | apply rd1)); exact Kd.R_mono O278.out (fun _ hk => ⟨⟨hk.1, hk.2.2⟩, hk.2.1⟩)) hg hat)
                have N4 := am (Kd.R_after (ok := (fun k_ => some k_ ≠ (v271 : Value).ownBlock ∧ some k_ ≠ (J Ao65 t276.length co65 : Value).ownBlock)) (by (with_reducible repeat (first | apply ra | apply rN | apply rd1)); exact Kd.R_mono O284.out (fun _ hk => ⟨⟨hk.1, hk.2.2⟩, hk.2.1⟩)) hg hat)
                have N5 := am (hb)
                have N6 := am (ho)
                clear B232
                clear B269
                clear O272
                clear O278
                clear O284
                clear HB
                clear O275
                have B232 := N0
                have B269 := N1
                have O272 := N2
                have O278 := N3
                have O284 := N4
                have HB := N5
                have O281 := N6
                clear N0 N1 N2 N3 N4 N5 N6
                clear ho hb hg hat
                refine hK.out _ _ ⟨(bc B269.out 0).trans rfl, (bc B269.out 1).trans rfl, (bc B269.out 2).trans rfl, (bc B269.out 3).trans rfl⟩ (fun hHeld => ?_)
                clear hK K
                refine norm_ (a' := ?_) ?_ ?_
                rotate_left
                ·show Act.put _ (some 96) _ = _
                 simp only [Act.put, List.setIfInBounds_toArray, List.set_cons_zero, List.set_cons_succ, i64_w, i32_w]
                 rfl
                exact norm_ (by first | (simp only [putAll, Act.put, List.setIfInBounds_toArray, List.set_cons_zero, List.set_cons_succ]; done) | (simp only [putAll, Act.put, List.setIfInBounds_toArray, List.set_cons_zero, List.set_cons_succ]; rfl)) (hJ3_4_7_8_16 (v271, v274, J Ao65 t276.length co65, v280, v283) _ ⟨hHeld, (by (with_reducible repeat (first | apply ra | apply rN | apply rd1)); exact Kd.R_mono O272.out (fun _ hk => ⟨hk.1.1, ⟨hk.2, hk.1.2⟩⟩)), (by (with_reducible repeat (first | apply ra | apply rN | apply rd1)); exact Kd.R_mono O278.out (fun _ hk => ⟨hk.1.1, ⟨hk.2, hk.1.2⟩⟩)), (by (with_reducible repeat (first | apply ra | apply rN | apply rd1)); exact O281.out), (by (with_reducible repeat (first | apply ra | apply rN | apply rd1)); exact Kd.R_mono O284.out (fun _ hk => ⟨hk.1.1, ⟨hk.1.2, hk.2⟩⟩)), (by (with_reducible repeat (first | apply bN | apply bd | apply ba)); exact B232.out), (by (with_reducible repeat (first | apply bN | apply bd | apply ba)); exact B269.out), (by repeat (first | (with_reducible first | exact HB.out | apply pa | apply pN | apply p1 | refine bs ?_ E232.out | refine bs ?_ E269.out) | exact HB.out))⟩)
              ·skip
               rintro ⟨v271, v274, v277, v280⟩ w63 ⟨hS_, h0_, h1_, h2_, h3_, h4_, h5_⟩
               have N0 : Aside0 (Kd.R (Kd.int .u8) 5 w63 w.heap.size (fun k_ => some k_ ≠ (v277 : Value).ownBlock ∧ some k_ ≠ (v280 : Value).ownBlock) v271 t270) := ⟨h0_⟩
               have N1 : Aside0 (Kd.R (Kd.int .u8) 5 w63 w.heap.size (fun k_ => some k_ ≠ (v271 : Value).ownBlock ∧ some k_ ≠ (v280 : Value).ownBlock) v277 t276) := ⟨h1_⟩
               have N2 : Aside0 (Kd.R (Kd.int .u8) 5 w63 w.heap.size (fun k_ => some k_ ≠ (v271 : Value).ownBlock ∧ some k_ ≠ (v277 : Value).ownBlock) v280 y279) := ⟨h2_⟩
               have N3 : Aside0 (w63.heap[g232]? = some (.cells #[I q aa0, J Aa1 la1.length ca1, .slice (some ad268) la2.length ca2] 31 (0, 0))) := ⟨h3_⟩
               have N4 : Aside0 (w63.heap[g269]? = some (.cells #[I q ((rd_T64 la2 x7_2).f0), I q ((rd_T64 la2 x7_2).f1), I q ((rd_T64 la2 x7_2).f2), J A268_3 ((rd_T64 la2 x7_2).f3).length c268_3] 64 (0, 0))) := ⟨h4_⟩
               have N5 : Aside0 (Below w.heap.size w w63) := ⟨h5_⟩
               clear o0
               clear B232
               clear B269
               clear HB
               clear h0_ h1_ h2_ h3_ h4_ h5_
               have O272 := N0
               have O278 := N1
               have O281 := N2
               have B232 := N3
               have B269 := N4
               have HB := N5
               clear N0 N1 N2 N3 N4 N5
               have hHeld : w63.cell? ⟨g269, 0, none⟩ = some (I q ((rd_T64 la2 x7_2).f0)) ∧ w63.cell? ⟨g269, 1, none⟩ = some (I q ((rd_T64 la2 x7_2).f1)) ∧ w63.cell? ⟨g269, 2, none⟩ = some (I q ((rd_T64 la2 x7_2).f2)) ∧ w63.cell? ⟨g269, 3, none⟩ = some (J A268_3 ((rd_T64 la2 x7_2).f3).length c268_3) := hS_
               refine norm_ (a' := ?_) ?_ ?_
               rotate_left
               ·simp only [putAll, Act.put, List.setIfInBounds_toArray, List.set_cons_zero, List.set_cons_succ]
                rfl
               refine one_ (i := 16) (N := some 104) #[true, true, true, true, true, true, true, true, true, true, true, true, true, true, true, true, true, false, false] rfl rfl (one_of HT_.out (by kernel_rfl)) (by decide) (fun K hK => ?_)
               refine Kd.R_lit_step (Kd.int .u8) _ 5 ?hg (N := 104) ?hd (xs := ([((rd_T64 la2 x7_2).f2) % 256, ((((rd_T64 la2 x7_2).f3).length : Int)) % 256] : List Int)) (inner := [.int .u8 (((rd_T64 la2 x7_2).f2) % 256), .int .u8 (((((rd_T64 la2 x7_2).f3).length : Int)) % 256)]) (ok := fun _ => True) (okp := fun _ => True) ?hr ?hp (fun _ hk => hk) trivial (Below.refl _ _) (Nat.le_refl _) (by simp) ?_; (case hd => rfl); (case hg => rfl); (case hr => first | (go_simp; done) | (go_simp; rfl)); (case hp => exact (Reps.one (show Kd.M (Kd.int .u8) _ _ _ (((rd_T64 la2 x7_2).f2) % 256) [.int .u8 (((rd_T64 la2 x7_2).f2) % 256)] from rfl) (Reps.one (show Kd.M (Kd.int .u8) _ _ _ (((((rd_T64 la2 x7_2).f3).length : Int)) % 256) [.int .u8 (((((rd_T64 la2 x7_2).f3).length : Int)) % 256)] from rfl) (Reps.none _ _))))
               intro v283 w64 ho65 hb hg_ hnew_
               clear hg_ hnew_
               (first | rw [← Ny282.out] at ho65 | (simp only [Int.reduceToNat] at ho65; rw [← Ny282.out] at ho65))
               have N0 := am (re (by (with_reducible repeat (first | apply ra | apply rN | apply rd1)); exact O272.out) (Kd.R_base ho65) hb)
               have N1 := am (re (by (with_reducible repeat (first | apply ra | apply rN | apply rd1)); exact O278.out) (Kd.R_base ho65) hb)
               have N2 := am (re (by (with_reducible repeat (first | apply ra | apply rN | apply rd1)); exact O281.out) (Kd.R_base ho65) hb)
               have N3 := am (rw1 (rn (rn (rn ho65 (rl (by (with_reducible repeat (first | apply ra | apply rN | apply rd1)); exact O272.out))) (rl (by (with_reducible repeat (first | apply ra | apply rN | apply rd1)); exact O278.out))) (rl (by (with_reducible repeat (first | apply ra | apply rN | apply rd1)); exact O281.out))) (bz (by repeat (first | (with_reducible first | exact HB.out | apply pa | apply pN | apply p1 | refine bs ?_ E232.out | refine bs ?_ E269.out) | exact HB.out))))
               have N4 := am (bb (g := g232) (by (with_reducible repeat (first | apply bN | apply bd | apply ba)); exact B232.out) hb)
               have N5 := am (bb (g := g269) (by (with_reducible repeat (first | apply bN | apply bd | apply ba)); exact B269.out) hb)
               have N6 := am (bp (by repeat (first | (with_reducible first | exact HB.out | apply pa | apply pN | apply p1 | refine bs ?_ E232.out | refine bs ?_ E269.out) | exact HB.out)) hb)
               clear O272
               clear O278
               clear O281
               clear B232
               clear B269
               clear HB
               have O272 := N0
               have O278 := N1
               have O281 := N2
               have O284 := N3
               have B232 := N4
               have B269 := N5
               have HB := N6
               clear N0 N1 N2 N3 N4 N5 N6
               clear hb ho65
               refine hK.out _ _ ⟨(bc B269.out 0).trans rfl, (bc B269.out 1).trans rfl, (bc B269.out 2).trans rfl, (bc B269.out 3).trans rfl⟩ (fun hHeld => ?_)
               clear hK K
               refine norm_ (a' := ?_) ?_ ?_
               rotate_left
               ·show Act.put _ (some 104) _ = _
                simp only [Act.put, List.setIfInBounds_toArray, List.set_cons_zero, List.set_cons_succ, i64_w, i32_w]
                rfl
               exact norm_ (by first | (simp only [putAll, Act.put, List.setIfInBounds_toArray, List.set_cons_zero, List.set_cons_succ]; done) | (simp only [putAll, Act.put, List.setIfInBounds_toArray, List.set_cons_zero, List.set_cons_succ]; rfl)) (hJ3_4_7_8_16 (v271, v274, v277, v280, v283) _ ⟨hHeld, (by (with_reducible repeat (first | apply ra | apply rN | apply rd1)); exact Kd.R_mono O272.out (fun _ hk => ⟨hk.1.1, ⟨hk.1.2, hk.2⟩⟩)), (by (with_reducible repeat (first | apply ra | apply rN | apply rd1)); exact Kd.R_mono O278.out (fun _ hk => ⟨hk.1.1, ⟨hk.1.2, hk.2⟩⟩)), (by (with_reducible repeat (first | apply ra | apply rN | apply rd1)); exact Kd.R_mono O281.out (fun _ hk => ⟨hk.1.1, ⟨hk.1.2, hk.2⟩⟩)), (by (with_reducible repeat (first | apply ra | apply rN | apply rd1)); exact Kd.R_mono O284.out (fun _ hk => ⟨hk.1.1.2, ⟨hk.1.2, hk.2⟩⟩)), (by (with_reducible repeat (first | apply bN | apply bd | apply ba)); exact B232.out), (by (with_reducible repeat (first | apply bN | apply bd | apply ba)); exact B269.out), (by repeat (first | (with_reducible first | exact HB.out | apply pa | apply pN | apply p1 | refine bs ?_ E232.out | refine bs ?_ E269.out) | exact HB.out))⟩)
             rintro ⟨v271, v274, v277, v280, v283⟩ w65 ⟨hS_, h0_, h1_, h2_, h3_, h4_, h5_, h6_⟩
             have N0 : Aside0 (Kd.R (Kd.int .u8) 5 w65 w.heap.size (fun k_ => some k_ ≠ (v277 : Value).ownBlock ∧ some k_ ≠ (v280 : Value).ownBlock ∧ some k_ ≠ (v283 : Value).ownBlock) v271 t270) := ⟨h0_⟩
             have N1 : Aside0 (Kd.R (Kd.int .u8) 5 w65 w.heap.size (fun k_ => some k_ ≠ (v271 : Value).ownBlock ∧ some k_ ≠ (v280 : Value).ownBlock ∧ some k_ ≠ (v283 : Value).ownBlock) v277 t276) := ⟨h1_⟩
             have N2 : Aside0 (Kd.R (Kd.int .u8) 5 w65 w.heap.size (fun k_ => some k_ ≠ (v271 : Value).ownBlock ∧ some k_ ≠ (v277 : Value).ownBlock ∧ some k_ ≠ (v283 : Value).ownBlock) v280 y279) := ⟨h2_⟩
             have N3 : Aside0 (Kd.R (Kd.int .u8) 5 w65 w.heap.size (fun k_ => some k_ ≠ (v271 : Value).ownBlock ∧ some k_ ≠ (v277 : Value).ownBlock ∧ some k_ ≠ (v280 : Value).ownBlock) v283 y282) := ⟨h3_⟩
             have N4 : Aside0 (w65.heap[g232]? = some (.cells #[I q aa0, J Aa1 la1.length ca1, .slice (some ad268) la2.length ca2] 31 (0, 0))) := ⟨h4_⟩
             have N5 : Aside0 (w65.heap[g269]? = some (.cells #[I q ((rd_T64 la2 x7_2).f0), I q ((rd_T64 la2 x7_2).f1), I q ((rd_T64 la2 x7_2).f2), J A268_3 ((rd_T64 la2 x7_2).f3).length c268_3] 64 (0, 0))) := ⟨h5_⟩
             have N6 : Aside0 (Below w.heap.size w w65) := ⟨h6_⟩
             clear o0
             clear B232
             clear B269
             clear HB
             clear h0_ h1_ h2_ h3_ h4_ h5_ h6_
             have O272 := N0
             have O278 := N1
             have O281 := N2
             have O284 := N3
             have B232 := N4
             have B269 := N5
             have HB := N6
             clear N0 N1 N2 N3 N4 N5 N6
             have hHeld : w65.cell? ⟨g269, 0, none⟩ = some (I q ((rd_T64 la2 x7_2).f0)) ∧ w65.cell? ⟨g269, 1, none⟩ = some (I q ((rd_T64 la2 x7_2).f1)) ∧ w65.cell? ⟨g269, 2, none⟩ = some (I q ((rd_T64 la2 x7_2).f2)) ∧ w65.cell? ⟨g269, 3, none⟩ = some (J A268_3 ((rd_T64 la2 x7_2).f3).length c268_3) := hS_
             obtain ⟨Ao67, co67, eo67⟩ := Kd.R_slice O284.out
             (first | subst eo67 | (injection eo67 with f1_ f2_ f3_; have f4_ := f1_.symm; have f5_ := f3_.symm; clear f1_ f2_ f3_; subst f4_; subst f5_))
             refine norm_ (a' := ?_) ?_ ?_
             rotate_left
             ·simp only [putAll, Act.put, List.setIfInBounds_toArray, List.set_cons_zero, List.set_cons_succ]
              rfl
             refine one_ (i := 17) (N := some 105) #[true, true, true, true, true, true, true, true, true, true, true, true, true, true, true, true, true, true, false] rfl rfl (one_of HT_.out (by kernel_rfl)) (by decide) (fun K hK => ?_)
             refine Kd.R_append_rows_step (Kd.int .u8) (w0 := w) w.heap.size (by rfl) (.tmp 96) (.tmp 104) 58 5 (.int .u8 0) 1 rfl Try.underlying58 info5 rfl (by decide) (by omega) v280 y279 y282 _ _ _ (fun k_ => some k_ ≠ (v271 : Value).ownBlock ∧ some k_ ≠ (v277 : Value).ownBlock ∧ some k_ ≠ (J Ao67 y282.length co67 : Value).ownBlock) (fun _ => False) rfl rfl ?aO ?aR (fun _ _ h => h) (fun _ h => h.elim) ?aF ?aB ?aS ?aL ?_
             (case aR => repeat (first | exact (Kd.R_reads' O284.out).2.2 | (with_reducible refine ca ?_ _) | (with_reducible refine cN ?_ _) | (with_reducible refine cd1 ?_)))
             (case aB => exact (by repeat (first | (with_reducible first | exact HB.out | apply pa | apply pN | apply p1 | refine bs ?_ E232.out | refine bs ?_ E269.out) | exact HB.out)))
             (case aF => exact (fun k_ hk => ⟨Kd.fresh' (rl (by (with_reducible repeat (first | apply ra | apply rN | apply rd1)); exact O272.out)) k_ hk, Kd.fresh' (rl (by (with_reducible repeat (first | apply ra | apply rN | apply rd1)); exact O278.out)) k_ hk, Kd.fresh' (rl (by (with_reducible repeat (first | apply ra | apply rN | apply rd1)); exact O284.out)) k_ hk⟩))
             (case aO => exact (by (with_reducible repeat (first | apply ra | apply rN | apply rd1)); exact O281.out))
             (case aS => exact (bz (by repeat (first | (with_reducible first | exact HB.out | apply pa | apply pN | apply p1 | refine bs ?_ E232.out | refine bs ?_ E269.out) | exact HB.out))))
             (case aL => have := LMc49.out; omega)
             intro v286 w66 ho hb hg hat
             rw [← Ny285.out] at ho
             have N0 := am (blk_grown (g := g232) (o := .cells #[I q aa0, J Aa1 la1.length ca1, .slice (some ad268) la2.length ca2] 31 (0, 0)) (by (with_reducible repeat (first | apply bN | apply bd | apply ba)); exact B232.out) hg (Kd.R_ne O281.out B232.out (by decide)))
             have N1 := am (blk_grown (g := g269) (o := .cells #[I q ((rd_T64 la2 x7_2).f0), I q ((rd_T64 la2 x7_2).f1), I q ((rd_T64 la2 x7_2).f2), J A268_3 ((rd_T64 la2 x7_2).f3).length c268_3] 64 (0, 0)) (by (with_reducible repeat (first | apply bN | apply bd | apply ba)); exact B269.out) hg (Kd.R_ne O281.out B269.out (by decide)))
             have N2 := am (Kd.R_after (ok := (fun k_ => some k_ ≠ (v277 : Value).ownBlock ∧ some k_ ≠ (J Ao67 y282.length co67 : Value).ownBlock)) (by (with_reducible repeat (first | apply ra | apply rN | apply rd1)); exact Kd.R_mono O272.out (fun _ hk => ⟨⟨hk.1, hk.2.2⟩, hk.2.1⟩)) hg hat)
             have N3 := am (Kd.R_after (ok := (fun k_ => some k_ ≠ (v271 : Value).ownBlock ∧ some k_ ≠ (J Ao67 y282.length co67 : Value).ownBlock)) (by (with_reducible repeat (first | apply ra | apply rN | apply rd1)); exact Kd.R_mono O278.out (fun _ hk => ⟨⟨hk.1, hk.2.2⟩, hk.2.1⟩)) hg hat)
             have N4 := am (Kd.R_after (ok := (fun k_ => some k_ ≠ (v271 : Value).ownBlock ∧ some k_ ≠ (v277 : Value).ownBlock)) (by (with_reducible repeat (first | apply ra | apply rN | apply rd1)); exact Kd.R_mono O284.out (fun _ hk => ⟨⟨hk.1, hk.2.1⟩, hk.2.2⟩)) hg hat)
             have N5 := am (hb)
             have N6 := am (ho)
             clear B232
             clear B269
             clear O272
             clear O278
             clear O284
             clear HB
             clear O281
             have B232 := N0
             have B269 := N1
             have O272 := N2
             have O278 := N3
             have O284 := N4
             have HB := N5
             have O287 := N6
             clear N0 N1 N2 N3 N4 N5 N6
             clear ho hb hg hat
             refine hK.out _ _ ⟨(bc B269.out 0).trans rfl, (bc B269.out 1).trans rfl, (bc B269.out 2).trans rfl, (bc B269.out 3).trans rfl⟩ (fun hHeld => ?_)
             clear hK K
             refine norm_ (a' := ?_) ?_ ?_
             rotate_left
             ·show Act.put _ (some 105) _ = _
              simp only [Act.put, List.setIfInBounds_toArray, List.set_cons_zero, List.set_cons_succ, i64_w, i32_w]
              rfl
             refine pure_ (i := 18) (N := some 3) (v := ?_) (a' := ?_) #[true, true, true, true, true, true, true, true, true, true, true, true, true, true, true, true, true, true, true] rfl rfl (any_of HT_.out (by kernel_rfl)) (fun _ _ _ h => h) (Or.inl ⟨by rfl, ?_⟩) ?_ ?_
             rotate_left
             ·intro w'
              first | (go_simp; with_reducible rfl) | (go_simp; (try unfold Instr.field); go_simp; (try simp only [asAgg]); go_simp; with_reducible rfl)
             rotate_left
             ·simp only [Act.put, List.setIfInBounds_toArray, List.set_cons_zero, List.set_cons_succ, i64_w, i32_w]
              rfl
             refine done_ (done_of HT_.out (by kernel_rfl)) ?_
             try go_wp2
             go_loopg [3, 9] k2 (fun kq v3 v9 w' => ∃ (x3_3 : List Int) (x9_3 : Int), v9 = I q x9_3 ∧ Aside0 (spec_l6Config.l2 kq x3_3 x7_2 x9_3 aa0 la1 la2 ((rd_T64 la2 x7_2).f0) ((rd_T64 la2 x7_2).f1) ((rd_T64 la2 x7_2).f2) ((rd_T64 la2 x7_2).f3) = some r) ∧ Aside0 (kq ≤ k2) ∧ Aside0 (Kd.R (Kd.int .u8) 5 w' w.heap.size (fun _ => True) v3 x3_3) ∧ Aside0 (w'.heap[g232]? = some (.cells #[I q aa0, (J Aa1 la1.length ca1), (.slice (some ad268) la2.length ca2)] 31 (0, 0))) ∧ Aside0 (w'.heap[g269]? = some (.cells #[I q ((rd_T64 la2 x7_2).f0), I q ((rd_T64 la2 x7_2).f1), I q ((rd_T64 la2 x7_2).f2), (J A268_3 ((rd_T64 la2 x7_2).f3).length c268_3)] 64 (0, 0))) ∧ Aside0 (Below w.heap.size w w'))
             case atStart => exact ⟨(y285), (0), (by first | rfl | (simp; done) | (simp [*]; done)), H', ⟨Nat.le_refl _⟩, ⟨by (with_reducible repeat (first | apply ra | apply rN | apply rd1)); exact Kd.R_mono O287.out (fun _ hk => trivial)⟩, ⟨by (with_reducible repeat (first | apply bN | apply bd | apply ba)); exact B232.out⟩, ⟨by (with_reducible repeat (first | apply bN | apply bd | apply ba)); exact B269.out⟩, ⟨by repeat (first | (with_reducible first | exact HB.out | apply pa | apply pN | apply p1 | refine bs ?_ E232.out | refine bs ?_ E269.out) | exact HB.out)⟩⟩
             case round =>
              clear H'
              try clear c1
              try clear c2
              try clear p2
              try clear c4
              try clear c12
              try clear c26
              try clear c46
              try clear c48
              try clear c49
              obtain ⟨x3_3, x9_3, rfl, HA, HK3, o0, B232, B269, HB⟩ := hrel
              cases gk with
              | zero => exact absurd HA.out (by simp [spec_l6Config.l2])
              | succ k3 =>
               have H := HA.out
               clear HA
               simp only [spec_l6Config.l2] at H
               by_cases c68 : x9_3 < (((rd_T64 la2 x7_2).f3).length : Int)
               ·rw [if_pos c68] at H
                have c68b0 : decide (x9_3 < (((rd_T64 la2 x7_2).f3).length : Int)) = true := decide_eq_true c68
                clear c68
                by_cases c69 : 0 ≤ x9_3
                ·rw [if_pos c69] at H
                 have c69b0 : decide (0 ≤ x9_3) = true := decide_eq_true c69
                 clear c69
                 replace H := Option.bind_eq_some_iff.mp H
                 obtain ⟨t289, A700, H⟩ := H
                 replace H : (if x3_3.length + t289.length < 140737488355328 then (spec_l6Config.l2 k3 (x3_3 ++ t289) x7_2 (wrap64 (x9_3 + 1)) aa0 la1 la2 ((rd_T64 la2 x7_2).f0) ((rd_T64 la2 x7_2).f1) ((rd_T64 la2 x7_2).f2) ((rd_T64 la2 x7_2).f3)) else (none)) = some r := H
                 have A70 := am A700
                 clear A700
                 by_cases c71 : x3_3.length + t289.length < 140737488355328
                 ·rw [if_pos c71] at H
                  have LMc71 := am c71
                  clear c71
                  obtain ⟨y292, hy292⟩ : ∃ y_ : List Int, y_ = (x3_3 ++ t289) := ⟨_, rfl⟩
                  replace H : (spec_l6Config.l2 k3 y292 x7_2 (wrap64 (x9_3 + 1)) aa0 la1 la2 ((rd_T64 la2 x7_2).f0) ((rd_T64 la2 x7_2).f1) ((rd_T64 la2 x7_2).f2) ((rd_T64 la2 x7_2).f3)) = some r := by first | (rw [hy292]; with_reducible exact H) | (have H2_ := (Option.bind_some _ _).symm.trans H; rw [hy292]; with_reducible exact H2_) | (have H2_ := (Option.bind_some _ _).symm.trans H; with_reducible exact H2_) | with_reducible exact H | (rw [hy292]; exact H) | exact H
                  have Ny292 := am hy292
                  clear hy292
                  have H' := am H
                  clear H
                  have hnb72 := NB269_232.out
                  have hnc72 := NB232_269.out
                  have hcz73_0 : wr.cell? ⟨g269, 0, none⟩ = some (I q ((rd_T64 la2 x7_2).f0)) := (bc B269.out 0).trans rfl
                  have hcz73_1 : wr.cell? ⟨g269, 1, none⟩ = some (I q ((rd_T64 la2 x7_2).f1)) := (bc B269.out 1).trans rfl
                  have hcz73_2 : wr.cell? ⟨g269, 2, none⟩ = some (I q ((rd_T64 la2 x7_2).f2)) := (bc B269.out 2).trans rfl
                  have hcz73_3 : wr.cell? ⟨g269, 3, none⟩ = some (J A268_3 ((rd_T64 la2 x7_2).f3).length c268_3) := (bc B269.out 3).trans rfl
                  have hfz73_0 := bf B269.out 0
                  have hfz73_1 := bf B269.out 1
                  have hfz73_2 := bf B269.out 2
                  have hfz73_3 := bf B269.out 3
                  have p288 : 0 ≤ (x9_3 : Int) := of_decide_eq_true (by first | (with_reducible assumption) | assumption)
                  have q288 : x9_3 < (((rd_T64 la2 x7_2).f3).length : Int) := of_decide_eq_true (by first | (with_reducible assumption) | assumption)
                  obtain ⟨ad288, e288, hx288_0⟩ := Kd.at_int HR268_3.out x9_3 p288 q288
                  cases e288
                  replace hx288_0 := (HB.out.cell (World.block_lt_of_cell? w _ hx288_0)).trans hx288_0
                  replace p288 := eq_true p288
                  replace q288 := eq_true q288
                  go_wp2_with (first | ((with_reducible refine gate_callee (f := 124) rfl ?_); refine goesL_ (some 119) rfl rfl Try.func124 (by kernel_rfl) rfl #[I q (rd ((rd_T64 la2 x7_2).f3) x9_3), I q 2] rfl (by (try simp only [List.map_toArray, List.map_cons, List.map_nil]); first | done | rfl) ?_; (with_reducible refine (spec_l1Bytes.calls k3 (rd ((rd_T64 la2 x7_2).f3) x9_3) 2 t289 _ A70.out).mono ?_); rintro e w74 ⟨v290, rfl, ho0, hb⟩; refine ⟨_, rfl, ?_⟩; have N0 := am (re (by (with_reducible repeat (first | apply ra | apply rN | apply rd1)); exact o0.out) (Kd.R_base ho0) hb); have N1 := am (rw1 (rn ho0 (rl (by (with_reducible repeat (first | apply ra | apply rN | apply rd1)); exact o0.out))) (bz (by repeat (first | (with_reducible first | exact HB.out | apply pa | apply pN | apply p1 | refine bs ?_ E232.out | refine bs ?_ E269.out) | exact HB.out)))); have N2 := am (bb (g := g232) (by (with_reducible repeat (first | apply bN | apply bd | apply ba)); exact B232.out) hb); have N3 := am (bb (g := g269) (by (with_reducible repeat (first | apply bN | apply bd | apply ba)); exact B269.out) hb); have N4 := am (bp (by repeat (first | (with_reducible first | exact HB.out | apply pa | apply pN | apply p1 | refine bs ?_ E232.out | refine bs ?_ E269.out) | exact HB.out)) hb); clear o0 B232 B269 HB; have o0 := N0; have O291 := N1; have B232 := N2; have B269 := N3; have HB := N4; clear N0 N1 N2 N3 N4; (try clear hb); (try clear hb2); (try clear hk); (try clear hi); (try clear ho0); obtain ⟨Ao76, co76, eo76⟩ := Kd.R_slice O291.out; subst eo76) | ((with_reducible refine gate_builtin (b := .append) (xs := #[.tmp 113, .tmp 119]) rfl ?_); at_builtin; refine Kd.R_append_rows (Kd.int .u8) (w0 := w) w.heap.size rfl (.tmp 113) (.tmp 119) 58 5 (.int .u8 0) 1 rfl Try.underlying58 info5 rfl (by decide) (by omega) u3 x3_3 t289 _ _ _ (fun k_ => some k_ ≠ (J Ao76 t289.length co76 : Value).ownBlock) (fun _ => False) rfl rfl ?aO ?aR (fun _ _ h => h) (fun _ h => h.elim) ?aF ?aB ?aS ?aL ?_; (case aR => repeat (first | exact (Kd.R_reads' O291.out).2.2 | (with_reducible refine ca ?_ _) | (with_reducible refine cN ?_ _) | (with_reducible refine cd1 ?_))); (case aB => exact (by repeat (first | (with_reducible first | exact HB.out | apply pa | apply pN | apply p1 | refine bs ?_ E232.out | refine bs ?_ E269.out) | exact HB.out))); (case aF => exact (fun k_ hk => Kd.fresh' (rl (by (with_reducible repeat (first | apply ra | apply rN | apply rd1)); exact O291.out)) k_ hk)); (case aO => exact (by (with_reducible repeat (first | apply ra | apply rN | apply rd1)); exact Kd.R_mono o0.out (fun _ hk => hk.2))); (case aS => exact (bz (by repeat (first | (with_reducible first | exact HB.out | apply pa | apply pN | apply p1 | refine bs ?_ E232.out | refine bs ?_ E269.out) | exact HB.out)))); (case aL => have := LMc71.out; omega); intro v293 w75 ho hb hg hat; rw [← Ny292.out] at ho; have N0 := am (blk_grown (g := g232) (o := .cells #[I q aa0, J Aa1 la1.length ca1, .slice (some ad268) la2.length ca2] 31 (0, 0)) (by (with_reducible repeat (first | apply bN | apply bd | apply ba)); exact B232.out) hg (Kd.R_ne o0.out B232.out (by decide))); have N1 := am (blk_grown (g := g269) (o := .cells #[I q ((rd_T64 la2 x7_2).f0), I q ((rd_T64 la2 x7_2).f1), I q ((rd_T64 la2 x7_2).f2), .slice (some ad288) ((rd_T64 la2 x7_2).f3).length c268_3] 64 (0, 0)) (by (with_reducible repeat (first | apply bN | apply bd | apply ba)); exact B269.out) hg (Kd.R_ne o0.out B269.out (by decide))); have N2 := am (Kd.R_after (ok := (fun _ => True)) (by (with_reducible repeat (first | apply ra | apply rN | apply rd1)); exact O291.out) hg hat); have N3 := am (hb); have N4 := am (ho); clear B232 B269 O291 HB o0; have B232 := N0; have B269 := N1; have O291 := N2; have HB := N3; have O294 := N4; clear N0 N1 N2 N3 N4 ho hb hg hat))
                  go_roundg k3
                  case measure => have := HK1.out; have := HK2.out; have := HK3.out; omega
                  case rel => exact ⟨(y292), (wrap64 (x9_3 + 1)), (by first | rfl | (simp; done) | (simp [*]; done)), H', ⟨by have := HK1.out; have := HK2.out; have := HK3.out; omega⟩, ⟨by (with_reducible repeat (first | apply ra | apply rN | apply rd1)); exact Kd.R_mono O294.out (fun _ hk => trivial)⟩, ⟨by (with_reducible repeat (first | apply bN | apply bd | apply ba)); exact B232.out⟩, ⟨by (with_reducible repeat (first | apply bN | apply bd | apply ba)); exact B269.out⟩, ⟨by repeat (first | (with_reducible first | exact HB.out | apply pa | apply pN | apply p1 | refine bs ?_ E232.out | refine bs ?_ E269.out) | exact HB.out)⟩⟩
                 ·rw [if_neg c71] at H
                  exact absurd H (by simp)
                ·rw [if_neg c69] at H
                 exact absurd H (by simp)
               ·rw [if_neg c68] at H
                have c68b0 : decide (x9_3 < (((rd_T64 la2 x7_2).f3).length : Int)) = false := decide_eq_false c68
                clear c68
                have H' := am H
                clear H
                have hnb77 := NB269_232.out
                have hnc77 := NB232_269.out
                have hcz78_0 : wr.cell? ⟨g269, 0, none⟩ = some (I q ((rd_T64 la2 x7_2).f0)) := (bc B269.out 0).trans rfl
                have hcz78_1 : wr.cell? ⟨g269, 1, none⟩ = some (I q ((rd_T64 la2 x7_2).f1)) := (bc B269.out 1).trans rfl
                have hcz78_2 : wr.cell? ⟨g269, 2, none⟩ = some (I q ((rd_T64 la2 x7_2).f2)) := (bc B269.out 2).trans rfl
                have hcz78_3 : wr.cell? ⟨g269, 3, none⟩ = some (J A268_3 ((rd_T64 la2 x7_2).f3).length c268_3) := (bc B269.out 3).trans rfl
                have hfz78_0 := bf B269.out 0
                have hfz78_1 := bf B269.out 1
                have hfz78_2 := bf B269.out 2
                have hfz78_3 := bf B269.out 3
                go_wp2
                go_roundg k3
                case measure => have := HK1.out; have := HK2.out; have := HK3.out; omega
                case rel => exact ⟨(x3_3), (wrap64 (x7_2 + 1)), (by first | rfl | (simp; done) | (simp [*]; done)), H', ⟨by have := HK1.out; have := HK2.out; have := HK3.out; omega⟩, ⟨by (with_reducible repeat (first | apply ra | apply rN | apply rd1)); exact o0.out⟩, ⟨by (with_reducible repeat (first | apply bN | apply bd | apply ba)); exact B232.out⟩, ⟨by repeat (first | (with_reducible first | exact HB.out | apply pa | apply pN | apply p1 | refine bs ?_ E232.out | refine bs ?_ E269.out) | exact HB.out)⟩⟩
            ·rw [if_neg c49] at H
             exact absurd H (by simp)
           ·rw [if_neg c48] at H
            exact absurd H (by simp)
          ·rw [if_neg c46] at H
           exact absurd H (by simp)
         ·rw [if_neg c44] at H
          exact absurd H (by simp)
        ·rw [if_neg c43] at H
         have c43b0 : decide (x7_2 < (la2.length : Int)) = false := decide_eq_false c43
         clear c43
         obtain rfl := Option.some.inj H
         have hcz79_0 : wr.cell? ⟨g232, 0, none⟩ = some (I q aa0) := (bc B232.out 0).trans rfl
         have hcz79_1 : wr.cell? ⟨g232, 1, none⟩ = some (J Aa1 la1.length ca1) := (bc B232.out 1).trans rfl
         have hcz79_2 : wr.cell? ⟨g232, 2, none⟩ = some (J Aa2 la2.length ca2) := (bc B232.out 2).trans rfl
         have hfz79_0 := bf B232.out 0
         have hfz79_1 := bf B232.out 1
         have hfz79_2 := bf B232.out 2
         go_wp2
         go_ret
         exact ⟨_, by first | rfl | (simp [errW_none, errW_some] <;> rfl) | (simp [*, errW_none, errW_some] <;> rfl), by (with_reducible repeat (first | apply ra | apply rN | apply rd1)); exact o0.out, by repeat (first | (with_reducible first | exact HB.out | apply pa | apply pN | apply p1 | refine bs ?_ E232.out) | exact HB.out)⟩
     ·rw [if_neg c37] at H
      exact absurd H (by simp)
 ·rw [if_neg c3] at H
  exact absurd H (by simp)

end Go.Proofs.Ytfmlhpoaipeoeaa.QFnExactPackConfig
