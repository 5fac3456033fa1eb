-- MADE BY PROGRAM (qprint.py): walks of the functions that the law FnLooks reaches. Lean checks it.
import Derived.Test.YtnfjbapcngamjaaQFnLooksx0
import Derived.Test.YtnfjbapcngamjaaQFnLooksx1
import Derived.Test.YtnfjbapcngamjaaQFnLooksx3
import Derived.Test.YtnfjbapcngamjaaQFnLooksx5
import Derived.Test.YtnfjbapcngamjaaQFnLooksx6
namespace Go.Proofs.Ytnfjbapcngamjaa.QFnLooks
open Go.RowKit Go.Proofs.YtnfjbapcngamjaaW.PrintWords Go.Proofs.YtnfjbapcngamjaaW.PrintLast Go.Proofs.YtnfjbapcngamjaaW.PrintMore
open Go.Proofs.YtnfjbapcngamjaaW.PrintWords renaming blk_drewN → bN, blk_drew → bd, blk_alloc → ba, blk_cell → bc, blk_frozen → bf, below_set → bs, pw_below_drewN → pN, below_drew1 → p1, below_alloc → pa, blk_below → bb, below_size → bz, below_step → bp, blk_lt → bl, blk_far → bq
open Go.Proofs.YtnfjbapcngamjaaW.PrintWords.Kd renaming R_drewN → rN, R_drew → rd1, R_alloc → ra, R_far → rf, R_below → rb, R_new' → rn, R_lt → rl, R_elder' → re, R_lower → rw1, C_alloc → ca, C_drewN → cN, C_drew → cd1
open Go.Proofs.YtnfjbapcngamjaaW.PrintWords.Aside0 renaming mk → am
open Go.Value renaming int → I, slice → J
open Go.IntKind renaming i64 → q
attribute [local go_sem] max2_int min2_int max_two min_two max_three min_three max_four min_four   -- for this text's walks alone
set_option linter.unusedVariables false
set_option linter.unusedSimpArgs false

/-! ### laws_FnLooks: function 8 -/
mutual
def laws_FnLooks.j0 : Nat → List (S53) → Bool → Int → List (S53) → Int → List Int → Option (Bool)
  | 0, _, _, _, _, _, _ => none
  | k + 1, x3, x71, x273000, x273001, x282000, x282001 => if x71 = true then (some false) else (laws_FnLooks.l0 k x3 0 x273000 x273001 x282000 x282001)
def laws_FnLooks.l0 : Nat → List (S53) → Int → Int → List (S53) → Int → List Int → Option (Bool)
  | 0, _, _, _, _, _, _ => none
  | k + 1, x3, x9, x273000, x273001, x282000, x282001 => if x9 < 40 then ((impl_LookTable.f x282001 (wrap64 (x9 * 7919))).bind fun bt292 => (laws_FnLooks.l1 k x3 x9 false 0 x273000 x273001 x282000 x282001 bt292.1 bt292.2)) else (some ((x273001.length : Int) == (wrap64 ((x3.length : Int) - 1))))
def laws_FnLooks.l1 : Nat → List (S53) → Int → Bool → Int → Int → List (S53) → Int → List Int → Int → Int → Option (Bool)
  | 0, _, _, _, _, _, _, _, _, _, _ => none
  | k + 1, x3, x9, x11, x12, x273000, x273001, x282000, x282001, x295000, x295001 => if x12 < (x3.length : Int) then (if x11 = true then (laws_FnLooks.l1 k x3 x9 true (wrap64 (x12 + 1)) x273000 x273001 x282000 x282001 x295000 x295001) else (if 0 ≤ x12 then (if ((rd_T53 x3 x12).f0) = x295001 then (laws_FnLooks.l1 k x3 x9 (decide (((rd_T53 x3 x12).f1) > 0)) (wrap64 (x12 + 1)) x273000 x273001 x282000 x282001 x295000 x295001) else (laws_FnLooks.l1 k x3 x9 false (wrap64 (x12 + 1)) x273000 x273001 x282000 x282001 x295000 x295001)) else (none))) else (if x295000 = 0 then (if x11 = true then (laws_FnLooks.l0 k x3 (wrap64 (x9 + 1)) x273000 x273001 x282000 x282001) else (some false)) else (if x295000 = 4 then (laws_FnLooks.l0 k x3 (wrap64 (x9 + 1)) x273000 x273001 x282000 x282001) else (some false)))
end
def laws_FnLooks.f (k : Nat) (l0 : List Int) : Option (Bool) := (laws_lwBig.f l0).bind fun t263 => (if t263 = true then (some true) else ((spec_DrawWithoutShare.f k l0).bind fun bt264 => ((impl_WithoutShare.f k bt264.1 bt264.2).bind fun bt268 => (if bt268.1 = 0 then ((impl_FillTable.f k bt264.1).bind fun bt277 => ((impl_FillTable.f k bt268.2).bind fun bt282 => ((impl_MovedOf.f k bt277.2 bt282.2).bind fun bt287 => (if bt277.1 = 0 then (if bt282.1 = 0 then ((impl_CountOf.f k bt282.2 bt264.2).bind fun t290 => (if t290 = 0 then (if bt287.1 = 0 then ((impl_CountOf.f k bt277.2 bt264.2).bind fun t291 => (laws_FnLooks.j0 k bt264.1 (decide (bt287.2 < t291)) bt268.1 bt268.2 bt277.1 bt277.2)) else (laws_FnLooks.j0 k bt264.1 true bt268.1 bt268.2 bt277.1 bt277.2)) else (laws_FnLooks.j0 k bt264.1 true bt268.1 bt268.2 bt277.1 bt277.2))) else (laws_FnLooks.j0 k bt264.1 true bt268.1 bt268.2 bt277.1 bt277.2)) else (laws_FnLooks.j0 k bt264.1 true bt268.1 bt268.2 bt277.1 bt277.2))))) else ((spec_WithoutShare.f k bt264.1 bt264.2).bind fun bt273 => (some (bt273.1 == bt268.1)))))))
theorem laws_FnLooks.mono_l : ∀ k, (∀ y0 y1 y2 y3 y4 y5, LeO (laws_FnLooks.j0 k y0 y1 y2 y3 y4 y5) (laws_FnLooks.j0 (k + 1) y0 y1 y2 y3 y4 y5)) ∧ (∀ y0 y1 y2 y3 y4 y5, LeO (laws_FnLooks.l0 k y0 y1 y2 y3 y4 y5) (laws_FnLooks.l0 (k + 1) y0 y1 y2 y3 y4 y5)) ∧ (∀ y0 y1 y2 y3 y4 y5 y6 y7 y8 y9, LeO (laws_FnLooks.l1 k y0 y1 y2 y3 y4 y5 y6 y7 y8 y9) (laws_FnLooks.l1 (k + 1) y0 y1 y2 y3 y4 y5 y6 y7 y8 y9))
  | 0 => ⟨fun _ _ _ _ _ _ r h => by simp [laws_FnLooks.j0] at h, fun _ _ _ _ _ _ r h => by simp [laws_FnLooks.l0] at h, fun _ _ _ _ _ _ _ _ _ _ r h => by simp [laws_FnLooks.l1] at h⟩
  | k + 1 => by
    obtain ⟨ih0, ih1, ih2⟩ := laws_FnLooks.mono_l k
    refine ⟨?_, ?_, ?_⟩
    · intro y0 y1 y2 y3 y4 y5
      unfold laws_FnLooks.j0
      repeat' first
      | (with_reducible exact ih0 _ _ _ _ _ _)
      | (with_reducible exact ih1 _ _ _ _ _ _)
      | (with_reducible exact ih2 _ _ _ _ _ _ _ _ _ _)
      | (with_reducible exact impl_CountOf.mono _ _ _)
      | (with_reducible exact impl_FillTable.mono _ _)
      | (with_reducible exact impl_MovedOf.mono _ _ _)
      | (with_reducible exact impl_WithoutShare.mono _ _ _)
      | (with_reducible exact spec_DrawWithoutShare.mono _ _)
      | (with_reducible exact spec_WithoutShare.mono _ _ _)
      | (with_reducible exact LeO.refl _)
      | (with_reducible exact LeO.none _)
      | (with_reducible refine LeO.ite ?_ ?_)
      | (with_reducible refine LeO.bind ?_ (fun _ => ?_))
      | exact ih0 _ _ _ _ _ _
      | exact ih1 _ _ _ _ _ _
      | exact ih2 _ _ _ _ _ _ _ _ _ _
      | exact impl_CountOf.mono _ _ _
      | exact impl_FillTable.mono _ _
      | exact impl_MovedOf.mono _ _ _
      | exact impl_WithoutShare.mono _ _ _
      | exact spec_DrawWithoutShare.mono _ _
      | exact spec_WithoutShare.mono _ _ _
      | exact LeO.none _
      | refine LeO.ite ?_ ?_
      | refine LeO.bind ?_ (fun _ => ?_)
    · intro y0 y1 y2 y3 y4 y5
      unfold laws_FnLooks.l0
      repeat' first
      | (with_reducible exact ih0 _ _ _ _ _ _)
      | (with_reducible exact ih1 _ _ _ _ _ _)
      | (with_reducible exact ih2 _ _ _ _ _ _ _ _ _ _)
      | (with_reducible exact impl_CountOf.mono _ _ _)
      | (with_reducible exact impl_FillTable.mono _ _)
      | (with_reducible exact impl_MovedOf.mono _ _ _)
      | (with_reducible exact impl_WithoutShare.mono _ _ _)
      | (with_reducible exact spec_DrawWithoutShare.mono _ _)
      | (with_reducible exact spec_WithoutShare.mono _ _ _)
      | (with_reducible exact LeO.refl _)
      | (with_reducible exact LeO.none _)
      | (with_reducible refine LeO.ite ?_ ?_)
      | (with_reducible refine LeO.bind ?_ (fun _ => ?_))
      | exact ih0 _ _ _ _ _ _
      | exact ih1 _ _ _ _ _ _
      | exact ih2 _ _ _ _ _ _ _ _ _ _
      | exact impl_CountOf.mono _ _ _
      | exact impl_FillTable.mono _ _
      | exact impl_MovedOf.mono _ _ _
      | exact impl_WithoutShare.mono _ _ _
      | exact spec_DrawWithoutShare.mono _ _
      | exact spec_WithoutShare.mono _ _ _
      | exact LeO.none _
      | refine LeO.ite ?_ ?_
      | refine LeO.bind ?_ (fun _ => ?_)
    · intro y0 y1 y2 y3 y4 y5 y6 y7 y8 y9
      unfold laws_FnLooks.l1
      repeat' first
      | (with_reducible exact ih0 _ _ _ _ _ _)
      | (with_reducible exact ih1 _ _ _ _ _ _)
      | (with_reducible exact ih2 _ _ _ _ _ _ _ _ _ _)
      | (with_reducible exact impl_CountOf.mono _ _ _)
      | (with_reducible exact impl_FillTable.mono _ _)
      | (with_reducible exact impl_MovedOf.mono _ _ _)
      | (with_reducible exact impl_WithoutShare.mono _ _ _)
      | (with_reducible exact spec_DrawWithoutShare.mono _ _)
      | (with_reducible exact spec_WithoutShare.mono _ _ _)
      | (with_reducible exact LeO.refl _)
      | (with_reducible exact LeO.none _)
      | (with_reducible refine LeO.ite ?_ ?_)
      | (with_reducible refine LeO.bind ?_ (fun _ => ?_))
      | exact ih0 _ _ _ _ _ _
      | exact ih1 _ _ _ _ _ _
      | exact ih2 _ _ _ _ _ _ _ _ _ _
      | exact impl_CountOf.mono _ _ _
      | exact impl_FillTable.mono _ _
      | exact impl_MovedOf.mono _ _ _
      | exact impl_WithoutShare.mono _ _ _
      | exact spec_DrawWithoutShare.mono _ _
      | exact spec_WithoutShare.mono _ _ _
      | exact LeO.none _
      | refine LeO.ite ?_ ?_
      | refine LeO.bind ?_ (fun _ => ?_)
theorem laws_FnLooks.mono : ∀ a0 k, LeO (laws_FnLooks.f k a0) (laws_FnLooks.f (k + 1) a0) := by
  intro a0 k
  obtain ⟨ih0, ih1, ih2⟩ := laws_FnLooks.mono_l k
  unfold laws_FnLooks.f
  repeat' first
      | (with_reducible exact ih0 _ _ _ _ _ _)
      | (with_reducible exact ih1 _ _ _ _ _ _)
      | (with_reducible exact ih2 _ _ _ _ _ _ _ _ _ _)
      | (with_reducible exact impl_CountOf.mono _ _ _)
      | (with_reducible exact impl_FillTable.mono _ _)
      | (with_reducible exact impl_MovedOf.mono _ _ _)
      | (with_reducible exact impl_WithoutShare.mono _ _ _)
      | (with_reducible exact spec_DrawWithoutShare.mono _ _)
      | (with_reducible exact spec_WithoutShare.mono _ _ _)
      | (with_reducible exact LeO.refl _)
      | (with_reducible exact LeO.none _)
      | (with_reducible refine LeO.ite ?_ ?_)
      | (with_reducible refine LeO.bind ?_ (fun _ => ?_))
      | exact ih0 _ _ _ _ _ _
      | exact ih1 _ _ _ _ _ _
      | exact ih2 _ _ _ _ _ _ _ _ _ _
      | exact impl_CountOf.mono _ _ _
      | exact impl_FillTable.mono _ _
      | exact impl_MovedOf.mono _ _ _
      | exact impl_WithoutShare.mono _ _ _
      | exact spec_DrawWithoutShare.mono _ _
      | exact spec_WithoutShare.mono _ _ _
      | exact LeO.none _
      | refine LeO.ite ?_ ?_
      | refine LeO.bind ?_ (fun _ => ?_)
def laws_FnLooks.T6 : Bool × List (List Nat × List Nat) := (true, [([], []), ([], []), ([0, 1], [0, 1]), ([2], [2]), ([], []), ([4], [4]), ([3, 5], [3, 5]), ([6, 2, 0, 1, 2, 3, 4, 5, 6], [6])])
def laws_FnLooks.B6 : List Nat := [0, 0, 3, 7, 0, 16, 63, 127]
theorem laws_FnLooks.tab6 : rtab .any (opsOf Try.f8 6) = laws_FnLooks.T6 := by kernel_rfl
theorem laws_FnLooks.bits6 : waitsOk laws_FnLooks.T6.2 laws_FnLooks.B6 = true := by kernel_rfl
def laws_FnLooks.T10 : Bool × List (List Nat × List Nat) := (true, [([], []), ([0], [0]), ([1], [1]), ([2], [2]), ([3], [3]), ([4, 3], [3, 4]), ([5, 3], [3, 5]), ([3, 6], [3, 6]), ([7, 3], [7]), ([8], [8]), ([9, 8], [8, 9]), ([8], [8]), ([10, 11, 8, 8], [8, 10, 11]), ([12, 8], [8, 12]), ([8, 13], [8, 13]), ([14, 12], [14]), ([15], [15]), ([16, 15], [15, 16]), ([17, 15], [15, 17]), ([15, 18], [15, 18]), ([19, 15], [19]), ([20], [20]), ([21, 20], [20, 21]), ([20], [20]), ([23, 20], [20, 23]), ([20], [20]), ([24, 25, 20, 20], [20, 24, 25]), ([22, 26, 20], [20, 22, 26]), ([20, 27], [20, 27])])
def laws_FnLooks.B10 : List Nat := [0, 1, 3, 7, 15, 31, 63, 127, 255, 511, 1023, 511, 4095, 8191, 16383, 32767, 65535, 131071, 262143, 524287, 1048575, 2097151, 4194303, 2097151, 10485759, 2097151, 60817407, 134217727, 268435455]
theorem laws_FnLooks.tab10 : rtab .any (opsOf Try.f8 10) = laws_FnLooks.T10 := by kernel_rfl
theorem laws_FnLooks.bits10 : waitsOk laws_FnLooks.T10.2 laws_FnLooks.B10 = true := by kernel_rfl
def laws_FnLooks.T20 : Bool × List (List Nat × List Nat) := (true, [([], []), ([0], [0]), ([1], [1]), ([1], [1]), ([2, 3, 1], [1, 2, 3]), ([4, 1], [1, 4]), ([5, 1], [1, 5]), ([1], [1]), ([7, 1], [1, 7]), ([6, 8, 1], [1, 6, 8]), ([9, 1, 1], [1, 9]), ([10], [10]), ([10], [10]), ([11, 12, 10], [10, 11, 12]), ([13, 10], [10, 13]), ([14, 10], [10, 14]), ([15, 10], [10, 15]), ([10, 16, 1], [1, 10, 16]), ([1, 17], [1, 17]), ([18, 10, 0, 1, 2, 3, 4, 5, 6, 7, 8, 9, 10, 11, 12, 13, 14, 15, 16, 17, 18], [0, 18])])
def laws_FnLooks.B20 : List Nat := [0, 1, 3, 3, 15, 31, 63, 3, 131, 511, 1023, 2047, 2047, 8191, 16383, 32767, 65535, 131071, 262143, 524287]
theorem laws_FnLooks.tab20 : rtab .any (opsOf Try.f8 20) = laws_FnLooks.T20 := by kernel_rfl
theorem laws_FnLooks.bits20 : waitsOk laws_FnLooks.T20.2 laws_FnLooks.B20 = true := by kernel_rfl
set_option maxHeartbeats 8000000 in
set_option maxRecDepth 100000 in
theorem laws_FnLooks.calls (k : Nat) (A0 : Option Addr) (c0 : Nat) (l0 : List Int) (r : Bool) (w : World) (hr0 : Kd.C (Kd.int .u8) w A0 l0.length l0) (hc0 : l0.length ≤ c0) (h : laws_FnLooks.f k l0 = some r) :
    Calls Try.prog 8 #[J A0 l0.length c0] w fun e w' => e = .returned (.bool r) ∧ Below w.heap.size w w' := by
  have hu30 := Try.underlying30
  have hu45 := Try.underlying45
  have hu58 := Try.underlying58
  have HR0 := am hr0
  have HC0 := am hc0
  clear hr0 hc0
  have HB := am (Below.refl w.heap.size w)
  have H : ((laws_lwBig.f l0).bind fun t263 => (if t263 = true then (some true) else ((spec_DrawWithoutShare.f k l0).bind fun bt264 => ((impl_WithoutShare.f k bt264.1 bt264.2).bind fun bt268 => (if bt268.1 = 0 then ((impl_FillTable.f k bt264.1).bind fun bt277 => ((impl_FillTable.f k bt268.2).bind fun bt282 => ((impl_MovedOf.f k bt277.2 bt282.2).bind fun bt287 => (if bt277.1 = 0 then (if bt282.1 = 0 then ((impl_CountOf.f k bt282.2 bt264.2).bind fun t290 => (if t290 = 0 then (if bt287.1 = 0 then ((impl_CountOf.f k bt277.2 bt264.2).bind fun t291 => (laws_FnLooks.j0 k bt264.1 (decide (bt287.2 < t291)) bt268.1 bt268.2 bt277.1 bt277.2)) else (laws_FnLooks.j0 k bt264.1 true bt268.1 bt268.2 bt277.1 bt277.2)) else (laws_FnLooks.j0 k bt264.1 true bt268.1 bt268.2 bt277.1 bt277.2))) else (laws_FnLooks.j0 k bt264.1 true bt268.1 bt268.2 bt277.1 bt277.2)) else (laws_FnLooks.j0 k bt264.1 true bt268.1 bt268.2 bt277.1 bt277.2))))) else ((spec_WithoutShare.f k bt264.1 bt264.2).bind fun bt273 => (some (bt273.1 == bt268.1)))))))) = some r := h
  clear h
  replace H := Option.bind_eq_some_iff.mp H
  obtain ⟨t263, A20, H⟩ := H
  replace H : (if t263 = true then (some true) else ((spec_DrawWithoutShare.f k l0).bind fun bt264 => ((impl_WithoutShare.f k bt264.1 bt264.2).bind fun bt268 => (if bt268.1 = 0 then ((impl_FillTable.f k bt264.1).bind fun bt277 => ((impl_FillTable.f k bt268.2).bind fun bt282 => ((impl_MovedOf.f k bt277.2 bt282.2).bind fun bt287 => (if bt277.1 = 0 then (if bt282.1 = 0 then ((impl_CountOf.f k bt282.2 bt264.2).bind fun t290 => (if t290 = 0 then (if bt287.1 = 0 then ((impl_CountOf.f k bt277.2 bt264.2).bind fun t291 => (laws_FnLooks.j0 k bt264.1 (decide (bt287.2 < t291)) bt268.1 bt268.2 bt277.1 bt277.2)) else (laws_FnLooks.j0 k bt264.1 true bt268.1 bt268.2 bt277.1 bt277.2)) else (laws_FnLooks.j0 k bt264.1 true bt268.1 bt268.2 bt277.1 bt277.2))) else (laws_FnLooks.j0 k bt264.1 true bt268.1 bt268.2 bt277.1 bt277.2)) else (laws_FnLooks.j0 k bt264.1 true bt268.1 bt268.2 bt277.1 bt277.2))))) else ((spec_WithoutShare.f k bt264.1 bt264.2).bind fun bt273 => (some (bt273.1 == bt268.1))))))) = some r := H
  have A2 := am A20
  clear A20
  by_cases c3 : t263 = true
  · subst c3
    have H1 : (some true) = some r := by rw [if_pos rfl] at H; exact H
    clear H
    have H := H1
    clear H1
    obtain rfl := Option.some.inj H
    go_enter Try.func8, Try.ntmps8
    go_wp2_with (first | ((with_reducible refine gate_callee (f := 30) rfl ?_); refine goesL_ (some 14) rfl rfl Try.func30 (by kernel_rfl) rfl #[J A0 l0.length c0] rfl (by (try simp only [List.map_toArray, List.map_cons, List.map_nil]); first | done | rfl) ?_; (with_reducible refine (laws_lwBig.calls _ _ l0 true _ ?side1 ?side2 A2.out).mono ?_); (case side1 => repeat (first | exact HR0.out | (with_reducible refine ca ?_ _) | (with_reducible refine cN ?_ _) | (with_reducible refine cd1 ?_))); (case side2 => exact HC0.out); rintro e w' ⟨rfl, ⟨nd, rfl⟩⟩; refine ⟨_, rfl, ?_⟩))
    go_ret
    exact ⟨by first | rfl | (simp [errW_none, errW_some] <;> rfl) | (simp [*, errW_none, errW_some] <;> rfl), by repeat (first | (with_reducible first | exact HB.out | apply pa | apply pN | apply p1) | exact HB.out)⟩
  · replace c3 := Bool.eq_false_iff.mpr c3
    subst c3
    have H1 : ((spec_DrawWithoutShare.f k l0).bind fun bt264 => ((impl_WithoutShare.f k bt264.1 bt264.2).bind fun bt268 => (if bt268.1 = 0 then ((impl_FillTable.f k bt264.1).bind fun bt277 => ((impl_FillTable.f k bt268.2).bind fun bt282 => ((impl_MovedOf.f k bt277.2 bt282.2).bind fun bt287 => (if bt277.1 = 0 then (if bt282.1 = 0 then ((impl_CountOf.f k bt282.2 bt264.2).bind fun t290 => (if t290 = 0 then (if bt287.1 = 0 then ((impl_CountOf.f k bt277.2 bt264.2).bind fun t291 => (laws_FnLooks.j0 k bt264.1 (decide (bt287.2 < t291)) bt268.1 bt268.2 bt277.1 bt277.2)) else (laws_FnLooks.j0 k bt264.1 true bt268.1 bt268.2 bt277.1 bt277.2)) else (laws_FnLooks.j0 k bt264.1 true bt268.1 bt268.2 bt277.1 bt277.2))) else (laws_FnLooks.j0 k bt264.1 true bt268.1 bt268.2 bt277.1 bt277.2)) else (laws_FnLooks.j0 k bt264.1 true bt268.1 bt268.2 bt277.1 bt277.2))))) else ((spec_WithoutShare.f k bt264.1 bt264.2).bind fun bt273 => (some (bt273.1 == bt268.1)))))) = some r := by rw [if_neg (show ¬ (false = true) by decide)] at H; exact H
    clear H
    have H := H1
    clear H1
    replace H := Option.bind_eq_some_iff.mp H
    obtain ⟨⟨t264, t265⟩, A40, H⟩ := H
    replace H : ((impl_WithoutShare.f k t264 t265).bind fun bt268 => (if bt268.1 = 0 then ((impl_FillTable.f k t264).bind fun bt277 => ((impl_FillTable.f k bt268.2).bind fun bt282 => ((impl_MovedOf.f k bt277.2 bt282.2).bind fun bt287 => (if bt277.1 = 0 then (if bt282.1 = 0 then ((impl_CountOf.f k bt282.2 t265).bind fun t290 => (if t290 = 0 then (if bt287.1 = 0 then ((impl_CountOf.f k bt277.2 t265).bind fun t291 => (laws_FnLooks.j0 k t264 (decide (bt287.2 < t291)) bt268.1 bt268.2 bt277.1 bt277.2)) else (laws_FnLooks.j0 k t264 true bt268.1 bt268.2 bt277.1 bt277.2)) else (laws_FnLooks.j0 k t264 true bt268.1 bt268.2 bt277.1 bt277.2))) else (laws_FnLooks.j0 k t264 true bt268.1 bt268.2 bt277.1 bt277.2)) else (laws_FnLooks.j0 k t264 true bt268.1 bt268.2 bt277.1 bt277.2))))) else ((spec_WithoutShare.f k t264 t265).bind fun bt273 => (some (bt273.1 == bt268.1))))) = some r := H
    have A4 := am A40
    clear A40
    replace H := Option.bind_eq_some_iff.mp H
    obtain ⟨⟨t268, t269⟩, A50, H⟩ := H
    replace H : (if t268 = 0 then ((impl_FillTable.f k t264).bind fun bt277 => ((impl_FillTable.f k t269).bind fun bt282 => ((impl_MovedOf.f k bt277.2 bt282.2).bind fun bt287 => (if bt277.1 = 0 then (if bt282.1 = 0 then ((impl_CountOf.f k bt282.2 t265).bind fun t290 => (if t290 = 0 then (if bt287.1 = 0 then ((impl_CountOf.f k bt277.2 t265).bind fun t291 => (laws_FnLooks.j0 k t264 (decide (bt287.2 < t291)) t268 t269 bt277.1 bt277.2)) else (laws_FnLooks.j0 k t264 true t268 t269 bt277.1 bt277.2)) else (laws_FnLooks.j0 k t264 true t268 t269 bt277.1 bt277.2))) else (laws_FnLooks.j0 k t264 true t268 t269 bt277.1 bt277.2)) else (laws_FnLooks.j0 k t264 true t268 t269 bt277.1 bt277.2))))) else ((spec_WithoutShare.f k t264 t265).bind fun bt273 => (some (bt273.1 == t268)))) = some r := H
    have A5 := am A50
    clear A50
    by_cases c6 : t268 = 0
    · rw [if_pos c6] at H
      have c6b0 : (t268 == 0) = true := beq_iff_eq.mpr c6
      have c6b1 : (t268 != 0) = false := bne_eq_false_iff_eq.mpr c6
      clear c6
      replace H := Option.bind_eq_some_iff.mp H
      obtain ⟨⟨t277, t278⟩, A70, H⟩ := H
      replace H : ((impl_FillTable.f k t269).bind fun bt282 => ((impl_MovedOf.f k t278 bt282.2).bind fun bt287 => (if t277 = 0 then (if bt282.1 = 0 then ((impl_CountOf.f k bt282.2 t265).bind fun t290 => (if t290 = 0 then (if bt287.1 = 0 then ((impl_CountOf.f k t278 t265).bind fun t291 => (laws_FnLooks.j0 k t264 (decide (bt287.2 < t291)) t268 t269 t277 t278)) else (laws_FnLooks.j0 k t264 true t268 t269 t277 t278)) else (laws_FnLooks.j0 k t264 true t268 t269 t277 t278))) else (laws_FnLooks.j0 k t264 true t268 t269 t277 t278)) else (laws_FnLooks.j0 k t264 true t268 t269 t277 t278)))) = some r := H
      have A7 := am A70
      clear A70
      replace H := Option.bind_eq_some_iff.mp H
      obtain ⟨⟨t282, t283⟩, A80, H⟩ := H
      replace H : ((impl_MovedOf.f k t278 t283).bind fun bt287 => (if t277 = 0 then (if t282 = 0 then ((impl_CountOf.f k t283 t265).bind fun t290 => (if t290 = 0 then (if bt287.1 = 0 then ((impl_CountOf.f k t278 t265).bind fun t291 => (laws_FnLooks.j0 k t264 (decide (bt287.2 < t291)) t268 t269 t277 t278)) else (laws_FnLooks.j0 k t264 true t268 t269 t277 t278)) else (laws_FnLooks.j0 k t264 true t268 t269 t277 t278))) else (laws_FnLooks.j0 k t264 true t268 t269 t277 t278)) else (laws_FnLooks.j0 k t264 true t268 t269 t277 t278))) = some r := H
      have A8 := am A80
      clear A80
      replace H := Option.bind_eq_some_iff.mp H
      obtain ⟨⟨t287, t288⟩, A90, H⟩ := H
      replace H : (if t277 = 0 then (if t282 = 0 then ((impl_CountOf.f k t283 t265).bind fun t290 => (if t290 = 0 then (if t287 = 0 then ((impl_CountOf.f k t278 t265).bind fun t291 => (laws_FnLooks.j0 k t264 (decide (t288 < t291)) t268 t269 t277 t278)) else (laws_FnLooks.j0 k t264 true t268 t269 t277 t278)) else (laws_FnLooks.j0 k t264 true t268 t269 t277 t278))) else (laws_FnLooks.j0 k t264 true t268 t269 t277 t278)) else (laws_FnLooks.j0 k t264 true t268 t269 t277 t278)) = some r := H
      have A9 := am A90
      clear A90
      have HC10 := am H
      clear H
      go_enter Try.func8, Try.ntmps8
      go_upto_region 10 with (first | ((with_reducible refine gate_callee (f := 30) rfl ?_); refine goesL_ (some 14) rfl rfl Try.func30 (by kernel_rfl) rfl #[J A0 l0.length c0] rfl (by (try simp only [List.map_toArray, List.map_cons, List.map_nil]); first | done | rfl) ?_; (with_reducible refine (laws_lwBig.calls _ _ l0 false _ ?side1 ?side2 A2.out).mono ?_); (case side1 => repeat (first | exact HR0.out | (with_reducible refine ca ?_ _) | (with_reducible refine cN ?_ _) | (with_reducible refine cd1 ?_))); (case side2 => exact HC0.out); rintro e w' ⟨rfl, ⟨nd, rfl⟩⟩; refine ⟨_, rfl, ?_⟩) | ((with_reducible refine gate_callee (f := 33) rfl ?_); refine goesL_ (some 17) rfl rfl Try.func33 (by kernel_rfl) rfl #[J A0 l0.length c0] rfl (by (try simp only [List.map_toArray, List.map_cons, List.map_nil]); first | done | rfl) ?_; (with_reducible refine (spec_DrawWithoutShare.calls k _ _ l0 t264 t265 _ ?side1 ?side2 A4.out).mono ?_); (case side1 => repeat (first | exact HR0.out | (with_reducible refine ca ?_ _) | (with_reducible refine cN ?_ _) | (with_reducible refine cd1 ?_))); (case side2 => exact HC0.out); rintro e w11 ⟨v266, rfl, ho0, hb⟩; refine ⟨_, rfl, ?_⟩; have N0 := am (rw1 ho0 (bz (by repeat (first | (with_reducible first | exact HB.out | apply pa | apply pN | apply p1) | exact HB.out)))); have N1 := am (bp (by repeat (first | (with_reducible first | exact HB.out | apply pa | apply pN | apply p1) | exact HB.out)) hb); clear HB; have O267 := N0; have HB := N1; clear N0 N1; (try clear hb); (try clear hb2); (try clear hk); (try clear hi); (try clear ho0); obtain ⟨Ao12, co12, eo12⟩ := Kd.R_slice O267.out; subst eo12) | ((with_reducible refine gate_callee (f := 15) rfl ?_); refine goesL_ (some 22) rfl rfl Try.func15 (by kernel_rfl) rfl #[J Ao12 t264.length co12, I q t265] rfl (by (try simp only [List.map_toArray, List.map_cons, List.map_nil]); first | done | rfl) ?_; (with_reducible refine (impl_WithoutShare.calls k _ _ t264 t265 t268 t269 _ ?side1 ?side2 A5.out).mono ?_); (case side1 => repeat (first | exact (Kd.R_reads' O267.out).2.2 | (with_reducible refine ca ?_ _) | (with_reducible refine cN ?_ _) | (with_reducible refine cd1 ?_))); (case side2 => exact (Kd.R_reads' O267.out).2.1); rintro e w13 ⟨v270, rfl, ho0, hb⟩; refine ⟨_, rfl, ?_⟩; have N0 := am (re (by (with_reducible repeat (first | apply ra | apply rN | apply rd1)); exact O267.out) (Kd.R_base ho0) hb); have N1 := am (rw1 (rn ho0 (rl (by (with_reducible repeat (first | apply ra | apply rN | apply rd1)); exact O267.out))) (bz (by repeat (first | (with_reducible first | exact HB.out | apply pa | apply pN | apply p1) | exact HB.out)))); have N2 := am (bp (by repeat (first | (with_reducible first | exact HB.out | apply pa | apply pN | apply p1) | exact HB.out)) hb); clear O267 HB; have O267 := N0; have O271 := N1; have HB := N2; clear N0 N1 N2; (try clear hb); (try clear hb2); (try clear hk); (try clear hi); (try clear ho0)) | ((with_reducible refine gate_dst (N := 5) rfl ?_); refine box_event ?hg (N := 5) ?hd (cs := #[I q 0, .slice none 0 0]) (t := 30) ?hr ?_; (case hd => rfl); (case hg => rfl); (case hr => first | (go_simp; done) | (go_simp; rfl)); intro g272 hg w14 hbox hb; have N0 := am (rb (by (with_reducible repeat (first | apply ra | apply rN | apply rd1)); exact O267.out) hb); have N1 := am (rb (by (with_reducible repeat (first | apply ra | apply rN | apply rd1)); exact O271.out) hb); have N2 := am (bp (by repeat (first | (with_reducible first | exact HB.out | apply pa | apply pN | apply p1) | exact HB.out)) hb); have N3 := am (hbox); have N4 := am ((by rw [hg]; exact (bz (by repeat (first | (with_reducible first | exact HB.out | apply pa | apply pN | apply p1) | exact HB.out))) : w.heap.size ≤ g272)); have N5 := am ((by rw [hg]; exact (bz (by repeat (first | (with_reducible first | exact HB.out | apply pa | apply pN | apply p1) | exact HB.out))) : w.heap.size ≤ g272)); clear O267 O271 HB; have O267 := N0; have O271 := N1; have HB := N2; have B272 := N3; have GW272 := N4; have E272 := N5; clear N0 N1 N2 N3 N4 N5 hb hbox hg; have hcz15_0 : w14.cell? ⟨g272, 0, none⟩ = some (I q 0) := (bc B272.out 0).trans rfl; have hcz15_1 : w14.cell? ⟨g272, 1, none⟩ = some (.slice none 0 0) := (bc B272.out 1).trans rfl; have hfz15_0 := bf B272.out 0; have hfz15_1 := bf B272.out 1; obtain ⟨Ao16, co16, eo16⟩ := Kd.R_slice O271.out; subst eo16) | ((with_reducible refine gate_callee (f := 26) rfl ?_); refine goesL_ (some 34) rfl rfl Try.func26 (by kernel_rfl) rfl #[J Ao12 t264.length co12] rfl (by (try simp only [List.map_toArray, List.map_cons, List.map_nil]); first | done | rfl) ?_; (with_reducible refine (impl_FillTable.calls k _ _ t264 t277 t278 _ ?side1 ?side2 A7.out).mono ?_); (case side1 => refine (Kd.R_reads' (e := 53) (base := w.heap.size) (ok := fun k_ => (True ∧ some k_ ≠ (J Ao16 t269.length co16 : Value).ownBlock)) (n := t264.length) (c := co12) ?_).2.2; exact (by (with_reducible repeat (first | apply ra | apply rN | apply rd1)); exact (Kd.R_mono (rf (p := ⟨g272, 1, none⟩) (rf (p := ⟨g272, 0, none⟩) (Kd.R_types O267.out B272.out (by decide)) (fun _ hk => hk.2) (I q t268)) (fun _ hk => hk.2) (J Ao16 t269.length co16)) (fun _ h_ => h_.1)))); (case side2 => exact (Kd.R_reads' O267.out).2.1); rintro e w17 ⟨v279, rfl, ho0, hb⟩; refine ⟨_, rfl, ?_⟩; have N0 := am (rb (by (with_reducible repeat (first | apply ra | apply rN | apply rd1)); exact (Kd.R_mono (rf (p := ⟨g272, 1, none⟩) (rf (p := ⟨g272, 0, none⟩) (Kd.R_types O267.out B272.out (by decide)) (fun _ hk => hk.2) (I q t268)) (fun _ hk => hk.2) (J Ao16 t269.length co16)) (fun _ h_ => h_.1))) hb); have N1 := am (rb (by (with_reducible repeat (first | apply ra | apply rN | apply rd1)); exact (Kd.R_mono (rf (p := ⟨g272, 1, none⟩) (rf (p := ⟨g272, 0, none⟩) (Kd.R_types O271.out B272.out (by decide)) (fun _ hk => hk.2) (I q t268)) (fun _ hk => hk.2) (J Ao16 t269.length co16)) (fun _ h_ => h_.1))) hb); have N2 := am (rw1 ho0 (bz (by repeat (first | (with_reducible first | exact HB.out | apply pa | apply pN | apply p1 | refine bs ?_ E272.out) | exact HB.out)))); have N3 := am (bb (g := g272) (o := .cells #[I q t268, J Ao16 t269.length co16] 30 (0, 0)) (by (with_reducible repeat (first | apply bN | apply bd | apply ba)); refine blk_put (cs := #[I q t268, .slice none 0 0]) ?_ 1 _ rfl; (with_reducible repeat (first | apply bN | apply bd | apply ba)); refine blk_put (cs := #[I q 0, .slice none 0 0]) ?_ 0 _ rfl; (with_reducible repeat (first | apply bN | apply bd | apply ba)); exact B272.out) hb); have N4 := am (bp (by repeat (first | (with_reducible first | exact HB.out | apply pa | apply pN | apply p1 | refine bs ?_ E272.out) | exact HB.out)) hb); clear O267 O271 B272 HB; have O267 := N0; have O271 := N1; have O280 := N2; have B272 := N3; have HB := N4; clear N0 N1 N2 N3 N4; (try clear hb); (try clear hb2); (try clear hk); (try clear hi); (try clear ho0)) | ((with_reducible refine gate_dst (N := 6) rfl ?_); refine box_event ?hg (N := 6) ?hd (cs := #[I q 0, .slice none 0 0]) (t := 45) ?hr ?_; (case hd => rfl); (case hg => rfl); (case hr => first | (go_simp; done) | (go_simp; rfl)); intro g281 hg w18 hbox hb; have N0 := am (rb (by (with_reducible repeat (first | apply ra | apply rN | apply rd1)); exact O267.out) hb); have N1 := am (rb (by (with_reducible repeat (first | apply ra | apply rN | apply rd1)); exact O271.out) hb); have N2 := am (rb (by (with_reducible repeat (first | apply ra | apply rN | apply rd1)); exact O280.out) hb); have N3 := am (bb (g := g272) (by (with_reducible repeat (first | apply bN | apply bd | apply ba)); exact B272.out) hb); have N4 := am (bp (by repeat (first | (with_reducible first | exact HB.out | apply pa | apply pN | apply p1 | refine bs ?_ E272.out) | exact HB.out)) hb); have N5 := am (hbox); have N6 := am ((by rw [hg]; exact (bz (by repeat (first | (with_reducible first | exact HB.out | apply pa | apply pN | apply p1 | refine bs ?_ E272.out) | exact HB.out))) : w.heap.size ≤ g281)); have N7 := am ((by rw [hg]; exact (bz (by repeat (first | (with_reducible first | exact HB.out | apply pa | apply pN | apply p1 | refine bs ?_ E272.out) | exact HB.out))) : w.heap.size ≤ g281)); have N8 := am ((by rw [hg]; exact Nat.ne_of_lt (bl (g := g272) (by (with_reducible repeat (first | apply bN | apply bd | apply ba)); exact B272.out)) : g272 ≠ g281)); have N9 := am ((by rw [hg]; exact Nat.ne_of_gt (bl (g := g272) (by (with_reducible repeat (first | apply bN | apply bd | apply ba)); exact B272.out)) : g281 ≠ g272)); clear O267 O271 O280 B272 HB; have O267 := N0; have O271 := N1; have O280 := N2; have B272 := N3; have HB := N4; have B281 := N5; have GW281 := N6; have E281 := N7; have NB272_281 := N8; have NB281_272 := N9; clear N0 N1 N2 N3 N4 N5 N6 N7 N8 N9 hb hbox hg; have hnb19 := NB281_272.out; have hnc19 := NB272_281.out; have hcz20_0 : w18.cell? ⟨g281, 0, none⟩ = some (I q 0) := (bc B281.out 0).trans rfl; have hcz20_1 : w18.cell? ⟨g281, 1, none⟩ = some (.slice none 0 0) := (bc B281.out 1).trans rfl; have hfz20_0 := bf B281.out 0; have hfz20_1 := bf B281.out 1; obtain ⟨Ao21, co21, eo21⟩ := Kd.R_slice O280.out; subst eo21; have hcz22_0 : w18.cell? ⟨g272, 0, none⟩ = some (I q t268) := (bc B272.out 0).trans rfl; have hcz22_1 : w18.cell? ⟨g272, 1, none⟩ = some (J Ao16 t269.length co16) := (bc B272.out 1).trans rfl; have hfz22_0 := bf B272.out 0; have hfz22_1 := bf B272.out 1) | ((with_reducible refine gate_callee (f := 26) rfl ?_); refine goesL_ (some 37) rfl rfl Try.func26 (by kernel_rfl) rfl #[J Ao16 t269.length co16] rfl (by (try simp only [List.map_toArray, List.map_cons, List.map_nil]); first | done | rfl) ?_; (with_reducible refine (impl_FillTable.calls k _ _ t269 t282 t283 _ ?side1 ?side2 A8.out).mono ?_); (case side1 => refine (Kd.R_reads' (e := 53) (base := w.heap.size) (ok := fun k_ => (True ∧ some k_ ≠ (J Ao12 t264.length co12 : Value).ownBlock)) (n := t269.length) (c := co16) ?_).2.2; exact (by (with_reducible repeat (first | apply ra | apply rN | apply rd1)); exact (Kd.R_mono (rf (p := ⟨g281, 1, none⟩) (rf (p := ⟨g281, 0, none⟩) (Kd.R_types O271.out B281.out (by decide)) (fun _ hk => hk.2) (I q t277)) (fun _ hk => hk.2) (J Ao21 t278.length co21)) (fun _ h_ => h_.1)))); (case side2 => exact (Kd.R_reads' O271.out).2.1); rintro e w23 ⟨v284, rfl, ho0, hb⟩; refine ⟨_, rfl, ?_⟩; have N0 := am (rb (by (with_reducible repeat (first | apply ra | apply rN | apply rd1)); exact (Kd.R_mono (rf (p := ⟨g281, 1, none⟩) (rf (p := ⟨g281, 0, none⟩) (Kd.R_types O267.out B281.out (by decide)) (fun _ hk => hk.2) (I q t277)) (fun _ hk => hk.2) (J Ao21 t278.length co21)) (fun _ h_ => h_.1))) hb); have N1 := am (rb (by (with_reducible repeat (first | apply ra | apply rN | apply rd1)); exact (Kd.R_mono (rf (p := ⟨g281, 1, none⟩) (rf (p := ⟨g281, 0, none⟩) (Kd.R_types O271.out B281.out (by decide)) (fun _ hk => hk.2) (I q t277)) (fun _ hk => hk.2) (J Ao21 t278.length co21)) (fun _ h_ => h_.1))) hb); have N2 := am (re (by (with_reducible repeat (first | apply ra | apply rN | apply rd1)); exact (Kd.R_mono (rf (p := ⟨g281, 1, none⟩) (rf (p := ⟨g281, 0, none⟩) (Kd.R_types O280.out B281.out (by decide)) (fun _ hk => hk.2) (I q t277)) (fun _ hk => hk.2) (J Ao21 t278.length co21)) (fun _ h_ => h_.1))) (Kd.R_base ho0) hb); have N3 := am (rw1 (rn ho0 (rl (by (with_reducible repeat (first | apply ra | apply rN | apply rd1)); exact (Kd.R_mono (rf (p := ⟨g281, 1, none⟩) (rf (p := ⟨g281, 0, none⟩) (Kd.R_types O280.out B281.out (by decide)) (fun _ hk => hk.2) (I q t277)) (fun _ hk => hk.2) (J Ao21 t278.length co21)) (fun _ h_ => h_.1))))) (bz (by repeat (first | (with_reducible first | exact HB.out | apply pa | apply pN | apply p1 | refine bs ?_ E272.out | refine bs ?_ E281.out) | exact HB.out)))); have N4 := am (bb (g := g272) (o := .cells #[I q t268, J Ao16 t269.length co16] 30 (0, 0)) (by (with_reducible repeat (first | apply bN | apply bd | apply ba)); refine bq ?_ NB272_281.out _; (with_reducible repeat (first | apply bN | apply bd | apply ba)); refine bq ?_ NB272_281.out _; (with_reducible repeat (first | apply bN | apply bd | apply ba)); exact B272.out) hb); have N5 := am (bb (g := g281) (o := .cells #[I q t277, J Ao21 t278.length co21] 45 (0, 0)) (by (with_reducible repeat (first | apply bN | apply bd | apply ba)); refine blk_put (cs := #[I q t277, .slice none 0 0]) ?_ 1 _ rfl; (with_reducible repeat (first | apply bN | apply bd | apply ba)); refine blk_put (cs := #[I q 0, .slice none 0 0]) ?_ 0 _ rfl; (with_reducible repeat (first | apply bN | apply bd | apply ba)); exact B281.out) hb); have N6 := am (bp (by repeat (first | (with_reducible first | exact HB.out | apply pa | apply pN | apply p1 | refine bs ?_ E272.out | refine bs ?_ E281.out) | exact HB.out)) hb); clear O267 O271 O280 B272 B281 HB; have O267 := N0; have O271 := N1; have O280 := N2; have O285 := N3; have B272 := N4; have B281 := N5; have HB := N6; clear N0 N1 N2 N3 N4 N5 N6; (try clear hb); (try clear hb2); (try clear hk); (try clear hi); (try clear ho0)) | ((with_reducible refine gate_dst (N := 7) rfl ?_); refine box_event ?hg (N := 7) ?hd (cs := #[I q 0, .slice none 0 0]) (t := 45) ?hr ?_; (case hd => rfl); (case hg => rfl); (case hr => first | (go_simp; done) | (go_simp; rfl)); intro g286 hg w24 hbox hb; have N0 := am (rb (by (with_reducible repeat (first | apply ra | apply rN | apply rd1)); exact O267.out) hb); have N1 := am (rb (by (with_reducible repeat (first | apply ra | apply rN | apply rd1)); exact O271.out) hb); have N2 := am (rb (by (with_reducible repeat (first | apply ra | apply rN | apply rd1)); exact O280.out) hb); have N3 := am (rb (by (with_reducible repeat (first | apply ra | apply rN | apply rd1)); exact O285.out) hb); have N4 := am (bb (g := g272) (by (with_reducible repeat (first | apply bN | apply bd | apply ba)); exact B272.out) hb); have N5 := am (bb (g := g281) (by (with_reducible repeat (first | apply bN | apply bd | apply ba)); exact B281.out) hb); have N6 := am (bp (by repeat (first | (with_reducible first | exact HB.out | apply pa | apply pN | apply p1 | refine bs ?_ E272.out | refine bs ?_ E281.out) | exact HB.out)) hb); have N7 := am (hbox); have N8 := am ((by rw [hg]; exact (bz (by repeat (first | (with_reducible first | exact HB.out | apply pa | apply pN | apply p1 | refine bs ?_ E272.out | refine bs ?_ E281.out) | exact HB.out))) : w.heap.size ≤ g286)); have N9 := am ((by rw [hg]; exact (bz (by repeat (first | (with_reducible first | exact HB.out | apply pa | apply pN | apply p1 | refine bs ?_ E272.out | refine bs ?_ E281.out) | exact HB.out))) : w.heap.size ≤ g286)); have N10 := am ((by rw [hg]; exact Nat.ne_of_lt (bl (g := g272) (by (with_reducible repeat (first | apply bN | apply bd | apply ba)); exact B272.out)) : g272 ≠ g286)); have N11 := am ((by rw [hg]; exact Nat.ne_of_gt (bl (g := g272) (by (with_reducible repeat (first | apply bN | apply bd | apply ba)); exact B272.out)) : g286 ≠ g272)); have N12 := am ((by rw [hg]; exact Nat.ne_of_lt (bl (g := g281) (by (with_reducible repeat (first | apply bN | apply bd | apply ba)); exact B281.out)) : g281 ≠ g286)); have N13 := am ((by rw [hg]; exact Nat.ne_of_gt (bl (g := g281) (by (with_reducible repeat (first | apply bN | apply bd | apply ba)); exact B281.out)) : g286 ≠ g281)); clear O267 O271 O280 O285 B272 B281 HB; have O267 := N0; have O271 := N1; have O280 := N2; have O285 := N3; have B272 := N4; have B281 := N5; have HB := N6; have B286 := N7; have GW286 := N8; have E286 := N9; have NB272_286 := N10; have NB286_272 := N11; have NB281_286 := N12; have NB286_281 := N13; clear N0 N1 N2 N3 N4 N5 N6 N7 N8 N9 N10 N11 N12 N13 hb hbox hg; have hnb25 := NB286_272.out; have hnc25 := NB272_286.out; have hnb26 := NB286_281.out; have hnc26 := NB281_286.out; have hcz27_0 : w24.cell? ⟨g286, 0, none⟩ = some (I q 0) := (bc B286.out 0).trans rfl; have hcz27_1 : w24.cell? ⟨g286, 1, none⟩ = some (.slice none 0 0) := (bc B286.out 1).trans rfl; have hfz27_0 := bf B286.out 0; have hfz27_1 := bf B286.out 1; obtain ⟨Ao28, co28, eo28⟩ := Kd.R_slice O285.out; subst eo28; have hcz29_0 : w24.cell? ⟨g281, 0, none⟩ = some (I q t277) := (bc B281.out 0).trans rfl; have hcz29_1 : w24.cell? ⟨g281, 1, none⟩ = some (J Ao21 t278.length co21) := (bc B281.out 1).trans rfl; have hfz29_0 := bf B281.out 0; have hfz29_1 := bf B281.out 1) | ((with_reducible refine gate_callee (f := 34) rfl ?_); refine goesL_ (some 42) rfl rfl Try.func34 (by kernel_rfl) rfl #[J Ao21 t278.length co21, J Ao28 t283.length co28] rfl (by (try simp only [List.map_toArray, List.map_cons, List.map_nil]); first | done | rfl) ?_; (with_reducible refine (impl_MovedOf.calls k _ _ t278 _ _ t283 t287 t288 _ ?side1 ?side2 ?side3 ?side4 A9.out).mono ?_); (case side1 => refine (Kd.R_reads' (e := 2) (base := w.heap.size) (ok := fun k_ => (True ∧ some k_ ≠ (J Ao28 t283.length co28 : Value).ownBlock)) (n := t278.length) (c := co21) ?_).2.2; exact (by (with_reducible repeat (first | apply ra | apply rN | apply rd1)); exact (Kd.R_mono (rf (p := ⟨g286, 1, none⟩) (rf (p := ⟨g286, 0, none⟩) (Kd.R_types O280.out B286.out (by decide)) (fun _ hk => hk.2) (I q t282)) (fun _ hk => hk.2) (J Ao28 t283.length co28)) (fun _ h_ => h_.1)))); (case side2 => exact (Kd.R_reads' O280.out).2.1); (case side3 => refine (Kd.R_reads' (e := 2) (base := w.heap.size) (ok := fun k_ => (True ∧ some k_ ≠ (J Ao21 t278.length co21 : Value).ownBlock)) (n := t283.length) (c := co28) ?_).2.2; exact (by (with_reducible repeat (first | apply ra | apply rN | apply rd1)); exact (Kd.R_mono (rf (p := ⟨g286, 1, none⟩) (rf (p := ⟨g286, 0, none⟩) (Kd.R_types O285.out B286.out (by decide)) (fun _ hk => hk.2) (I q t282)) (fun _ hk => hk.2) (J Ao28 t283.length co28)) (fun _ h_ => h_.1)))); (case side4 => exact (Kd.R_reads' O285.out).2.1); rintro e w30 ⟨rfl, hb⟩; refine ⟨_, rfl, ?_⟩; have N0 := am (rb (by (with_reducible repeat (first | apply ra | apply rN | apply rd1)); exact (Kd.R_mono (rf (p := ⟨g286, 1, none⟩) (rf (p := ⟨g286, 0, none⟩) (Kd.R_types O267.out B286.out (by decide)) (fun _ hk => hk.2) (I q t282)) (fun _ hk => hk.2) (J Ao28 t283.length co28)) (fun _ h_ => h_.1))) hb); have N1 := am (rb (by (with_reducible repeat (first | apply ra | apply rN | apply rd1)); exact (Kd.R_mono (rf (p := ⟨g286, 1, none⟩) (rf (p := ⟨g286, 0, none⟩) (Kd.R_types O271.out B286.out (by decide)) (fun _ hk => hk.2) (I q t282)) (fun _ hk => hk.2) (J Ao28 t283.length co28)) (fun _ h_ => h_.1))) hb); have N2 := am (rb (by (with_reducible repeat (first | apply ra | apply rN | apply rd1)); exact (Kd.R_mono (rf (p := ⟨g286, 1, none⟩) (rf (p := ⟨g286, 0, none⟩) (Kd.R_types O280.out B286.out (by decide)) (fun _ hk => hk.2) (I q t282)) (fun _ hk => hk.2) (J Ao28 t283.length co28)) (fun _ h_ => h_.1))) hb); have N3 := am (rb (by (with_reducible repeat (first | apply ra | apply rN | apply rd1)); exact (Kd.R_mono (rf (p := ⟨g286, 1, none⟩) (rf (p := ⟨g286, 0, none⟩) (Kd.R_types O285.out B286.out (by decide)) (fun _ hk => hk.2) (I q t282)) (fun _ hk => hk.2) (J Ao28 t283.length co28)) (fun _ h_ => h_.1))) hb); have N4 := am (bb (g := g272) (o := .cells #[I q t268, J Ao16 t269.length co16] 30 (0, 0)) (by (with_reducible repeat (first | apply bN | apply bd | apply ba)); refine bq ?_ NB272_286.out _; (with_reducible repeat (first | apply bN | apply bd | apply ba)); refine bq ?_ NB272_286.out _; (with_reducible repeat (first | apply bN | apply bd | apply ba)); exact B272.out) hb); have N5 := am (bb (g := g281) (o := .cells #[I q t277, J Ao21 t278.length co21] 45 (0, 0)) (by (with_reducible repeat (first | apply bN | apply bd | apply ba)); refine bq ?_ NB281_286.out _; (with_reducible repeat (first | apply bN | apply bd | apply ba)); refine bq ?_ NB281_286.out _; (with_reducible repeat (first | apply bN | apply bd | apply ba)); exact B281.out) hb); have N6 := am (bb (g := g286) (o := .cells #[I q t282, J Ao28 t283.length co28] 45 (0, 0)) (by (with_reducible repeat (first | apply bN | apply bd | apply ba)); refine blk_put (cs := #[I q t282, .slice none 0 0]) ?_ 1 _ rfl; (with_reducible repeat (first | apply bN | apply bd | apply ba)); refine blk_put (cs := #[I q 0, .slice none 0 0]) ?_ 0 _ rfl; (with_reducible repeat (first | apply bN | apply bd | apply ba)); exact B286.out) hb); have N7 := am (bp (by repeat (first | (with_reducible first | exact HB.out | apply pa | apply pN | apply p1 | refine bs ?_ E272.out | refine bs ?_ E281.out | refine bs ?_ E286.out) | exact HB.out)) hb); clear O267 O271 O280 O285 B272 B281 B286 HB; have O267 := N0; have O271 := N1; have O280 := N2; have O285 := N3; have B272 := N4; have B281 := N5; have B286 := N6; have HB := N7; clear N0 N1 N2 N3 N4 N5 N6 N7; (try clear hb); (try clear hb2); (try clear hk); (try clear hi)) | ((with_reducible refine gate_dst (N := 8) rfl ?_); refine box_event ?hg (N := 8) ?hd (cs := #[I q 0, I q 0]) (t := 58) ?hr ?_; (case hd => rfl); (case hg => rfl); (case hr => first | (go_simp; done) | (go_simp; rfl)); intro g289 hg w31 hbox hb; have N0 := am (rb (by (with_reducible repeat (first | apply ra | apply rN | apply rd1)); exact O267.out) hb); have N1 := am (rb (by (with_reducible repeat (first | apply ra | apply rN | apply rd1)); exact O271.out) hb); have N2 := am (rb (by (with_reducible repeat (first | apply ra | apply rN | apply rd1)); exact O280.out) hb); have N3 := am (rb (by (with_reducible repeat (first | apply ra | apply rN | apply rd1)); exact O285.out) hb); have N4 := am (bb (g := g272) (by (with_reducible repeat (first | apply bN | apply bd | apply ba)); exact B272.out) hb); have N5 := am (bb (g := g281) (by (with_reducible repeat (first | apply bN | apply bd | apply ba)); exact B281.out) hb); have N6 := am (bb (g := g286) (by (with_reducible repeat (first | apply bN | apply bd | apply ba)); exact B286.out) hb); have N7 := am (bp (by repeat (first | (with_reducible first | exact HB.out | apply pa | apply pN | apply p1 | refine bs ?_ E272.out | refine bs ?_ E281.out | refine bs ?_ E286.out) | exact HB.out)) hb); have N8 := am (hbox); have N9 := am ((by rw [hg]; exact (bz (by repeat (first | (with_reducible first | exact HB.out | apply pa | apply pN | apply p1 | refine bs ?_ E272.out | refine bs ?_ E281.out | refine bs ?_ E286.out) | exact HB.out))) : w.heap.size ≤ g289)); have N10 := am ((by rw [hg]; exact (bz (by repeat (first | (with_reducible first | exact HB.out | apply pa | apply pN | apply p1 | refine bs ?_ E272.out | refine bs ?_ E281.out | refine bs ?_ E286.out) | exact HB.out))) : w.heap.size ≤ g289)); have N11 := am ((by rw [hg]; exact Nat.ne_of_lt (bl (g := g272) (by (with_reducible repeat (first | apply bN | apply bd | apply ba)); exact B272.out)) : g272 ≠ g289)); have N12 := am ((by rw [hg]; exact Nat.ne_of_gt (bl (g := g272) (by (with_reducible repeat (first | apply bN | apply bd | apply ba)); exact B272.out)) : g289 ≠ g272)); have N13 := am ((by rw [hg]; exact Nat.ne_of_lt (bl (g := g281) (by (with_reducible repeat (first | apply bN | apply bd | apply ba)); exact B281.out)) : g281 ≠ g289)); have N14 := am ((by rw [hg]; exact Nat.ne_of_gt (bl (g := g281) (by (with_reducible repeat (first | apply bN | apply bd | apply ba)); exact B281.out)) : g289 ≠ g281)); have N15 := am ((by rw [hg]; exact Nat.ne_of_lt (bl (g := g286) (by (with_reducible repeat (first | apply bN | apply bd | apply ba)); exact B286.out)) : g286 ≠ g289)); have N16 := am ((by rw [hg]; exact Nat.ne_of_gt (bl (g := g286) (by (with_reducible repeat (first | apply bN | apply bd | apply ba)); exact B286.out)) : g289 ≠ g286)); clear O267 O271 O280 O285 B272 B281 B286 HB; have O267 := N0; have O271 := N1; have O280 := N2; have O285 := N3; have B272 := N4; have B281 := N5; have B286 := N6; have HB := N7; have B289 := N8; have GW289 := N9; have E289 := N10; have NB272_289 := N11; have NB289_272 := N12; have NB281_289 := N13; have NB289_281 := N14; have NB286_289 := N15; have NB289_286 := N16; clear N0 N1 N2 N3 N4 N5 N6 N7 N8 N9 N10 N11 N12 N13 N14 N15 N16 hb hbox hg; have hnb32 := NB289_272.out; have hnc32 := NB272_289.out; have hnb33 := NB289_281.out; have hnc33 := NB281_289.out; have hnb34 := NB289_286.out; have hnc34 := NB286_289.out; have hcz35_0 : w31.cell? ⟨g289, 0, none⟩ = some (I q 0) := (bc B289.out 0).trans rfl; have hcz35_1 : w31.cell? ⟨g289, 1, none⟩ = some (I q 0) := (bc B289.out 1).trans rfl; have hfz35_0 := bf B289.out 0; have hfz35_1 := bf B289.out 1))
      (try simp only [Act.put, List.setIfInBounds_toArray, List.set_cons_zero, List.set_cons_succ])
      go_cut [71] (fun v71 wc => ∃ (kq : Nat) (x71_9 : Bool), v71 = .bool x71_9 ∧ Aside0 (laws_FnLooks.j0 kq t264 x71_9 t268 t269 t277 t278 = some r) ∧ Aside0 (kq ≤ k) ∧ Aside0 (Kd.R k53 53 wc w.heap.size (fun k_ => some k_ ≠ ((J Ao16 t269.length co16) : Value).ownBlock) (J Ao12 t264.length co12) t264) ∧ Aside0 (Kd.R k53 53 wc w.heap.size (fun k_ => some k_ ≠ ((J Ao12 t264.length co12) : Value).ownBlock) (J Ao16 t269.length co16) t269) ∧ Aside0 (Kd.R (Kd.int .i64) 2 wc w.heap.size (fun k_ => some k_ ≠ ((J Ao28 t283.length co28) : Value).ownBlock) (J Ao21 t278.length co21) t278) ∧ Aside0 (Kd.R (Kd.int .i64) 2 wc w.heap.size (fun k_ => some k_ ≠ ((J Ao21 t278.length co21) : Value).ownBlock) (J Ao28 t283.length co28) t283) ∧ Aside0 (wc.heap[g272]? = some (.cells #[I q t268, (J Ao16 t269.length co16)] 30 (0, 0))) ∧ Aside0 (wc.heap[g281]? = some (.cells #[I q t277, (J Ao21 t278.length co21)] 45 (0, 0))) ∧ Aside0 (wc.heap[g286]? = some (.cells #[I q t282, (J Ao28 t283.length co28)] 45 (0, 0))) ∧ Aside0 (wc.heap[g289]? = some (.cells #[I q t287, I q t288] 58 (0, 0))) ∧ Aside0 (Below w.heap.size w wc))
      case first =>
        have H := HC10.out
        clear HC10
        by_cases c36 : t277 = 0
        · rw [if_pos c36] at H
          have c36b0 : (t277 == 0) = true := beq_iff_eq.mpr c36
          have c36b1 : (t277 != 0) = false := bne_eq_false_iff_eq.mpr c36
          clear c36
          (first | rw [c36b0] | (simp only [i64_w, i32_w]; rw [c36b0]) | skip)
          by_cases c37 : t282 = 0
          · rw [if_pos c37] at H
            have c37b0 : (t282 == 0) = true := beq_iff_eq.mpr c37
            have c37b1 : (t282 != 0) = false := bne_eq_false_iff_eq.mpr c37
            clear c37
            replace H := Option.bind_eq_some_iff.mp H
            obtain ⟨t290, A380, H⟩ := H
            replace H : (if t290 = 0 then (if t287 = 0 then ((impl_CountOf.f k t278 t265).bind fun t291 => (laws_FnLooks.j0 k t264 (decide (t288 < t291)) t268 t269 t277 t278)) else (laws_FnLooks.j0 k t264 true t268 t269 t277 t278)) else (laws_FnLooks.j0 k t264 true t268 t269 t277 t278)) = some r := H
            have A38 := am A380
            clear A380
            by_cases c39 : t290 = 0
            · rw [if_pos c39] at H
              have c39b0 : (t290 == 0) = true := beq_iff_eq.mpr c39
              have c39b1 : (t290 != 0) = false := bne_eq_false_iff_eq.mpr c39
              clear c39
              by_cases c40 : t287 = 0
              · rw [if_pos c40] at H
                have c40b0 : (t287 == 0) = true := beq_iff_eq.mpr c40
                have c40b1 : (t287 != 0) = false := bne_eq_false_iff_eq.mpr c40
                clear c40
                replace H := Option.bind_eq_some_iff.mp H
                obtain ⟨t291, A410, H⟩ := H
                replace H : (laws_FnLooks.j0 k t264 (decide (t288 < t291)) t268 t269 t277 t278) = some r := H
                have A41 := am A410
                clear A410
                have H' := am H
                clear H
                try go_wp2
                have N0 : Aside0 (Kd.R k53 53 ((w31.setCell ⟨g289, 0, none⟩ (I q t287)).setCell ⟨g289, 1, none⟩ (I q t288)) w.heap.size (fun k_ => some k_ ≠ (J Ao16 t269.length co16 : Value).ownBlock) (J Ao12 t264.length co12) t264) := ⟨by (with_reducible repeat (first | apply ra | apply rN | apply rd1)); exact Kd.R_mono (rf (p := ⟨g289, 1, none⟩) (rf (p := ⟨g289, 0, none⟩) (Kd.R_types O267.out B289.out (by decide)) (fun _ hk => hk.2) (I q t287)) (fun _ hk => hk.2) (I q t288)) (fun _ hk => hk.1.2)⟩
                have N1 : Aside0 (Kd.R k53 53 ((w31.setCell ⟨g289, 0, none⟩ (I q t287)).setCell ⟨g289, 1, none⟩ (I q t288)) w.heap.size (fun k_ => some k_ ≠ (J Ao12 t264.length co12 : Value).ownBlock) (J Ao16 t269.length co16) t269) := ⟨by (with_reducible repeat (first | apply ra | apply rN | apply rd1)); exact Kd.R_mono (rf (p := ⟨g289, 1, none⟩) (rf (p := ⟨g289, 0, none⟩) (Kd.R_types O271.out B289.out (by decide)) (fun _ hk => hk.2) (I q t287)) (fun _ hk => hk.2) (I q t288)) (fun _ hk => hk.1.2)⟩
                have N2 : Aside0 (Kd.R (Kd.int .i64) 2 ((w31.setCell ⟨g289, 0, none⟩ (I q t287)).setCell ⟨g289, 1, none⟩ (I q t288)) w.heap.size (fun k_ => some k_ ≠ (J Ao28 t283.length co28 : Value).ownBlock) (J Ao21 t278.length co21) t278) := ⟨by (with_reducible repeat (first | apply ra | apply rN | apply rd1)); exact Kd.R_mono (rf (p := ⟨g289, 1, none⟩) (rf (p := ⟨g289, 0, none⟩) (Kd.R_types O280.out B289.out (by decide)) (fun _ hk => hk.2) (I q t287)) (fun _ hk => hk.2) (I q t288)) (fun _ hk => hk.1.2)⟩
                have N3 : Aside0 (Kd.R (Kd.int .i64) 2 ((w31.setCell ⟨g289, 0, none⟩ (I q t287)).setCell ⟨g289, 1, none⟩ (I q t288)) w.heap.size (fun k_ => some k_ ≠ (J Ao21 t278.length co21 : Value).ownBlock) (J Ao28 t283.length co28) t283) := ⟨by (with_reducible repeat (first | apply ra | apply rN | apply rd1)); exact Kd.R_mono (rf (p := ⟨g289, 1, none⟩) (rf (p := ⟨g289, 0, none⟩) (Kd.R_types O285.out B289.out (by decide)) (fun _ hk => hk.2) (I q t287)) (fun _ hk => hk.2) (I q t288)) (fun _ hk => hk.1.2)⟩
                have N4 : Aside0 (((w31.setCell ⟨g289, 0, none⟩ (I q t287)).setCell ⟨g289, 1, none⟩ (I q t288)).heap[g272]? = some (.cells #[I q t268, J Ao16 t269.length co16] 30 (0, 0))) := ⟨by (with_reducible repeat (first | apply bN | apply bd | apply ba)); refine bq ?_ NB272_289.out _; (with_reducible repeat (first | apply bN | apply bd | apply ba)); refine bq ?_ NB272_289.out _; (with_reducible repeat (first | apply bN | apply bd | apply ba)); exact B272.out⟩
                have N5 : Aside0 (((w31.setCell ⟨g289, 0, none⟩ (I q t287)).setCell ⟨g289, 1, none⟩ (I q t288)).heap[g281]? = some (.cells #[I q t277, J Ao21 t278.length co21] 45 (0, 0))) := ⟨by (with_reducible repeat (first | apply bN | apply bd | apply ba)); refine bq ?_ NB281_289.out _; (with_reducible repeat (first | apply bN | apply bd | apply ba)); refine bq ?_ NB281_289.out _; (with_reducible repeat (first | apply bN | apply bd | apply ba)); exact B281.out⟩
                have N6 : Aside0 (((w31.setCell ⟨g289, 0, none⟩ (I q t287)).setCell ⟨g289, 1, none⟩ (I q t288)).heap[g286]? = some (.cells #[I q t282, J Ao28 t283.length co28] 45 (0, 0))) := ⟨by (with_reducible repeat (first | apply bN | apply bd | apply ba)); refine bq ?_ NB286_289.out _; (with_reducible repeat (first | apply bN | apply bd | apply ba)); refine bq ?_ NB286_289.out _; (with_reducible repeat (first | apply bN | apply bd | apply ba)); exact B286.out⟩
                have N7 : Aside0 (((w31.setCell ⟨g289, 0, none⟩ (I q t287)).setCell ⟨g289, 1, none⟩ (I q t288)).heap[g289]? = some (.cells #[I q t287, I q t288] 58 (0, 0))) := ⟨by (with_reducible repeat (first | apply bN | apply bd | apply ba)); refine blk_put (cs := #[I q t287, I q 0]) ?_ 1 _ rfl; (with_reducible repeat (first | apply bN | apply bd | apply ba)); refine blk_put (cs := #[I q 0, I q 0]) ?_ 0 _ rfl; (with_reducible repeat (first | apply bN | apply bd | apply ba)); exact B289.out⟩
                have N8 : Aside0 (Below w.heap.size w ((w31.setCell ⟨g289, 0, none⟩ (I q t287)).setCell ⟨g289, 1, none⟩ (I q t288))) := ⟨by repeat (first | (with_reducible first | exact HB.out | apply pa | apply pN | apply p1 | refine bs ?_ E272.out | refine bs ?_ E281.out | refine bs ?_ E286.out | refine bs ?_ E289.out) | exact HB.out)⟩
                (try clear O267)
                (try clear O271)
                (try clear O280)
                (try clear O285)
                (try clear B272)
                (try clear B281)
                (try clear B286)
                (try clear B289)
                (try clear HB)
                generalize ((w31.setCell ⟨g289, 0, none⟩ (I q t287)).setCell ⟨g289, 1, none⟩ (I q t288)) = w42 at N0 N1 N2 N3 N4 N5 N6 N7 N8 ⊢
                have O267 := N0
                have O271 := N1
                have O280 := N2
                have O285 := N3
                have B272 := N4
                have B281 := N5
                have B286 := N6
                have B289 := N7
                have HB := N8
                clear N0 N1 N2 N3 N4 N5 N6 N7 N8
                have N0 := am (rd1 O267.out)
                have N1 := am (rd1 O271.out)
                have N2 := am (rd1 O280.out)
                have N3 := am (rd1 O285.out)
                have N4 := am (bd B272.out)
                have N5 := am (bd B281.out)
                have N6 := am (bd B286.out)
                have N7 := am (bd B289.out)
                have N8 := am (p1 HB.out)
                clear O267
                clear O271
                clear O280
                clear O285
                clear B272
                clear B281
                clear B286
                clear B289
                clear HB
                have O267 := N0
                have O271 := N1
                have O280 := N2
                have O285 := N3
                have B272 := N4
                have B281 := N5
                have B286 := N6
                have B289 := N7
                have HB := N8
                clear N0 N1 N2 N3 N4 N5 N6 N7 N8
                refine start_ (n := 29) (S := fun w' => w'.cell? ⟨g281, 0, none⟩ = some (I q t277) ∧ w'.cell? ⟨g281, 1, none⟩ = some (J Ao21 t278.length co21) ∧ w'.cell? ⟨g286, 0, none⟩ = some (I q t282) ∧ w'.cell? ⟨g286, 1, none⟩ = some (J Ao28 t283.length co28) ∧ w'.cell? ⟨g289, 0, none⟩ = some (I q t287) ∧ w'.cell? ⟨g289, 1, none⟩ = some (I q t288)) (ds := []) #[false, false, false, false, false, false, false, false, false, false, false, false, false, false, false, false, false, false, false, false, false, false, false, false, false, false, false, false, false] (by kernel_rfl) rfl rfl ⟨(bc B281.out 0).trans rfl, (bc B281.out 1).trans rfl, (bc B286.out 0).trans rfl, (bc B286.out 1).trans rfl, (bc B289.out 0).trans rfl, (bc B289.out 1).trans rfl⟩ (fun hHeld => ?_); refine with_tabW laws_FnLooks.tab10 laws_FnLooks.bits10 (fun HT_ HW_ => ?_)
                generalize w42.drew = w43 at O267 O271 O280 O285 B272 B281 B286 B289 HB hHeld ⊢
                refine pure_ (i := 0) (N := some 43) (v := ?_) (a' := ?_) #[true, false, false, false, false, false, false, false, false, false, false, false, false, false, false, false, false, false, false, false, false, false, false, false, false, false, false, false, false] rfl rfl (any_of HT_.out (by kernel_rfl)) (fun _ _ _ h => h) (Or.inl ⟨by rfl, ?_⟩) ?_ ?_
                rotate_left
                · intro w'
                  first | (go_simp; with_reducible rfl) | (go_simp; (try unfold Instr.field); go_simp; (try simp only [asAgg]); go_simp; with_reducible rfl)
                rotate_left
                · simp only [Act.put, List.setIfInBounds_toArray, List.set_cons_zero, List.set_cons_succ, i64_w, i32_w]
                  rfl
                refine take_ (i := 1) (N := some 44) (v := ?_) (a' := ?_) #[true, true, false, false, false, false, false, false, false, false, false, false, false, false, false, false, false, false, false, false, false, false, false, false, false, false, false, false, false] rfl rfl (take_ofW HT_.out HW_.out (by kernel_rfl)) (fun _ _ _ h => h) (Or.inl ⟨by rfl, ?_⟩) hHeld ?_ ?_
                rotate_left
                · rintro w' ⟨s0, s1, s2, s3, s4, s5⟩
                  go_simp
                  with_reducible rfl
                rotate_left
                · simp only [Act.put, List.setIfInBounds_toArray, List.set_cons_zero, List.set_cons_succ, i64_w, i32_w]
                  rfl
                refine pure_ (i := 2) (N := some 45) (v := ?_) (a' := ?_) #[true, true, true, false, false, false, false, false, false, false, false, false, false, false, false, false, false, false, false, false, false, false, false, false, false, false, false, false, false] rfl rfl (any_of HT_.out (by kernel_rfl)) (fun _ _ _ h => h) (Or.inl ⟨by rfl, ?_⟩) ?_ ?_
                rotate_left
                · intro w'
                  first | (go_simp; with_reducible rfl) | (go_simp; (try unfold Instr.field); go_simp; (try simp only [asAgg]); go_simp; with_reducible rfl)
                rotate_left
                · simp only [Act.put, List.setIfInBounds_toArray, List.set_cons_zero, List.set_cons_succ, i64_w, i32_w]
                  rfl
                refine pure_ (i := 3) (N := some 46) (v := ?_) (a' := ?_) #[true, true, true, true, false, false, false, false, false, false, false, false, false, false, false, false, false, false, false, false, false, false, false, false, false, false, false, false, false] rfl rfl (any_of HT_.out (by kernel_rfl)) (fun _ _ _ h => h) (Or.inl ⟨by rfl, ?_⟩) ?_ ?_
                rotate_left
                · intro w'
                  first | (go_simp; with_reducible rfl) | (go_simp; (try unfold Instr.field); go_simp; (try simp only [asAgg]); go_simp; with_reducible rfl)
                rotate_left
                · simp only [Act.put, List.setIfInBounds_toArray, List.set_cons_zero, List.set_cons_succ, i64_w, i32_w]
                  rfl
                refine pure_ (i := 4) (N := some 47) (v := ?_) (a' := ?_) #[true, true, true, true, true, false, false, false, false, false, false, false, false, false, false, false, false, false, false, false, false, false, false, false, false, false, false, false, false] rfl rfl (any_of HT_.out (by kernel_rfl)) (fun _ _ _ h => h) (Or.inl ⟨by rfl, ?_⟩) ?_ ?_
                rotate_left
                · intro w'
                  first | (go_simp; with_reducible rfl) | (go_simp; (try unfold Instr.field); go_simp; (try simp only [asAgg]); go_simp; with_reducible rfl)
                rotate_left
                · simp only [Act.put, List.setIfInBounds_toArray, List.set_cons_zero, List.set_cons_succ, i64_w, i32_w]
                  rfl
                refine take_ (i := 5) (N := some 48) (v := ?_) (a' := ?_) #[true, true, true, true, true, true, false, false, false, false, false, false, false, false, false, false, false, false, false, false, false, false, false, false, false, false, false, false, false] rfl rfl (take_ofW HT_.out HW_.out (by kernel_rfl)) (fun _ _ _ h => h) (Or.inl ⟨by rfl, ?_⟩) hHeld ?_ ?_
                rotate_left
                · rintro w' ⟨s0, s1, s2, s3, s4, s5⟩
                  go_simp
                  with_reducible rfl
                rotate_left
                · simp only [Act.put, List.setIfInBounds_toArray, List.set_cons_zero, List.set_cons_succ, i64_w, i32_w]
                  rfl
                refine pure_ (i := 6) (N := some 49) (v := ?_) (a' := ?_) #[true, true, true, true, true, true, true, false, false, false, false, false, false, false, false, false, false, false, false, false, false, false, false, false, false, false, false, false, false] rfl rfl (any_of HT_.out (by kernel_rfl)) (fun _ _ _ h => h) (Or.inl ⟨by rfl, ?_⟩) ?_ ?_
                rotate_left
                · intro w'
                  first | (go_simp; with_reducible rfl) | (go_simp; (try unfold Instr.field); go_simp; (try simp only [asAgg]); go_simp; with_reducible rfl)
                rotate_left
                · simp only [Act.put, List.setIfInBounds_toArray, List.set_cons_zero, List.set_cons_succ, i64_w, i32_w]
                  rfl
                refine pure_ (i := 7) (N := some 50) (v := ?_) (a' := ?_) #[true, true, true, true, true, true, true, true, false, false, false, false, false, false, false, false, false, false, false, false, false, false, false, false, false, false, false, false, false] rfl rfl (any_of HT_.out (by kernel_rfl)) (fun _ _ _ h => h) (Or.inl ⟨by rfl, ?_⟩) ?_ ?_
                rotate_left
                · intro w'
                  first | (go_simp; with_reducible rfl) | (go_simp; (try unfold Instr.field); go_simp; (try simp only [asAgg]); go_simp; with_reducible rfl)
                rotate_left
                · simp only [Act.put, List.setIfInBounds_toArray, List.set_cons_zero, List.set_cons_succ, i64_w, i32_w]
                  rfl
                refine pure_ (i := 8) (N := some 51) (v := ?_) (a' := ?_) #[true, true, true, true, true, true, true, true, true, false, false, false, false, false, false, false, false, false, false, false, false, false, false, false, false, false, false, false, false] rfl rfl (any_of HT_.out (by kernel_rfl)) (fun _ _ _ h => h) (Or.inl ⟨by rfl, ?_⟩) ?_ ?_
                rotate_left
                · intro w'
                  first | (go_simp; with_reducible rfl) | (go_simp; (try unfold Instr.field); go_simp; (try simp only [asAgg]); go_simp; with_reducible rfl)
                rotate_left
                · simp only [Act.put, List.setIfInBounds_toArray, List.set_cons_zero, List.set_cons_succ, i64_w, i32_w]
                  rfl
                refine pure_ (i := 9) (N := some 52) (v := ?_) (a' := ?_) #[true, true, true, true, true, true, true, true, true, true, false, false, false, false, false, false, false, false, false, false, false, false, false, false, false, false, false, false, false] rfl rfl (any_of HT_.out (by kernel_rfl)) (fun _ _ _ h => h) (Or.inl ⟨by rfl, ?_⟩) ?_ ?_
                rotate_left
                · intro w'
                  first | (go_simp; with_reducible rfl) | (go_simp; (try unfold Instr.field); go_simp; (try simp only [asAgg]); go_simp; with_reducible rfl)
                rotate_left
                · simp only [Act.put, List.setIfInBounds_toArray, List.set_cons_zero, List.set_cons_succ, i64_w, i32_w]
                  rfl
                refine pure_ (i := 11) (N := some 54) (v := ?_) (a' := ?_) #[true, true, true, true, true, true, true, true, true, true, false, true, false, false, false, false, false, false, false, false, false, false, false, false, false, false, false, false, false] rfl rfl (any_of HT_.out (by kernel_rfl)) (fun _ _ _ h => h) (Or.inl ⟨by rfl, ?_⟩) ?_ ?_
                rotate_left
                · intro w'
                  first | (go_simp; with_reducible rfl) | (go_simp; (try unfold Instr.field); go_simp; (try simp only [asAgg]); go_simp; with_reducible rfl)
                rotate_left
                · simp only [Act.put, List.setIfInBounds_toArray, List.set_cons_zero, List.set_cons_succ, i64_w, i32_w]
                  rfl
                refine take_ (i := 10) (N := some 53) (v := ?_) (a' := ?_) #[true, true, true, true, true, true, true, true, true, true, true, true, false, false, false, false, false, false, false, false, false, false, false, false, false, false, false, false, false] rfl rfl (take_ofW HT_.out HW_.out (by kernel_rfl)) (fun _ _ _ h => h) (Or.inl ⟨by rfl, ?_⟩) hHeld ?_ ?_
                rotate_left
                · rintro w' ⟨s0, s1, s2, s3, s4, s5⟩
                  go_simp
                  with_reducible rfl
                rotate_left
                · simp only [Act.put, List.setIfInBounds_toArray, List.set_cons_zero, List.set_cons_succ, i64_w, i32_w]
                  rfl
                refine one_ (i := 12) (N := some 55) #[true, true, true, true, true, true, true, true, true, true, true, true, true, false, false, false, false, false, false, false, false, false, false, false, false, false, false, false, false] rfl rfl (one_of HT_.out (by kernel_rfl)) (by decide) (fun K hK => ?_)
                refine goes_ Try.func32 (by kernel_rfl) rfl #[J Ao28 t283.length co28, I q t265] (by rfl) rfl rfl (by (try simp only [List.map_toArray, List.map_cons, List.map_nil]); first | done | rfl | (simp only [List.length_drop, List.length_take]; rfl)) ?_
                with_reducible refine (impl_CountOf.calls k _ _ t283 t265 t290 _ ?side1 ?side2 A38.out).mono ?_
                (case side1 => repeat (first | exact (Kd.R_reads' O285.out).2.2 | (with_reducible refine ca ?_ _) | (with_reducible refine cN ?_ _) | (with_reducible refine cd1 ?_)))
                (case side2 => exact (Kd.R_reads' O285.out).2.1)
                rintro e w' ⟨rfl, ⟨nd, rfl⟩⟩
                refine ⟨_, rfl, ?_⟩
                refine hK.out _ _ ⟨(bc B281.out 0).trans rfl, (bc B281.out 1).trans rfl, (bc B286.out 0).trans rfl, (bc B286.out 1).trans rfl, (bc B289.out 0).trans rfl, (bc B289.out 1).trans rfl⟩ (fun hHeld => ?_)
                clear hK K
                refine norm_ (a' := ?_) ?_ ?_
                rotate_left
                · show Act.put _ (some 55) _ = _
                  simp only [Act.put, List.setIfInBounds_toArray, List.set_cons_zero, List.set_cons_succ, i64_w, i32_w]
                  rfl
                refine pure_ (i := 13) (N := some 56) (v := ?_) (a' := ?_) #[true, true, true, true, true, true, true, true, true, true, true, true, true, true, false, false, false, false, false, false, false, false, false, false, false, false, false, false, false] rfl rfl (any_of HT_.out (by kernel_rfl)) (fun _ _ _ h => h) (Or.inl ⟨by rfl, ?_⟩) ?_ ?_
                rotate_left
                · intro w'
                  first | (go_simp; with_reducible rfl) | (go_simp; (try unfold Instr.field); go_simp; (try simp only [asAgg]); go_simp; with_reducible rfl)
                rotate_left
                · simp only [Act.put, List.setIfInBounds_toArray, List.set_cons_zero, List.set_cons_succ, i64_w, i32_w]
                  rfl
                refine pure_ (i := 14) (N := some 57) (v := ?_) (a' := ?_) #[true, true, true, true, true, true, true, true, true, true, true, true, true, true, true, false, false, false, false, false, false, false, false, false, false, false, false, false, false] rfl rfl (any_of HT_.out (by kernel_rfl)) (fun _ _ _ h => h) (Or.inl ⟨by rfl, ?_⟩) ?_ ?_
                rotate_left
                · intro w'
                  first | (go_simp; with_reducible rfl) | (go_simp; (try unfold Instr.field); go_simp; (try simp only [asAgg]); go_simp; with_reducible rfl)
                rotate_left
                · simp only [Act.put, List.setIfInBounds_toArray, List.set_cons_zero, List.set_cons_succ, i64_w, i32_w]
                  rfl
                refine pure_ (i := 15) (N := some 58) (v := ?_) (a' := ?_) #[true, true, true, true, true, true, true, true, true, true, true, true, true, true, true, true, false, false, false, false, false, false, false, false, false, false, false, false, false] rfl rfl (any_of HT_.out (by kernel_rfl)) (fun _ _ _ h => h) (Or.inl ⟨by rfl, ?_⟩) ?_ ?_
                rotate_left
                · intro w'
                  first | (go_simp; with_reducible rfl) | (go_simp; (try unfold Instr.field); go_simp; (try simp only [asAgg]); go_simp; with_reducible rfl)
                rotate_left
                · simp only [Act.put, List.setIfInBounds_toArray, List.set_cons_zero, List.set_cons_succ, i64_w, i32_w]
                  rfl
                refine pure_ (i := 16) (N := some 59) (v := ?_) (a' := ?_) #[true, true, true, true, true, true, true, true, true, true, true, true, true, true, true, true, true, false, false, false, false, false, false, false, false, false, false, false, false] rfl rfl (any_of HT_.out (by kernel_rfl)) (fun _ _ _ h => h) (Or.inl ⟨by rfl, ?_⟩) ?_ ?_
                rotate_left
                · intro w'
                  first | (go_simp; with_reducible rfl) | (go_simp; (try unfold Instr.field); go_simp; (try simp only [asAgg]); go_simp; with_reducible rfl)
                rotate_left
                · simp only [Act.put, List.setIfInBounds_toArray, List.set_cons_zero, List.set_cons_succ, i64_w, i32_w]
                  rfl
                refine take_ (i := 17) (N := some 60) (v := ?_) (a' := ?_) #[true, true, true, true, true, true, true, true, true, true, true, true, true, true, true, true, true, true, false, false, false, false, false, false, false, false, false, false, false] rfl rfl (take_ofW HT_.out HW_.out (by kernel_rfl)) (fun _ _ _ h => h) (Or.inl ⟨by rfl, ?_⟩) hHeld ?_ ?_
                rotate_left
                · rintro w' ⟨s0, s1, s2, s3, s4, s5⟩
                  go_simp
                  with_reducible rfl
                rotate_left
                · simp only [Act.put, List.setIfInBounds_toArray, List.set_cons_zero, List.set_cons_succ, i64_w, i32_w]
                  rfl
                refine pure_ (i := 18) (N := some 61) (v := ?_) (a' := ?_) #[true, true, true, true, true, true, true, true, true, true, true, true, true, true, true, true, true, true, true, false, false, false, false, false, false, false, false, false, false] rfl rfl (any_of HT_.out (by kernel_rfl)) (fun _ _ _ h => h) (Or.inl ⟨by rfl, ?_⟩) ?_ ?_
                rotate_left
                · intro w'
                  first | (go_simp; with_reducible rfl) | (go_simp; (try unfold Instr.field); go_simp; (try simp only [asAgg]); go_simp; with_reducible rfl)
                rotate_left
                · simp only [Act.put, List.setIfInBounds_toArray, List.set_cons_zero, List.set_cons_succ, i64_w, i32_w]
                  rfl
                refine pure_ (i := 19) (N := some 62) (v := ?_) (a' := ?_) #[true, true, true, true, true, true, true, true, true, true, true, true, true, true, true, true, true, true, true, true, false, false, false, false, false, false, false, false, false] rfl rfl (any_of HT_.out (by kernel_rfl)) (fun _ _ _ h => h) (Or.inl ⟨by rfl, ?_⟩) ?_ ?_
                rotate_left
                · intro w'
                  first | (go_simp; with_reducible rfl) | (go_simp; (try unfold Instr.field); go_simp; (try simp only [asAgg]); go_simp; with_reducible rfl)
                rotate_left
                · simp only [Act.put, List.setIfInBounds_toArray, List.set_cons_zero, List.set_cons_succ, i64_w, i32_w]
                  rfl
                refine pure_ (i := 20) (N := some 63) (v := ?_) (a' := ?_) #[true, true, true, true, true, true, true, true, true, true, true, true, true, true, true, true, true, true, true, true, true, false, false, false, false, false, false, false, false] rfl rfl (any_of HT_.out (by kernel_rfl)) (fun _ _ _ h => h) (Or.inl ⟨by rfl, ?_⟩) ?_ ?_
                rotate_left
                · intro w'
                  first | (go_simp; with_reducible rfl) | (go_simp; (try unfold Instr.field); go_simp; (try simp only [asAgg]); go_simp; with_reducible rfl)
                rotate_left
                · simp only [Act.put, List.setIfInBounds_toArray, List.set_cons_zero, List.set_cons_succ, i64_w, i32_w]
                  rfl
                refine pure_ (i := 21) (N := some 64) (v := ?_) (a' := ?_) #[true, true, true, true, true, true, true, true, true, true, true, true, true, true, true, true, true, true, true, true, true, true, false, false, false, false, false, false, false] rfl rfl (any_of HT_.out (by kernel_rfl)) (fun _ _ _ h => h) (Or.inl ⟨by rfl, ?_⟩) ?_ ?_
                rotate_left
                · intro w'
                  first | (go_simp; with_reducible rfl) | (go_simp; (try unfold Instr.field); go_simp; (try simp only [asAgg]); go_simp; with_reducible rfl)
                rotate_left
                · simp only [Act.put, List.setIfInBounds_toArray, List.set_cons_zero, List.set_cons_succ, i64_w, i32_w]
                  rfl
                refine pure_ (i := 23) (N := some 66) (v := ?_) (a' := ?_) #[true, true, true, true, true, true, true, true, true, true, true, true, true, true, true, true, true, true, true, true, true, true, false, true, false, false, false, false, false] rfl rfl (any_of HT_.out (by kernel_rfl)) (fun _ _ _ h => h) (Or.inl ⟨by rfl, ?_⟩) ?_ ?_
                rotate_left
                · intro w'
                  first | (go_simp; with_reducible rfl) | (go_simp; (try unfold Instr.field); go_simp; (try simp only [asAgg]); go_simp; with_reducible rfl)
                rotate_left
                · simp only [Act.put, List.setIfInBounds_toArray, List.set_cons_zero, List.set_cons_succ, i64_w, i32_w]
                  rfl
                refine pure_ (i := 25) (N := some 68) (v := ?_) (a' := ?_) #[true, true, true, true, true, true, true, true, true, true, true, true, true, true, true, true, true, true, true, true, true, true, false, true, false, true, false, false, false] rfl rfl (any_of HT_.out (by kernel_rfl)) (fun _ _ _ h => h) (Or.inl ⟨by rfl, ?_⟩) ?_ ?_
                rotate_left
                · intro w'
                  first | (go_simp; with_reducible rfl) | (go_simp; (try unfold Instr.field); go_simp; (try simp only [asAgg]); go_simp; with_reducible rfl)
                rotate_left
                · simp only [Act.put, List.setIfInBounds_toArray, List.set_cons_zero, List.set_cons_succ, i64_w, i32_w]
                  rfl
                refine take_ (i := 22) (N := some 65) (v := ?_) (a' := ?_) #[true, true, true, true, true, true, true, true, true, true, true, true, true, true, true, true, true, true, true, true, true, true, true, true, false, true, false, false, false] rfl rfl (take_ofW HT_.out HW_.out (by kernel_rfl)) (fun _ _ _ h => h) (Or.inl ⟨by rfl, ?_⟩) hHeld ?_ ?_
                rotate_left
                · rintro w' ⟨s0, s1, s2, s3, s4, s5⟩
                  go_simp
                  with_reducible rfl
                rotate_left
                · simp only [Act.put, List.setIfInBounds_toArray, List.set_cons_zero, List.set_cons_succ, i64_w, i32_w]
                  rfl
                refine take_ (i := 24) (N := some 67) (v := ?_) (a' := ?_) #[true, true, true, true, true, true, true, true, true, true, true, true, true, true, true, true, true, true, true, true, true, true, true, true, true, true, false, false, false] rfl rfl (take_ofW HT_.out HW_.out (by kernel_rfl)) (fun _ _ _ h => h) (Or.inl ⟨by rfl, ?_⟩) hHeld ?_ ?_
                rotate_left
                · rintro w' ⟨s0, s1, s2, s3, s4, s5⟩
                  go_simp
                  with_reducible rfl
                rotate_left
                · simp only [Act.put, List.setIfInBounds_toArray, List.set_cons_zero, List.set_cons_succ, i64_w, i32_w]
                  rfl
                refine one_ (i := 26) (N := some 69) #[true, true, true, true, true, true, true, true, true, true, true, true, true, true, true, true, true, true, true, true, true, true, true, true, true, true, true, false, false] rfl rfl (one_of HT_.out (by kernel_rfl)) (by decide) (fun K hK => ?_)
                refine goes_ Try.func32 (by kernel_rfl) rfl #[J Ao21 t278.length co21, I q t265] (by rfl) rfl rfl (by (try simp only [List.map_toArray, List.map_cons, List.map_nil]); first | done | rfl | (simp only [List.length_drop, List.length_take]; rfl)) ?_
                with_reducible refine (impl_CountOf.calls k _ _ t278 t265 t291 _ ?side1 ?side2 A41.out).mono ?_
                (case side1 => repeat (first | exact (Kd.R_reads' O280.out).2.2 | (with_reducible refine ca ?_ _) | (with_reducible refine cN ?_ _) | (with_reducible refine cd1 ?_)))
                (case side2 => exact (Kd.R_reads' O280.out).2.1)
                rintro e w' ⟨rfl, ⟨nd, rfl⟩⟩
                refine ⟨_, rfl, ?_⟩
                refine hK.out _ _ ⟨(bc B281.out 0).trans rfl, (bc B281.out 1).trans rfl, (bc B286.out 0).trans rfl, (bc B286.out 1).trans rfl, (bc B289.out 0).trans rfl, (bc B289.out 1).trans rfl⟩ (fun hHeld => ?_)
                clear hK K
                refine norm_ (a' := ?_) ?_ ?_
                rotate_left
                · show Act.put _ (some 69) _ = _
                  simp only [Act.put, List.setIfInBounds_toArray, List.set_cons_zero, List.set_cons_succ, i64_w, i32_w]
                  rfl
                refine pure_ (i := 27) (N := some 70) (v := ?_) (a' := ?_) #[true, true, true, true, true, true, true, true, true, true, true, true, true, true, true, true, true, true, true, true, true, true, true, true, true, true, true, true, false] rfl rfl (any_of HT_.out (by kernel_rfl)) (fun _ _ _ h => h) (Or.inl ⟨by rfl, ?_⟩) ?_ ?_
                rotate_left
                · intro w'
                  first | (go_simp; with_reducible rfl) | (go_simp; (try unfold Instr.field); go_simp; (try simp only [asAgg]); go_simp; with_reducible rfl)
                rotate_left
                · simp only [Act.put, List.setIfInBounds_toArray, List.set_cons_zero, List.set_cons_succ, i64_w, i32_w]
                  rfl
                refine pure_ (i := 28) (N := some 71) (v := ?_) (a' := ?_) #[true, true, true, true, true, true, true, true, true, true, true, true, true, true, true, true, true, true, true, true, true, true, true, true, true, true, true, true, true] rfl rfl (any_of HT_.out (by kernel_rfl)) (fun _ _ _ h => h) (Or.inl ⟨by rfl, ?_⟩) ?_ ?_
                rotate_left
                · intro w'
                  first | (go_simp; with_reducible rfl) | (go_simp; (try unfold Instr.field); go_simp; (try simp only [asAgg]); go_simp; with_reducible rfl)
                rotate_left
                · simp only [Act.put, List.setIfInBounds_toArray, List.set_cons_zero, List.set_cons_succ, i64_w, i32_w]
                  rfl
                refine done_ (done_of HT_.out (by kernel_rfl)) ?_
                try go_wp2
                go_meet
                case rel => exact ⟨_, (decide (t288 < t291)), (by first | rfl | (simp; done) | (simp [*]; done)), H', ⟨by first | omega | exact Nat.le_refl _⟩, ⟨by (with_reducible repeat (first | apply ra | apply rN | apply rd1)); exact O267.out⟩, ⟨by (with_reducible repeat (first | apply ra | apply rN | apply rd1)); exact O271.out⟩, ⟨by (with_reducible repeat (first | apply ra | apply rN | apply rd1)); exact O280.out⟩, ⟨by (with_reducible repeat (first | apply ra | apply rN | apply rd1)); exact O285.out⟩, ⟨by (with_reducible repeat (first | apply bN | apply bd | apply ba)); exact B272.out⟩, ⟨by (with_reducible repeat (first | apply bN | apply bd | apply ba)); exact B281.out⟩, ⟨by (with_reducible repeat (first | apply bN | apply bd | apply ba)); exact B286.out⟩, ⟨by (with_reducible repeat (first | apply bN | apply bd | apply ba)); exact B289.out⟩, ⟨by repeat (first | (with_reducible first | exact HB.out | apply pa | apply pN | apply p1 | refine bs ?_ E272.out | refine bs ?_ E281.out | refine bs ?_ E286.out | refine bs ?_ E289.out) | exact HB.out)⟩⟩
              · rw [if_neg c40] at H
                have c40b0 : (t287 == 0) = false := beq_eq_false_iff_ne.mpr c40
                have c40b1 : (t287 != 0) = true := bne_iff_ne.mpr c40
                have H' := am H
                clear H
                try go_wp2
                have N0 : Aside0 (Kd.R k53 53 ((w31.setCell ⟨g289, 0, none⟩ (I q t287)).setCell ⟨g289, 1, none⟩ (I q t288)) w.heap.size (fun k_ => some k_ ≠ (J Ao16 t269.length co16 : Value).ownBlock) (J Ao12 t264.length co12) t264) := ⟨by (with_reducible repeat (first | apply ra | apply rN | apply rd1)); exact Kd.R_mono (rf (p := ⟨g289, 1, none⟩) (rf (p := ⟨g289, 0, none⟩) (Kd.R_types O267.out B289.out (by decide)) (fun _ hk => hk.2) (I q t287)) (fun _ hk => hk.2) (I q t288)) (fun _ hk => hk.1.2)⟩
                have N1 : Aside0 (Kd.R k53 53 ((w31.setCell ⟨g289, 0, none⟩ (I q t287)).setCell ⟨g289, 1, none⟩ (I q t288)) w.heap.size (fun k_ => some k_ ≠ (J Ao12 t264.length co12 : Value).ownBlock) (J Ao16 t269.length co16) t269) := ⟨by (with_reducible repeat (first | apply ra | apply rN | apply rd1)); exact Kd.R_mono (rf (p := ⟨g289, 1, none⟩) (rf (p := ⟨g289, 0, none⟩) (Kd.R_types O271.out B289.out (by decide)) (fun _ hk => hk.2) (I q t287)) (fun _ hk => hk.2) (I q t288)) (fun _ hk => hk.1.2)⟩
                have N2 : Aside0 (Kd.R (Kd.int .i64) 2 ((w31.setCell ⟨g289, 0, none⟩ (I q t287)).setCell ⟨g289, 1, none⟩ (I q t288)) w.heap.size (fun k_ => some k_ ≠ (J Ao28 t283.length co28 : Value).ownBlock) (J Ao21 t278.length co21) t278) := ⟨by (with_reducible repeat (first | apply ra | apply rN | apply rd1)); exact Kd.R_mono (rf (p := ⟨g289, 1, none⟩) (rf (p := ⟨g289, 0, none⟩) (Kd.R_types O280.out B289.out (by decide)) (fun _ hk => hk.2) (I q t287)) (fun _ hk => hk.2) (I q t288)) (fun _ hk => hk.1.2)⟩
                have N3 : Aside0 (Kd.R (Kd.int .i64) 2 ((w31.setCell ⟨g289, 0, none⟩ (I q t287)).setCell ⟨g289, 1, none⟩ (I q t288)) w.heap.size (fun k_ => some k_ ≠ (J Ao21 t278.length co21 : Value).ownBlock) (J Ao28 t283.length co28) t283) := ⟨by (with_reducible repeat (first | apply ra | apply rN | apply rd1)); exact Kd.R_mono (rf (p := ⟨g289, 1, none⟩) (rf (p := ⟨g289, 0, none⟩) (Kd.R_types O285.out B289.out (by decide)) (fun _ hk => hk.2) (I q t287)) (fun _ hk => hk.2) (I q t288)) (fun _ hk => hk.1.2)⟩
                have N4 : Aside0 (((w31.setCell ⟨g289, 0, none⟩ (I q t287)).setCell ⟨g289, 1, none⟩ (I q t288)).heap[g272]? = some (.cells #[I q t268, J Ao16 t269.length co16] 30 (0, 0))) := ⟨by (with_reducible repeat (first | apply bN | apply bd | apply ba)); refine bq ?_ NB272_289.out _; (with_reducible repeat (first | apply bN | apply bd | apply ba)); refine bq ?_ NB272_289.out _; (with_reducible repeat (first | apply bN | apply bd | apply ba)); exact B272.out⟩
                have N5 : Aside0 (((w31.setCell ⟨g289, 0, none⟩ (I q t287)).setCell ⟨g289, 1, none⟩ (I q t288)).heap[g281]? = some (.cells #[I q t277, J Ao21 t278.length co21] 45 (0, 0))) := ⟨by (with_reducible repeat (first | apply bN | apply bd | apply ba)); refine bq ?_ NB281_289.out _; (with_reducible repeat (first | apply bN | apply bd | apply ba)); refine bq ?_ NB281_289.out _; (with_reducible repeat (first | apply bN | apply bd | apply ba)); exact B281.out⟩
                have N6 : Aside0 (((w31.setCell ⟨g289, 0, none⟩ (I q t287)).setCell ⟨g289, 1, none⟩ (I q t288)).heap[g286]? = some (.cells #[I q t282, J Ao28 t283.length co28] 45 (0, 0))) := ⟨by (with_reducible repeat (first | apply bN | apply bd | apply ba)); refine bq ?_ NB286_289.out _; (with_reducible repeat (first | apply bN | apply bd | apply ba)); refine bq ?_ NB286_289.out _; (with_reducible repeat (first | apply bN | apply bd | apply ba)); exact B286.out⟩
                have N7 : Aside0 (((w31.setCell ⟨g289, 0, none⟩ (I q t287)).setCell ⟨g289, 1, none⟩ (I q t288)).heap[g289]? = some (.cells #[I q t287, I q t288] 58 (0, 0))) := ⟨by (with_reducible repeat (first | apply bN | apply bd | apply ba)); refine blk_put (cs := #[I q t287, I q 0]) ?_ 1 _ rfl; (with_reducible repeat (first | apply bN | apply bd | apply ba)); refine blk_put (cs := #[I q 0, I q 0]) ?_ 0 _ rfl; (with_reducible repeat (first | apply bN | apply bd | apply ba)); exact B289.out⟩
                have N8 : Aside0 (Below w.heap.size w ((w31.setCell ⟨g289, 0, none⟩ (I q t287)).setCell ⟨g289, 1, none⟩ (I q t288))) := ⟨by repeat (first | (with_reducible first | exact HB.out | apply pa | apply pN | apply p1 | refine bs ?_ E272.out | refine bs ?_ E281.out | refine bs ?_ E286.out | refine bs ?_ E289.out) | exact HB.out)⟩
                (try clear O267)
                (try clear O271)
                (try clear O280)
                (try clear O285)
                (try clear B272)
                (try clear B281)
                (try clear B286)
                (try clear B289)
                (try clear HB)
                generalize ((w31.setCell ⟨g289, 0, none⟩ (I q t287)).setCell ⟨g289, 1, none⟩ (I q t288)) = w44 at N0 N1 N2 N3 N4 N5 N6 N7 N8 ⊢
                have O267 := N0
                have O271 := N1
                have O280 := N2
                have O285 := N3
                have B272 := N4
                have B281 := N5
                have B286 := N6
                have B289 := N7
                have HB := N8
                clear N0 N1 N2 N3 N4 N5 N6 N7 N8
                have N0 := am (rd1 O267.out)
                have N1 := am (rd1 O271.out)
                have N2 := am (rd1 O280.out)
                have N3 := am (rd1 O285.out)
                have N4 := am (bd B272.out)
                have N5 := am (bd B281.out)
                have N6 := am (bd B286.out)
                have N7 := am (bd B289.out)
                have N8 := am (p1 HB.out)
                clear O267
                clear O271
                clear O280
                clear O285
                clear B272
                clear B281
                clear B286
                clear B289
                clear HB
                have O267 := N0
                have O271 := N1
                have O280 := N2
                have O285 := N3
                have B272 := N4
                have B281 := N5
                have B286 := N6
                have B289 := N7
                have HB := N8
                clear N0 N1 N2 N3 N4 N5 N6 N7 N8
                refine start_ (n := 29) (S := fun w' => w'.cell? ⟨g281, 0, none⟩ = some (I q t277) ∧ w'.cell? ⟨g281, 1, none⟩ = some (J Ao21 t278.length co21) ∧ w'.cell? ⟨g286, 0, none⟩ = some (I q t282) ∧ w'.cell? ⟨g286, 1, none⟩ = some (J Ao28 t283.length co28) ∧ w'.cell? ⟨g289, 0, none⟩ = some (I q t287) ∧ w'.cell? ⟨g289, 1, none⟩ = some (I q t288)) (ds := []) #[false, false, false, false, false, false, false, false, false, false, false, false, false, false, false, false, false, false, false, false, false, false, false, false, false, false, false, false, false] (by kernel_rfl) rfl rfl ⟨(bc B281.out 0).trans rfl, (bc B281.out 1).trans rfl, (bc B286.out 0).trans rfl, (bc B286.out 1).trans rfl, (bc B289.out 0).trans rfl, (bc B289.out 1).trans rfl⟩ (fun hHeld => ?_); refine with_tabW laws_FnLooks.tab10 laws_FnLooks.bits10 (fun HT_ HW_ => ?_)
                generalize w44.drew = w45 at O267 O271 O280 O285 B272 B281 B286 B289 HB hHeld ⊢
                refine pure_ (i := 0) (N := some 43) (v := ?_) (a' := ?_) #[true, false, false, false, false, false, false, false, false, false, false, false, false, false, false, false, false, false, false, false, false, false, false, false, false, false, false, false, false] rfl rfl (any_of HT_.out (by kernel_rfl)) (fun _ _ _ h => h) (Or.inl ⟨by rfl, ?_⟩) ?_ ?_
                rotate_left
                · intro w'
                  first | (go_simp; with_reducible rfl) | (go_simp; (try unfold Instr.field); go_simp; (try simp only [asAgg]); go_simp; with_reducible rfl)
                rotate_left
                · simp only [Act.put, List.setIfInBounds_toArray, List.set_cons_zero, List.set_cons_succ, i64_w, i32_w]
                  rfl
                refine take_ (i := 1) (N := some 44) (v := ?_) (a' := ?_) #[true, true, false, false, false, false, false, false, false, false, false, false, false, false, false, false, false, false, false, false, false, false, false, false, false, false, false, false, false] rfl rfl (take_ofW HT_.out HW_.out (by kernel_rfl)) (fun _ _ _ h => h) (Or.inl ⟨by rfl, ?_⟩) hHeld ?_ ?_
                rotate_left
                · rintro w' ⟨s0, s1, s2, s3, s4, s5⟩
                  go_simp
                  with_reducible rfl
                rotate_left
                · simp only [Act.put, List.setIfInBounds_toArray, List.set_cons_zero, List.set_cons_succ, i64_w, i32_w]
                  rfl
                refine pure_ (i := 2) (N := some 45) (v := ?_) (a' := ?_) #[true, true, true, false, false, false, false, false, false, false, false, false, false, false, false, false, false, false, false, false, false, false, false, false, false, false, false, false, false] rfl rfl (any_of HT_.out (by kernel_rfl)) (fun _ _ _ h => h) (Or.inl ⟨by rfl, ?_⟩) ?_ ?_
                rotate_left
                · intro w'
                  first | (go_simp; with_reducible rfl) | (go_simp; (try unfold Instr.field); go_simp; (try simp only [asAgg]); go_simp; with_reducible rfl)
                rotate_left
                · simp only [Act.put, List.setIfInBounds_toArray, List.set_cons_zero, List.set_cons_succ, i64_w, i32_w]
                  rfl
                refine pure_ (i := 3) (N := some 46) (v := ?_) (a' := ?_) #[true, true, true, true, false, false, false, false, false, false, false, false, false, false, false, false, false, false, false, false, false, false, false, false, false, false, false, false, false] rfl rfl (any_of HT_.out (by kernel_rfl)) (fun _ _ _ h => h) (Or.inl ⟨by rfl, ?_⟩) ?_ ?_
                rotate_left
                · intro w'
                  first | (go_simp; with_reducible rfl) | (go_simp; (try unfold Instr.field); go_simp; (try simp only [asAgg]); go_simp; with_reducible rfl)
                rotate_left
                · simp only [Act.put, List.setIfInBounds_toArray, List.set_cons_zero, List.set_cons_succ, i64_w, i32_w]
                  rfl
                refine pure_ (i := 4) (N := some 47) (v := ?_) (a' := ?_) #[true, true, true, true, true, false, false, false, false, false, false, false, false, false, false, false, false, false, false, false, false, false, false, false, false, false, false, false, false] rfl rfl (any_of HT_.out (by kernel_rfl)) (fun _ _ _ h => h) (Or.inl ⟨by rfl, ?_⟩) ?_ ?_
                rotate_left
                · intro w'
                  first | (go_simp; with_reducible rfl) | (go_simp; (try unfold Instr.field); go_simp; (try simp only [asAgg]); go_simp; with_reducible rfl)
                rotate_left
                · simp only [Act.put, List.setIfInBounds_toArray, List.set_cons_zero, List.set_cons_succ, i64_w, i32_w]
                  rfl
                refine take_ (i := 5) (N := some 48) (v := ?_) (a' := ?_) #[true, true, true, true, true, true, false, false, false, false, false, false, false, false, false, false, false, false, false, false, false, false, false, false, false, false, false, false, false] rfl rfl (take_ofW HT_.out HW_.out (by kernel_rfl)) (fun _ _ _ h => h) (Or.inl ⟨by rfl, ?_⟩) hHeld ?_ ?_
                rotate_left
                · rintro w' ⟨s0, s1, s2, s3, s4, s5⟩
                  go_simp
                  with_reducible rfl
                rotate_left
                · simp only [Act.put, List.setIfInBounds_toArray, List.set_cons_zero, List.set_cons_succ, i64_w, i32_w]
                  rfl
                refine pure_ (i := 6) (N := some 49) (v := ?_) (a' := ?_) #[true, true, true, true, true, true, true, false, false, false, false, false, false, false, false, false, false, false, false, false, false, false, false, false, false, false, false, false, false] rfl rfl (any_of HT_.out (by kernel_rfl)) (fun _ _ _ h => h) (Or.inl ⟨by rfl, ?_⟩) ?_ ?_
                rotate_left
                · intro w'
                  first | (go_simp; with_reducible rfl) | (go_simp; (try unfold Instr.field); go_simp; (try simp only [asAgg]); go_simp; with_reducible rfl)
                rotate_left
                · simp only [Act.put, List.setIfInBounds_toArray, List.set_cons_zero, List.set_cons_succ, i64_w, i32_w]
                  rfl
                refine pure_ (i := 7) (N := some 50) (v := ?_) (a' := ?_) #[true, true, true, true, true, true, true, true, false, false, false, false, false, false, false, false, false, false, false, false, false, false, false, false, false, false, false, false, false] rfl rfl (any_of HT_.out (by kernel_rfl)) (fun _ _ _ h => h) (Or.inl ⟨by rfl, ?_⟩) ?_ ?_
                rotate_left
                · intro w'
                  first | (go_simp; with_reducible rfl) | (go_simp; (try unfold Instr.field); go_simp; (try simp only [asAgg]); go_simp; with_reducible rfl)
                rotate_left
                · simp only [Act.put, List.setIfInBounds_toArray, List.set_cons_zero, List.set_cons_succ, i64_w, i32_w]
                  rfl
                refine pure_ (i := 8) (N := some 51) (v := ?_) (a' := ?_) #[true, true, true, true, true, true, true, true, true, false, false, false, false, false, false, false, false, false, false, false, false, false, false, false, false, false, false, false, false] rfl rfl (any_of HT_.out (by kernel_rfl)) (fun _ _ _ h => h) (Or.inl ⟨by rfl, ?_⟩) ?_ ?_
                rotate_left
                · intro w'
                  first | (go_simp; with_reducible rfl) | (go_simp; (try unfold Instr.field); go_simp; (try simp only [asAgg]); go_simp; with_reducible rfl)
                rotate_left
                · simp only [Act.put, List.setIfInBounds_toArray, List.set_cons_zero, List.set_cons_succ, i64_w, i32_w]
                  rfl
                refine pure_ (i := 9) (N := some 52) (v := ?_) (a' := ?_) #[true, true, true, true, true, true, true, true, true, true, false, false, false, false, false, false, false, false, false, false, false, false, false, false, false, false, false, false, false] rfl rfl (any_of HT_.out (by kernel_rfl)) (fun _ _ _ h => h) (Or.inl ⟨by rfl, ?_⟩) ?_ ?_
                rotate_left
                · intro w'
                  first | (go_simp; with_reducible rfl) | (go_simp; (try unfold Instr.field); go_simp; (try simp only [asAgg]); go_simp; with_reducible rfl)
                rotate_left
                · simp only [Act.put, List.setIfInBounds_toArray, List.set_cons_zero, List.set_cons_succ, i64_w, i32_w]
                  rfl
                refine pure_ (i := 11) (N := some 54) (v := ?_) (a' := ?_) #[true, true, true, true, true, true, true, true, true, true, false, true, false, false, false, false, false, false, false, false, false, false, false, false, false, false, false, false, false] rfl rfl (any_of HT_.out (by kernel_rfl)) (fun _ _ _ h => h) (Or.inl ⟨by rfl, ?_⟩) ?_ ?_
                rotate_left
                · intro w'
                  first | (go_simp; with_reducible rfl) | (go_simp; (try unfold Instr.field); go_simp; (try simp only [asAgg]); go_simp; with_reducible rfl)
                rotate_left
                · simp only [Act.put, List.setIfInBounds_toArray, List.set_cons_zero, List.set_cons_succ, i64_w, i32_w]
                  rfl
                refine take_ (i := 10) (N := some 53) (v := ?_) (a' := ?_) #[true, true, true, true, true, true, true, true, true, true, true, true, false, false, false, false, false, false, false, false, false, false, false, false, false, false, false, false, false] rfl rfl (take_ofW HT_.out HW_.out (by kernel_rfl)) (fun _ _ _ h => h) (Or.inl ⟨by rfl, ?_⟩) hHeld ?_ ?_
                rotate_left
                · rintro w' ⟨s0, s1, s2, s3, s4, s5⟩
                  go_simp
                  with_reducible rfl
                rotate_left
                · simp only [Act.put, List.setIfInBounds_toArray, List.set_cons_zero, List.set_cons_succ, i64_w, i32_w]
                  rfl
                refine one_ (i := 12) (N := some 55) #[true, true, true, true, true, true, true, true, true, true, true, true, true, false, false, false, false, false, false, false, false, false, false, false, false, false, false, false, false] rfl rfl (one_of HT_.out (by kernel_rfl)) (by decide) (fun K hK => ?_)
                refine goes_ Try.func32 (by kernel_rfl) rfl #[J Ao28 t283.length co28, I q t265] (by rfl) rfl rfl (by (try simp only [List.map_toArray, List.map_cons, List.map_nil]); first | done | rfl | (simp only [List.length_drop, List.length_take]; rfl)) ?_
                with_reducible refine (impl_CountOf.calls k _ _ t283 t265 t290 _ ?side1 ?side2 A38.out).mono ?_
                (case side1 => repeat (first | exact (Kd.R_reads' O285.out).2.2 | (with_reducible refine ca ?_ _) | (with_reducible refine cN ?_ _) | (with_reducible refine cd1 ?_)))
                (case side2 => exact (Kd.R_reads' O285.out).2.1)
                rintro e w' ⟨rfl, ⟨nd, rfl⟩⟩
                refine ⟨_, rfl, ?_⟩
                refine hK.out _ _ ⟨(bc B281.out 0).trans rfl, (bc B281.out 1).trans rfl, (bc B286.out 0).trans rfl, (bc B286.out 1).trans rfl, (bc B289.out 0).trans rfl, (bc B289.out 1).trans rfl⟩ (fun hHeld => ?_)
                clear hK K
                refine norm_ (a' := ?_) ?_ ?_
                rotate_left
                · show Act.put _ (some 55) _ = _
                  simp only [Act.put, List.setIfInBounds_toArray, List.set_cons_zero, List.set_cons_succ, i64_w, i32_w]
                  rfl
                refine pure_ (i := 13) (N := some 56) (v := ?_) (a' := ?_) #[true, true, true, true, true, true, true, true, true, true, true, true, true, true, false, false, false, false, false, false, false, false, false, false, false, false, false, false, false] rfl rfl (any_of HT_.out (by kernel_rfl)) (fun _ _ _ h => h) (Or.inl ⟨by rfl, ?_⟩) ?_ ?_
                rotate_left
                · intro w'
                  first | (go_simp; with_reducible rfl) | (go_simp; (try unfold Instr.field); go_simp; (try simp only [asAgg]); go_simp; with_reducible rfl)
                rotate_left
                · simp only [Act.put, List.setIfInBounds_toArray, List.set_cons_zero, List.set_cons_succ, i64_w, i32_w]
                  rfl
                refine pure_ (i := 14) (N := some 57) (v := ?_) (a' := ?_) #[true, true, true, true, true, true, true, true, true, true, true, true, true, true, true, false, false, false, false, false, false, false, false, false, false, false, false, false, false] rfl rfl (any_of HT_.out (by kernel_rfl)) (fun _ _ _ h => h) (Or.inl ⟨by rfl, ?_⟩) ?_ ?_
                rotate_left
                · intro w'
                  first | (go_simp; with_reducible rfl) | (go_simp; (try unfold Instr.field); go_simp; (try simp only [asAgg]); go_simp; with_reducible rfl)
                rotate_left
                · simp only [Act.put, List.setIfInBounds_toArray, List.set_cons_zero, List.set_cons_succ, i64_w, i32_w]
                  rfl
                refine pure_ (i := 15) (N := some 58) (v := ?_) (a' := ?_) #[true, true, true, true, true, true, true, true, true, true, true, true, true, true, true, true, false, false, false, false, false, false, false, false, false, false, false, false, false] rfl rfl (any_of HT_.out (by kernel_rfl)) (fun _ _ _ h => h) (Or.inl ⟨by rfl, ?_⟩) ?_ ?_
                rotate_left
                · intro w'
                  first | (go_simp; with_reducible rfl) | (go_simp; (try unfold Instr.field); go_simp; (try simp only [asAgg]); go_simp; with_reducible rfl)
                rotate_left
                · simp only [Act.put, List.setIfInBounds_toArray, List.set_cons_zero, List.set_cons_succ, i64_w, i32_w]
                  rfl
                refine pure_ (i := 16) (N := some 59) (v := ?_) (a' := ?_) #[true, true, true, true, true, true, true, true, true, true, true, true, true, true, true, true, true, false, false, false, false, false, false, false, false, false, false, false, false] rfl rfl (any_of HT_.out (by kernel_rfl)) (fun _ _ _ h => h) (Or.inl ⟨by rfl, ?_⟩) ?_ ?_
                rotate_left
                · intro w'
                  first | (go_simp; with_reducible rfl) | (go_simp; (try unfold Instr.field); go_simp; (try simp only [asAgg]); go_simp; with_reducible rfl)
                rotate_left
                · simp only [Act.put, List.setIfInBounds_toArray, List.set_cons_zero, List.set_cons_succ, i64_w, i32_w]
                  rfl
                refine take_ (i := 17) (N := some 60) (v := ?_) (a' := ?_) #[true, true, true, true, true, true, true, true, true, true, true, true, true, true, true, true, true, true, false, false, false, false, false, false, false, false, false, false, false] rfl rfl (take_ofW HT_.out HW_.out (by kernel_rfl)) (fun _ _ _ h => h) (Or.inl ⟨by rfl, ?_⟩) hHeld ?_ ?_
                rotate_left
                · rintro w' ⟨s0, s1, s2, s3, s4, s5⟩
                  go_simp
                  with_reducible rfl
                rotate_left
                · simp only [Act.put, List.setIfInBounds_toArray, List.set_cons_zero, List.set_cons_succ, i64_w, i32_w]
                  rfl
                refine pure_ (i := 18) (N := some 61) (v := ?_) (a' := ?_) #[true, true, true, true, true, true, true, true, true, true, true, true, true, true, true, true, true, true, true, false, false, false, false, false, false, false, false, false, false] rfl rfl (any_of HT_.out (by kernel_rfl)) (fun _ _ _ h => h) (Or.inl ⟨by rfl, ?_⟩) ?_ ?_
                rotate_left
                · intro w'
                  first | (go_simp; with_reducible rfl) | (go_simp; (try unfold Instr.field); go_simp; (try simp only [asAgg]); go_simp; with_reducible rfl)
                rotate_left
                · simp only [Act.put, List.setIfInBounds_toArray, List.set_cons_zero, List.set_cons_succ, i64_w, i32_w]
                  rfl
                refine pure_ (i := 19) (N := some 62) (v := ?_) (a' := ?_) #[true, true, true, true, true, true, true, true, true, true, true, true, true, true, true, true, true, true, true, true, false, false, false, false, false, false, false, false, false] rfl rfl (any_of HT_.out (by kernel_rfl)) (fun _ _ _ h => h) (Or.inl ⟨by rfl, ?_⟩) ?_ ?_
                rotate_left
                · intro w'
                  first | (go_simp; with_reducible rfl) | (go_simp; (try unfold Instr.field); go_simp; (try simp only [asAgg]); go_simp; with_reducible rfl)
                rotate_left
                · simp only [Act.put, List.setIfInBounds_toArray, List.set_cons_zero, List.set_cons_succ, i64_w, i32_w]
                  rfl
                refine pure_ (i := 20) (N := some 63) (v := ?_) (a' := ?_) #[true, true, true, true, true, true, true, true, true, true, true, true, true, true, true, true, true, true, true, true, true, false, false, false, false, false, false, false, false] rfl rfl (any_of HT_.out (by kernel_rfl)) (fun _ _ _ h => h) (Or.inl ⟨by rfl, ?_⟩) ?_ ?_
                rotate_left
                · intro w'
                  first | (go_simp; with_reducible rfl) | (go_simp; (try unfold Instr.field); go_simp; (try simp only [asAgg]); go_simp; with_reducible rfl)
                rotate_left
                · simp only [Act.put, List.setIfInBounds_toArray, List.set_cons_zero, List.set_cons_succ, i64_w, i32_w]
                  rfl
                refine pure_ (i := 21) (N := some 64) (v := undef) (a' := ?_) #[true, true, true, true, true, true, true, true, true, true, true, true, true, true, true, true, true, true, true, true, true, true, false, false, false, false, false, false, false] rfl rfl (any_of HT_.out (by kernel_rfl)) (fun _ _ _ h => h) (Or.inr ⟨by rfl, rfl⟩) ?_ ?_
                rotate_left
                · simp only [Act.put, List.setIfInBounds_toArray, List.set_cons_zero, List.set_cons_succ, i64_w, i32_w]
                  rfl
                refine pure_ (i := 22) (N := some 65) (v := undef) (a' := ?_) #[true, true, true, true, true, true, true, true, true, true, true, true, true, true, true, true, true, true, true, true, true, true, true, false, false, false, false, false, false] rfl rfl (any_of HT_.out (by kernel_rfl)) (fun _ _ _ h => h) (Or.inr ⟨by rfl, rfl⟩) ?_ ?_
                rotate_left
                · simp only [Act.put, List.setIfInBounds_toArray, List.set_cons_zero, List.set_cons_succ, i64_w, i32_w]
                  rfl
                refine pure_ (i := 23) (N := some 66) (v := undef) (a' := ?_) #[true, true, true, true, true, true, true, true, true, true, true, true, true, true, true, true, true, true, true, true, true, true, true, true, false, false, false, false, false] rfl rfl (any_of HT_.out (by kernel_rfl)) (fun _ _ _ h => h) (Or.inr ⟨by rfl, rfl⟩) ?_ ?_
                rotate_left
                · simp only [Act.put, List.setIfInBounds_toArray, List.set_cons_zero, List.set_cons_succ, i64_w, i32_w]
                  rfl
                refine pure_ (i := 24) (N := some 67) (v := undef) (a' := ?_) #[true, true, true, true, true, true, true, true, true, true, true, true, true, true, true, true, true, true, true, true, true, true, true, true, true, false, false, false, false] rfl rfl (any_of HT_.out (by kernel_rfl)) (fun _ _ _ h => h) (Or.inr ⟨by rfl, rfl⟩) ?_ ?_
                rotate_left
                · simp only [Act.put, List.setIfInBounds_toArray, List.set_cons_zero, List.set_cons_succ, i64_w, i32_w]
                  rfl
                refine pure_ (i := 25) (N := some 68) (v := undef) (a' := ?_) #[true, true, true, true, true, true, true, true, true, true, true, true, true, true, true, true, true, true, true, true, true, true, true, true, true, true, false, false, false] rfl rfl (any_of HT_.out (by kernel_rfl)) (fun _ _ _ h => h) (Or.inr ⟨by rfl, rfl⟩) ?_ ?_
                rotate_left
                · simp only [Act.put, List.setIfInBounds_toArray, List.set_cons_zero, List.set_cons_succ, i64_w, i32_w]
                  rfl
                refine pure_ (i := 26) (N := some 69) (v := undef) (a' := ?_) #[true, true, true, true, true, true, true, true, true, true, true, true, true, true, true, true, true, true, true, true, true, true, true, true, true, true, true, false, false] rfl rfl (any_of HT_.out (by kernel_rfl)) (fun _ _ _ h => h) (Or.inr ⟨by rfl, rfl⟩) ?_ ?_
                rotate_left
                · simp only [Act.put, List.setIfInBounds_toArray, List.set_cons_zero, List.set_cons_succ, i64_w, i32_w]
                  rfl
                refine pure_ (i := 27) (N := some 70) (v := undef) (a' := ?_) #[true, true, true, true, true, true, true, true, true, true, true, true, true, true, true, true, true, true, true, true, true, true, true, true, true, true, true, true, false] rfl rfl (any_of HT_.out (by kernel_rfl)) (fun _ _ _ h => h) (Or.inr ⟨by rfl, rfl⟩) ?_ ?_
                rotate_left
                · simp only [Act.put, List.setIfInBounds_toArray, List.set_cons_zero, List.set_cons_succ, i64_w, i32_w]
                  rfl
                refine pure_ (i := 28) (N := some 71) (v := ?_) (a' := ?_) #[true, true, true, true, true, true, true, true, true, true, true, true, true, true, true, true, true, true, true, true, true, true, true, true, true, true, true, true, true] rfl rfl (any_of HT_.out (by kernel_rfl)) (fun _ _ _ h => h) (Or.inl ⟨by rfl, ?_⟩) ?_ ?_
                rotate_left
                · intro w'
                  first | (go_simp; with_reducible rfl) | (go_simp; (try unfold Instr.field); go_simp; (try simp only [asAgg]); go_simp; with_reducible rfl)
                rotate_left
                · simp only [Act.put, List.setIfInBounds_toArray, List.set_cons_zero, List.set_cons_succ, i64_w, i32_w]
                  rfl
                refine done_ (done_of HT_.out (by kernel_rfl)) ?_
                try go_wp2
                go_meet
                case rel => exact ⟨_, (true), (by first | rfl | (simp; done) | (simp [*]; done)), H', ⟨by first | omega | exact Nat.le_refl _⟩, ⟨by (with_reducible repeat (first | apply ra | apply rN | apply rd1)); exact O267.out⟩, ⟨by (with_reducible repeat (first | apply ra | apply rN | apply rd1)); exact O271.out⟩, ⟨by (with_reducible repeat (first | apply ra | apply rN | apply rd1)); exact O280.out⟩, ⟨by (with_reducible repeat (first | apply ra | apply rN | apply rd1)); exact O285.out⟩, ⟨by (with_reducible repeat (first | apply bN | apply bd | apply ba)); exact B272.out⟩, ⟨by (with_reducible repeat (first | apply bN | apply bd | apply ba)); exact B281.out⟩, ⟨by (with_reducible repeat (first | apply bN | apply bd | apply ba)); exact B286.out⟩, ⟨by (with_reducible repeat (first | apply bN | apply bd | apply ba)); exact B289.out⟩, ⟨by repeat (first | (with_reducible first | exact HB.out | apply pa | apply pN | apply p1 | refine bs ?_ E272.out | refine bs ?_ E281.out | refine bs ?_ E286.out | refine bs ?_ E289.out) | exact HB.out)⟩⟩
            · rw [if_neg c39] at H
              have c39b0 : (t290 == 0) = false := beq_eq_false_iff_ne.mpr c39
              have c39b1 : (t290 != 0) = true := bne_iff_ne.mpr c39
              have H' := am H
              clear H
              try go_wp2
              have N0 : Aside0 (Kd.R k53 53 ((w31.setCell ⟨g289, 0, none⟩ (I q t287)).setCell ⟨g289, 1, none⟩ (I q t288)) w.heap.size (fun k_ => some k_ ≠ (J Ao16 t269.length co16 : Value).ownBlock) (J Ao12 t264.length co12) t264) := ⟨by (with_reducible repeat (first | apply ra | apply rN | apply rd1)); exact Kd.R_mono (rf (p := ⟨g289, 1, none⟩) (rf (p := ⟨g289, 0, none⟩) (Kd.R_types O267.out B289.out (by decide)) (fun _ hk => hk.2) (I q t287)) (fun _ hk => hk.2) (I q t288)) (fun _ hk => hk.1.2)⟩
              have N1 : Aside0 (Kd.R k53 53 ((w31.setCell ⟨g289, 0, none⟩ (I q t287)).setCell ⟨g289, 1, none⟩ (I q t288)) w.heap.size (fun k_ => some k_ ≠ (J Ao12 t264.length co12 : Value).ownBlock) (J Ao16 t269.length co16) t269) := ⟨by (with_reducible repeat (first | apply ra | apply rN | apply rd1)); exact Kd.R_mono (rf (p := ⟨g289, 1, none⟩) (rf (p := ⟨g289, 0, none⟩) (Kd.R_types O271.out B289.out (by decide)) (fun _ hk => hk.2) (I q t287)) (fun _ hk => hk.2) (I q t288)) (fun _ hk => hk.1.2)⟩
              have N2 : Aside0 (Kd.R (Kd.int .i64) 2 ((w31.setCell ⟨g289, 0, none⟩ (I q t287)).setCell ⟨g289, 1, none⟩ (I q t288)) w.heap.size (fun k_ => some k_ ≠ (J Ao28 t283.length co28 : Value).ownBlock) (J Ao21 t278.length co21) t278) := ⟨by (with_reducible repeat (first | apply ra | apply rN | apply rd1)); exact Kd.R_mono (rf (p := ⟨g289, 1, none⟩) (rf (p := ⟨g289, 0, none⟩) (Kd.R_types O280.out B289.out (by decide)) (fun _ hk => hk.2) (I q t287)) (fun _ hk => hk.2) (I q t288)) (fun _ hk => hk.1.2)⟩
              have N3 : Aside0 (Kd.R (Kd.int .i64) 2 ((w31.setCell ⟨g289, 0, none⟩ (I q t287)).setCell ⟨g289, 1, none⟩ (I q t288)) w.heap.size (fun k_ => some k_ ≠ (J Ao21 t278.length co21 : Value).ownBlock) (J Ao28 t283.length co28) t283) := ⟨by (with_reducible repeat (first | apply ra | apply rN | apply rd1)); exact Kd.R_mono (rf (p := ⟨g289, 1, none⟩) (rf (p := ⟨g289, 0, none⟩) (Kd.R_types O285.out B289.out (by decide)) (fun _ hk => hk.2) (I q t287)) (fun _ hk => hk.2) (I q t288)) (fun _ hk => hk.1.2)⟩
              have N4 : Aside0 (((w31.setCell ⟨g289, 0, none⟩ (I q t287)).setCell ⟨g289, 1, none⟩ (I q t288)).heap[g272]? = some (.cells #[I q t268, J Ao16 t269.length co16] 30 (0, 0))) := ⟨by (with_reducible repeat (first | apply bN | apply bd | apply ba)); refine bq ?_ NB272_289.out _; (with_reducible repeat (first | apply bN | apply bd | apply ba)); refine bq ?_ NB272_289.out _; (with_reducible repeat (first | apply bN | apply bd | apply ba)); exact B272.out⟩
              have N5 : Aside0 (((w31.setCell ⟨g289, 0, none⟩ (I q t287)).setCell ⟨g289, 1, none⟩ (I q t288)).heap[g281]? = some (.cells #[I q t277, J Ao21 t278.length co21] 45 (0, 0))) := ⟨by (with_reducible repeat (first | apply bN | apply bd | apply ba)); refine bq ?_ NB281_289.out _; (with_reducible repeat (first | apply bN | apply bd | apply ba)); refine bq ?_ NB281_289.out _; (with_reducible repeat (first | apply bN | apply bd | apply ba)); exact B281.out⟩
              have N6 : Aside0 (((w31.setCell ⟨g289, 0, none⟩ (I q t287)).setCell ⟨g289, 1, none⟩ (I q t288)).heap[g286]? = some (.cells #[I q t282, J Ao28 t283.length co28] 45 (0, 0))) := ⟨by (with_reducible repeat (first | apply bN | apply bd | apply ba)); refine bq ?_ NB286_289.out _; (with_reducible repeat (first | apply bN | apply bd | apply ba)); refine bq ?_ NB286_289.out _; (with_reducible repeat (first | apply bN | apply bd | apply ba)); exact B286.out⟩
              have N7 : Aside0 (((w31.setCell ⟨g289, 0, none⟩ (I q t287)).setCell ⟨g289, 1, none⟩ (I q t288)).heap[g289]? = some (.cells #[I q t287, I q t288] 58 (0, 0))) := ⟨by (with_reducible repeat (first | apply bN | apply bd | apply ba)); refine blk_put (cs := #[I q t287, I q 0]) ?_ 1 _ rfl; (with_reducible repeat (first | apply bN | apply bd | apply ba)); refine blk_put (cs := #[I q 0, I q 0]) ?_ 0 _ rfl; (with_reducible repeat (first | apply bN | apply bd | apply ba)); exact B289.out⟩
              have N8 : Aside0 (Below w.heap.size w ((w31.setCell ⟨g289, 0, none⟩ (I q t287)).setCell ⟨g289, 1, none⟩ (I q t288))) := ⟨by repeat (first | (with_reducible first | exact HB.out | apply pa | apply pN | apply p1 | refine bs ?_ E272.out | refine bs ?_ E281.out | refine bs ?_ E286.out | refine bs ?_ E289.out) | exact HB.out)⟩
              (try clear O267)
              (try clear O271)
              (try clear O280)
              (try clear O285)
              (try clear B272)
              (try clear B281)
              (try clear B286)
              (try clear B289)
              (try clear HB)
              generalize ((w31.setCell ⟨g289, 0, none⟩ (I q t287)).setCell ⟨g289, 1, none⟩ (I q t288)) = w46 at N0 N1 N2 N3 N4 N5 N6 N7 N8 ⊢
              have O267 := N0
              have O271 := N1
              have O280 := N2
              have O285 := N3
              have B272 := N4
              have B281 := N5
              have B286 := N6
              have B289 := N7
              have HB := N8
              clear N0 N1 N2 N3 N4 N5 N6 N7 N8
              have N0 := am (rd1 O267.out)
              have N1 := am (rd1 O271.out)
              have N2 := am (rd1 O280.out)
              have N3 := am (rd1 O285.out)
              have N4 := am (bd B272.out)
              have N5 := am (bd B281.out)
              have N6 := am (bd B286.out)
              have N7 := am (bd B289.out)
              have N8 := am (p1 HB.out)
              clear O267
              clear O271
              clear O280
              clear O285
              clear B272
              clear B281
              clear B286
              clear B289
              clear HB
              have O267 := N0
              have O271 := N1
              have O280 := N2
              have O285 := N3
              have B272 := N4
              have B281 := N5
              have B286 := N6
              have B289 := N7
              have HB := N8
              clear N0 N1 N2 N3 N4 N5 N6 N7 N8
              refine start_ (n := 29) (S := fun w' => w'.cell? ⟨g281, 0, none⟩ = some (I q t277) ∧ w'.cell? ⟨g281, 1, none⟩ = some (J Ao21 t278.length co21) ∧ w'.cell? ⟨g286, 0, none⟩ = some (I q t282) ∧ w'.cell? ⟨g286, 1, none⟩ = some (J Ao28 t283.length co28)) (ds := []) #[false, false, false, false, false, false, false, false, false, false, false, false, false, false, false, false, false, false, false, false, false, false, false, false, false, false, false, false, false] (by kernel_rfl) rfl rfl ⟨(bc B281.out 0).trans rfl, (bc B281.out 1).trans rfl, (bc B286.out 0).trans rfl, (bc B286.out 1).trans rfl⟩ (fun hHeld => ?_); refine with_tabW laws_FnLooks.tab10 laws_FnLooks.bits10 (fun HT_ HW_ => ?_)
              generalize w46.drew = w47 at O267 O271 O280 O285 B272 B281 B286 B289 HB hHeld ⊢
              refine pure_ (i := 0) (N := some 43) (v := ?_) (a' := ?_) #[true, false, false, false, false, false, false, false, false, false, false, false, false, false, false, false, false, false, false, false, false, false, false, false, false, false, false, false, false] rfl rfl (any_of HT_.out (by kernel_rfl)) (fun _ _ _ h => h) (Or.inl ⟨by rfl, ?_⟩) ?_ ?_
              rotate_left
              · intro w'
                first | (go_simp; with_reducible rfl) | (go_simp; (try unfold Instr.field); go_simp; (try simp only [asAgg]); go_simp; with_reducible rfl)
              rotate_left
              · simp only [Act.put, List.setIfInBounds_toArray, List.set_cons_zero, List.set_cons_succ, i64_w, i32_w]
                rfl
              refine take_ (i := 1) (N := some 44) (v := ?_) (a' := ?_) #[true, true, false, false, false, false, false, false, false, false, false, false, false, false, false, false, false, false, false, false, false, false, false, false, false, false, false, false, false] rfl rfl (take_ofW HT_.out HW_.out (by kernel_rfl)) (fun _ _ _ h => h) (Or.inl ⟨by rfl, ?_⟩) hHeld ?_ ?_
              rotate_left
              · rintro w' ⟨s0, s1, s2, s3⟩
                go_simp
                with_reducible rfl
              rotate_left
              · simp only [Act.put, List.setIfInBounds_toArray, List.set_cons_zero, List.set_cons_succ, i64_w, i32_w]
                rfl
              refine pure_ (i := 2) (N := some 45) (v := ?_) (a' := ?_) #[true, true, true, false, false, false, false, false, false, false, false, false, false, false, false, false, false, false, false, false, false, false, false, false, false, false, false, false, false] rfl rfl (any_of HT_.out (by kernel_rfl)) (fun _ _ _ h => h) (Or.inl ⟨by rfl, ?_⟩) ?_ ?_
              rotate_left
              · intro w'
                first | (go_simp; with_reducible rfl) | (go_simp; (try unfold Instr.field); go_simp; (try simp only [asAgg]); go_simp; with_reducible rfl)
              rotate_left
              · simp only [Act.put, List.setIfInBounds_toArray, List.set_cons_zero, List.set_cons_succ, i64_w, i32_w]
                rfl
              refine pure_ (i := 3) (N := some 46) (v := ?_) (a' := ?_) #[true, true, true, true, false, false, false, false, false, false, false, false, false, false, false, false, false, false, false, false, false, false, false, false, false, false, false, false, false] rfl rfl (any_of HT_.out (by kernel_rfl)) (fun _ _ _ h => h) (Or.inl ⟨by rfl, ?_⟩) ?_ ?_
              rotate_left
              · intro w'
                first | (go_simp; with_reducible rfl) | (go_simp; (try unfold Instr.field); go_simp; (try simp only [asAgg]); go_simp; with_reducible rfl)
              rotate_left
              · simp only [Act.put, List.setIfInBounds_toArray, List.set_cons_zero, List.set_cons_succ, i64_w, i32_w]
                rfl
              refine pure_ (i := 4) (N := some 47) (v := ?_) (a' := ?_) #[true, true, true, true, true, false, false, false, false, false, false, false, false, false, false, false, false, false, false, false, false, false, false, false, false, false, false, false, false] rfl rfl (any_of HT_.out (by kernel_rfl)) (fun _ _ _ h => h) (Or.inl ⟨by rfl, ?_⟩) ?_ ?_
              rotate_left
              · intro w'
                first | (go_simp; with_reducible rfl) | (go_simp; (try unfold Instr.field); go_simp; (try simp only [asAgg]); go_simp; with_reducible rfl)
              rotate_left
              · simp only [Act.put, List.setIfInBounds_toArray, List.set_cons_zero, List.set_cons_succ, i64_w, i32_w]
                rfl
              refine take_ (i := 5) (N := some 48) (v := ?_) (a' := ?_) #[true, true, true, true, true, true, false, false, false, false, false, false, false, false, false, false, false, false, false, false, false, false, false, false, false, false, false, false, false] rfl rfl (take_ofW HT_.out HW_.out (by kernel_rfl)) (fun _ _ _ h => h) (Or.inl ⟨by rfl, ?_⟩) hHeld ?_ ?_
              rotate_left
              · rintro w' ⟨s0, s1, s2, s3⟩
                go_simp
                with_reducible rfl
              rotate_left
              · simp only [Act.put, List.setIfInBounds_toArray, List.set_cons_zero, List.set_cons_succ, i64_w, i32_w]
                rfl
              refine pure_ (i := 6) (N := some 49) (v := ?_) (a' := ?_) #[true, true, true, true, true, true, true, false, false, false, false, false, false, false, false, false, false, false, false, false, false, false, false, false, false, false, false, false, false] rfl rfl (any_of HT_.out (by kernel_rfl)) (fun _ _ _ h => h) (Or.inl ⟨by rfl, ?_⟩) ?_ ?_
              rotate_left
              · intro w'
                first | (go_simp; with_reducible rfl) | (go_simp; (try unfold Instr.field); go_simp; (try simp only [asAgg]); go_simp; with_reducible rfl)
              rotate_left
              · simp only [Act.put, List.setIfInBounds_toArray, List.set_cons_zero, List.set_cons_succ, i64_w, i32_w]
                rfl
              refine pure_ (i := 7) (N := some 50) (v := ?_) (a' := ?_) #[true, true, true, true, true, true, true, true, false, false, false, false, false, false, false, false, false, false, false, false, false, false, false, false, false, false, false, false, false] rfl rfl (any_of HT_.out (by kernel_rfl)) (fun _ _ _ h => h) (Or.inl ⟨by rfl, ?_⟩) ?_ ?_
              rotate_left
              · intro w'
                first | (go_simp; with_reducible rfl) | (go_simp; (try unfold Instr.field); go_simp; (try simp only [asAgg]); go_simp; with_reducible rfl)
              rotate_left
              · simp only [Act.put, List.setIfInBounds_toArray, List.set_cons_zero, List.set_cons_succ, i64_w, i32_w]
                rfl
              refine pure_ (i := 8) (N := some 51) (v := ?_) (a' := ?_) #[true, true, true, true, true, true, true, true, true, false, false, false, false, false, false, false, false, false, false, false, false, false, false, false, false, false, false, false, false] rfl rfl (any_of HT_.out (by kernel_rfl)) (fun _ _ _ h => h) (Or.inl ⟨by rfl, ?_⟩) ?_ ?_
              rotate_left
              · intro w'
                first | (go_simp; with_reducible rfl) | (go_simp; (try unfold Instr.field); go_simp; (try simp only [asAgg]); go_simp; with_reducible rfl)
              rotate_left
              · simp only [Act.put, List.setIfInBounds_toArray, List.set_cons_zero, List.set_cons_succ, i64_w, i32_w]
                rfl
              refine pure_ (i := 9) (N := some 52) (v := ?_) (a' := ?_) #[true, true, true, true, true, true, true, true, true, true, false, false, false, false, false, false, false, false, false, false, false, false, false, false, false, false, false, false, false] rfl rfl (any_of HT_.out (by kernel_rfl)) (fun _ _ _ h => h) (Or.inl ⟨by rfl, ?_⟩) ?_ ?_
              rotate_left
              · intro w'
                first | (go_simp; with_reducible rfl) | (go_simp; (try unfold Instr.field); go_simp; (try simp only [asAgg]); go_simp; with_reducible rfl)
              rotate_left
              · simp only [Act.put, List.setIfInBounds_toArray, List.set_cons_zero, List.set_cons_succ, i64_w, i32_w]
                rfl
              refine pure_ (i := 11) (N := some 54) (v := ?_) (a' := ?_) #[true, true, true, true, true, true, true, true, true, true, false, true, false, false, false, false, false, false, false, false, false, false, false, false, false, false, false, false, false] rfl rfl (any_of HT_.out (by kernel_rfl)) (fun _ _ _ h => h) (Or.inl ⟨by rfl, ?_⟩) ?_ ?_
              rotate_left
              · intro w'
                first | (go_simp; with_reducible rfl) | (go_simp; (try unfold Instr.field); go_simp; (try simp only [asAgg]); go_simp; with_reducible rfl)
              rotate_left
              · simp only [Act.put, List.setIfInBounds_toArray, List.set_cons_zero, List.set_cons_succ, i64_w, i32_w]
                rfl
              refine take_ (i := 10) (N := some 53) (v := ?_) (a' := ?_) #[true, true, true, true, true, true, true, true, true, true, true, true, false, false, false, false, false, false, false, false, false, false, false, false, false, false, false, false, false] rfl rfl (take_ofW HT_.out HW_.out (by kernel_rfl)) (fun _ _ _ h => h) (Or.inl ⟨by rfl, ?_⟩) hHeld ?_ ?_
              rotate_left
              · rintro w' ⟨s0, s1, s2, s3⟩
                go_simp
                with_reducible rfl
              rotate_left
              · simp only [Act.put, List.setIfInBounds_toArray, List.set_cons_zero, List.set_cons_succ, i64_w, i32_w]
                rfl
              refine one_ (i := 12) (N := some 55) #[true, true, true, true, true, true, true, true, true, true, true, true, true, false, false, false, false, false, false, false, false, false, false, false, false, false, false, false, false] rfl rfl (one_of HT_.out (by kernel_rfl)) (by decide) (fun K hK => ?_)
              refine goes_ Try.func32 (by kernel_rfl) rfl #[J Ao28 t283.length co28, I q t265] (by rfl) rfl rfl (by (try simp only [List.map_toArray, List.map_cons, List.map_nil]); first | done | rfl | (simp only [List.length_drop, List.length_take]; rfl)) ?_
              with_reducible refine (impl_CountOf.calls k _ _ t283 t265 t290 _ ?side1 ?side2 A38.out).mono ?_
              (case side1 => repeat (first | exact (Kd.R_reads' O285.out).2.2 | (with_reducible refine ca ?_ _) | (with_reducible refine cN ?_ _) | (with_reducible refine cd1 ?_)))
              (case side2 => exact (Kd.R_reads' O285.out).2.1)
              rintro e w' ⟨rfl, ⟨nd, rfl⟩⟩
              refine ⟨_, rfl, ?_⟩
              refine hK.out _ _ ⟨(bc B281.out 0).trans rfl, (bc B281.out 1).trans rfl, (bc B286.out 0).trans rfl, (bc B286.out 1).trans rfl⟩ (fun hHeld => ?_)
              clear hK K
              refine norm_ (a' := ?_) ?_ ?_
              rotate_left
              · show Act.put _ (some 55) _ = _
                simp only [Act.put, List.setIfInBounds_toArray, List.set_cons_zero, List.set_cons_succ, i64_w, i32_w]
                rfl
              refine pure_ (i := 13) (N := some 56) (v := ?_) (a' := ?_) #[true, true, true, true, true, true, true, true, true, true, true, true, true, true, false, false, false, false, false, false, false, false, false, false, false, false, false, false, false] rfl rfl (any_of HT_.out (by kernel_rfl)) (fun _ _ _ h => h) (Or.inl ⟨by rfl, ?_⟩) ?_ ?_
              rotate_left
              · intro w'
                first | (go_simp; with_reducible rfl) | (go_simp; (try unfold Instr.field); go_simp; (try simp only [asAgg]); go_simp; with_reducible rfl)
              rotate_left
              · simp only [Act.put, List.setIfInBounds_toArray, List.set_cons_zero, List.set_cons_succ, i64_w, i32_w]
                rfl
              refine pure_ (i := 14) (N := some 57) (v := ?_) (a' := ?_) #[true, true, true, true, true, true, true, true, true, true, true, true, true, true, true, false, false, false, false, false, false, false, false, false, false, false, false, false, false] rfl rfl (any_of HT_.out (by kernel_rfl)) (fun _ _ _ h => h) (Or.inl ⟨by rfl, ?_⟩) ?_ ?_
              rotate_left
              · intro w'
                first | (go_simp; with_reducible rfl) | (go_simp; (try unfold Instr.field); go_simp; (try simp only [asAgg]); go_simp; with_reducible rfl)
              rotate_left
              · simp only [Act.put, List.setIfInBounds_toArray, List.set_cons_zero, List.set_cons_succ, i64_w, i32_w]
                rfl
              refine pure_ (i := 15) (N := some 58) (v := ?_) (a' := ?_) #[true, true, true, true, true, true, true, true, true, true, true, true, true, true, true, true, false, false, false, false, false, false, false, false, false, false, false, false, false] rfl rfl (any_of HT_.out (by kernel_rfl)) (fun _ _ _ h => h) (Or.inl ⟨by rfl, ?_⟩) ?_ ?_
              rotate_left
              · intro w'
                first | (go_simp; with_reducible rfl) | (go_simp; (try unfold Instr.field); go_simp; (try simp only [asAgg]); go_simp; with_reducible rfl)
              rotate_left
              · simp only [Act.put, List.setIfInBounds_toArray, List.set_cons_zero, List.set_cons_succ, i64_w, i32_w]
                rfl
              refine pure_ (i := 16) (N := some 59) (v := undef) (a' := ?_) #[true, true, true, true, true, true, true, true, true, true, true, true, true, true, true, true, true, false, false, false, false, false, false, false, false, false, false, false, false] rfl rfl (any_of HT_.out (by kernel_rfl)) (fun _ _ _ h => h) (Or.inr ⟨by rfl, rfl⟩) ?_ ?_
              rotate_left
              · simp only [Act.put, List.setIfInBounds_toArray, List.set_cons_zero, List.set_cons_succ, i64_w, i32_w]
                rfl
              refine pure_ (i := 17) (N := some 60) (v := undef) (a' := ?_) #[true, true, true, true, true, true, true, true, true, true, true, true, true, true, true, true, true, true, false, false, false, false, false, false, false, false, false, false, false] rfl rfl (any_of HT_.out (by kernel_rfl)) (fun _ _ _ h => h) (Or.inr ⟨by rfl, rfl⟩) ?_ ?_
              rotate_left
              · simp only [Act.put, List.setIfInBounds_toArray, List.set_cons_zero, List.set_cons_succ, i64_w, i32_w]
                rfl
              refine pure_ (i := 18) (N := some 61) (v := undef) (a' := ?_) #[true, true, true, true, true, true, true, true, true, true, true, true, true, true, true, true, true, true, true, false, false, false, false, false, false, false, false, false, false] rfl rfl (any_of HT_.out (by kernel_rfl)) (fun _ _ _ h => h) (Or.inr ⟨by rfl, rfl⟩) ?_ ?_
              rotate_left
              · simp only [Act.put, List.setIfInBounds_toArray, List.set_cons_zero, List.set_cons_succ, i64_w, i32_w]
                rfl
              refine pure_ (i := 19) (N := some 62) (v := ?_) (a' := ?_) #[true, true, true, true, true, true, true, true, true, true, true, true, true, true, true, true, true, true, true, true, false, false, false, false, false, false, false, false, false] rfl rfl (any_of HT_.out (by kernel_rfl)) (fun _ _ _ h => h) (Or.inl ⟨by rfl, ?_⟩) ?_ ?_
              rotate_left
              · intro w'
                first | (go_simp; with_reducible rfl) | (go_simp; (try unfold Instr.field); go_simp; (try simp only [asAgg]); go_simp; with_reducible rfl)
              rotate_left
              · simp only [Act.put, List.setIfInBounds_toArray, List.set_cons_zero, List.set_cons_succ, i64_w, i32_w]
                rfl
              refine pure_ (i := 20) (N := some 63) (v := ?_) (a' := ?_) #[true, true, true, true, true, true, true, true, true, true, true, true, true, true, true, true, true, true, true, true, true, false, false, false, false, false, false, false, false] rfl rfl (any_of HT_.out (by kernel_rfl)) (fun _ _ _ h => h) (Or.inl ⟨by rfl, ?_⟩) ?_ ?_
              rotate_left
              · intro w'
                first | (go_simp; with_reducible rfl) | (go_simp; (try unfold Instr.field); go_simp; (try simp only [asAgg]); go_simp; with_reducible rfl)
              rotate_left
              · simp only [Act.put, List.setIfInBounds_toArray, List.set_cons_zero, List.set_cons_succ, i64_w, i32_w]
                rfl
              refine pure_ (i := 21) (N := some 64) (v := undef) (a' := ?_) #[true, true, true, true, true, true, true, true, true, true, true, true, true, true, true, true, true, true, true, true, true, true, false, false, false, false, false, false, false] rfl rfl (any_of HT_.out (by kernel_rfl)) (fun _ _ _ h => h) (Or.inr ⟨by rfl, rfl⟩) ?_ ?_
              rotate_left
              · simp only [Act.put, List.setIfInBounds_toArray, List.set_cons_zero, List.set_cons_succ, i64_w, i32_w]
                rfl
              refine pure_ (i := 22) (N := some 65) (v := undef) (a' := ?_) #[true, true, true, true, true, true, true, true, true, true, true, true, true, true, true, true, true, true, true, true, true, true, true, false, false, false, false, false, false] rfl rfl (any_of HT_.out (by kernel_rfl)) (fun _ _ _ h => h) (Or.inr ⟨by rfl, rfl⟩) ?_ ?_
              rotate_left
              · simp only [Act.put, List.setIfInBounds_toArray, List.set_cons_zero, List.set_cons_succ, i64_w, i32_w]
                rfl
              refine pure_ (i := 23) (N := some 66) (v := undef) (a' := ?_) #[true, true, true, true, true, true, true, true, true, true, true, true, true, true, true, true, true, true, true, true, true, true, true, true, false, false, false, false, false] rfl rfl (any_of HT_.out (by kernel_rfl)) (fun _ _ _ h => h) (Or.inr ⟨by rfl, rfl⟩) ?_ ?_
              rotate_left
              · simp only [Act.put, List.setIfInBounds_toArray, List.set_cons_zero, List.set_cons_succ, i64_w, i32_w]
                rfl
              refine pure_ (i := 24) (N := some 67) (v := undef) (a' := ?_) #[true, true, true, true, true, true, true, true, true, true, true, true, true, true, true, true, true, true, true, true, true, true, true, true, true, false, false, false, false] rfl rfl (any_of HT_.out (by kernel_rfl)) (fun _ _ _ h => h) (Or.inr ⟨by rfl, rfl⟩) ?_ ?_
              rotate_left
              · simp only [Act.put, List.setIfInBounds_toArray, List.set_cons_zero, List.set_cons_succ, i64_w, i32_w]
                rfl
              refine pure_ (i := 25) (N := some 68) (v := undef) (a' := ?_) #[true, true, true, true, true, true, true, true, true, true, true, true, true, true, true, true, true, true, true, true, true, true, true, true, true, true, false, false, false] rfl rfl (any_of HT_.out (by kernel_rfl)) (fun _ _ _ h => h) (Or.inr ⟨by rfl, rfl⟩) ?_ ?_
              rotate_left
              · simp only [Act.put, List.setIfInBounds_toArray, List.set_cons_zero, List.set_cons_succ, i64_w, i32_w]
                rfl
              refine pure_ (i := 26) (N := some 69) (v := undef) (a' := ?_) #[true, true, true, true, true, true, true, true, true, true, true, true, true, true, true, true, true, true, true, true, true, true, true, true, true, true, true, false, false] rfl rfl (any_of HT_.out (by kernel_rfl)) (fun _ _ _ h => h) (Or.inr ⟨by rfl, rfl⟩) ?_ ?_
              rotate_left
              · simp only [Act.put, List.setIfInBounds_toArray, List.set_cons_zero, List.set_cons_succ, i64_w, i32_w]
                rfl
              refine pure_ (i := 27) (N := some 70) (v := undef) (a' := ?_) #[true, true, true, true, true, true, true, true, true, true, true, true, true, true, true, true, true, true, true, true, true, true, true, true, true, true, true, true, false] rfl rfl (any_of HT_.out (by kernel_rfl)) (fun _ _ _ h => h) (Or.inr ⟨by rfl, rfl⟩) ?_ ?_
              rotate_left
              · simp only [Act.put, List.setIfInBounds_toArray, List.set_cons_zero, List.set_cons_succ, i64_w, i32_w]
                rfl
              refine pure_ (i := 28) (N := some 71) (v := ?_) (a' := ?_) #[true, true, true, true, true, true, true, true, true, true, true, true, true, true, true, true, true, true, true, true, true, true, true, true, true, true, true, true, true] rfl rfl (any_of HT_.out (by kernel_rfl)) (fun _ _ _ h => h) (Or.inl ⟨by rfl, ?_⟩) ?_ ?_
              rotate_left
              · intro w'
                first | (go_simp; with_reducible rfl) | (go_simp; (try unfold Instr.field); go_simp; (try simp only [asAgg]); go_simp; with_reducible rfl)
              rotate_left
              · simp only [Act.put, List.setIfInBounds_toArray, List.set_cons_zero, List.set_cons_succ, i64_w, i32_w]
                rfl
              refine done_ (done_of HT_.out (by kernel_rfl)) ?_
              try go_wp2
              go_meet
              case rel => exact ⟨_, (true), (by first | rfl | (simp; done) | (simp [*]; done)), H', ⟨by first | omega | exact Nat.le_refl _⟩, ⟨by (with_reducible repeat (first | apply ra | apply rN | apply rd1)); exact O267.out⟩, ⟨by (with_reducible repeat (first | apply ra | apply rN | apply rd1)); exact O271.out⟩, ⟨by (with_reducible repeat (first | apply ra | apply rN | apply rd1)); exact O280.out⟩, ⟨by (with_reducible repeat (first | apply ra | apply rN | apply rd1)); exact O285.out⟩, ⟨by (with_reducible repeat (first | apply bN | apply bd | apply ba)); exact B272.out⟩, ⟨by (with_reducible repeat (first | apply bN | apply bd | apply ba)); exact B281.out⟩, ⟨by (with_reducible repeat (first | apply bN | apply bd | apply ba)); exact B286.out⟩, ⟨by (with_reducible repeat (first | apply bN | apply bd | apply ba)); exact B289.out⟩, ⟨by repeat (first | (with_reducible first | exact HB.out | apply pa | apply pN | apply p1 | refine bs ?_ E272.out | refine bs ?_ E281.out | refine bs ?_ E286.out | refine bs ?_ E289.out) | exact HB.out)⟩⟩
          · rw [if_neg c37] at H
            have c37b0 : (t282 == 0) = false := beq_eq_false_iff_ne.mpr c37
            have c37b1 : (t282 != 0) = true := bne_iff_ne.mpr c37
            have H' := am H
            clear H
            try go_wp2
            have N0 : Aside0 (Kd.R k53 53 ((w31.setCell ⟨g289, 0, none⟩ (I q t287)).setCell ⟨g289, 1, none⟩ (I q t288)) w.heap.size (fun k_ => some k_ ≠ (J Ao16 t269.length co16 : Value).ownBlock) (J Ao12 t264.length co12) t264) := ⟨by (with_reducible repeat (first | apply ra | apply rN | apply rd1)); exact Kd.R_mono (rf (p := ⟨g289, 1, none⟩) (rf (p := ⟨g289, 0, none⟩) (Kd.R_types O267.out B289.out (by decide)) (fun _ hk => hk.2) (I q t287)) (fun _ hk => hk.2) (I q t288)) (fun _ hk => hk.1.2)⟩
            have N1 : Aside0 (Kd.R k53 53 ((w31.setCell ⟨g289, 0, none⟩ (I q t287)).setCell ⟨g289, 1, none⟩ (I q t288)) w.heap.size (fun k_ => some k_ ≠ (J Ao12 t264.length co12 : Value).ownBlock) (J Ao16 t269.length co16) t269) := ⟨by (with_reducible repeat (first | apply ra | apply rN | apply rd1)); exact Kd.R_mono (rf (p := ⟨g289, 1, none⟩) (rf (p := ⟨g289, 0, none⟩) (Kd.R_types O271.out B289.out (by decide)) (fun _ hk => hk.2) (I q t287)) (fun _ hk => hk.2) (I q t288)) (fun _ hk => hk.1.2)⟩
            have N2 : Aside0 (Kd.R (Kd.int .i64) 2 ((w31.setCell ⟨g289, 0, none⟩ (I q t287)).setCell ⟨g289, 1, none⟩ (I q t288)) w.heap.size (fun k_ => some k_ ≠ (J Ao28 t283.length co28 : Value).ownBlock) (J Ao21 t278.length co21) t278) := ⟨by (with_reducible repeat (first | apply ra | apply rN | apply rd1)); exact Kd.R_mono (rf (p := ⟨g289, 1, none⟩) (rf (p := ⟨g289, 0, none⟩) (Kd.R_types O280.out B289.out (by decide)) (fun _ hk => hk.2) (I q t287)) (fun _ hk => hk.2) (I q t288)) (fun _ hk => hk.1.2)⟩
            have N3 : Aside0 (Kd.R (Kd.int .i64) 2 ((w31.setCell ⟨g289, 0, none⟩ (I q t287)).setCell ⟨g289, 1, none⟩ (I q t288)) w.heap.size (fun k_ => some k_ ≠ (J Ao21 t278.length co21 : Value).ownBlock) (J Ao28 t283.length co28) t283) := ⟨by (with_reducible repeat (first | apply ra | apply rN | apply rd1)); exact Kd.R_mono (rf (p := ⟨g289, 1, none⟩) (rf (p := ⟨g289, 0, none⟩) (Kd.R_types O285.out B289.out (by decide)) (fun _ hk => hk.2) (I q t287)) (fun _ hk => hk.2) (I q t288)) (fun _ hk => hk.1.2)⟩
            have N4 : Aside0 (((w31.setCell ⟨g289, 0, none⟩ (I q t287)).setCell ⟨g289, 1, none⟩ (I q t288)).heap[g272]? = some (.cells #[I q t268, J Ao16 t269.length co16] 30 (0, 0))) := ⟨by (with_reducible repeat (first | apply bN | apply bd | apply ba)); refine bq ?_ NB272_289.out _; (with_reducible repeat (first | apply bN | apply bd | apply ba)); refine bq ?_ NB272_289.out _; (with_reducible repeat (first | apply bN | apply bd | apply ba)); exact B272.out⟩
            have N5 : Aside0 (((w31.setCell ⟨g289, 0, none⟩ (I q t287)).setCell ⟨g289, 1, none⟩ (I q t288)).heap[g281]? = some (.cells #[I q t277, J Ao21 t278.length co21] 45 (0, 0))) := ⟨by (with_reducible repeat (first | apply bN | apply bd | apply ba)); refine bq ?_ NB281_289.out _; (with_reducible repeat (first | apply bN | apply bd | apply ba)); refine bq ?_ NB281_289.out _; (with_reducible repeat (first | apply bN | apply bd | apply ba)); exact B281.out⟩
            have N6 : Aside0 (((w31.setCell ⟨g289, 0, none⟩ (I q t287)).setCell ⟨g289, 1, none⟩ (I q t288)).heap[g286]? = some (.cells #[I q t282, J Ao28 t283.length co28] 45 (0, 0))) := ⟨by (with_reducible repeat (first | apply bN | apply bd | apply ba)); refine bq ?_ NB286_289.out _; (with_reducible repeat (first | apply bN | apply bd | apply ba)); refine bq ?_ NB286_289.out _; (with_reducible repeat (first | apply bN | apply bd | apply ba)); exact B286.out⟩
            have N7 : Aside0 (((w31.setCell ⟨g289, 0, none⟩ (I q t287)).setCell ⟨g289, 1, none⟩ (I q t288)).heap[g289]? = some (.cells #[I q t287, I q t288] 58 (0, 0))) := ⟨by (with_reducible repeat (first | apply bN | apply bd | apply ba)); refine blk_put (cs := #[I q t287, I q 0]) ?_ 1 _ rfl; (with_reducible repeat (first | apply bN | apply bd | apply ba)); refine blk_put (cs := #[I q 0, I q 0]) ?_ 0 _ rfl; (with_reducible repeat (first | apply bN | apply bd | apply ba)); exact B289.out⟩
            have N8 : Aside0 (Below w.heap.size w ((w31.setCell ⟨g289, 0, none⟩ (I q t287)).setCell ⟨g289, 1, none⟩ (I q t288))) := ⟨by repeat (first | (with_reducible first | exact HB.out | apply pa | apply pN | apply p1 | refine bs ?_ E272.out | refine bs ?_ E281.out | refine bs ?_ E286.out | refine bs ?_ E289.out) | exact HB.out)⟩
            (try clear O267)
            (try clear O271)
            (try clear O280)
            (try clear O285)
            (try clear B272)
            (try clear B281)
            (try clear B286)
            (try clear B289)
            (try clear HB)
            generalize ((w31.setCell ⟨g289, 0, none⟩ (I q t287)).setCell ⟨g289, 1, none⟩ (I q t288)) = w48 at N0 N1 N2 N3 N4 N5 N6 N7 N8 ⊢
            have O267 := N0
            have O271 := N1
            have O280 := N2
            have O285 := N3
            have B272 := N4
            have B281 := N5
            have B286 := N6
            have B289 := N7
            have HB := N8
            clear N0 N1 N2 N3 N4 N5 N6 N7 N8
            have N0 := am (rd1 O267.out)
            have N1 := am (rd1 O271.out)
            have N2 := am (rd1 O280.out)
            have N3 := am (rd1 O285.out)
            have N4 := am (bd B272.out)
            have N5 := am (bd B281.out)
            have N6 := am (bd B286.out)
            have N7 := am (bd B289.out)
            have N8 := am (p1 HB.out)
            clear O267
            clear O271
            clear O280
            clear O285
            clear B272
            clear B281
            clear B286
            clear B289
            clear HB
            have O267 := N0
            have O271 := N1
            have O280 := N2
            have O285 := N3
            have B272 := N4
            have B281 := N5
            have B286 := N6
            have B289 := N7
            have HB := N8
            clear N0 N1 N2 N3 N4 N5 N6 N7 N8
            refine start_ (n := 29) (S := fun w' => w'.cell? ⟨g281, 0, none⟩ = some (I q t277) ∧ w'.cell? ⟨g281, 1, none⟩ = some (J Ao21 t278.length co21) ∧ w'.cell? ⟨g286, 0, none⟩ = some (I q t282) ∧ w'.cell? ⟨g286, 1, none⟩ = some (J Ao28 t283.length co28)) (ds := []) #[false, false, false, false, false, false, false, false, false, false, false, false, false, false, false, false, false, false, false, false, false, false, false, false, false, false, false, false, false] (by kernel_rfl) rfl rfl ⟨(bc B281.out 0).trans rfl, (bc B281.out 1).trans rfl, (bc B286.out 0).trans rfl, (bc B286.out 1).trans rfl⟩ (fun hHeld => ?_); refine with_tabW laws_FnLooks.tab10 laws_FnLooks.bits10 (fun HT_ HW_ => ?_)
            generalize w48.drew = w49 at O267 O271 O280 O285 B272 B281 B286 B289 HB hHeld ⊢
            refine pure_ (i := 0) (N := some 43) (v := ?_) (a' := ?_) #[true, false, false, false, false, false, false, false, false, false, false, false, false, false, false, false, false, false, false, false, false, false, false, false, false, false, false, false, false] rfl rfl (any_of HT_.out (by kernel_rfl)) (fun _ _ _ h => h) (Or.inl ⟨by rfl, ?_⟩) ?_ ?_
            rotate_left
            · intro w'
              first | (go_simp; with_reducible rfl) | (go_simp; (try unfold Instr.field); go_simp; (try simp only [asAgg]); go_simp; with_reducible rfl)
            rotate_left
            · simp only [Act.put, List.setIfInBounds_toArray, List.set_cons_zero, List.set_cons_succ, i64_w, i32_w]
              rfl
            refine take_ (i := 1) (N := some 44) (v := ?_) (a' := ?_) #[true, true, false, false, false, false, false, false, false, false, false, false, false, false, false, false, false, false, false, false, false, false, false, false, false, false, false, false, false] rfl rfl (take_ofW HT_.out HW_.out (by kernel_rfl)) (fun _ _ _ h => h) (Or.inl ⟨by rfl, ?_⟩) hHeld ?_ ?_
            rotate_left
            · rintro w' ⟨s0, s1, s2, s3⟩
              go_simp
              with_reducible rfl
            rotate_left
            · simp only [Act.put, List.setIfInBounds_toArray, List.set_cons_zero, List.set_cons_succ, i64_w, i32_w]
              rfl
            refine pure_ (i := 2) (N := some 45) (v := ?_) (a' := ?_) #[true, true, true, false, false, false, false, false, false, false, false, false, false, false, false, false, false, false, false, false, false, false, false, false, false, false, false, false, false] rfl rfl (any_of HT_.out (by kernel_rfl)) (fun _ _ _ h => h) (Or.inl ⟨by rfl, ?_⟩) ?_ ?_
            rotate_left
            · intro w'
              first | (go_simp; with_reducible rfl) | (go_simp; (try unfold Instr.field); go_simp; (try simp only [asAgg]); go_simp; with_reducible rfl)
            rotate_left
            · simp only [Act.put, List.setIfInBounds_toArray, List.set_cons_zero, List.set_cons_succ, i64_w, i32_w]
              rfl
            refine pure_ (i := 3) (N := some 46) (v := ?_) (a' := ?_) #[true, true, true, true, false, false, false, false, false, false, false, false, false, false, false, false, false, false, false, false, false, false, false, false, false, false, false, false, false] rfl rfl (any_of HT_.out (by kernel_rfl)) (fun _ _ _ h => h) (Or.inl ⟨by rfl, ?_⟩) ?_ ?_
            rotate_left
            · intro w'
              first | (go_simp; with_reducible rfl) | (go_simp; (try unfold Instr.field); go_simp; (try simp only [asAgg]); go_simp; with_reducible rfl)
            rotate_left
            · simp only [Act.put, List.setIfInBounds_toArray, List.set_cons_zero, List.set_cons_succ, i64_w, i32_w]
              rfl
            refine pure_ (i := 4) (N := some 47) (v := ?_) (a' := ?_) #[true, true, true, true, true, false, false, false, false, false, false, false, false, false, false, false, false, false, false, false, false, false, false, false, false, false, false, false, false] rfl rfl (any_of HT_.out (by kernel_rfl)) (fun _ _ _ h => h) (Or.inl ⟨by rfl, ?_⟩) ?_ ?_
            rotate_left
            · intro w'
              first | (go_simp; with_reducible rfl) | (go_simp; (try unfold Instr.field); go_simp; (try simp only [asAgg]); go_simp; with_reducible rfl)
            rotate_left
            · simp only [Act.put, List.setIfInBounds_toArray, List.set_cons_zero, List.set_cons_succ, i64_w, i32_w]
              rfl
            refine take_ (i := 5) (N := some 48) (v := ?_) (a' := ?_) #[true, true, true, true, true, true, false, false, false, false, false, false, false, false, false, false, false, false, false, false, false, false, false, false, false, false, false, false, false] rfl rfl (take_ofW HT_.out HW_.out (by kernel_rfl)) (fun _ _ _ h => h) (Or.inl ⟨by rfl, ?_⟩) hHeld ?_ ?_
            rotate_left
            · rintro w' ⟨s0, s1, s2, s3⟩
              go_simp
              with_reducible rfl
            rotate_left
            · simp only [Act.put, List.setIfInBounds_toArray, List.set_cons_zero, List.set_cons_succ, i64_w, i32_w]
              rfl
            refine pure_ (i := 6) (N := some 49) (v := ?_) (a' := ?_) #[true, true, true, true, true, true, true, false, false, false, false, false, false, false, false, false, false, false, false, false, false, false, false, false, false, false, false, false, false] rfl rfl (any_of HT_.out (by kernel_rfl)) (fun _ _ _ h => h) (Or.inl ⟨by rfl, ?_⟩) ?_ ?_
            rotate_left
            · intro w'
              first | (go_simp; with_reducible rfl) | (go_simp; (try unfold Instr.field); go_simp; (try simp only [asAgg]); go_simp; with_reducible rfl)
            rotate_left
            · simp only [Act.put, List.setIfInBounds_toArray, List.set_cons_zero, List.set_cons_succ, i64_w, i32_w]
              rfl
            refine pure_ (i := 7) (N := some 50) (v := ?_) (a' := ?_) #[true, true, true, true, true, true, true, true, false, false, false, false, false, false, false, false, false, false, false, false, false, false, false, false, false, false, false, false, false] rfl rfl (any_of HT_.out (by kernel_rfl)) (fun _ _ _ h => h) (Or.inl ⟨by rfl, ?_⟩) ?_ ?_
            rotate_left
            · intro w'
              first | (go_simp; with_reducible rfl) | (go_simp; (try unfold Instr.field); go_simp; (try simp only [asAgg]); go_simp; with_reducible rfl)
            rotate_left
            · simp only [Act.put, List.setIfInBounds_toArray, List.set_cons_zero, List.set_cons_succ, i64_w, i32_w]
              rfl
            refine pure_ (i := 8) (N := some 51) (v := ?_) (a' := ?_) #[true, true, true, true, true, true, true, true, true, false, false, false, false, false, false, false, false, false, false, false, false, false, false, false, false, false, false, false, false] rfl rfl (any_of HT_.out (by kernel_rfl)) (fun _ _ _ h => h) (Or.inl ⟨by rfl, ?_⟩) ?_ ?_
            rotate_left
            · intro w'
              first | (go_simp; with_reducible rfl) | (go_simp; (try unfold Instr.field); go_simp; (try simp only [asAgg]); go_simp; with_reducible rfl)
            rotate_left
            · simp only [Act.put, List.setIfInBounds_toArray, List.set_cons_zero, List.set_cons_succ, i64_w, i32_w]
              rfl
            refine pure_ (i := 9) (N := some 52) (v := undef) (a' := ?_) #[true, true, true, true, true, true, true, true, true, true, false, false, false, false, false, false, false, false, false, false, false, false, false, false, false, false, false, false, false] rfl rfl (any_of HT_.out (by kernel_rfl)) (fun _ _ _ h => h) (Or.inr ⟨by rfl, rfl⟩) ?_ ?_
            rotate_left
            · simp only [Act.put, List.setIfInBounds_toArray, List.set_cons_zero, List.set_cons_succ, i64_w, i32_w]
              rfl
            refine pure_ (i := 10) (N := some 53) (v := undef) (a' := ?_) #[true, true, true, true, true, true, true, true, true, true, true, false, false, false, false, false, false, false, false, false, false, false, false, false, false, false, false, false, false] rfl rfl (any_of HT_.out (by kernel_rfl)) (fun _ _ _ h => h) (Or.inr ⟨by rfl, rfl⟩) ?_ ?_
            rotate_left
            · simp only [Act.put, List.setIfInBounds_toArray, List.set_cons_zero, List.set_cons_succ, i64_w, i32_w]
              rfl
            refine pure_ (i := 11) (N := some 54) (v := undef) (a' := ?_) #[true, true, true, true, true, true, true, true, true, true, true, true, false, false, false, false, false, false, false, false, false, false, false, false, false, false, false, false, false] rfl rfl (any_of HT_.out (by kernel_rfl)) (fun _ _ _ h => h) (Or.inr ⟨by rfl, rfl⟩) ?_ ?_
            rotate_left
            · simp only [Act.put, List.setIfInBounds_toArray, List.set_cons_zero, List.set_cons_succ, i64_w, i32_w]
              rfl
            refine pure_ (i := 12) (N := some 55) (v := undef) (a' := ?_) #[true, true, true, true, true, true, true, true, true, true, true, true, true, false, false, false, false, false, false, false, false, false, false, false, false, false, false, false, false] rfl rfl (any_of HT_.out (by kernel_rfl)) (fun _ _ _ h => h) (Or.inr ⟨by rfl, rfl⟩) ?_ ?_
            rotate_left
            · simp only [Act.put, List.setIfInBounds_toArray, List.set_cons_zero, List.set_cons_succ, i64_w, i32_w]
              rfl
            refine pure_ (i := 13) (N := some 56) (v := undef) (a' := ?_) #[true, true, true, true, true, true, true, true, true, true, true, true, true, true, false, false, false, false, false, false, false, false, false, false, false, false, false, false, false] rfl rfl (any_of HT_.out (by kernel_rfl)) (fun _ _ _ h => h) (Or.inr ⟨by rfl, rfl⟩) ?_ ?_
            rotate_left
            · simp only [Act.put, List.setIfInBounds_toArray, List.set_cons_zero, List.set_cons_succ, i64_w, i32_w]
              rfl
            refine pure_ (i := 14) (N := some 57) (v := ?_) (a' := ?_) #[true, true, true, true, true, true, true, true, true, true, true, true, true, true, true, false, false, false, false, false, false, false, false, false, false, false, false, false, false] rfl rfl (any_of HT_.out (by kernel_rfl)) (fun _ _ _ h => h) (Or.inl ⟨by rfl, ?_⟩) ?_ ?_
            rotate_left
            · intro w'
              first | (go_simp; with_reducible rfl) | (go_simp; (try unfold Instr.field); go_simp; (try simp only [asAgg]); go_simp; with_reducible rfl)
            rotate_left
            · simp only [Act.put, List.setIfInBounds_toArray, List.set_cons_zero, List.set_cons_succ, i64_w, i32_w]
              rfl
            refine pure_ (i := 15) (N := some 58) (v := ?_) (a' := ?_) #[true, true, true, true, true, true, true, true, true, true, true, true, true, true, true, true, false, false, false, false, false, false, false, false, false, false, false, false, false] rfl rfl (any_of HT_.out (by kernel_rfl)) (fun _ _ _ h => h) (Or.inl ⟨by rfl, ?_⟩) ?_ ?_
            rotate_left
            · intro w'
              first | (go_simp; with_reducible rfl) | (go_simp; (try unfold Instr.field); go_simp; (try simp only [asAgg]); go_simp; with_reducible rfl)
            rotate_left
            · simp only [Act.put, List.setIfInBounds_toArray, List.set_cons_zero, List.set_cons_succ, i64_w, i32_w]
              rfl
            refine pure_ (i := 16) (N := some 59) (v := undef) (a' := ?_) #[true, true, true, true, true, true, true, true, true, true, true, true, true, true, true, true, true, false, false, false, false, false, false, false, false, false, false, false, false] rfl rfl (any_of HT_.out (by kernel_rfl)) (fun _ _ _ h => h) (Or.inr ⟨by rfl, rfl⟩) ?_ ?_
            rotate_left
            · simp only [Act.put, List.setIfInBounds_toArray, List.set_cons_zero, List.set_cons_succ, i64_w, i32_w]
              rfl
            refine pure_ (i := 17) (N := some 60) (v := undef) (a' := ?_) #[true, true, true, true, true, true, true, true, true, true, true, true, true, true, true, true, true, true, false, false, false, false, false, false, false, false, false, false, false] rfl rfl (any_of HT_.out (by kernel_rfl)) (fun _ _ _ h => h) (Or.inr ⟨by rfl, rfl⟩) ?_ ?_
            rotate_left
            · simp only [Act.put, List.setIfInBounds_toArray, List.set_cons_zero, List.set_cons_succ, i64_w, i32_w]
              rfl
            refine pure_ (i := 18) (N := some 61) (v := undef) (a' := ?_) #[true, true, true, true, true, true, true, true, true, true, true, true, true, true, true, true, true, true, true, false, false, false, false, false, false, false, false, false, false] rfl rfl (any_of HT_.out (by kernel_rfl)) (fun _ _ _ h => h) (Or.inr ⟨by rfl, rfl⟩) ?_ ?_
            rotate_left
            · simp only [Act.put, List.setIfInBounds_toArray, List.set_cons_zero, List.set_cons_succ, i64_w, i32_w]
              rfl
            refine pure_ (i := 19) (N := some 62) (v := ?_) (a' := ?_) #[true, true, true, true, true, true, true, true, true, true, true, true, true, true, true, true, true, true, true, true, false, false, false, false, false, false, false, false, false] rfl rfl (any_of HT_.out (by kernel_rfl)) (fun _ _ _ h => h) (Or.inl ⟨by rfl, ?_⟩) ?_ ?_
            rotate_left
            · intro w'
              first | (go_simp; with_reducible rfl) | (go_simp; (try unfold Instr.field); go_simp; (try simp only [asAgg]); go_simp; with_reducible rfl)
            rotate_left
            · simp only [Act.put, List.setIfInBounds_toArray, List.set_cons_zero, List.set_cons_succ, i64_w, i32_w]
              rfl
            refine pure_ (i := 20) (N := some 63) (v := ?_) (a' := ?_) #[true, true, true, true, true, true, true, true, true, true, true, true, true, true, true, true, true, true, true, true, true, false, false, false, false, false, false, false, false] rfl rfl (any_of HT_.out (by kernel_rfl)) (fun _ _ _ h => h) (Or.inl ⟨by rfl, ?_⟩) ?_ ?_
            rotate_left
            · intro w'
              first | (go_simp; with_reducible rfl) | (go_simp; (try unfold Instr.field); go_simp; (try simp only [asAgg]); go_simp; with_reducible rfl)
            rotate_left
            · simp only [Act.put, List.setIfInBounds_toArray, List.set_cons_zero, List.set_cons_succ, i64_w, i32_w]
              rfl
            refine pure_ (i := 21) (N := some 64) (v := undef) (a' := ?_) #[true, true, true, true, true, true, true, true, true, true, true, true, true, true, true, true, true, true, true, true, true, true, false, false, false, false, false, false, false] rfl rfl (any_of HT_.out (by kernel_rfl)) (fun _ _ _ h => h) (Or.inr ⟨by rfl, rfl⟩) ?_ ?_
            rotate_left
            · simp only [Act.put, List.setIfInBounds_toArray, List.set_cons_zero, List.set_cons_succ, i64_w, i32_w]
              rfl
            refine pure_ (i := 22) (N := some 65) (v := undef) (a' := ?_) #[true, true, true, true, true, true, true, true, true, true, true, true, true, true, true, true, true, true, true, true, true, true, true, false, false, false, false, false, false] rfl rfl (any_of HT_.out (by kernel_rfl)) (fun _ _ _ h => h) (Or.inr ⟨by rfl, rfl⟩) ?_ ?_
            rotate_left
            · simp only [Act.put, List.setIfInBounds_toArray, List.set_cons_zero, List.set_cons_succ, i64_w, i32_w]
              rfl
            refine pure_ (i := 23) (N := some 66) (v := undef) (a' := ?_) #[true, true, true, true, true, true, true, true, true, true, true, true, true, true, true, true, true, true, true, true, true, true, true, true, false, false, false, false, false] rfl rfl (any_of HT_.out (by kernel_rfl)) (fun _ _ _ h => h) (Or.inr ⟨by rfl, rfl⟩) ?_ ?_
            rotate_left
            · simp only [Act.put, List.setIfInBounds_toArray, List.set_cons_zero, List.set_cons_succ, i64_w, i32_w]
              rfl
            refine pure_ (i := 24) (N := some 67) (v := undef) (a' := ?_) #[true, true, true, true, true, true, true, true, true, true, true, true, true, true, true, true, true, true, true, true, true, true, true, true, true, false, false, false, false] rfl rfl (any_of HT_.out (by kernel_rfl)) (fun _ _ _ h => h) (Or.inr ⟨by rfl, rfl⟩) ?_ ?_
            rotate_left
            · simp only [Act.put, List.setIfInBounds_toArray, List.set_cons_zero, List.set_cons_succ, i64_w, i32_w]
              rfl
            refine pure_ (i := 25) (N := some 68) (v := undef) (a' := ?_) #[true, true, true, true, true, true, true, true, true, true, true, true, true, true, true, true, true, true, true, true, true, true, true, true, true, true, false, false, false] rfl rfl (any_of HT_.out (by kernel_rfl)) (fun _ _ _ h => h) (Or.inr ⟨by rfl, rfl⟩) ?_ ?_
            rotate_left
            · simp only [Act.put, List.setIfInBounds_toArray, List.set_cons_zero, List.set_cons_succ, i64_w, i32_w]
              rfl
            refine pure_ (i := 26) (N := some 69) (v := undef) (a' := ?_) #[true, true, true, true, true, true, true, true, true, true, true, true, true, true, true, true, true, true, true, true, true, true, true, true, true, true, true, false, false] rfl rfl (any_of HT_.out (by kernel_rfl)) (fun _ _ _ h => h) (Or.inr ⟨by rfl, rfl⟩) ?_ ?_
            rotate_left
            · simp only [Act.put, List.setIfInBounds_toArray, List.set_cons_zero, List.set_cons_succ, i64_w, i32_w]
              rfl
            refine pure_ (i := 27) (N := some 70) (v := undef) (a' := ?_) #[true, true, true, true, true, true, true, true, true, true, true, true, true, true, true, true, true, true, true, true, true, true, true, true, true, true, true, true, false] rfl rfl (any_of HT_.out (by kernel_rfl)) (fun _ _ _ h => h) (Or.inr ⟨by rfl, rfl⟩) ?_ ?_
            rotate_left
            · simp only [Act.put, List.setIfInBounds_toArray, List.set_cons_zero, List.set_cons_succ, i64_w, i32_w]
              rfl
            refine pure_ (i := 28) (N := some 71) (v := ?_) (a' := ?_) #[true, true, true, true, true, true, true, true, true, true, true, true, true, true, true, true, true, true, true, true, true, true, true, true, true, true, true, true, true] rfl rfl (any_of HT_.out (by kernel_rfl)) (fun _ _ _ h => h) (Or.inl ⟨by rfl, ?_⟩) ?_ ?_
            rotate_left
            · intro w'
              first | (go_simp; with_reducible rfl) | (go_simp; (try unfold Instr.field); go_simp; (try simp only [asAgg]); go_simp; with_reducible rfl)
            rotate_left
            · simp only [Act.put, List.setIfInBounds_toArray, List.set_cons_zero, List.set_cons_succ, i64_w, i32_w]
              rfl
            refine done_ (done_of HT_.out (by kernel_rfl)) ?_
            try go_wp2
            go_meet
            case rel => exact ⟨_, (true), (by first | rfl | (simp; done) | (simp [*]; done)), H', ⟨by first | omega | exact Nat.le_refl _⟩, ⟨by (with_reducible repeat (first | apply ra | apply rN | apply rd1)); exact O267.out⟩, ⟨by (with_reducible repeat (first | apply ra | apply rN | apply rd1)); exact O271.out⟩, ⟨by (with_reducible repeat (first | apply ra | apply rN | apply rd1)); exact O280.out⟩, ⟨by (with_reducible repeat (first | apply ra | apply rN | apply rd1)); exact O285.out⟩, ⟨by (with_reducible repeat (first | apply bN | apply bd | apply ba)); exact B272.out⟩, ⟨by (with_reducible repeat (first | apply bN | apply bd | apply ba)); exact B281.out⟩, ⟨by (with_reducible repeat (first | apply bN | apply bd | apply ba)); exact B286.out⟩, ⟨by (with_reducible repeat (first | apply bN | apply bd | apply ba)); exact B289.out⟩, ⟨by repeat (first | (with_reducible first | exact HB.out | apply pa | apply pN | apply p1 | refine bs ?_ E272.out | refine bs ?_ E281.out | refine bs ?_ E286.out | refine bs ?_ E289.out) | exact HB.out)⟩⟩
        · rw [if_neg c36] at H
          have c36b0 : (t277 == 0) = false := beq_eq_false_iff_ne.mpr c36
          have c36b1 : (t277 != 0) = true := bne_iff_ne.mpr c36
          (first | rw [c36b0] | (simp only [i64_w, i32_w]; rw [c36b0]) | skip)
          have H' := am H
          clear H
          try go_wp2
          have N0 : Aside0 (Kd.R k53 53 ((w31.setCell ⟨g289, 0, none⟩ (I q t287)).setCell ⟨g289, 1, none⟩ (I q t288)) w.heap.size (fun k_ => some k_ ≠ (J Ao16 t269.length co16 : Value).ownBlock) (J Ao12 t264.length co12) t264) := ⟨by (with_reducible repeat (first | apply ra | apply rN | apply rd1)); exact Kd.R_mono (rf (p := ⟨g289, 1, none⟩) (rf (p := ⟨g289, 0, none⟩) (Kd.R_types O267.out B289.out (by decide)) (fun _ hk => hk.2) (I q t287)) (fun _ hk => hk.2) (I q t288)) (fun _ hk => hk.1.2)⟩
          have N1 : Aside0 (Kd.R k53 53 ((w31.setCell ⟨g289, 0, none⟩ (I q t287)).setCell ⟨g289, 1, none⟩ (I q t288)) w.heap.size (fun k_ => some k_ ≠ (J Ao12 t264.length co12 : Value).ownBlock) (J Ao16 t269.length co16) t269) := ⟨by (with_reducible repeat (first | apply ra | apply rN | apply rd1)); exact Kd.R_mono (rf (p := ⟨g289, 1, none⟩) (rf (p := ⟨g289, 0, none⟩) (Kd.R_types O271.out B289.out (by decide)) (fun _ hk => hk.2) (I q t287)) (fun _ hk => hk.2) (I q t288)) (fun _ hk => hk.1.2)⟩
          have N2 : Aside0 (Kd.R (Kd.int .i64) 2 ((w31.setCell ⟨g289, 0, none⟩ (I q t287)).setCell ⟨g289, 1, none⟩ (I q t288)) w.heap.size (fun k_ => some k_ ≠ (J Ao28 t283.length co28 : Value).ownBlock) (J Ao21 t278.length co21) t278) := ⟨by (with_reducible repeat (first | apply ra | apply rN | apply rd1)); exact Kd.R_mono (rf (p := ⟨g289, 1, none⟩) (rf (p := ⟨g289, 0, none⟩) (Kd.R_types O280.out B289.out (by decide)) (fun _ hk => hk.2) (I q t287)) (fun _ hk => hk.2) (I q t288)) (fun _ hk => hk.1.2)⟩
          have N3 : Aside0 (Kd.R (Kd.int .i64) 2 ((w31.setCell ⟨g289, 0, none⟩ (I q t287)).setCell ⟨g289, 1, none⟩ (I q t288)) w.heap.size (fun k_ => some k_ ≠ (J Ao21 t278.length co21 : Value).ownBlock) (J Ao28 t283.length co28) t283) := ⟨by (with_reducible repeat (first | apply ra | apply rN | apply rd1)); exact Kd.R_mono (rf (p := ⟨g289, 1, none⟩) (rf (p := ⟨g289, 0, none⟩) (Kd.R_types O285.out B289.out (by decide)) (fun _ hk => hk.2) (I q t287)) (fun _ hk => hk.2) (I q t288)) (fun _ hk => hk.1.2)⟩
          have N4 : Aside0 (((w31.setCell ⟨g289, 0, none⟩ (I q t287)).setCell ⟨g289, 1, none⟩ (I q t288)).heap[g272]? = some (.cells #[I q t268, J Ao16 t269.length co16] 30 (0, 0))) := ⟨by (with_reducible repeat (first | apply bN | apply bd | apply ba)); refine bq ?_ NB272_289.out _; (with_reducible repeat (first | apply bN | apply bd | apply ba)); refine bq ?_ NB272_289.out _; (with_reducible repeat (first | apply bN | apply bd | apply ba)); exact B272.out⟩
          have N5 : Aside0 (((w31.setCell ⟨g289, 0, none⟩ (I q t287)).setCell ⟨g289, 1, none⟩ (I q t288)).heap[g281]? = some (.cells #[I q t277, J Ao21 t278.length co21] 45 (0, 0))) := ⟨by (with_reducible repeat (first | apply bN | apply bd | apply ba)); refine bq ?_ NB281_289.out _; (with_reducible repeat (first | apply bN | apply bd | apply ba)); refine bq ?_ NB281_289.out _; (with_reducible repeat (first | apply bN | apply bd | apply ba)); exact B281.out⟩
          have N6 : Aside0 (((w31.setCell ⟨g289, 0, none⟩ (I q t287)).setCell ⟨g289, 1, none⟩ (I q t288)).heap[g286]? = some (.cells #[I q t282, J Ao28 t283.length co28] 45 (0, 0))) := ⟨by (with_reducible repeat (first | apply bN | apply bd | apply ba)); refine bq ?_ NB286_289.out _; (with_reducible repeat (first | apply bN | apply bd | apply ba)); refine bq ?_ NB286_289.out _; (with_reducible repeat (first | apply bN | apply bd | apply ba)); exact B286.out⟩
          have N7 : Aside0 (((w31.setCell ⟨g289, 0, none⟩ (I q t287)).setCell ⟨g289, 1, none⟩ (I q t288)).heap[g289]? = some (.cells #[I q t287, I q t288] 58 (0, 0))) := ⟨by (with_reducible repeat (first | apply bN | apply bd | apply ba)); refine blk_put (cs := #[I q t287, I q 0]) ?_ 1 _ rfl; (with_reducible repeat (first | apply bN | apply bd | apply ba)); refine blk_put (cs := #[I q 0, I q 0]) ?_ 0 _ rfl; (with_reducible repeat (first | apply bN | apply bd | apply ba)); exact B289.out⟩
          have N8 : Aside0 (Below w.heap.size w ((w31.setCell ⟨g289, 0, none⟩ (I q t287)).setCell ⟨g289, 1, none⟩ (I q t288))) := ⟨by repeat (first | (with_reducible first | exact HB.out | apply pa | apply pN | apply p1 | refine bs ?_ E272.out | refine bs ?_ E281.out | refine bs ?_ E286.out | refine bs ?_ E289.out) | exact HB.out)⟩
          (try clear O267)
          (try clear O271)
          (try clear O280)
          (try clear O285)
          (try clear B272)
          (try clear B281)
          (try clear B286)
          (try clear B289)
          (try clear HB)
          generalize ((w31.setCell ⟨g289, 0, none⟩ (I q t287)).setCell ⟨g289, 1, none⟩ (I q t288)) = w50 at N0 N1 N2 N3 N4 N5 N6 N7 N8 ⊢
          have O267 := N0
          have O271 := N1
          have O280 := N2
          have O285 := N3
          have B272 := N4
          have B281 := N5
          have B286 := N6
          have B289 := N7
          have HB := N8
          clear N0 N1 N2 N3 N4 N5 N6 N7 N8
          have N0 := am (rd1 O267.out)
          have N1 := am (rd1 O271.out)
          have N2 := am (rd1 O280.out)
          have N3 := am (rd1 O285.out)
          have N4 := am (bd B272.out)
          have N5 := am (bd B281.out)
          have N6 := am (bd B286.out)
          have N7 := am (bd B289.out)
          have N8 := am (p1 HB.out)
          clear O267
          clear O271
          clear O280
          clear O285
          clear B272
          clear B281
          clear B286
          clear B289
          clear HB
          have O267 := N0
          have O271 := N1
          have O280 := N2
          have O285 := N3
          have B272 := N4
          have B281 := N5
          have B286 := N6
          have B289 := N7
          have HB := N8
          clear N0 N1 N2 N3 N4 N5 N6 N7 N8
          refine start_ (n := 29) (S := fun w' => w'.cell? ⟨g281, 0, none⟩ = some (I q t277) ∧ w'.cell? ⟨g281, 1, none⟩ = some (J Ao21 t278.length co21)) (ds := []) #[false, false, false, false, false, false, false, false, false, false, false, false, false, false, false, false, false, false, false, false, false, false, false, false, false, false, false, false, false] (by kernel_rfl) rfl rfl ⟨(bc B281.out 0).trans rfl, (bc B281.out 1).trans rfl⟩ (fun hHeld => ?_); refine with_tabW laws_FnLooks.tab10 laws_FnLooks.bits10 (fun HT_ HW_ => ?_)
          generalize w50.drew = w51 at O267 O271 O280 O285 B272 B281 B286 B289 HB hHeld ⊢
          refine pure_ (i := 0) (N := some 43) (v := ?_) (a' := ?_) #[true, false, false, false, false, false, false, false, false, false, false, false, false, false, false, false, false, false, false, false, false, false, false, false, false, false, false, false, false] rfl rfl (any_of HT_.out (by kernel_rfl)) (fun _ _ _ h => h) (Or.inl ⟨by rfl, ?_⟩) ?_ ?_
          rotate_left
          · intro w'
            first | (go_simp; with_reducible rfl) | (go_simp; (try unfold Instr.field); go_simp; (try simp only [asAgg]); go_simp; with_reducible rfl)
          rotate_left
          · simp only [Act.put, List.setIfInBounds_toArray, List.set_cons_zero, List.set_cons_succ, i64_w, i32_w]
            rfl
          refine take_ (i := 1) (N := some 44) (v := ?_) (a' := ?_) #[true, true, false, false, false, false, false, false, false, false, false, false, false, false, false, false, false, false, false, false, false, false, false, false, false, false, false, false, false] rfl rfl (take_ofW HT_.out HW_.out (by kernel_rfl)) (fun _ _ _ h => h) (Or.inl ⟨by rfl, ?_⟩) hHeld ?_ ?_
          rotate_left
          · rintro w' ⟨s0, s1⟩
            go_simp
            with_reducible rfl
          rotate_left
          · simp only [Act.put, List.setIfInBounds_toArray, List.set_cons_zero, List.set_cons_succ, i64_w, i32_w]
            rfl
          refine pure_ (i := 2) (N := some 45) (v := ?_) (a' := ?_) #[true, true, true, false, false, false, false, false, false, false, false, false, false, false, false, false, false, false, false, false, false, false, false, false, false, false, false, false, false] rfl rfl (any_of HT_.out (by kernel_rfl)) (fun _ _ _ h => h) (Or.inl ⟨by rfl, ?_⟩) ?_ ?_
          rotate_left
          · intro w'
            first | (go_simp; with_reducible rfl) | (go_simp; (try unfold Instr.field); go_simp; (try simp only [asAgg]); go_simp; with_reducible rfl)
          rotate_left
          · simp only [Act.put, List.setIfInBounds_toArray, List.set_cons_zero, List.set_cons_succ, i64_w, i32_w]
            rfl
          refine pure_ (i := 3) (N := some 46) (v := ?_) (a' := ?_) #[true, true, true, true, false, false, false, false, false, false, false, false, false, false, false, false, false, false, false, false, false, false, false, false, false, false, false, false, false] rfl rfl (any_of HT_.out (by kernel_rfl)) (fun _ _ _ h => h) (Or.inl ⟨by rfl, ?_⟩) ?_ ?_
          rotate_left
          · intro w'
            first | (go_simp; with_reducible rfl) | (go_simp; (try unfold Instr.field); go_simp; (try simp only [asAgg]); go_simp; with_reducible rfl)
          rotate_left
          · simp only [Act.put, List.setIfInBounds_toArray, List.set_cons_zero, List.set_cons_succ, i64_w, i32_w]
            rfl
          refine pure_ (i := 4) (N := some 47) (v := undef) (a' := ?_) #[true, true, true, true, true, false, false, false, false, false, false, false, false, false, false, false, false, false, false, false, false, false, false, false, false, false, false, false, false] rfl rfl (any_of HT_.out (by kernel_rfl)) (fun _ _ _ h => h) (Or.inr ⟨by rfl, rfl⟩) ?_ ?_
          rotate_left
          · simp only [Act.put, List.setIfInBounds_toArray, List.set_cons_zero, List.set_cons_succ, i64_w, i32_w]
            rfl
          refine pure_ (i := 5) (N := some 48) (v := undef) (a' := ?_) #[true, true, true, true, true, true, false, false, false, false, false, false, false, false, false, false, false, false, false, false, false, false, false, false, false, false, false, false, false] rfl rfl (any_of HT_.out (by kernel_rfl)) (fun _ _ _ h => h) (Or.inr ⟨by rfl, rfl⟩) ?_ ?_
          rotate_left
          · simp only [Act.put, List.setIfInBounds_toArray, List.set_cons_zero, List.set_cons_succ, i64_w, i32_w]
            rfl
          refine pure_ (i := 6) (N := some 49) (v := undef) (a' := ?_) #[true, true, true, true, true, true, true, false, false, false, false, false, false, false, false, false, false, false, false, false, false, false, false, false, false, false, false, false, false] rfl rfl (any_of HT_.out (by kernel_rfl)) (fun _ _ _ h => h) (Or.inr ⟨by rfl, rfl⟩) ?_ ?_
          rotate_left
          · simp only [Act.put, List.setIfInBounds_toArray, List.set_cons_zero, List.set_cons_succ, i64_w, i32_w]
            rfl
          refine pure_ (i := 7) (N := some 50) (v := ?_) (a' := ?_) #[true, true, true, true, true, true, true, true, false, false, false, false, false, false, false, false, false, false, false, false, false, false, false, false, false, false, false, false, false] rfl rfl (any_of HT_.out (by kernel_rfl)) (fun _ _ _ h => h) (Or.inl ⟨by rfl, ?_⟩) ?_ ?_
          rotate_left
          · intro w'
            first | (go_simp; with_reducible rfl) | (go_simp; (try unfold Instr.field); go_simp; (try simp only [asAgg]); go_simp; with_reducible rfl)
          rotate_left
          · simp only [Act.put, List.setIfInBounds_toArray, List.set_cons_zero, List.set_cons_succ, i64_w, i32_w]
            rfl
          refine pure_ (i := 8) (N := some 51) (v := ?_) (a' := ?_) #[true, true, true, true, true, true, true, true, true, false, false, false, false, false, false, false, false, false, false, false, false, false, false, false, false, false, false, false, false] rfl rfl (any_of HT_.out (by kernel_rfl)) (fun _ _ _ h => h) (Or.inl ⟨by rfl, ?_⟩) ?_ ?_
          rotate_left
          · intro w'
            first | (go_simp; with_reducible rfl) | (go_simp; (try unfold Instr.field); go_simp; (try simp only [asAgg]); go_simp; with_reducible rfl)
          rotate_left
          · simp only [Act.put, List.setIfInBounds_toArray, List.set_cons_zero, List.set_cons_succ, i64_w, i32_w]
            rfl
          refine pure_ (i := 9) (N := some 52) (v := undef) (a' := ?_) #[true, true, true, true, true, true, true, true, true, true, false, false, false, false, false, false, false, false, false, false, false, false, false, false, false, false, false, false, false] rfl rfl (any_of HT_.out (by kernel_rfl)) (fun _ _ _ h => h) (Or.inr ⟨by rfl, rfl⟩) ?_ ?_
          rotate_left
          · simp only [Act.put, List.setIfInBounds_toArray, List.set_cons_zero, List.set_cons_succ, i64_w, i32_w]
            rfl
          refine pure_ (i := 10) (N := some 53) (v := undef) (a' := ?_) #[true, true, true, true, true, true, true, true, true, true, true, false, false, false, false, false, false, false, false, false, false, false, false, false, false, false, false, false, false] rfl rfl (any_of HT_.out (by kernel_rfl)) (fun _ _ _ h => h) (Or.inr ⟨by rfl, rfl⟩) ?_ ?_
          rotate_left
          · simp only [Act.put, List.setIfInBounds_toArray, List.set_cons_zero, List.set_cons_succ, i64_w, i32_w]
            rfl
          refine pure_ (i := 11) (N := some 54) (v := undef) (a' := ?_) #[true, true, true, true, true, true, true, true, true, true, true, true, false, false, false, false, false, false, false, false, false, false, false, false, false, false, false, false, false] rfl rfl (any_of HT_.out (by kernel_rfl)) (fun _ _ _ h => h) (Or.inr ⟨by rfl, rfl⟩) ?_ ?_
          rotate_left
          · simp only [Act.put, List.setIfInBounds_toArray, List.set_cons_zero, List.set_cons_succ, i64_w, i32_w]
            rfl
          refine pure_ (i := 12) (N := some 55) (v := undef) (a' := ?_) #[true, true, true, true, true, true, true, true, true, true, true, true, true, false, false, false, false, false, false, false, false, false, false, false, false, false, false, false, false] rfl rfl (any_of HT_.out (by kernel_rfl)) (fun _ _ _ h => h) (Or.inr ⟨by rfl, rfl⟩) ?_ ?_
          rotate_left
          · simp only [Act.put, List.setIfInBounds_toArray, List.set_cons_zero, List.set_cons_succ, i64_w, i32_w]
            rfl
          refine pure_ (i := 13) (N := some 56) (v := undef) (a' := ?_) #[true, true, true, true, true, true, true, true, true, true, true, true, true, true, false, false, false, false, false, false, false, false, false, false, false, false, false, false, false] rfl rfl (any_of HT_.out (by kernel_rfl)) (fun _ _ _ h => h) (Or.inr ⟨by rfl, rfl⟩) ?_ ?_
          rotate_left
          · simp only [Act.put, List.setIfInBounds_toArray, List.set_cons_zero, List.set_cons_succ, i64_w, i32_w]
            rfl
          refine pure_ (i := 14) (N := some 57) (v := ?_) (a' := ?_) #[true, true, true, true, true, true, true, true, true, true, true, true, true, true, true, false, false, false, false, false, false, false, false, false, false, false, false, false, false] rfl rfl (any_of HT_.out (by kernel_rfl)) (fun _ _ _ h => h) (Or.inl ⟨by rfl, ?_⟩) ?_ ?_
          rotate_left
          · intro w'
            first | (go_simp; with_reducible rfl) | (go_simp; (try unfold Instr.field); go_simp; (try simp only [asAgg]); go_simp; with_reducible rfl)
          rotate_left
          · simp only [Act.put, List.setIfInBounds_toArray, List.set_cons_zero, List.set_cons_succ, i64_w, i32_w]
            rfl
          refine pure_ (i := 15) (N := some 58) (v := ?_) (a' := ?_) #[true, true, true, true, true, true, true, true, true, true, true, true, true, true, true, true, false, false, false, false, false, false, false, false, false, false, false, false, false] rfl rfl (any_of HT_.out (by kernel_rfl)) (fun _ _ _ h => h) (Or.inl ⟨by rfl, ?_⟩) ?_ ?_
          rotate_left
          · intro w'
            first | (go_simp; with_reducible rfl) | (go_simp; (try unfold Instr.field); go_simp; (try simp only [asAgg]); go_simp; with_reducible rfl)
          rotate_left
          · simp only [Act.put, List.setIfInBounds_toArray, List.set_cons_zero, List.set_cons_succ, i64_w, i32_w]
            rfl
          refine pure_ (i := 16) (N := some 59) (v := undef) (a' := ?_) #[true, true, true, true, true, true, true, true, true, true, true, true, true, true, true, true, true, false, false, false, false, false, false, false, false, false, false, false, false] rfl rfl (any_of HT_.out (by kernel_rfl)) (fun _ _ _ h => h) (Or.inr ⟨by rfl, rfl⟩) ?_ ?_
          rotate_left
          · simp only [Act.put, List.setIfInBounds_toArray, List.set_cons_zero, List.set_cons_succ, i64_w, i32_w]
            rfl
          refine pure_ (i := 17) (N := some 60) (v := undef) (a' := ?_) #[true, true, true, true, true, true, true, true, true, true, true, true, true, true, true, true, true, true, false, false, false, false, false, false, false, false, false, false, false] rfl rfl (any_of HT_.out (by kernel_rfl)) (fun _ _ _ h => h) (Or.inr ⟨by rfl, rfl⟩) ?_ ?_
          rotate_left
          · simp only [Act.put, List.setIfInBounds_toArray, List.set_cons_zero, List.set_cons_succ, i64_w, i32_w]
            rfl
          refine pure_ (i := 18) (N := some 61) (v := undef) (a' := ?_) #[true, true, true, true, true, true, true, true, true, true, true, true, true, true, true, true, true, true, true, false, false, false, false, false, false, false, false, false, false] rfl rfl (any_of HT_.out (by kernel_rfl)) (fun _ _ _ h => h) (Or.inr ⟨by rfl, rfl⟩) ?_ ?_
          rotate_left
          · simp only [Act.put, List.setIfInBounds_toArray, List.set_cons_zero, List.set_cons_succ, i64_w, i32_w]
            rfl
          refine pure_ (i := 19) (N := some 62) (v := ?_) (a' := ?_) #[true, true, true, true, true, true, true, true, true, true, true, true, true, true, true, true, true, true, true, true, false, false, false, false, false, false, false, false, false] rfl rfl (any_of HT_.out (by kernel_rfl)) (fun _ _ _ h => h) (Or.inl ⟨by rfl, ?_⟩) ?_ ?_
          rotate_left
          · intro w'
            first | (go_simp; with_reducible rfl) | (go_simp; (try unfold Instr.field); go_simp; (try simp only [asAgg]); go_simp; with_reducible rfl)
          rotate_left
          · simp only [Act.put, List.setIfInBounds_toArray, List.set_cons_zero, List.set_cons_succ, i64_w, i32_w]
            rfl
          refine pure_ (i := 20) (N := some 63) (v := ?_) (a' := ?_) #[true, true, true, true, true, true, true, true, true, true, true, true, true, true, true, true, true, true, true, true, true, false, false, false, false, false, false, false, false] rfl rfl (any_of HT_.out (by kernel_rfl)) (fun _ _ _ h => h) (Or.inl ⟨by rfl, ?_⟩) ?_ ?_
          rotate_left
          · intro w'
            first | (go_simp; with_reducible rfl) | (go_simp; (try unfold Instr.field); go_simp; (try simp only [asAgg]); go_simp; with_reducible rfl)
          rotate_left
          · simp only [Act.put, List.setIfInBounds_toArray, List.set_cons_zero, List.set_cons_succ, i64_w, i32_w]
            rfl
          refine pure_ (i := 21) (N := some 64) (v := undef) (a' := ?_) #[true, true, true, true, true, true, true, true, true, true, true, true, true, true, true, true, true, true, true, true, true, true, false, false, false, false, false, false, false] rfl rfl (any_of HT_.out (by kernel_rfl)) (fun _ _ _ h => h) (Or.inr ⟨by rfl, rfl⟩) ?_ ?_
          rotate_left
          · simp only [Act.put, List.setIfInBounds_toArray, List.set_cons_zero, List.set_cons_succ, i64_w, i32_w]
            rfl
          refine pure_ (i := 22) (N := some 65) (v := undef) (a' := ?_) #[true, true, true, true, true, true, true, true, true, true, true, true, true, true, true, true, true, true, true, true, true, true, true, false, false, false, false, false, false] rfl rfl (any_of HT_.out (by kernel_rfl)) (fun _ _ _ h => h) (Or.inr ⟨by rfl, rfl⟩) ?_ ?_
          rotate_left
          · simp only [Act.put, List.setIfInBounds_toArray, List.set_cons_zero, List.set_cons_succ, i64_w, i32_w]
            rfl
          refine pure_ (i := 23) (N := some 66) (v := undef) (a' := ?_) #[true, true, true, true, true, true, true, true, true, true, true, true, true, true, true, true, true, true, true, true, true, true, true, true, false, false, false, false, false] rfl rfl (any_of HT_.out (by kernel_rfl)) (fun _ _ _ h => h) (Or.inr ⟨by rfl, rfl⟩) ?_ ?_
          rotate_left
          · simp only [Act.put, List.setIfInBounds_toArray, List.set_cons_zero, List.set_cons_succ, i64_w, i32_w]
            rfl
          refine pure_ (i := 24) (N := some 67) (v := undef) (a' := ?_) #[true, true, true, true, true, true, true, true, true, true, true, true, true, true, true, true, true, true, true, true, true, true, true, true, true, false, false, false, false] rfl rfl (any_of HT_.out (by kernel_rfl)) (fun _ _ _ h => h) (Or.inr ⟨by rfl, rfl⟩) ?_ ?_
          rotate_left
          · simp only [Act.put, List.setIfInBounds_toArray, List.set_cons_zero, List.set_cons_succ, i64_w, i32_w]
            rfl
          refine pure_ (i := 25) (N := some 68) (v := undef) (a' := ?_) #[true, true, true, true, true, true, true, true, true, true, true, true, true, true, true, true, true, true, true, true, true, true, true, true, true, true, false, false, false] rfl rfl (any_of HT_.out (by kernel_rfl)) (fun _ _ _ h => h) (Or.inr ⟨by rfl, rfl⟩) ?_ ?_
          rotate_left
          · simp only [Act.put, List.setIfInBounds_toArray, List.set_cons_zero, List.set_cons_succ, i64_w, i32_w]
            rfl
          refine pure_ (i := 26) (N := some 69) (v := undef) (a' := ?_) #[true, true, true, true, true, true, true, true, true, true, true, true, true, true, true, true, true, true, true, true, true, true, true, true, true, true, true, false, false] rfl rfl (any_of HT_.out (by kernel_rfl)) (fun _ _ _ h => h) (Or.inr ⟨by rfl, rfl⟩) ?_ ?_
          rotate_left
          · simp only [Act.put, List.setIfInBounds_toArray, List.set_cons_zero, List.set_cons_succ, i64_w, i32_w]
            rfl
          refine pure_ (i := 27) (N := some 70) (v := undef) (a' := ?_) #[true, true, true, true, true, true, true, true, true, true, true, true, true, true, true, true, true, true, true, true, true, true, true, true, true, true, true, true, false] rfl rfl (any_of HT_.out (by kernel_rfl)) (fun _ _ _ h => h) (Or.inr ⟨by rfl, rfl⟩) ?_ ?_
          rotate_left
          · simp only [Act.put, List.setIfInBounds_toArray, List.set_cons_zero, List.set_cons_succ, i64_w, i32_w]
            rfl
          refine pure_ (i := 28) (N := some 71) (v := ?_) (a' := ?_) #[true, true, true, true, true, true, true, true, true, true, true, true, true, true, true, true, true, true, true, true, true, true, true, true, true, true, true, true, true] rfl rfl (any_of HT_.out (by kernel_rfl)) (fun _ _ _ h => h) (Or.inl ⟨by rfl, ?_⟩) ?_ ?_
          rotate_left
          · intro w'
            first | (go_simp; with_reducible rfl) | (go_simp; (try unfold Instr.field); go_simp; (try simp only [asAgg]); go_simp; with_reducible rfl)
          rotate_left
          · simp only [Act.put, List.setIfInBounds_toArray, List.set_cons_zero, List.set_cons_succ, i64_w, i32_w]
            rfl
          refine done_ (done_of HT_.out (by kernel_rfl)) ?_
          try go_wp2
          go_meet
          case rel => exact ⟨_, (true), (by first | rfl | (simp; done) | (simp [*]; done)), H', ⟨by first | omega | exact Nat.le_refl _⟩, ⟨by (with_reducible repeat (first | apply ra | apply rN | apply rd1)); exact O267.out⟩, ⟨by (with_reducible repeat (first | apply ra | apply rN | apply rd1)); exact O271.out⟩, ⟨by (with_reducible repeat (first | apply ra | apply rN | apply rd1)); exact O280.out⟩, ⟨by (with_reducible repeat (first | apply ra | apply rN | apply rd1)); exact O285.out⟩, ⟨by (with_reducible repeat (first | apply bN | apply bd | apply ba)); exact B272.out⟩, ⟨by (with_reducible repeat (first | apply bN | apply bd | apply ba)); exact B281.out⟩, ⟨by (with_reducible repeat (first | apply bN | apply bd | apply ba)); exact B286.out⟩, ⟨by (with_reducible repeat (first | apply bN | apply bd | apply ba)); exact B289.out⟩, ⟨by repeat (first | (with_reducible first | exact HB.out | apply pa | apply pN | apply p1 | refine bs ?_ E272.out | refine bs ?_ E281.out | refine bs ?_ E286.out | refine bs ?_ E289.out) | exact HB.out)⟩⟩
      case rest =>
        clear HC10
        try clear p2
        try clear c3
        try clear c32
        try clear c36
        try clear c36b0
        try clear c36b1
        try clear c37
        try clear c37b0
        try clear c37b1
        obtain ⟨kq, x71_9, rfl, HA, HJ9, o0, o1, o2, o3, B272, B281, B286, B289, HB⟩ := hcut
        cases kq with
        | zero => exact absurd HA.out (by simp [laws_FnLooks.j0])
        | succ kj9 =>
          have H := HA.out
          clear HA
          simp only [laws_FnLooks.j0] at H
          by_cases c52 : x71_9 = true
          · subst c52
            have H1 : (some false) = some r := by rw [if_pos rfl] at H; exact H
            clear H
            have H := H1
            clear H1
            obtain rfl := Option.some.inj H
            go_wp2
            go_ret
            exact ⟨by first | rfl | (simp [errW_none, errW_some] <;> rfl) | (simp [*, errW_none, errW_some] <;> rfl), by repeat (first | (with_reducible first | exact HB.out | apply pa | apply pN | apply p1 | refine bs ?_ E272.out | refine bs ?_ E281.out | refine bs ?_ E286.out | refine bs ?_ E289.out) | exact HB.out)⟩
          · replace c52 := Bool.eq_false_iff.mpr c52
            subst c52
            have H1 : (laws_FnLooks.l0 kj9 t264 0 t268 t269 t277 t278) = some r := by rw [if_neg (show ¬ (false = true) by decide)] at H; exact H
            clear H
            have H := H1
            clear H1
            have H' := am H
            clear H
            go_wp2
            go_loopg [9] kj9 (fun kq v9 w' => ∃ (x9_2 : Int), v9 = I q x9_2 ∧ Aside0 (laws_FnLooks.l0 kq t264 x9_2 t268 t269 t277 t278 = some r) ∧ Aside0 (kq ≤ kj9) ∧ Aside0 (Kd.R k53 53 w' w.heap.size (fun k_ => some k_ ≠ ((J Ao16 t269.length co16) : Value).ownBlock) (J Ao12 t264.length co12) t264) ∧ Aside0 (Kd.R k53 53 w' w.heap.size (fun k_ => some k_ ≠ ((J Ao12 t264.length co12) : Value).ownBlock) (J Ao16 t269.length co16) t269) ∧ Aside0 (Kd.R (Kd.int .i64) 2 w' w.heap.size (fun k_ => some k_ ≠ ((J Ao28 t283.length co28) : Value).ownBlock) (J Ao21 t278.length co21) t278) ∧ Aside0 (Kd.R (Kd.int .i64) 2 w' w.heap.size (fun k_ => some k_ ≠ ((J Ao21 t278.length co21) : Value).ownBlock) (J Ao28 t283.length co28) t283) ∧ Aside0 (w'.heap[g272]? = some (.cells #[I q t268, (J Ao16 t269.length co16)] 30 (0, 0))) ∧ Aside0 (w'.heap[g281]? = some (.cells #[I q t277, (J Ao21 t278.length co21)] 45 (0, 0))) ∧ Aside0 (w'.heap[g286]? = some (.cells #[I q t282, (J Ao28 t283.length co28)] 45 (0, 0))) ∧ Aside0 (w'.heap[g289]? = some (.cells #[I q t287, I q t288] 58 (0, 0))) ∧ Aside0 (Below w.heap.size w w'))
            case atStart => exact ⟨(0), (by first | rfl | (simp; done) | (simp [*]; done)), H', ⟨Nat.le_refl _⟩, ⟨by (with_reducible repeat (first | apply ra | apply rN | apply rd1)); exact o0.out⟩, ⟨by (with_reducible repeat (first | apply ra | apply rN | apply rd1)); exact o1.out⟩, ⟨by (with_reducible repeat (first | apply ra | apply rN | apply rd1)); exact o2.out⟩, ⟨by (with_reducible repeat (first | apply ra | apply rN | apply rd1)); exact o3.out⟩, ⟨by (with_reducible repeat (first | apply bN | apply bd | apply ba)); exact B272.out⟩, ⟨by (with_reducible repeat (first | apply bN | apply bd | apply ba)); exact B281.out⟩, ⟨by (with_reducible repeat (first | apply bN | apply bd | apply ba)); exact B286.out⟩, ⟨by (with_reducible repeat (first | apply bN | apply bd | apply ba)); exact B289.out⟩, ⟨by repeat (first | (with_reducible first | exact HB.out | apply pa | apply pN | apply p1 | refine bs ?_ E272.out | refine bs ?_ E281.out | refine bs ?_ E286.out | refine bs ?_ E289.out) | exact HB.out)⟩⟩
            case round =>
              clear H'
              try clear p2
              try clear c3
              try clear c5
              try clear c32
              try clear c36
              try clear c36b0
              try clear c36b1
              try clear c37
              try clear c37b0
              try clear c37b1
              try clear c52
              try clear p2
              obtain ⟨x9_2, rfl, HA, HK2, o0, o1, o2, o3, B272, B281, B286, B289, HB⟩ := hrel
              cases gk with
              | zero => exact absurd HA.out (by simp [laws_FnLooks.l0])
              | succ k2 =>
                have H := HA.out
                clear HA
                simp only [laws_FnLooks.l0] at H
                by_cases c53 : x9_2 < 40
                · rw [if_pos c53] at H
                  have c53b0 : decide (x9_2 < 40) = true := decide_eq_true c53
                  clear c53
                  replace H := Option.bind_eq_some_iff.mp H
                  obtain ⟨⟨t292, t293⟩, A540, H⟩ := H
                  replace H : (laws_FnLooks.l1 k2 t264 x9_2 false 0 t268 t269 t277 t278 t292 t293) = some r := H
                  have A54 := am A540
                  clear A540
                  have H' := am H
                  clear H
                  have hnb55 := NB281_272.out
                  have hnc55 := NB272_281.out
                  have hnb56 := NB281_286.out
                  have hnc56 := NB286_281.out
                  have hnb57 := NB281_289.out
                  have hnc57 := NB289_281.out
                  have hcz58_0 : wr.cell? ⟨g281, 0, none⟩ = some (I q t277) := (bc B281.out 0).trans rfl
                  have hcz58_1 : wr.cell? ⟨g281, 1, none⟩ = some (J Ao21 t278.length co21) := (bc B281.out 1).trans rfl
                  have hfz58_0 := bf B281.out 0
                  have hfz58_1 := bf B281.out 1
                  go_wp2_with (first | ((with_reducible refine gate_callee (f := 35) rfl ?_); refine goesL_ (some 80) rfl rfl Try.func35 (by kernel_rfl) rfl #[J Ao21 t278.length co21, I q (wrap64 (x9_2 * 7919))] rfl (by (try simp only [List.map_toArray, List.map_cons, List.map_nil]); first | done | rfl) ?_; (with_reducible refine (impl_LookTable.calls _ _ t278 (wrap64 (x9_2 * 7919)) t292 t293 _ ?side1 ?side2 A54.out).mono ?_); (case side1 => repeat (first | exact (Kd.R_reads' o2.out).2.2 | (with_reducible refine ca ?_ _) | (with_reducible refine cN ?_ _) | (with_reducible refine cd1 ?_))); (case side2 => exact (Kd.R_reads' o2.out).2.1); rintro e w59 ⟨rfl, hb⟩; refine ⟨_, rfl, ?_⟩; have N0 := am (rb (by (with_reducible repeat (first | apply ra | apply rN | apply rd1)); exact o0.out) hb); have N1 := am (rb (by (with_reducible repeat (first | apply ra | apply rN | apply rd1)); exact o1.out) hb); have N2 := am (rb (by (with_reducible repeat (first | apply ra | apply rN | apply rd1)); exact o2.out) hb); have N3 := am (rb (by (with_reducible repeat (first | apply ra | apply rN | apply rd1)); exact o3.out) hb); have N4 := am (bb (g := g272) (by (with_reducible repeat (first | apply bN | apply bd | apply ba)); exact B272.out) hb); have N5 := am (bb (g := g281) (by (with_reducible repeat (first | apply bN | apply bd | apply ba)); exact B281.out) hb); have N6 := am (bb (g := g286) (by (with_reducible repeat (first | apply bN | apply bd | apply ba)); exact B286.out) hb); have N7 := am (bb (g := g289) (by (with_reducible repeat (first | apply bN | apply bd | apply ba)); exact B289.out) hb); have N8 := am (bp (by repeat (first | (with_reducible first | exact HB.out | apply pa | apply pN | apply p1 | refine bs ?_ E272.out | refine bs ?_ E281.out | refine bs ?_ E286.out | refine bs ?_ E289.out) | exact HB.out)) hb); clear o0 o1 o2 o3 B272 B281 B286 B289 HB; have o0 := N0; have o1 := N1; have o2 := N2; have o3 := N3; have B272 := N4; have B281 := N5; have B286 := N6; have B289 := N7; have HB := N8; clear N0 N1 N2 N3 N4 N5 N6 N7 N8; (try clear hb); (try clear hb2); (try clear hk); (try clear hi)) | ((with_reducible refine gate_dst (N := 10) rfl ?_); refine box_event ?hg (N := 10) ?hd (cs := #[I q 0, I q 0]) (t := 58) ?hr ?_; (case hd => rfl); (case hg => rfl); (case hr => first | (go_simp; done) | (go_simp; rfl)); intro g294 hg w60 hbox hb; have N0 := am (rb (by (with_reducible repeat (first | apply ra | apply rN | apply rd1)); exact o0.out) hb); have N1 := am (rb (by (with_reducible repeat (first | apply ra | apply rN | apply rd1)); exact o1.out) hb); have N2 := am (rb (by (with_reducible repeat (first | apply ra | apply rN | apply rd1)); exact o2.out) hb); have N3 := am (rb (by (with_reducible repeat (first | apply ra | apply rN | apply rd1)); exact o3.out) hb); have N4 := am (bb (g := g272) (by (with_reducible repeat (first | apply bN | apply bd | apply ba)); exact B272.out) hb); have N5 := am (bb (g := g281) (by (with_reducible repeat (first | apply bN | apply bd | apply ba)); exact B281.out) hb); have N6 := am (bb (g := g286) (by (with_reducible repeat (first | apply bN | apply bd | apply ba)); exact B286.out) hb); have N7 := am (bb (g := g289) (by (with_reducible repeat (first | apply bN | apply bd | apply ba)); exact B289.out) hb); have N8 := am (bp (by repeat (first | (with_reducible first | exact HB.out | apply pa | apply pN | apply p1 | refine bs ?_ E272.out | refine bs ?_ E281.out | refine bs ?_ E286.out | refine bs ?_ E289.out) | exact HB.out)) hb); have N9 := am (hbox); have N10 := am ((by rw [hg]; exact (bz (by repeat (first | (with_reducible first | exact HB.out | apply pa | apply pN | apply p1 | refine bs ?_ E272.out | refine bs ?_ E281.out | refine bs ?_ E286.out | refine bs ?_ E289.out) | exact HB.out))) : w.heap.size ≤ g294)); have N11 := am ((by rw [hg]; exact (bz (by repeat (first | (with_reducible first | exact HB.out | apply pa | apply pN | apply p1 | refine bs ?_ E272.out | refine bs ?_ E281.out | refine bs ?_ E286.out | refine bs ?_ E289.out) | exact HB.out))) : w.heap.size ≤ g294)); have N12 := am ((by rw [hg]; exact Nat.ne_of_lt (bl (g := g272) (by (with_reducible repeat (first | apply bN | apply bd | apply ba)); exact B272.out)) : g272 ≠ g294)); have N13 := am ((by rw [hg]; exact Nat.ne_of_gt (bl (g := g272) (by (with_reducible repeat (first | apply bN | apply bd | apply ba)); exact B272.out)) : g294 ≠ g272)); have N14 := am ((by rw [hg]; exact Nat.ne_of_lt (bl (g := g281) (by (with_reducible repeat (first | apply bN | apply bd | apply ba)); exact B281.out)) : g281 ≠ g294)); have N15 := am ((by rw [hg]; exact Nat.ne_of_gt (bl (g := g281) (by (with_reducible repeat (first | apply bN | apply bd | apply ba)); exact B281.out)) : g294 ≠ g281)); have N16 := am ((by rw [hg]; exact Nat.ne_of_lt (bl (g := g286) (by (with_reducible repeat (first | apply bN | apply bd | apply ba)); exact B286.out)) : g286 ≠ g294)); have N17 := am ((by rw [hg]; exact Nat.ne_of_gt (bl (g := g286) (by (with_reducible repeat (first | apply bN | apply bd | apply ba)); exact B286.out)) : g294 ≠ g286)); have N18 := am ((by rw [hg]; exact Nat.ne_of_lt (bl (g := g289) (by (with_reducible repeat (first | apply bN | apply bd | apply ba)); exact B289.out)) : g289 ≠ g294)); have N19 := am ((by rw [hg]; exact Nat.ne_of_gt (bl (g := g289) (by (with_reducible repeat (first | apply bN | apply bd | apply ba)); exact B289.out)) : g294 ≠ g289)); clear o0 o1 o2 o3 B272 B281 B286 B289 HB; have o0 := N0; have o1 := N1; have o2 := N2; have o3 := N3; have B272 := N4; have B281 := N5; have B286 := N6; have B289 := N7; have HB := N8; have B294 := N9; have GW294 := N10; have E294 := N11; have NB272_294 := N12; have NB294_272 := N13; have NB281_294 := N14; have NB294_281 := N15; have NB286_294 := N16; have NB294_286 := N17; have NB289_294 := N18; have NB294_289 := N19; clear N0 N1 N2 N3 N4 N5 N6 N7 N8 N9 N10 N11 N12 N13 N14 N15 N16 N17 N18 N19 hb hbox hg; have hnb61 := NB294_272.out; have hnc61 := NB272_294.out; have hnb62 := NB294_281.out; have hnc62 := NB281_294.out; have hnb63 := NB294_286.out; have hnc63 := NB286_294.out; have hnb64 := NB294_289.out; have hnc64 := NB289_294.out; have hcz65_0 : w60.cell? ⟨g294, 0, none⟩ = some (I q 0) := (bc B294.out 0).trans rfl; have hcz65_1 : w60.cell? ⟨g294, 1, none⟩ = some (I q 0) := (bc B294.out 1).trans rfl; have hfz65_0 := bf B294.out 0; have hfz65_1 := bf B294.out 1))
                  go_loopg [11, 12] k2 (fun kq v11 v12 w' => ∃ (x11_3 : Bool) (x12_3 : Int), v11 = .bool x11_3 ∧ v12 = I q x12_3 ∧ Aside0 (laws_FnLooks.l1 kq t264 x9_2 x11_3 x12_3 t268 t269 t277 t278 t292 t293 = some r) ∧ Aside0 (kq ≤ k2) ∧ Aside0 (Kd.R k53 53 w' w.heap.size (fun k_ => some k_ ≠ ((J Ao16 t269.length co16) : Value).ownBlock) (J Ao12 t264.length co12) t264) ∧ Aside0 (Kd.R k53 53 w' w.heap.size (fun k_ => some k_ ≠ ((J Ao12 t264.length co12) : Value).ownBlock) (J Ao16 t269.length co16) t269) ∧ Aside0 (Kd.R (Kd.int .i64) 2 w' w.heap.size (fun k_ => some k_ ≠ ((J Ao28 t283.length co28) : Value).ownBlock) (J Ao21 t278.length co21) t278) ∧ Aside0 (Kd.R (Kd.int .i64) 2 w' w.heap.size (fun k_ => some k_ ≠ ((J Ao21 t278.length co21) : Value).ownBlock) (J Ao28 t283.length co28) t283) ∧ Aside0 (w'.heap[g272]? = some (.cells #[I q t268, (J Ao16 t269.length co16)] 30 (0, 0))) ∧ Aside0 (w'.heap[g281]? = some (.cells #[I q t277, (J Ao21 t278.length co21)] 45 (0, 0))) ∧ Aside0 (w'.heap[g286]? = some (.cells #[I q t282, (J Ao28 t283.length co28)] 45 (0, 0))) ∧ Aside0 (w'.heap[g289]? = some (.cells #[I q t287, I q t288] 58 (0, 0))) ∧ Aside0 (w'.heap[g294]? = some (.cells #[I q t292, I q t293] 58 (0, 0))) ∧ Aside0 (Below w.heap.size w w'))
                  case atStart => exact ⟨(false), (0), (by first | rfl | (simp; done) | (simp [*]; done)), (by first | rfl | (simp; done) | (simp [*]; done)), H', ⟨Nat.le_refl _⟩, ⟨by (with_reducible repeat (first | apply ra | apply rN | apply rd1)); exact Kd.R_mono (rf (p := ⟨g294, 1, none⟩) (rf (p := ⟨g294, 0, none⟩) (Kd.R_types o0.out B294.out (by decide)) (fun _ hk => hk.2) (I q t292)) (fun _ hk => hk.2) (I q t293)) (fun _ hk => hk.1)⟩, ⟨by (with_reducible repeat (first | apply ra | apply rN | apply rd1)); exact Kd.R_mono (rf (p := ⟨g294, 1, none⟩) (rf (p := ⟨g294, 0, none⟩) (Kd.R_types o1.out B294.out (by decide)) (fun _ hk => hk.2) (I q t292)) (fun _ hk => hk.2) (I q t293)) (fun _ hk => hk.1)⟩, ⟨by (with_reducible repeat (first | apply ra | apply rN | apply rd1)); exact Kd.R_mono (rf (p := ⟨g294, 1, none⟩) (rf (p := ⟨g294, 0, none⟩) (Kd.R_types o2.out B294.out (by decide)) (fun _ hk => hk.2) (I q t292)) (fun _ hk => hk.2) (I q t293)) (fun _ hk => hk.1)⟩, ⟨by (with_reducible repeat (first | apply ra | apply rN | apply rd1)); exact Kd.R_mono (rf (p := ⟨g294, 1, none⟩) (rf (p := ⟨g294, 0, none⟩) (Kd.R_types o3.out B294.out (by decide)) (fun _ hk => hk.2) (I q t292)) (fun _ hk => hk.2) (I q t293)) (fun _ hk => hk.1)⟩, ⟨by (with_reducible repeat (first | apply bN | apply bd | apply ba)); refine bq ?_ NB272_294.out _; (with_reducible repeat (first | apply bN | apply bd | apply ba)); refine bq ?_ NB272_294.out _; (with_reducible repeat (first | apply bN | apply bd | apply ba)); exact B272.out⟩, ⟨by (with_reducible repeat (first | apply bN | apply bd | apply ba)); refine bq ?_ NB281_294.out _; (with_reducible repeat (first | apply bN | apply bd | apply ba)); refine bq ?_ NB281_294.out _; (with_reducible repeat (first | apply bN | apply bd | apply ba)); exact B281.out⟩, ⟨by (with_reducible repeat (first | apply bN | apply bd | apply ba)); refine bq ?_ NB286_294.out _; (with_reducible repeat (first | apply bN | apply bd | apply ba)); refine bq ?_ NB286_294.out _; (with_reducible repeat (first | apply bN | apply bd | apply ba)); exact B286.out⟩, ⟨by (with_reducible repeat (first | apply bN | apply bd | apply ba)); refine bq ?_ NB289_294.out _; (with_reducible repeat (first | apply bN | apply bd | apply ba)); refine bq ?_ NB289_294.out _; (with_reducible repeat (first | apply bN | apply bd | apply ba)); exact B289.out⟩, ⟨by (with_reducible repeat (first | apply bN | apply bd | apply ba)); refine blk_put (cs := #[I q t292, I q 0]) ?_ 1 _ rfl; (with_reducible repeat (first | apply bN | apply bd | apply ba)); refine blk_put (cs := #[I q 0, I q 0]) ?_ 0 _ rfl; (with_reducible repeat (first | apply bN | apply bd | apply ba)); exact B294.out⟩, ⟨by repeat (first | (with_reducible first | exact HB.out | apply pa | apply pN | apply p1 | refine bs ?_ E272.out | refine bs ?_ E281.out | refine bs ?_ E286.out | refine bs ?_ E289.out | refine bs ?_ E294.out) | exact HB.out)⟩⟩
                  case round =>
                    clear H'
                    try clear p2
                    try clear c3
                    try clear c5
                    try clear c6
                    try clear p6
                    try clear c32
                    try clear c35
                    try clear c36
                    try clear c36b0
                    try clear c36b1
                    try clear c37
                    try clear c37b0
                    try clear c37b1
                    try clear c52
                    try clear c53
                    try clear c53b0
                    try clear c55
                    try clear c56
                    try clear c57
                    try clear c61
                    try clear c62
                    try clear c63
                    try clear c64
                    try clear p64
                    try clear hcz58_0
                    try clear hcz58_1
                    try clear hcz65_0
                    try clear hcz65_1
                    try clear hfz58_0
                    try clear hfz58_1
                    try clear hfz65_0
                    try clear hfz65_1
                    try clear p2
                    obtain ⟨x11_3, x12_3, rfl, rfl, HA, HK3, o0, o1, o2, o3, B272, B281, B286, B289, B294, HB⟩ := hrel
                    cases gk with
                    | zero => exact absurd HA.out (by simp [laws_FnLooks.l1])
                    | succ k3 =>
                      have H := HA.out
                      clear HA
                      simp only [laws_FnLooks.l1] at H
                      by_cases c66 : x12_3 < (t264.length : Int)
                      · rw [if_pos c66] at H
                        have c66b0 : decide (x12_3 < (t264.length : Int)) = true := decide_eq_true c66
                        clear c66
                        by_cases c67 : x11_3 = true
                        · subst c67
                          have H1 : (laws_FnLooks.l1 k3 t264 x9_2 true (wrap64 (x12_3 + 1)) t268 t269 t277 t278 t292 t293) = some r := by rw [if_pos rfl] at H; exact H
                          clear H
                          have H := H1
                          clear H1
                          have H' := am H
                          clear H
                          try go_wp2
                          have N0 := am (rd1 o0.out)
                          have N1 := am (rd1 o1.out)
                          have N2 := am (rd1 o2.out)
                          have N3 := am (rd1 o3.out)
                          have N4 := am (bd B272.out)
                          have N5 := am (bd B281.out)
                          have N6 := am (bd B286.out)
                          have N7 := am (bd B289.out)
                          have N8 := am (bd B294.out)
                          have N9 := am (p1 HB.out)
                          clear o0
                          clear o1
                          clear o2
                          clear o3
                          clear B272
                          clear B281
                          clear B286
                          clear B289
                          clear B294
                          clear HB
                          have o0 := N0
                          have o1 := N1
                          have o2 := N2
                          have o3 := N3
                          have B272 := N4
                          have B281 := N5
                          have B286 := N6
                          have B289 := N7
                          have B294 := N8
                          have HB := N9
                          clear N0 N1 N2 N3 N4 N5 N6 N7 N8 N9
                          refine start_ (n := 20) (S := fun w' => True) (ds := []) #[false, false, false, false, false, false, false, false, false, false, false, false, false, false, false, false, false, false, false, false] (by kernel_rfl) rfl rfl trivial (fun hHeld => ?_); refine with_tabW laws_FnLooks.tab20 laws_FnLooks.bits20 (fun HT_ HW_ => ?_)
                          generalize wr.drew = w68 at o0 o1 o2 o3 B272 B281 B286 B289 B294 HB hHeld ⊢
                          refine pure_ (i := 0) (N := some 87) (v := ?_) (a' := ?_) #[true, false, false, false, false, false, false, false, false, false, false, false, false, false, false, false, false, false, false, false] rfl rfl (any_of HT_.out (by kernel_rfl)) (fun _ _ _ h => h) (Or.inl ⟨by rfl, ?_⟩) ?_ ?_
                          rotate_left
                          · intro w'
                            first | (go_simp; with_reducible rfl) | (go_simp; (try unfold Instr.field); go_simp; (try simp only [asAgg]); go_simp; with_reducible rfl)
                          rotate_left
                          · simp only [Act.put, List.setIfInBounds_toArray, List.set_cons_zero, List.set_cons_succ, i64_w, i32_w]
                            rfl
                          refine pure_ (i := 1) (N := some 88) (v := ?_) (a' := ?_) #[true, true, false, false, false, false, false, false, false, false, false, false, false, false, false, false, false, false, false, false] rfl rfl (any_of HT_.out (by kernel_rfl)) (fun _ _ _ h => h) (Or.inl ⟨by rfl, ?_⟩) ?_ ?_
                          rotate_left
                          · intro w'
                            first | (go_simp; with_reducible rfl) | (go_simp; (try unfold Instr.field); go_simp; (try simp only [asAgg]); go_simp; with_reducible rfl)
                          rotate_left
                          · simp only [Act.put, List.setIfInBounds_toArray, List.set_cons_zero, List.set_cons_succ, i64_w, i32_w]
                            rfl
                          refine pure_ (i := 2) (N := some 89) (v := undef) (a' := ?_) #[true, true, true, false, false, false, false, false, false, false, false, false, false, false, false, false, false, false, false, false] rfl rfl (any_of HT_.out (by kernel_rfl)) (fun _ _ _ h => h) (Or.inr ⟨by rfl, rfl⟩) ?_ ?_
                          rotate_left
                          · simp only [Act.put, List.setIfInBounds_toArray, List.set_cons_zero, List.set_cons_succ, i64_w, i32_w]
                            rfl
                          refine pure_ (i := 3) (N := some 90) (v := undef) (a' := ?_) #[true, true, true, true, false, false, false, false, false, false, false, false, false, false, false, false, false, false, false, false] rfl rfl (any_of HT_.out (by kernel_rfl)) (fun _ _ _ h => h) (Or.inr ⟨by rfl, rfl⟩) ?_ ?_
                          rotate_left
                          · simp only [Act.put, List.setIfInBounds_toArray, List.set_cons_zero, List.set_cons_succ, i64_w, i32_w]
                            rfl
                          refine pure_ (i := 4) (N := some 91) (v := undef) (a' := ?_) #[true, true, true, true, true, false, false, false, false, false, false, false, false, false, false, false, false, false, false, false] rfl rfl (any_of HT_.out (by kernel_rfl)) (fun _ _ _ h => h) (Or.inr ⟨by rfl, rfl⟩) ?_ ?_
                          rotate_left
                          · simp only [Act.put, List.setIfInBounds_toArray, List.set_cons_zero, List.set_cons_succ, i64_w, i32_w]
                            rfl
                          refine pure_ (i := 5) (N := some 92) (v := undef) (a' := ?_) #[true, true, true, true, true, true, false, false, false, false, false, false, false, false, false, false, false, false, false, false] rfl rfl (any_of HT_.out (by kernel_rfl)) (fun _ _ _ h => h) (Or.inr ⟨by rfl, rfl⟩) ?_ ?_
                          rotate_left
                          · simp only [Act.put, List.setIfInBounds_toArray, List.set_cons_zero, List.set_cons_succ, i64_w, i32_w]
                            rfl
                          refine pure_ (i := 6) (N := some 93) (v := undef) (a' := ?_) #[true, true, true, true, true, true, true, false, false, false, false, false, false, false, false, false, false, false, false, false] rfl rfl (any_of HT_.out (by kernel_rfl)) (fun _ _ _ h => h) (Or.inr ⟨by rfl, rfl⟩) ?_ ?_
                          rotate_left
                          · simp only [Act.put, List.setIfInBounds_toArray, List.set_cons_zero, List.set_cons_succ, i64_w, i32_w]
                            rfl
                          refine pure_ (i := 7) (N := some 94) (v := undef) (a' := ?_) #[true, true, true, true, true, true, true, true, false, false, false, false, false, false, false, false, false, false, false, false] rfl rfl (any_of HT_.out (by kernel_rfl)) (fun _ _ _ h => h) (Or.inr ⟨by rfl, rfl⟩) ?_ ?_
                          rotate_left
                          · simp only [Act.put, List.setIfInBounds_toArray, List.set_cons_zero, List.set_cons_succ, i64_w, i32_w]
                            rfl
                          refine pure_ (i := 8) (N := some 95) (v := undef) (a' := ?_) #[true, true, true, true, true, true, true, true, true, false, false, false, false, false, false, false, false, false, false, false] rfl rfl (any_of HT_.out (by kernel_rfl)) (fun _ _ _ h => h) (Or.inr ⟨by rfl, rfl⟩) ?_ ?_
                          rotate_left
                          · simp only [Act.put, List.setIfInBounds_toArray, List.set_cons_zero, List.set_cons_succ, i64_w, i32_w]
                            rfl
                          refine pure_ (i := 9) (N := some 96) (v := undef) (a' := ?_) #[true, true, true, true, true, true, true, true, true, true, false, false, false, false, false, false, false, false, false, false] rfl rfl (any_of HT_.out (by kernel_rfl)) (fun _ _ _ h => h) (Or.inr ⟨by rfl, rfl⟩) ?_ ?_
                          rotate_left
                          · simp only [Act.put, List.setIfInBounds_toArray, List.set_cons_zero, List.set_cons_succ, i64_w, i32_w]
                            rfl
                          refine pure_ (i := 10) (N := some 97) (v := undef) (a' := ?_) #[true, true, true, true, true, true, true, true, true, true, true, false, false, false, false, false, false, false, false, false] rfl rfl (any_of HT_.out (by kernel_rfl)) (fun _ _ _ h => h) (Or.inr ⟨by rfl, rfl⟩) ?_ ?_
                          rotate_left
                          · simp only [Act.put, List.setIfInBounds_toArray, List.set_cons_zero, List.set_cons_succ, i64_w, i32_w]
                            rfl
                          refine pure_ (i := 11) (N := some 98) (v := undef) (a' := ?_) #[true, true, true, true, true, true, true, true, true, true, true, true, false, false, false, false, false, false, false, false] rfl rfl (any_of HT_.out (by kernel_rfl)) (fun _ _ _ h => h) (Or.inr ⟨by rfl, rfl⟩) ?_ ?_
                          rotate_left
                          · simp only [Act.put, List.setIfInBounds_toArray, List.set_cons_zero, List.set_cons_succ, i64_w, i32_w]
                            rfl
                          refine pure_ (i := 12) (N := some 99) (v := undef) (a' := ?_) #[true, true, true, true, true, true, true, true, true, true, true, true, true, false, false, false, false, false, false, false] rfl rfl (any_of HT_.out (by kernel_rfl)) (fun _ _ _ h => h) (Or.inr ⟨by rfl, rfl⟩) ?_ ?_
                          rotate_left
                          · simp only [Act.put, List.setIfInBounds_toArray, List.set_cons_zero, List.set_cons_succ, i64_w, i32_w]
                            rfl
                          refine pure_ (i := 13) (N := some 100) (v := undef) (a' := ?_) #[true, true, true, true, true, true, true, true, true, true, true, true, true, true, false, false, false, false, false, false] rfl rfl (any_of HT_.out (by kernel_rfl)) (fun _ _ _ h => h) (Or.inr ⟨by rfl, rfl⟩) ?_ ?_
                          rotate_left
                          · simp only [Act.put, List.setIfInBounds_toArray, List.set_cons_zero, List.set_cons_succ, i64_w, i32_w]
                            rfl
                          refine pure_ (i := 14) (N := some 101) (v := undef) (a' := ?_) #[true, true, true, true, true, true, true, true, true, true, true, true, true, true, true, false, false, false, false, false] rfl rfl (any_of HT_.out (by kernel_rfl)) (fun _ _ _ h => h) (Or.inr ⟨by rfl, rfl⟩) ?_ ?_
                          rotate_left
                          · simp only [Act.put, List.setIfInBounds_toArray, List.set_cons_zero, List.set_cons_succ, i64_w, i32_w]
                            rfl
                          refine pure_ (i := 15) (N := some 102) (v := undef) (a' := ?_) #[true, true, true, true, true, true, true, true, true, true, true, true, true, true, true, true, false, false, false, false] rfl rfl (any_of HT_.out (by kernel_rfl)) (fun _ _ _ h => h) (Or.inr ⟨by rfl, rfl⟩) ?_ ?_
                          rotate_left
                          · simp only [Act.put, List.setIfInBounds_toArray, List.set_cons_zero, List.set_cons_succ, i64_w, i32_w]
                            rfl
                          refine pure_ (i := 16) (N := some 103) (v := undef) (a' := ?_) #[true, true, true, true, true, true, true, true, true, true, true, true, true, true, true, true, true, false, false, false] rfl rfl (any_of HT_.out (by kernel_rfl)) (fun _ _ _ h => h) (Or.inr ⟨by rfl, rfl⟩) ?_ ?_
                          rotate_left
                          · simp only [Act.put, List.setIfInBounds_toArray, List.set_cons_zero, List.set_cons_succ, i64_w, i32_w]
                            rfl
                          refine pure_ (i := 17) (N := some 104) (v := undef) (a' := ?_) #[true, true, true, true, true, true, true, true, true, true, true, true, true, true, true, true, true, true, false, false] rfl rfl (any_of HT_.out (by kernel_rfl)) (fun _ _ _ h => h) (Or.inr ⟨by rfl, rfl⟩) ?_ ?_
                          rotate_left
                          · simp only [Act.put, List.setIfInBounds_toArray, List.set_cons_zero, List.set_cons_succ, i64_w, i32_w]
                            rfl
                          refine pure_ (i := 18) (N := some 105) (v := ?_) (a' := ?_) #[true, true, true, true, true, true, true, true, true, true, true, true, true, true, true, true, true, true, true, false] rfl rfl (any_of HT_.out (by kernel_rfl)) (fun _ _ _ h => h) (Or.inl ⟨by rfl, ?_⟩) ?_ ?_
                          rotate_left
                          · intro w'
                            first | (go_simp; with_reducible rfl) | (go_simp; (try unfold Instr.field); go_simp; (try simp only [asAgg]); go_simp; with_reducible rfl)
                          rotate_left
                          · simp only [Act.put, List.setIfInBounds_toArray, List.set_cons_zero, List.set_cons_succ, i64_w, i32_w]
                            rfl
                          refine pure_ (i := 19) (N := some 11) (v := ?_) (a' := ?_) #[true, true, true, true, true, true, true, true, true, true, true, true, true, true, true, true, true, true, true, true] rfl rfl (any_of HT_.out (by kernel_rfl)) (fun _ _ _ h => h) (Or.inl ⟨by rfl, ?_⟩) ?_ ?_
                          rotate_left
                          · intro w'
                            first | (go_simp; with_reducible rfl) | (go_simp; (try unfold Instr.field); go_simp; (try simp only [asAgg]); go_simp; with_reducible rfl)
                          rotate_left
                          · simp only [Act.put, List.setIfInBounds_toArray, List.set_cons_zero, List.set_cons_succ, i64_w, i32_w]
                            rfl
                          refine done_ (done_of HT_.out (by kernel_rfl)) ?_
                          try go_wp2
                          go_roundg k3
                          case measure => have := HJ9.out; have := HK2.out; have := HK3.out; omega
                          case rel => exact ⟨(true), (wrap64 (x12_3 + 1)), (by first | rfl | (simp; done) | (simp [*]; done)), (by first | rfl | (simp; done) | (simp [*]; done)), H', ⟨by have := HJ9.out; have := HK2.out; have := HK3.out; omega⟩, ⟨by (with_reducible repeat (first | apply ra | apply rN | apply rd1)); exact o0.out⟩, ⟨by (with_reducible repeat (first | apply ra | apply rN | apply rd1)); exact o1.out⟩, ⟨by (with_reducible repeat (first | apply ra | apply rN | apply rd1)); exact o2.out⟩, ⟨by (with_reducible repeat (first | apply ra | apply rN | apply rd1)); exact o3.out⟩, ⟨by (with_reducible repeat (first | apply bN | apply bd | apply ba)); exact B272.out⟩, ⟨by (with_reducible repeat (first | apply bN | apply bd | apply ba)); exact B281.out⟩, ⟨by (with_reducible repeat (first | apply bN | apply bd | apply ba)); exact B286.out⟩, ⟨by (with_reducible repeat (first | apply bN | apply bd | apply ba)); exact B289.out⟩, ⟨by (with_reducible repeat (first | apply bN | apply bd | apply ba)); exact B294.out⟩, ⟨by repeat (first | (with_reducible first | exact HB.out | apply pa | apply pN | apply p1 | refine bs ?_ E272.out | refine bs ?_ E281.out | refine bs ?_ E286.out | refine bs ?_ E289.out | refine bs ?_ E294.out) | exact HB.out)⟩⟩
                        · replace c67 := Bool.eq_false_iff.mpr c67
                          subst c67
                          have H1 : (if 0 ≤ x12_3 then (if ((rd_T53 t264 x12_3).f0) = t293 then (laws_FnLooks.l1 k3 t264 x9_2 (decide (((rd_T53 t264 x12_3).f1) > 0)) (wrap64 (x12_3 + 1)) t268 t269 t277 t278 t292 t293) else (laws_FnLooks.l1 k3 t264 x9_2 false (wrap64 (x12_3 + 1)) t268 t269 t277 t278 t292 t293)) else (none)) = some r := by rw [if_neg (show ¬ (false = true) by decide)] at H; exact H
                          clear H
                          have H := H1
                          clear H1
                          by_cases c69 : 0 ≤ x12_3
                          · rw [if_pos c69] at H
                            have c69b0 : decide (0 ≤ x12_3) = true := decide_eq_true c69
                            clear c69
                            by_cases c70 : ((rd_T53 t264 x12_3).f0) = t293
                            · rw [if_pos c70] at H
                              have c70b0 : (((rd_T53 t264 x12_3).f0) == t293) = true := beq_iff_eq.mpr c70
                              have c70b1 : (((rd_T53 t264 x12_3).f0) != t293) = false := bne_eq_false_iff_eq.mpr c70
                              clear c70
                              have H' := am H
                              clear H
                              try go_wp2
                              have N0 := am (rd1 o0.out)
                              have N1 := am (rd1 o1.out)
                              have N2 := am (rd1 o2.out)
                              have N3 := am (rd1 o3.out)
                              have N4 := am (bd B272.out)
                              have N5 := am (bd B281.out)
                              have N6 := am (bd B286.out)
                              have N7 := am (bd B289.out)
                              have N8 := am (bd B294.out)
                              have N9 := am (p1 HB.out)
                              clear o0
                              clear o1
                              clear o2
                              clear o3
                              clear B272
                              clear B281
                              clear B286
                              clear B289
                              clear B294
                              clear HB
                              have o0 := N0
                              have o1 := N1
                              have o2 := N2
                              have o3 := N3
                              have B272 := N4
                              have B281 := N5
                              have B286 := N6
                              have B289 := N7
                              have B294 := N8
                              have HB := N9
                              clear N0 N1 N2 N3 N4 N5 N6 N7 N8 N9
                              have p295 : 0 ≤ (x12_3 : Int) := of_decide_eq_true (by first | (with_reducible assumption) | assumption)
                              have q295 : x12_3 < (t264.length : Int) := of_decide_eq_true (by first | (with_reducible assumption) | assumption)
                              obtain ⟨ad295, e295, hx295_0, hx295_1⟩ := at_T53 (Kd.R_reads' o0.out).2.2 x12_3 p295 q295
                              cases e295
                              replace p295 := eq_true p295
                              replace q295 := eq_true q295
                              have p296 : 0 ≤ (x12_3 : Int) := of_decide_eq_true (by first | (with_reducible assumption) | assumption)
                              have q296 : x12_3 < (t264.length : Int) := of_decide_eq_true (by first | (with_reducible assumption) | assumption)
                              obtain ⟨ad296, e296, hx296_0, hx296_1⟩ := at_T53 (Kd.R_reads' o0.out).2.2 x12_3 p296 q296
                              obtain rfl : ad295 = ad296 := (by injection e296)
                              replace p296 := eq_true p296
                              replace q296 := eq_true q296
                              refine start_ (n := 20) (S := fun w' => w'.cell? ⟨g294, 0, none⟩ = some (I q t292) ∧ w'.cell? ⟨g294, 1, none⟩ = some (I q t293) ∧ w'.cell? (ad295.add ((x12_3).toNat * 2)) = some (I q ((rd_T53 t264 x12_3).f0)) ∧ w'.cell? ⟨(ad295.add ((x12_3).toNat * 2)).block, (ad295.add ((x12_3).toNat * 2)).off + 1, none⟩ = some (I q ((rd_T53 t264 x12_3).f1)) ∧ w'.cell? (ad295.add ((x12_3).toNat * 2)) = some (I q ((rd_T53 t264 x12_3).f0)) ∧ w'.cell? ⟨(ad295.add ((x12_3).toNat * 2)).block, (ad295.add ((x12_3).toNat * 2)).off + 1, none⟩ = some (I q ((rd_T53 t264 x12_3).f1))) (ds := []) #[false, false, false, false, false, false, false, false, false, false, false, false, false, false, false, false, false, false, false, false] (by kernel_rfl) rfl rfl ⟨(bc B294.out 0).trans rfl, (bc B294.out 1).trans rfl, hx295_0, hx295_1, hx296_0, hx296_1⟩ (fun hHeld => ?_); refine with_tabW laws_FnLooks.tab20 laws_FnLooks.bits20 (fun HT_ HW_ => ?_)
                              generalize wr.drew = w71 at o0 o1 o2 o3 B272 B281 B286 B289 B294 HB hx295_0 hx295_1 hx296_0 hx296_1 hHeld ⊢
                              refine pure_ (i := 0) (N := some 87) (v := ?_) (a' := ?_) #[true, false, false, false, false, false, false, false, false, false, false, false, false, false, false, false, false, false, false, false] rfl rfl (any_of HT_.out (by kernel_rfl)) (fun _ _ _ h => h) (Or.inl ⟨by rfl, ?_⟩) ?_ ?_
                              rotate_left
                              · intro w'
                                first | (go_simp; with_reducible rfl) | (go_simp; (try unfold Instr.field); go_simp; (try simp only [asAgg]); go_simp; with_reducible rfl)
                              rotate_left
                              · simp only [Act.put, List.setIfInBounds_toArray, List.set_cons_zero, List.set_cons_succ, i64_w, i32_w]
                                rfl
                              refine pure_ (i := 1) (N := some 88) (v := ?_) (a' := ?_) #[true, true, false, false, false, false, false, false, false, false, false, false, false, false, false, false, false, false, false, false] rfl rfl (any_of HT_.out (by kernel_rfl)) (fun _ _ _ h => h) (Or.inl ⟨by rfl, ?_⟩) ?_ ?_
                              rotate_left
                              · intro w'
                                first | (go_simp; with_reducible rfl) | (go_simp; (try unfold Instr.field); go_simp; (try simp only [asAgg]); go_simp; with_reducible rfl)
                              rotate_left
                              · simp only [Act.put, List.setIfInBounds_toArray, List.set_cons_zero, List.set_cons_succ, i64_w, i32_w]
                                rfl
                              refine pure_ (i := 2) (N := some 89) (v := ?_) (a' := ?_) #[true, true, true, false, false, false, false, false, false, false, false, false, false, false, false, false, false, false, false, false] rfl rfl (any_of HT_.out (by kernel_rfl)) (fun _ _ _ h => h) (Or.inl ⟨by rfl, ?_⟩) ?_ ?_
                              rotate_left
                              · intro w'
                                first | (go_simp; with_reducible rfl) | (go_simp; (try unfold Instr.field); go_simp; (try simp only [asAgg]); go_simp; with_reducible rfl)
                              rotate_left
                              · simp only [Act.put, List.setIfInBounds_toArray, List.set_cons_zero, List.set_cons_succ, i64_w, i32_w]
                                rfl
                              refine pure_ (i := 3) (N := some 90) (v := ?_) (a' := ?_) #[true, true, true, true, false, false, false, false, false, false, false, false, false, false, false, false, false, false, false, false] rfl rfl (any_of HT_.out (by kernel_rfl)) (fun _ _ _ h => h) (Or.inl ⟨by rfl, ?_⟩) ?_ ?_
                              rotate_left
                              · intro w'
                                first | (go_simp; with_reducible rfl) | (go_simp; (try unfold Instr.field); go_simp; (try simp only [asAgg]); go_simp; with_reducible rfl)
                              rotate_left
                              · simp only [Act.put, List.setIfInBounds_toArray, List.set_cons_zero, List.set_cons_succ, i64_w, i32_w]
                                rfl
                              refine pure_ (i := 4) (N := some 91) (v := ?_) (a' := ?_) #[true, true, true, true, true, false, false, false, false, false, false, false, false, false, false, false, false, false, false, false] rfl rfl (any_of HT_.out (by kernel_rfl)) (fun _ _ _ h => h) (Or.inl ⟨by rfl, ?_⟩) ?_ ?_
                              rotate_left
                              · intro w'
                                first | (go_simp; with_reducible rfl) | (go_simp; (try unfold Instr.field); go_simp; (try simp only [asAgg]); go_simp; with_reducible rfl)
                              rotate_left
                              · simp only [Act.put, List.setIfInBounds_toArray, List.set_cons_zero, List.set_cons_succ, i64_w, i32_w]
                                rfl
                              refine pure_ (i := 5) (N := some 92) (v := ?_) (a' := ?_) #[true, true, true, true, true, true, false, false, false, false, false, false, false, false, false, false, false, false, false, false] rfl rfl (any_of HT_.out (by kernel_rfl)) (fun _ _ _ h => h) (Or.inl ⟨by rfl, ?_⟩) ?_ ?_
                              rotate_left
                              · intro w'
                                first | (go_simp; with_reducible rfl) | (go_simp; (try unfold Instr.field); go_simp; (try simp only [asAgg]); go_simp; with_reducible rfl)
                              rotate_left
                              · simp only [Act.put, List.setIfInBounds_toArray, List.set_cons_zero, List.set_cons_succ, i64_w, i32_w]
                                rfl
                              refine pure_ (i := 7) (N := some 94) (v := ?_) (a' := ?_) #[true, true, true, true, true, true, false, true, false, false, false, false, false, false, false, false, false, false, false, false] rfl rfl (any_of HT_.out (by kernel_rfl)) (fun _ _ _ h => h) (Or.inl ⟨by rfl, ?_⟩) ?_ ?_
                              rotate_left
                              · intro w'
                                first | (go_simp; with_reducible rfl) | (go_simp; (try unfold Instr.field); go_simp; (try simp only [asAgg]); go_simp; with_reducible rfl)
                              rotate_left
                              · simp only [Act.put, List.setIfInBounds_toArray, List.set_cons_zero, List.set_cons_succ, i64_w, i32_w]
                                rfl
                              refine take_ (i := 6) (N := some 93) (v := ?_) (a' := ?_) #[true, true, true, true, true, true, true, true, false, false, false, false, false, false, false, false, false, false, false, false] rfl rfl (take_ofW HT_.out HW_.out (by kernel_rfl)) (fun _ _ _ h => h) (Or.inl ⟨by rfl, ?_⟩) hHeld ?_ ?_
                              rotate_left
                              · rintro w' ⟨s0, s1, s2, s3, s4, s5⟩
                                go_simp
                                with_reducible rfl
                              rotate_left
                              · simp only [Act.put, List.setIfInBounds_toArray, List.set_cons_zero, List.set_cons_succ, i64_w, i32_w]
                                rfl
                              refine take_ (i := 8) (N := some 95) (v := ?_) (a' := ?_) #[true, true, true, true, true, true, true, true, true, false, false, false, false, false, false, false, false, false, false, false] rfl rfl (take_ofW HT_.out HW_.out (by kernel_rfl)) (fun _ _ _ h => h) (Or.inl ⟨by rfl, ?_⟩) hHeld ?_ ?_
                              rotate_left
                              · rintro w' ⟨s0, s1, s2, s3, s4, s5⟩
                                go_simp
                                with_reducible rfl
                              rotate_left
                              · simp only [Act.put, List.setIfInBounds_toArray, List.set_cons_zero, List.set_cons_succ, i64_w, i32_w]
                                rfl
                              refine pure_ (i := 9) (N := some 96) (v := ?_) (a' := ?_) #[true, true, true, true, true, true, true, true, true, true, false, false, false, false, false, false, false, false, false, false] rfl rfl (any_of HT_.out (by kernel_rfl)) (fun _ _ _ h => h) (Or.inl ⟨by rfl, ?_⟩) ?_ ?_
                              rotate_left
                              · intro w'
                                first | (go_simp; with_reducible rfl) | (go_simp; (try unfold Instr.field); go_simp; (try simp only [asAgg]); go_simp; with_reducible rfl)
                              rotate_left
                              · simp only [Act.put, List.setIfInBounds_toArray, List.set_cons_zero, List.set_cons_succ, i64_w, i32_w]
                                rfl
                              refine pure_ (i := 10) (N := some 97) (v := ?_) (a' := ?_) #[true, true, true, true, true, true, true, true, true, true, true, false, false, false, false, false, false, false, false, false] rfl rfl (any_of HT_.out (by kernel_rfl)) (fun _ _ _ h => h) (Or.inl ⟨by rfl, ?_⟩) ?_ ?_
                              rotate_left
                              · intro w'
                                first | (go_simp; with_reducible rfl) | (go_simp; (try unfold Instr.field); go_simp; (try simp only [asAgg]); go_simp; with_reducible rfl)
                              rotate_left
                              · simp only [Act.put, List.setIfInBounds_toArray, List.set_cons_zero, List.set_cons_succ, i64_w, i32_w]
                                rfl
                              refine pure_ (i := 11) (N := some 98) (v := ?_) (a' := ?_) #[true, true, true, true, true, true, true, true, true, true, true, true, false, false, false, false, false, false, false, false] rfl rfl (any_of HT_.out (by kernel_rfl)) (fun _ _ _ h => h) (Or.inl ⟨by rfl, ?_⟩) ?_ ?_
                              rotate_left
                              · intro w'
                                first | (go_simp; with_reducible rfl) | (go_simp; (try unfold Instr.field); go_simp; (try simp only [asAgg]); go_simp; with_reducible rfl)
                              rotate_left
                              · simp only [Act.put, List.setIfInBounds_toArray, List.set_cons_zero, List.set_cons_succ, i64_w, i32_w]
                                rfl
                              refine pure_ (i := 12) (N := some 99) (v := ?_) (a' := ?_) #[true, true, true, true, true, true, true, true, true, true, true, true, true, false, false, false, false, false, false, false] rfl rfl (any_of HT_.out (by kernel_rfl)) (fun _ _ _ h => h) (Or.inl ⟨by rfl, ?_⟩) ?_ ?_
                              rotate_left
                              · intro w'
                                first | (go_simp; with_reducible rfl) | (go_simp; (try unfold Instr.field); go_simp; (try simp only [asAgg]); go_simp; with_reducible rfl)
                              rotate_left
                              · simp only [Act.put, List.setIfInBounds_toArray, List.set_cons_zero, List.set_cons_succ, i64_w, i32_w]
                                rfl
                              refine pure_ (i := 13) (N := some 100) (v := ?_) (a' := ?_) #[true, true, true, true, true, true, true, true, true, true, true, true, true, true, false, false, false, false, false, false] rfl rfl (any_of HT_.out (by kernel_rfl)) (fun _ _ _ h => h) (Or.inl ⟨by rfl, ?_⟩) ?_ ?_
                              rotate_left
                              · intro w'
                                first | (go_simp; with_reducible rfl) | (go_simp; (try unfold Instr.field); go_simp; (try simp only [asAgg]); go_simp; with_reducible rfl)
                              rotate_left
                              · simp only [Act.put, List.setIfInBounds_toArray, List.set_cons_zero, List.set_cons_succ, i64_w, i32_w]
                                rfl
                              refine pure_ (i := 14) (N := some 101) (v := ?_) (a' := ?_) #[true, true, true, true, true, true, true, true, true, true, true, true, true, true, true, false, false, false, false, false] rfl rfl (any_of HT_.out (by kernel_rfl)) (fun _ _ _ h => h) (Or.inl ⟨by rfl, ?_⟩) ?_ ?_
                              rotate_left
                              · intro w'
                                first | (go_simp; with_reducible rfl) | (go_simp; (try unfold Instr.field); go_simp; (try simp only [asAgg]); go_simp; with_reducible rfl)
                              rotate_left
                              · simp only [Act.put, List.setIfInBounds_toArray, List.set_cons_zero, List.set_cons_succ, i64_w, i32_w]
                                rfl
                              refine take_ (i := 15) (N := some 102) (v := ?_) (a' := ?_) #[true, true, true, true, true, true, true, true, true, true, true, true, true, true, true, true, false, false, false, false] rfl rfl (take_ofW HT_.out HW_.out (by kernel_rfl)) (fun _ _ _ h => h) (Or.inl ⟨by rfl, ?_⟩) hHeld ?_ ?_
                              rotate_left
                              · rintro w' ⟨s0, s1, s2, s3, s4, s5⟩
                                go_simp
                                with_reducible rfl
                              rotate_left
                              · simp only [Act.put, List.setIfInBounds_toArray, List.set_cons_zero, List.set_cons_succ, i64_w, i32_w]
                                rfl
                              refine pure_ (i := 16) (N := some 103) (v := ?_) (a' := ?_) #[true, true, true, true, true, true, true, true, true, true, true, true, true, true, true, true, true, false, false, false] rfl rfl (any_of HT_.out (by kernel_rfl)) (fun _ _ _ h => h) (Or.inl ⟨by rfl, ?_⟩) ?_ ?_
                              rotate_left
                              · intro w'
                                first | (go_simp; with_reducible rfl) | (go_simp; (try unfold Instr.field); go_simp; (try simp only [asAgg]); go_simp; with_reducible rfl)
                              rotate_left
                              · simp only [Act.put, List.setIfInBounds_toArray, List.set_cons_zero, List.set_cons_succ, i64_w, i32_w]
                                rfl
                              refine pure_ (i := 17) (N := some 104) (v := ?_) (a' := ?_) #[true, true, true, true, true, true, true, true, true, true, true, true, true, true, true, true, true, true, false, false] rfl rfl (any_of HT_.out (by kernel_rfl)) (fun _ _ _ h => h) (Or.inl ⟨by rfl, ?_⟩) ?_ ?_
                              rotate_left
                              · intro w'
                                first | (go_simp; with_reducible rfl) | (go_simp; (try unfold Instr.field); go_simp; (try simp only [asAgg]); go_simp; with_reducible rfl)
                              rotate_left
                              · simp only [Act.put, List.setIfInBounds_toArray, List.set_cons_zero, List.set_cons_succ, i64_w, i32_w]
                                rfl
                              refine pure_ (i := 18) (N := some 105) (v := ?_) (a' := ?_) #[true, true, true, true, true, true, true, true, true, true, true, true, true, true, true, true, true, true, true, false] rfl rfl (any_of HT_.out (by kernel_rfl)) (fun _ _ _ h => h) (Or.inl ⟨by rfl, ?_⟩) ?_ ?_
                              rotate_left
                              · intro w'
                                first | (go_simp; with_reducible rfl) | (go_simp; (try unfold Instr.field); go_simp; (try simp only [asAgg]); go_simp; with_reducible rfl)
                              rotate_left
                              · simp only [Act.put, List.setIfInBounds_toArray, List.set_cons_zero, List.set_cons_succ, i64_w, i32_w]
                                rfl
                              refine pure_ (i := 19) (N := some 11) (v := ?_) (a' := ?_) #[true, true, true, true, true, true, true, true, true, true, true, true, true, true, true, true, true, true, true, true] rfl rfl (any_of HT_.out (by kernel_rfl)) (fun _ _ _ h => h) (Or.inl ⟨by rfl, ?_⟩) ?_ ?_
                              rotate_left
                              · intro w'
                                first | (go_simp; with_reducible rfl) | (go_simp; (try unfold Instr.field); go_simp; (try simp only [asAgg]); go_simp; with_reducible rfl)
                              rotate_left
                              · simp only [Act.put, List.setIfInBounds_toArray, List.set_cons_zero, List.set_cons_succ, i64_w, i32_w]
                                rfl
                              refine done_ (done_of HT_.out (by kernel_rfl)) ?_
                              try go_wp2
                              go_roundg k3
                              case measure => have := HJ9.out; have := HK2.out; have := HK3.out; omega
                              case rel => exact ⟨(decide (((rd_T53 t264 x12_3).f1) > 0)), (wrap64 (x12_3 + 1)), (by first | rfl | (simp; done) | (simp [*]; done)), (by first | rfl | (simp; done) | (simp [*]; done)), H', ⟨by have := HJ9.out; have := HK2.out; have := HK3.out; omega⟩, ⟨by (with_reducible repeat (first | apply ra | apply rN | apply rd1)); exact o0.out⟩, ⟨by (with_reducible repeat (first | apply ra | apply rN | apply rd1)); exact o1.out⟩, ⟨by (with_reducible repeat (first | apply ra | apply rN | apply rd1)); exact o2.out⟩, ⟨by (with_reducible repeat (first | apply ra | apply rN | apply rd1)); exact o3.out⟩, ⟨by (with_reducible repeat (first | apply bN | apply bd | apply ba)); exact B272.out⟩, ⟨by (with_reducible repeat (first | apply bN | apply bd | apply ba)); exact B281.out⟩, ⟨by (with_reducible repeat (first | apply bN | apply bd | apply ba)); exact B286.out⟩, ⟨by (with_reducible repeat (first | apply bN | apply bd | apply ba)); exact B289.out⟩, ⟨by (with_reducible repeat (first | apply bN | apply bd | apply ba)); exact B294.out⟩, ⟨by repeat (first | (with_reducible first | exact HB.out | apply pa | apply pN | apply p1 | refine bs ?_ E272.out | refine bs ?_ E281.out | refine bs ?_ E286.out | refine bs ?_ E289.out | refine bs ?_ E294.out) | exact HB.out)⟩⟩
                            · rw [if_neg c70] at H
                              have c70b0 : (((rd_T53 t264 x12_3).f0) == t293) = false := beq_eq_false_iff_ne.mpr c70
                              have c70b1 : (((rd_T53 t264 x12_3).f0) != t293) = true := bne_iff_ne.mpr c70
                              have H' := am H
                              clear H
                              try go_wp2
                              have N0 := am (rd1 o0.out)
                              have N1 := am (rd1 o1.out)
                              have N2 := am (rd1 o2.out)
                              have N3 := am (rd1 o3.out)
                              have N4 := am (bd B272.out)
                              have N5 := am (bd B281.out)
                              have N6 := am (bd B286.out)
                              have N7 := am (bd B289.out)
                              have N8 := am (bd B294.out)
                              have N9 := am (p1 HB.out)
                              clear o0
                              clear o1
                              clear o2
                              clear o3
                              clear B272
                              clear B281
                              clear B286
                              clear B289
                              clear B294
                              clear HB
                              have o0 := N0
                              have o1 := N1
                              have o2 := N2
                              have o3 := N3
                              have B272 := N4
                              have B281 := N5
                              have B286 := N6
                              have B289 := N7
                              have B294 := N8
                              have HB := N9
                              clear N0 N1 N2 N3 N4 N5 N6 N7 N8 N9
                              have p295 : 0 ≤ (x12_3 : Int) := of_decide_eq_true (by first | (with_reducible assumption) | assumption)
                              have q295 : x12_3 < (t264.length : Int) := of_decide_eq_true (by first | (with_reducible assumption) | assumption)
                              obtain ⟨ad295, e295, hx295_0, hx295_1⟩ := at_T53 (Kd.R_reads' o0.out).2.2 x12_3 p295 q295
                              cases e295
                              replace p295 := eq_true p295
                              replace q295 := eq_true q295
                              refine start_ (n := 20) (S := fun w' => w'.cell? ⟨g294, 0, none⟩ = some (I q t292) ∧ w'.cell? ⟨g294, 1, none⟩ = some (I q t293) ∧ w'.cell? (ad295.add ((x12_3).toNat * 2)) = some (I q ((rd_T53 t264 x12_3).f0)) ∧ w'.cell? ⟨(ad295.add ((x12_3).toNat * 2)).block, (ad295.add ((x12_3).toNat * 2)).off + 1, none⟩ = some (I q ((rd_T53 t264 x12_3).f1))) (ds := []) #[false, false, false, false, false, false, false, false, false, false, false, false, false, false, false, false, false, false, false, false] (by kernel_rfl) rfl rfl ⟨(bc B294.out 0).trans rfl, (bc B294.out 1).trans rfl, hx295_0, hx295_1⟩ (fun hHeld => ?_); refine with_tabW laws_FnLooks.tab20 laws_FnLooks.bits20 (fun HT_ HW_ => ?_)
                              generalize wr.drew = w72 at o0 o1 o2 o3 B272 B281 B286 B289 B294 HB hx295_0 hx295_1 hHeld ⊢
                              refine pure_ (i := 0) (N := some 87) (v := ?_) (a' := ?_) #[true, false, false, false, false, false, false, false, false, false, false, false, false, false, false, false, false, false, false, false] rfl rfl (any_of HT_.out (by kernel_rfl)) (fun _ _ _ h => h) (Or.inl ⟨by rfl, ?_⟩) ?_ ?_
                              rotate_left
                              · intro w'
                                first | (go_simp; with_reducible rfl) | (go_simp; (try unfold Instr.field); go_simp; (try simp only [asAgg]); go_simp; with_reducible rfl)
                              rotate_left
                              · simp only [Act.put, List.setIfInBounds_toArray, List.set_cons_zero, List.set_cons_succ, i64_w, i32_w]
                                rfl
                              refine pure_ (i := 1) (N := some 88) (v := ?_) (a' := ?_) #[true, true, false, false, false, false, false, false, false, false, false, false, false, false, false, false, false, false, false, false] rfl rfl (any_of HT_.out (by kernel_rfl)) (fun _ _ _ h => h) (Or.inl ⟨by rfl, ?_⟩) ?_ ?_
                              rotate_left
                              · intro w'
                                first | (go_simp; with_reducible rfl) | (go_simp; (try unfold Instr.field); go_simp; (try simp only [asAgg]); go_simp; with_reducible rfl)
                              rotate_left
                              · simp only [Act.put, List.setIfInBounds_toArray, List.set_cons_zero, List.set_cons_succ, i64_w, i32_w]
                                rfl
                              refine pure_ (i := 2) (N := some 89) (v := ?_) (a' := ?_) #[true, true, true, false, false, false, false, false, false, false, false, false, false, false, false, false, false, false, false, false] rfl rfl (any_of HT_.out (by kernel_rfl)) (fun _ _ _ h => h) (Or.inl ⟨by rfl, ?_⟩) ?_ ?_
                              rotate_left
                              · intro w'
                                first | (go_simp; with_reducible rfl) | (go_simp; (try unfold Instr.field); go_simp; (try simp only [asAgg]); go_simp; with_reducible rfl)
                              rotate_left
                              · simp only [Act.put, List.setIfInBounds_toArray, List.set_cons_zero, List.set_cons_succ, i64_w, i32_w]
                                rfl
                              refine pure_ (i := 3) (N := some 90) (v := ?_) (a' := ?_) #[true, true, true, true, false, false, false, false, false, false, false, false, false, false, false, false, false, false, false, false] rfl rfl (any_of HT_.out (by kernel_rfl)) (fun _ _ _ h => h) (Or.inl ⟨by rfl, ?_⟩) ?_ ?_
                              rotate_left
                              · intro w'
                                first | (go_simp; with_reducible rfl) | (go_simp; (try unfold Instr.field); go_simp; (try simp only [asAgg]); go_simp; with_reducible rfl)
                              rotate_left
                              · simp only [Act.put, List.setIfInBounds_toArray, List.set_cons_zero, List.set_cons_succ, i64_w, i32_w]
                                rfl
                              refine pure_ (i := 4) (N := some 91) (v := ?_) (a' := ?_) #[true, true, true, true, true, false, false, false, false, false, false, false, false, false, false, false, false, false, false, false] rfl rfl (any_of HT_.out (by kernel_rfl)) (fun _ _ _ h => h) (Or.inl ⟨by rfl, ?_⟩) ?_ ?_
                              rotate_left
                              · intro w'
                                first | (go_simp; with_reducible rfl) | (go_simp; (try unfold Instr.field); go_simp; (try simp only [asAgg]); go_simp; with_reducible rfl)
                              rotate_left
                              · simp only [Act.put, List.setIfInBounds_toArray, List.set_cons_zero, List.set_cons_succ, i64_w, i32_w]
                                rfl
                              refine pure_ (i := 5) (N := some 92) (v := ?_) (a' := ?_) #[true, true, true, true, true, true, false, false, false, false, false, false, false, false, false, false, false, false, false, false] rfl rfl (any_of HT_.out (by kernel_rfl)) (fun _ _ _ h => h) (Or.inl ⟨by rfl, ?_⟩) ?_ ?_
                              rotate_left
                              · intro w'
                                first | (go_simp; with_reducible rfl) | (go_simp; (try unfold Instr.field); go_simp; (try simp only [asAgg]); go_simp; with_reducible rfl)
                              rotate_left
                              · simp only [Act.put, List.setIfInBounds_toArray, List.set_cons_zero, List.set_cons_succ, i64_w, i32_w]
                                rfl
                              refine pure_ (i := 7) (N := some 94) (v := ?_) (a' := ?_) #[true, true, true, true, true, true, false, true, false, false, false, false, false, false, false, false, false, false, false, false] rfl rfl (any_of HT_.out (by kernel_rfl)) (fun _ _ _ h => h) (Or.inl ⟨by rfl, ?_⟩) ?_ ?_
                              rotate_left
                              · intro w'
                                first | (go_simp; with_reducible rfl) | (go_simp; (try unfold Instr.field); go_simp; (try simp only [asAgg]); go_simp; with_reducible rfl)
                              rotate_left
                              · simp only [Act.put, List.setIfInBounds_toArray, List.set_cons_zero, List.set_cons_succ, i64_w, i32_w]
                                rfl
                              refine take_ (i := 6) (N := some 93) (v := ?_) (a' := ?_) #[true, true, true, true, true, true, true, true, false, false, false, false, false, false, false, false, false, false, false, false] rfl rfl (take_ofW HT_.out HW_.out (by kernel_rfl)) (fun _ _ _ h => h) (Or.inl ⟨by rfl, ?_⟩) hHeld ?_ ?_
                              rotate_left
                              · rintro w' ⟨s0, s1, s2, s3⟩
                                go_simp
                                with_reducible rfl
                              rotate_left
                              · simp only [Act.put, List.setIfInBounds_toArray, List.set_cons_zero, List.set_cons_succ, i64_w, i32_w]
                                rfl
                              refine take_ (i := 8) (N := some 95) (v := ?_) (a' := ?_) #[true, true, true, true, true, true, true, true, true, false, false, false, false, false, false, false, false, false, false, false] rfl rfl (take_ofW HT_.out HW_.out (by kernel_rfl)) (fun _ _ _ h => h) (Or.inl ⟨by rfl, ?_⟩) hHeld ?_ ?_
                              rotate_left
                              · rintro w' ⟨s0, s1, s2, s3⟩
                                go_simp
                                with_reducible rfl
                              rotate_left
                              · simp only [Act.put, List.setIfInBounds_toArray, List.set_cons_zero, List.set_cons_succ, i64_w, i32_w]
                                rfl
                              refine pure_ (i := 9) (N := some 96) (v := ?_) (a' := ?_) #[true, true, true, true, true, true, true, true, true, true, false, false, false, false, false, false, false, false, false, false] rfl rfl (any_of HT_.out (by kernel_rfl)) (fun _ _ _ h => h) (Or.inl ⟨by rfl, ?_⟩) ?_ ?_
                              rotate_left
                              · intro w'
                                first | (go_simp; with_reducible rfl) | (go_simp; (try unfold Instr.field); go_simp; (try simp only [asAgg]); go_simp; with_reducible rfl)
                              rotate_left
                              · simp only [Act.put, List.setIfInBounds_toArray, List.set_cons_zero, List.set_cons_succ, i64_w, i32_w]
                                rfl
                              refine pure_ (i := 10) (N := some 97) (v := ?_) (a' := ?_) #[true, true, true, true, true, true, true, true, true, true, true, false, false, false, false, false, false, false, false, false] rfl rfl (any_of HT_.out (by kernel_rfl)) (fun _ _ _ h => h) (Or.inl ⟨by rfl, ?_⟩) ?_ ?_
                              rotate_left
                              · intro w'
                                first | (go_simp; with_reducible rfl) | (go_simp; (try unfold Instr.field); go_simp; (try simp only [asAgg]); go_simp; with_reducible rfl)
                              rotate_left
                              · simp only [Act.put, List.setIfInBounds_toArray, List.set_cons_zero, List.set_cons_succ, i64_w, i32_w]
                                rfl
                              refine pure_ (i := 11) (N := some 98) (v := undef) (a' := ?_) #[true, true, true, true, true, true, true, true, true, true, true, true, false, false, false, false, false, false, false, false] rfl rfl (any_of HT_.out (by kernel_rfl)) (fun _ _ _ h => h) (Or.inr ⟨by rfl, rfl⟩) ?_ ?_
                              rotate_left
                              · simp only [Act.put, List.setIfInBounds_toArray, List.set_cons_zero, List.set_cons_succ, i64_w, i32_w]
                                rfl
                              refine pure_ (i := 12) (N := some 99) (v := undef) (a' := ?_) #[true, true, true, true, true, true, true, true, true, true, true, true, true, false, false, false, false, false, false, false] rfl rfl (any_of HT_.out (by kernel_rfl)) (fun _ _ _ h => h) (Or.inr ⟨by rfl, rfl⟩) ?_ ?_
                              rotate_left
                              · simp only [Act.put, List.setIfInBounds_toArray, List.set_cons_zero, List.set_cons_succ, i64_w, i32_w]
                                rfl
                              refine pure_ (i := 13) (N := some 100) (v := undef) (a' := ?_) #[true, true, true, true, true, true, true, true, true, true, true, true, true, true, false, false, false, false, false, false] rfl rfl (any_of HT_.out (by kernel_rfl)) (fun _ _ _ h => h) (Or.inr ⟨by rfl, rfl⟩) ?_ ?_
                              rotate_left
                              · simp only [Act.put, List.setIfInBounds_toArray, List.set_cons_zero, List.set_cons_succ, i64_w, i32_w]
                                rfl
                              refine pure_ (i := 14) (N := some 101) (v := undef) (a' := ?_) #[true, true, true, true, true, true, true, true, true, true, true, true, true, true, true, false, false, false, false, false] rfl rfl (any_of HT_.out (by kernel_rfl)) (fun _ _ _ h => h) (Or.inr ⟨by rfl, rfl⟩) ?_ ?_
                              rotate_left
                              · simp only [Act.put, List.setIfInBounds_toArray, List.set_cons_zero, List.set_cons_succ, i64_w, i32_w]
                                rfl
                              refine pure_ (i := 15) (N := some 102) (v := undef) (a' := ?_) #[true, true, true, true, true, true, true, true, true, true, true, true, true, true, true, true, false, false, false, false] rfl rfl (any_of HT_.out (by kernel_rfl)) (fun _ _ _ h => h) (Or.inr ⟨by rfl, rfl⟩) ?_ ?_
                              rotate_left
                              · simp only [Act.put, List.setIfInBounds_toArray, List.set_cons_zero, List.set_cons_succ, i64_w, i32_w]
                                rfl
                              refine pure_ (i := 16) (N := some 103) (v := undef) (a' := ?_) #[true, true, true, true, true, true, true, true, true, true, true, true, true, true, true, true, true, false, false, false] rfl rfl (any_of HT_.out (by kernel_rfl)) (fun _ _ _ h => h) (Or.inr ⟨by rfl, rfl⟩) ?_ ?_
                              rotate_left
                              · simp only [Act.put, List.setIfInBounds_toArray, List.set_cons_zero, List.set_cons_succ, i64_w, i32_w]
                                rfl
                              refine pure_ (i := 17) (N := some 104) (v := ?_) (a' := ?_) #[true, true, true, true, true, true, true, true, true, true, true, true, true, true, true, true, true, true, false, false] rfl rfl (any_of HT_.out (by kernel_rfl)) (fun _ _ _ h => h) (Or.inl ⟨by rfl, ?_⟩) ?_ ?_
                              rotate_left
                              · intro w'
                                first | (go_simp; with_reducible rfl) | (go_simp; (try unfold Instr.field); go_simp; (try simp only [asAgg]); go_simp; with_reducible rfl)
                              rotate_left
                              · simp only [Act.put, List.setIfInBounds_toArray, List.set_cons_zero, List.set_cons_succ, i64_w, i32_w]
                                rfl
                              refine pure_ (i := 18) (N := some 105) (v := ?_) (a' := ?_) #[true, true, true, true, true, true, true, true, true, true, true, true, true, true, true, true, true, true, true, false] rfl rfl (any_of HT_.out (by kernel_rfl)) (fun _ _ _ h => h) (Or.inl ⟨by rfl, ?_⟩) ?_ ?_
                              rotate_left
                              · intro w'
                                first | (go_simp; with_reducible rfl) | (go_simp; (try unfold Instr.field); go_simp; (try simp only [asAgg]); go_simp; with_reducible rfl)
                              rotate_left
                              · simp only [Act.put, List.setIfInBounds_toArray, List.set_cons_zero, List.set_cons_succ, i64_w, i32_w]
                                rfl
                              refine pure_ (i := 19) (N := some 11) (v := ?_) (a' := ?_) #[true, true, true, true, true, true, true, true, true, true, true, true, true, true, true, true, true, true, true, true] rfl rfl (any_of HT_.out (by kernel_rfl)) (fun _ _ _ h => h) (Or.inl ⟨by rfl, ?_⟩) ?_ ?_
                              rotate_left
                              · intro w'
                                first | (go_simp; with_reducible rfl) | (go_simp; (try unfold Instr.field); go_simp; (try simp only [asAgg]); go_simp; with_reducible rfl)
                              rotate_left
                              · simp only [Act.put, List.setIfInBounds_toArray, List.set_cons_zero, List.set_cons_succ, i64_w, i32_w]
                                rfl
                              refine done_ (done_of HT_.out (by kernel_rfl)) ?_
                              try go_wp2
                              go_roundg k3
                              case measure => have := HJ9.out; have := HK2.out; have := HK3.out; omega
                              case rel => exact ⟨(false), (wrap64 (x12_3 + 1)), (by first | rfl | (simp; done) | (simp [*]; done)), (by first | rfl | (simp; done) | (simp [*]; done)), H', ⟨by have := HJ9.out; have := HK2.out; have := HK3.out; omega⟩, ⟨by (with_reducible repeat (first | apply ra | apply rN | apply rd1)); exact o0.out⟩, ⟨by (with_reducible repeat (first | apply ra | apply rN | apply rd1)); exact o1.out⟩, ⟨by (with_reducible repeat (first | apply ra | apply rN | apply rd1)); exact o2.out⟩, ⟨by (with_reducible repeat (first | apply ra | apply rN | apply rd1)); exact o3.out⟩, ⟨by (with_reducible repeat (first | apply bN | apply bd | apply ba)); exact B272.out⟩, ⟨by (with_reducible repeat (first | apply bN | apply bd | apply ba)); exact B281.out⟩, ⟨by (with_reducible repeat (first | apply bN | apply bd | apply ba)); exact B286.out⟩, ⟨by (with_reducible repeat (first | apply bN | apply bd | apply ba)); exact B289.out⟩, ⟨by (with_reducible repeat (first | apply bN | apply bd | apply ba)); exact B294.out⟩, ⟨by repeat (first | (with_reducible first | exact HB.out | apply pa | apply pN | apply p1 | refine bs ?_ E272.out | refine bs ?_ E281.out | refine bs ?_ E286.out | refine bs ?_ E289.out | refine bs ?_ E294.out) | exact HB.out)⟩⟩
                          · rw [if_neg c69] at H
                            exact absurd H (by simp)
                      · rw [if_neg c66] at H
                        have c66b0 : decide (x12_3 < (t264.length : Int)) = false := decide_eq_false c66
                        clear c66
                        by_cases c73 : t292 = 0
                        · rw [if_pos c73] at H
                          have c73b0 : (t292 == 0) = true := beq_iff_eq.mpr c73
                          have c73b1 : (t292 != 0) = false := bne_eq_false_iff_eq.mpr c73
                          clear c73
                          by_cases c74 : x11_3 = true
                          · subst c74
                            have H1 : (laws_FnLooks.l0 k3 t264 (wrap64 (x9_2 + 1)) t268 t269 t277 t278) = some r := by rw [if_pos rfl] at H; exact H
                            clear H
                            have H := H1
                            clear H1
                            have H' := am H
                            clear H
                            have hnb75 := NB294_272.out
                            have hnc75 := NB272_294.out
                            have hnb76 := NB294_281.out
                            have hnc76 := NB281_294.out
                            have hnb77 := NB294_286.out
                            have hnc77 := NB286_294.out
                            have hnb78 := NB294_289.out
                            have hnc78 := NB289_294.out
                            have hcz79_0 : wr.cell? ⟨g294, 0, none⟩ = some (I q t292) := (bc B294.out 0).trans rfl
                            have hcz79_1 : wr.cell? ⟨g294, 1, none⟩ = some (I q t293) := (bc B294.out 1).trans rfl
                            have hfz79_0 := bf B294.out 0
                            have hfz79_1 := bf B294.out 1
                            go_wp2
                            go_roundg k3
                            case measure => have := HJ9.out; have := HK2.out; have := HK3.out; omega
                            case rel => exact ⟨(wrap64 (x9_2 + 1)), (by first | rfl | (simp; done) | (simp [*]; done)), H', ⟨by have := HJ9.out; have := HK2.out; have := HK3.out; omega⟩, ⟨by (with_reducible repeat (first | apply ra | apply rN | apply rd1)); exact o0.out⟩, ⟨by (with_reducible repeat (first | apply ra | apply rN | apply rd1)); exact o1.out⟩, ⟨by (with_reducible repeat (first | apply ra | apply rN | apply rd1)); exact o2.out⟩, ⟨by (with_reducible repeat (first | apply ra | apply rN | apply rd1)); exact o3.out⟩, ⟨by (with_reducible repeat (first | apply bN | apply bd | apply ba)); exact B272.out⟩, ⟨by (with_reducible repeat (first | apply bN | apply bd | apply ba)); exact B281.out⟩, ⟨by (with_reducible repeat (first | apply bN | apply bd | apply ba)); exact B286.out⟩, ⟨by (with_reducible repeat (first | apply bN | apply bd | apply ba)); exact B289.out⟩, ⟨by repeat (first | (with_reducible first | exact HB.out | apply pa | apply pN | apply p1 | refine bs ?_ E272.out | refine bs ?_ E281.out | refine bs ?_ E286.out | refine bs ?_ E289.out | refine bs ?_ E294.out) | exact HB.out)⟩⟩
                          · replace c74 := Bool.eq_false_iff.mpr c74
                            subst c74
                            have H1 : (some false) = some r := by rw [if_neg (show ¬ (false = true) by decide)] at H; exact H
                            clear H
                            have H := H1
                            clear H1
                            obtain rfl := Option.some.inj H
                            have hnb80 := NB294_272.out
                            have hnc80 := NB272_294.out
                            have hnb81 := NB294_281.out
                            have hnc81 := NB281_294.out
                            have hnb82 := NB294_286.out
                            have hnc82 := NB286_294.out
                            have hnb83 := NB294_289.out
                            have hnc83 := NB289_294.out
                            have hcz84_0 : wr.cell? ⟨g294, 0, none⟩ = some (I q t292) := (bc B294.out 0).trans rfl
                            have hcz84_1 : wr.cell? ⟨g294, 1, none⟩ = some (I q t293) := (bc B294.out 1).trans rfl
                            have hfz84_0 := bf B294.out 0
                            have hfz84_1 := bf B294.out 1
                            go_wp2
                            go_ret
                            exact ⟨by first | rfl | (simp [errW_none, errW_some] <;> rfl) | (simp [*, errW_none, errW_some] <;> rfl), by repeat (first | (with_reducible first | exact HB.out | apply pa | apply pN | apply p1 | refine bs ?_ E272.out | refine bs ?_ E281.out | refine bs ?_ E286.out | refine bs ?_ E289.out | refine bs ?_ E294.out) | exact HB.out)⟩
                        · rw [if_neg c73] at H
                          have c73b0 : (t292 == 0) = false := beq_eq_false_iff_ne.mpr c73
                          have c73b1 : (t292 != 0) = true := bne_iff_ne.mpr c73
                          by_cases c85 : t292 = 4
                          · rw [if_pos c85] at H
                            have c85b0 : (t292 == 4) = true := beq_iff_eq.mpr c85
                            have c85b1 : (t292 != 4) = false := bne_eq_false_iff_eq.mpr c85
                            clear c85
                            have H' := am H
                            clear H
                            have hnb86 := NB294_272.out
                            have hnc86 := NB272_294.out
                            have hnb87 := NB294_281.out
                            have hnc87 := NB281_294.out
                            have hnb88 := NB294_286.out
                            have hnc88 := NB286_294.out
                            have hnb89 := NB294_289.out
                            have hnc89 := NB289_294.out
                            have hcz90_0 : wr.cell? ⟨g294, 0, none⟩ = some (I q t292) := (bc B294.out 0).trans rfl
                            have hcz90_1 : wr.cell? ⟨g294, 1, none⟩ = some (I q t293) := (bc B294.out 1).trans rfl
                            have hfz90_0 := bf B294.out 0
                            have hfz90_1 := bf B294.out 1
                            go_wp2
                            go_roundg k3
                            case measure => have := HJ9.out; have := HK2.out; have := HK3.out; omega
                            case rel => exact ⟨(wrap64 (x9_2 + 1)), (by first | rfl | (simp; done) | (simp [*]; done)), H', ⟨by have := HJ9.out; have := HK2.out; have := HK3.out; omega⟩, ⟨by (with_reducible repeat (first | apply ra | apply rN | apply rd1)); exact o0.out⟩, ⟨by (with_reducible repeat (first | apply ra | apply rN | apply rd1)); exact o1.out⟩, ⟨by (with_reducible repeat (first | apply ra | apply rN | apply rd1)); exact o2.out⟩, ⟨by (with_reducible repeat (first | apply ra | apply rN | apply rd1)); exact o3.out⟩, ⟨by (with_reducible repeat (first | apply bN | apply bd | apply ba)); exact B272.out⟩, ⟨by (with_reducible repeat (first | apply bN | apply bd | apply ba)); exact B281.out⟩, ⟨by (with_reducible repeat (first | apply bN | apply bd | apply ba)); exact B286.out⟩, ⟨by (with_reducible repeat (first | apply bN | apply bd | apply ba)); exact B289.out⟩, ⟨by repeat (first | (with_reducible first | exact HB.out | apply pa | apply pN | apply p1 | refine bs ?_ E272.out | refine bs ?_ E281.out | refine bs ?_ E286.out | refine bs ?_ E289.out | refine bs ?_ E294.out) | exact HB.out)⟩⟩
                          · rw [if_neg c85] at H
                            have c85b0 : (t292 == 4) = false := beq_eq_false_iff_ne.mpr c85
                            have c85b1 : (t292 != 4) = true := bne_iff_ne.mpr c85
                            obtain rfl := Option.some.inj H
                            have hnb91 := NB294_272.out
                            have hnc91 := NB272_294.out
                            have hnb92 := NB294_281.out
                            have hnc92 := NB281_294.out
                            have hnb93 := NB294_286.out
                            have hnc93 := NB286_294.out
                            have hnb94 := NB294_289.out
                            have hnc94 := NB289_294.out
                            have hcz95_0 : wr.cell? ⟨g294, 0, none⟩ = some (I q t292) := (bc B294.out 0).trans rfl
                            have hcz95_1 : wr.cell? ⟨g294, 1, none⟩ = some (I q t293) := (bc B294.out 1).trans rfl
                            have hfz95_0 := bf B294.out 0
                            have hfz95_1 := bf B294.out 1
                            go_wp2
                            go_ret
                            exact ⟨by first | rfl | (simp [errW_none, errW_some] <;> rfl) | (simp [*, errW_none, errW_some] <;> rfl), by repeat (first | (with_reducible first | exact HB.out | apply pa | apply pN | apply p1 | refine bs ?_ E272.out | refine bs ?_ E281.out | refine bs ?_ E286.out | refine bs ?_ E289.out | refine bs ?_ E294.out) | exact HB.out)⟩
                · rw [if_neg c53] at H
                  have c53b0 : decide (x9_2 < 40) = false := decide_eq_false c53
                  clear c53
                  obtain rfl := Option.some.inj H
                  have hnb96 := NB272_281.out
                  have hnc96 := NB281_272.out
                  have hnb97 := NB272_286.out
                  have hnc97 := NB286_272.out
                  have hnb98 := NB272_289.out
                  have hnc98 := NB289_272.out
                  have hcz99_0 : wr.cell? ⟨g272, 0, none⟩ = some (I q t268) := (bc B272.out 0).trans rfl
                  have hcz99_1 : wr.cell? ⟨g272, 1, none⟩ = some (J Ao16 t269.length co16) := (bc B272.out 1).trans rfl
                  have hfz99_0 := bf B272.out 0
                  have hfz99_1 := bf B272.out 1
                  go_wp2
                  go_ret
                  exact ⟨by first | rfl | (simp [errW_none, errW_some] <;> rfl) | (simp [*, errW_none, errW_some] <;> rfl), by repeat (first | (with_reducible first | exact HB.out | apply pa | apply pN | apply p1 | refine bs ?_ E272.out | refine bs ?_ E281.out | refine bs ?_ E286.out | refine bs ?_ E289.out) | exact HB.out)⟩
    · rw [if_neg c6] at H
      have c6b0 : (t268 == 0) = false := beq_eq_false_iff_ne.mpr c6
      have c6b1 : (t268 != 0) = true := bne_iff_ne.mpr c6
      replace H := Option.bind_eq_some_iff.mp H
      obtain ⟨⟨t273, t274⟩, A1000, H⟩ := H
      replace H : (some (t273 == t268)) = some r := H
      have A100 := am A1000
      clear A1000
      obtain rfl := Option.some.inj H
      go_enter Try.func8, Try.ntmps8
      try go_wp2_with (first | ((with_reducible refine gate_callee (f := 30) rfl ?_); refine goesL_ (some 14) rfl rfl Try.func30 (by kernel_rfl) rfl #[J A0 l0.length c0] rfl (by (try simp only [List.map_toArray, List.map_cons, List.map_nil]); first | done | rfl) ?_; (with_reducible refine (laws_lwBig.calls _ _ l0 false _ ?side1 ?side2 A2.out).mono ?_); (case side1 => repeat (first | exact HR0.out | (with_reducible refine ca ?_ _) | (with_reducible refine cN ?_ _) | (with_reducible refine cd1 ?_))); (case side2 => exact HC0.out); rintro e w' ⟨rfl, ⟨nd, rfl⟩⟩; refine ⟨_, rfl, ?_⟩) | ((with_reducible refine gate_callee (f := 33) rfl ?_); refine goesL_ (some 17) rfl rfl Try.func33 (by kernel_rfl) rfl #[J A0 l0.length c0] rfl (by (try simp only [List.map_toArray, List.map_cons, List.map_nil]); first | done | rfl) ?_; (with_reducible refine (spec_DrawWithoutShare.calls k _ _ l0 t264 t265 _ ?side1 ?side2 A4.out).mono ?_); (case side1 => repeat (first | exact HR0.out | (with_reducible refine ca ?_ _) | (with_reducible refine cN ?_ _) | (with_reducible refine cd1 ?_))); (case side2 => exact HC0.out); rintro e w101 ⟨v266, rfl, ho0, hb⟩; refine ⟨_, rfl, ?_⟩; have N0 := am (rw1 ho0 (bz (by repeat (first | (with_reducible first | exact HB.out | apply pa | apply pN | apply p1) | exact HB.out)))); have N1 := am (bp (by repeat (first | (with_reducible first | exact HB.out | apply pa | apply pN | apply p1) | exact HB.out)) hb); clear HB; have O267 := N0; have HB := N1; clear N0 N1; (try clear hb); (try clear hb2); (try clear hk); (try clear hi); (try clear ho0); obtain ⟨Ao102, co102, eo102⟩ := Kd.R_slice O267.out; subst eo102) | ((with_reducible refine gate_callee (f := 15) rfl ?_); refine goesL_ (some 22) rfl rfl Try.func15 (by kernel_rfl) rfl #[J Ao102 t264.length co102, I q t265] rfl (by (try simp only [List.map_toArray, List.map_cons, List.map_nil]); first | done | rfl) ?_; (with_reducible refine (impl_WithoutShare.calls k _ _ t264 t265 t268 t269 _ ?side1 ?side2 A5.out).mono ?_); (case side1 => repeat (first | exact (Kd.R_reads' O267.out).2.2 | (with_reducible refine ca ?_ _) | (with_reducible refine cN ?_ _) | (with_reducible refine cd1 ?_))); (case side2 => exact (Kd.R_reads' O267.out).2.1); rintro e w103 ⟨v270, rfl, ho0, hb⟩; refine ⟨_, rfl, ?_⟩; have N0 := am (re (by (with_reducible repeat (first | apply ra | apply rN | apply rd1)); exact O267.out) (Kd.R_base ho0) hb); have N1 := am (rw1 (rn ho0 (rl (by (with_reducible repeat (first | apply ra | apply rN | apply rd1)); exact O267.out))) (bz (by repeat (first | (with_reducible first | exact HB.out | apply pa | apply pN | apply p1) | exact HB.out)))); have N2 := am (bp (by repeat (first | (with_reducible first | exact HB.out | apply pa | apply pN | apply p1) | exact HB.out)) hb); clear O267 HB; have O267 := N0; have O271 := N1; have HB := N2; clear N0 N1 N2; (try clear hb); (try clear hb2); (try clear hk); (try clear hi); (try clear ho0)) | ((with_reducible refine gate_dst (N := 5) rfl ?_); refine box_event ?hg (N := 5) ?hd (cs := #[I q 0, .slice none 0 0]) (t := 30) ?hr ?_; (case hd => rfl); (case hg => rfl); (case hr => first | (go_simp; done) | (go_simp; rfl)); intro g272 hg w104 hbox hb; have N0 := am (rb (by (with_reducible repeat (first | apply ra | apply rN | apply rd1)); exact O267.out) hb); have N1 := am (rb (by (with_reducible repeat (first | apply ra | apply rN | apply rd1)); exact O271.out) hb); have N2 := am (bp (by repeat (first | (with_reducible first | exact HB.out | apply pa | apply pN | apply p1) | exact HB.out)) hb); have N3 := am (hbox); have N4 := am ((by rw [hg]; exact (bz (by repeat (first | (with_reducible first | exact HB.out | apply pa | apply pN | apply p1) | exact HB.out))) : w.heap.size ≤ g272)); have N5 := am ((by rw [hg]; exact (bz (by repeat (first | (with_reducible first | exact HB.out | apply pa | apply pN | apply p1) | exact HB.out))) : w.heap.size ≤ g272)); clear O267 O271 HB; have O267 := N0; have O271 := N1; have HB := N2; have B272 := N3; have GW272 := N4; have E272 := N5; clear N0 N1 N2 N3 N4 N5 hb hbox hg; have hcz105_0 : w104.cell? ⟨g272, 0, none⟩ = some (I q 0) := (bc B272.out 0).trans rfl; have hcz105_1 : w104.cell? ⟨g272, 1, none⟩ = some (.slice none 0 0) := (bc B272.out 1).trans rfl; have hfz105_0 := bf B272.out 0; have hfz105_1 := bf B272.out 1; obtain ⟨Ao106, co106, eo106⟩ := Kd.R_slice O271.out; subst eo106))
      have N0 : Aside0 (Kd.R k53 53 ((w104.setCell ⟨g272, 0, none⟩ (I q t268)).setCell ⟨g272, 1, none⟩ (J Ao106 t269.length co106)) w.heap.size (fun k_ => some k_ ≠ (J Ao106 t269.length co106 : Value).ownBlock) (J Ao102 t264.length co102) t264) := ⟨by (with_reducible repeat (first | apply ra | apply rN | apply rd1)); exact Kd.R_mono (rf (p := ⟨g272, 1, none⟩) (rf (p := ⟨g272, 0, none⟩) (Kd.R_types O267.out B272.out (by decide)) (fun _ hk => hk.2) (I q t268)) (fun _ hk => hk.2) (J Ao106 t269.length co106)) (fun _ hk => hk.1.2)⟩
      have N1 : Aside0 (Kd.R k53 53 ((w104.setCell ⟨g272, 0, none⟩ (I q t268)).setCell ⟨g272, 1, none⟩ (J Ao106 t269.length co106)) w.heap.size (fun k_ => some k_ ≠ (J Ao102 t264.length co102 : Value).ownBlock) (J Ao106 t269.length co106) t269) := ⟨by (with_reducible repeat (first | apply ra | apply rN | apply rd1)); exact Kd.R_mono (rf (p := ⟨g272, 1, none⟩) (rf (p := ⟨g272, 0, none⟩) (Kd.R_types O271.out B272.out (by decide)) (fun _ hk => hk.2) (I q t268)) (fun _ hk => hk.2) (J Ao106 t269.length co106)) (fun _ hk => hk.1.2)⟩
      have N2 : Aside0 (((w104.setCell ⟨g272, 0, none⟩ (I q t268)).setCell ⟨g272, 1, none⟩ (J Ao106 t269.length co106)).heap[g272]? = some (.cells #[I q t268, J Ao106 t269.length co106] 30 (0, 0))) := ⟨by (with_reducible repeat (first | apply bN | apply bd | apply ba)); refine blk_put (cs := #[I q t268, .slice none 0 0]) ?_ 1 _ rfl; (with_reducible repeat (first | apply bN | apply bd | apply ba)); refine blk_put (cs := #[I q 0, .slice none 0 0]) ?_ 0 _ rfl; (with_reducible repeat (first | apply bN | apply bd | apply ba)); exact B272.out⟩
      have N3 : Aside0 (Below w.heap.size w ((w104.setCell ⟨g272, 0, none⟩ (I q t268)).setCell ⟨g272, 1, none⟩ (J Ao106 t269.length co106))) := ⟨by repeat (first | (with_reducible first | exact HB.out | apply pa | apply pN | apply p1 | refine bs ?_ E272.out) | exact HB.out)⟩
      (try clear O267)
      (try clear O271)
      (try clear B272)
      (try clear HB)
      generalize ((w104.setCell ⟨g272, 0, none⟩ (I q t268)).setCell ⟨g272, 1, none⟩ (J Ao106 t269.length co106)) = w107 at N0 N1 N2 N3 ⊢
      have O267 := N0
      have O271 := N1
      have B272 := N2
      have HB := N3
      clear N0 N1 N2 N3
      have N0 := am (rd1 O267.out)
      have N1 := am (rd1 O271.out)
      have N2 := am (bd B272.out)
      have N3 := am (p1 HB.out)
      clear O267
      clear O271
      clear B272
      clear HB
      have O267 := N0
      have O271 := N1
      have B272 := N2
      have HB := N3
      clear N0 N1 N2 N3
      refine start_ (n := 8) (S := fun w' => w'.cell? ⟨g272, 0, none⟩ = some (I q t268) ∧ w'.cell? ⟨g272, 1, none⟩ = some (J Ao106 t269.length co106)) (ds := []) #[false, false, false, false, false, false, false, false] (by kernel_rfl) rfl rfl ⟨(bc B272.out 0).trans rfl, (bc B272.out 1).trans rfl⟩ (fun hHeld => ?_); refine with_tabW laws_FnLooks.tab6 laws_FnLooks.bits6 (fun HT_ HW_ => ?_)
      generalize w107.drew = w108 at O267 O271 B272 HB hHeld ⊢
      refine pure_ (i := 0) (N := some 26) (v := ?_) (a' := ?_) #[true, false, false, false, false, false, false, false] rfl rfl (any_of HT_.out (by kernel_rfl)) (fun _ _ _ h => h) (Or.inl ⟨by rfl, ?_⟩) ?_ ?_
      rotate_left
      · intro w'
        first | (go_simp; with_reducible rfl) | (go_simp; (try unfold Instr.field); go_simp; (try simp only [asAgg]); go_simp; with_reducible rfl)
      rotate_left
      · simp only [Act.put, List.setIfInBounds_toArray, List.set_cons_zero, List.set_cons_succ, i64_w, i32_w]
        rfl
      refine pure_ (i := 1) (N := some 27) (v := ?_) (a' := ?_) #[true, true, false, false, false, false, false, false] rfl rfl (any_of HT_.out (by kernel_rfl)) (fun _ _ _ h => h) (Or.inl ⟨by rfl, ?_⟩) ?_ ?_
      rotate_left
      · intro w'
        first | (go_simp; with_reducible rfl) | (go_simp; (try unfold Instr.field); go_simp; (try simp only [asAgg]); go_simp; with_reducible rfl)
      rotate_left
      · simp only [Act.put, List.setIfInBounds_toArray, List.set_cons_zero, List.set_cons_succ, i64_w, i32_w]
        rfl
      refine pure_ (i := 4) (N := some 30) (v := ?_) (a' := ?_) #[true, true, false, false, true, false, false, false] rfl rfl (any_of HT_.out (by kernel_rfl)) (fun _ _ _ h => h) (Or.inl ⟨by rfl, ?_⟩) ?_ ?_
      rotate_left
      · intro w'
        first | (go_simp; with_reducible rfl) | (go_simp; (try unfold Instr.field); go_simp; (try simp only [asAgg]); go_simp; with_reducible rfl)
      rotate_left
      · simp only [Act.put, List.setIfInBounds_toArray, List.set_cons_zero, List.set_cons_succ, i64_w, i32_w]
        rfl
      refine take_ (i := 5) (N := some 31) (v := ?_) (a' := ?_) #[true, true, false, false, true, true, false, false] rfl rfl (take_ofW HT_.out HW_.out (by kernel_rfl)) (fun _ _ _ h => h) (Or.inl ⟨by rfl, ?_⟩) hHeld ?_ ?_
      rotate_left
      · rintro w' ⟨s0, s1⟩
        go_simp
        with_reducible rfl
      rotate_left
      · simp only [Act.put, List.setIfInBounds_toArray, List.set_cons_zero, List.set_cons_succ, i64_w, i32_w]
        rfl
      refine one_ (i := 2) (N := some 28) #[true, true, true, false, true, true, false, false] rfl rfl (one_of HT_.out (by kernel_rfl)) (by decide) (fun K hK => ?_)
      refine goes_ Try.func14 (by kernel_rfl) rfl #[J Ao102 t264.length co102, I q t265] (by rfl) rfl rfl (by (try simp only [List.map_toArray, List.map_cons, List.map_nil]); first | done | rfl | (simp only [List.length_drop, List.length_take]; rfl)) ?_
      with_reducible refine (spec_WithoutShare.calls k _ _ t264 t265 t273 t274 _ ?side1 ?side2 A100.out).mono ?_
      (case side1 => repeat (first | exact (Kd.R_reads' O267.out).2.2 | (with_reducible refine ca ?_ _) | (with_reducible refine cN ?_ _) | (with_reducible refine cd1 ?_)))
      (case side2 => exact (Kd.R_reads' O267.out).2.1)
      rintro e w109 ⟨v275, rfl, ho0, hb⟩
      refine ⟨_, rfl, ?_⟩
      have N0 := am (re (by (with_reducible repeat (first | apply ra | apply rN | apply rd1)); exact O267.out) (Kd.R_base ho0) hb)
      have N1 := am (re (by (with_reducible repeat (first | apply ra | apply rN | apply rd1)); exact O271.out) (Kd.R_base ho0) hb)
      have N2 := am (rw1 (rn (rn ho0 (rl (by (with_reducible repeat (first | apply ra | apply rN | apply rd1)); exact O267.out))) (rl (by (with_reducible repeat (first | apply ra | apply rN | apply rd1)); exact O271.out))) (bz (by repeat (first | (with_reducible first | exact HB.out | apply pa | apply pN | apply p1 | refine bs ?_ E272.out) | exact HB.out))))
      have N3 := am (bb (g := g272) (by (with_reducible repeat (first | apply bN | apply bd | apply ba)); exact B272.out) hb)
      have N4 := am (bp (by repeat (first | (with_reducible first | exact HB.out | apply pa | apply pN | apply p1 | refine bs ?_ E272.out) | exact HB.out)) hb)
      clear O267
      clear O271
      clear B272
      clear HB
      have O267 := N0
      have O271 := N1
      have O276 := N2
      have B272 := N3
      have HB := N4
      clear N0 N1 N2 N3 N4
      (try clear hb)
      (try clear hb2)
      (try clear hk)
      (try clear hi)
      (try clear ho0)
      refine hK.out _ _ ⟨(bc B272.out 0).trans rfl, (bc B272.out 1).trans rfl⟩ (fun hHeld => ?_)
      clear hK K
      refine norm_ (a' := ?_) ?_ ?_
      rotate_left
      · show Act.put _ (some 28) _ = _
        simp only [Act.put, List.setIfInBounds_toArray, List.set_cons_zero, List.set_cons_succ, i64_w, i32_w]
        rfl
      refine pure_ (i := 3) (N := some 29) (v := ?_) (a' := ?_) #[true, true, true, true, true, true, false, false] rfl rfl (any_of HT_.out (by kernel_rfl)) (fun _ _ _ h => h) (Or.inl ⟨by rfl, ?_⟩) ?_ ?_
      rotate_left
      · intro w'
        first | (go_simp; with_reducible rfl) | (go_simp; (try unfold Instr.field); go_simp; (try simp only [asAgg]); go_simp; with_reducible rfl)
      rotate_left
      · simp only [Act.put, List.setIfInBounds_toArray, List.set_cons_zero, List.set_cons_succ, i64_w, i32_w]
        rfl
      refine pure_ (i := 6) (N := some 32) (v := ?_) (a' := ?_) #[true, true, true, true, true, true, true, false] rfl rfl (any_of HT_.out (by kernel_rfl)) (fun _ _ _ h => h) (Or.inl ⟨by rfl, ?_⟩) ?_ ?_
      rotate_left
      · intro w'
        first | (go_simp; with_reducible rfl) | (go_simp; (try unfold Instr.field); go_simp; (try simp only [asAgg]); go_simp; with_reducible rfl)
      rotate_left
      · simp only [Act.put, List.setIfInBounds_toArray, List.set_cons_zero, List.set_cons_succ, i64_w, i32_w]
        rfl
      refine pure_ (i := 7) (N := some 2) (v := ?_) (a' := ?_) #[true, true, true, true, true, true, true, true] rfl rfl (any_of HT_.out (by kernel_rfl)) (fun _ _ _ h => h) (Or.inl ⟨by rfl, ?_⟩) ?_ ?_
      rotate_left
      · intro w'
        first | (go_simp; with_reducible rfl) | (go_simp; (try unfold Instr.field); go_simp; (try simp only [asAgg]); go_simp; with_reducible rfl)
      rotate_left
      · simp only [Act.put, List.setIfInBounds_toArray, List.set_cons_zero, List.set_cons_succ, i64_w, i32_w]
        rfl
      refine done_ (done_of HT_.out (by kernel_rfl)) ?_
      try go_wp2
      go_ret
      exact ⟨by first | rfl | (simp [errW_none, errW_some] <;> rfl) | (simp [*, errW_none, errW_some] <;> rfl), by repeat (first | (with_reducible first | exact HB.out | apply pa | apply pN | apply p1 | refine bs ?_ E272.out) | exact HB.out)⟩

/-- THE ONE PURE STATEMENT of laws_FnLooks: yours. -/
def laws_FnLooks.Pure : Prop := ∀ (l0 : List Int), l0.length ≤ maxLen → l0.length * 1 ≤ 140737488351232 → (∀ x ∈ l0, (Lit.int .u8 x).wf = true) → ∃ k, laws_FnLooks.f k l0 = some true
theorem laws_FnLooks.walk (P : laws_FnLooks.Pure) (a0 : Option Addr) (len0 cap0 : Nat) (z0 : List Int) (w : World) (w0 : (a0 = none ∧ len0 = 0 ∧ cap0 = 0 ∧ z0 = []) ∨ ∃ x, a0 = some x ∧ len0 ≤ cap0 ∧ cap0 ≤ maxLen ∧ z0.length = cap0 ∧ (∀ i, i < z0.length → w.cell? (x.add i) = some (.int .u8 (z0.getD i 0))) ∧ ∀ n ∈ z0, (Lit.int .u8 n).wf = true) (y0 : len0 * 1 ≤ 140737488351232) :
    Calls Try.prog 8 #[.slice a0 len0 cap0] w fun e w' => e = .returned (.bool true) ∧ Below w.heap.size w w' := by
  obtain ⟨l0, rfl, hr0, hm0, hw0, hc0⟩ := ReadsInt.ofRowC w0
  obtain ⟨k, h⟩ := P l0 hm0 y0 hw0
  refine (laws_FnLooks.calls k _ _ l0 true w (Kd.C_of_reads (d := (0 : Int)) (h1 := fun _ => rfl) hr0) hc0 h).mono ?_
  rintro e w' ⟨rfl, hd⟩
  exact ⟨rfl, hd⟩

end Go.Proofs.Ytnfjbapcngamjaa.QFnLooks
