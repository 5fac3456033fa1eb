-- MADE BY PROGRAM (qprint.py): walks of the functions that the law FnExactConfigText reaches. Lean checks it.
import Derived.Test.YtfmlhpoaipeoeaaDoorQFnExactConfigTextx0
import Derived.Test.YtfmlhpoaipeoeaaDoorQFnExactConfigTextx1
import Derived.Test.YtfmlhpoaipeoeaaDoorQFnExactConfigTextx2
namespace Go.Proofs.YtfmlhpoaipeoeaaDoor.QFnExactConfigText
open Go.RowKit Go.Proofs.YtfmlhpoaipeoeaaDoorW.PrintWords Go.Proofs.YtfmlhpoaipeoeaaDoorW.PrintLast Go.Proofs.YtfmlhpoaipeoeaaDoorW.PrintMore
attribute [local go_sem] max2_int min2_int max_two min_two max_three min_three max_four min_four   -- for this text's walks alone
set_option linter.unusedVariables false
set_option linter.unusedSimpArgs false

/-! ### spec_l5Text: function 13 -/
mutual
def spec_l5Text.l0 : Nat → ByteArray → Int → Int → List (S56) → List (S61) → Option (ByteArray × Int)
 | 0, _, _, _, _, _ => none
 | k + 1, x3, x4, x1000, x1001, x1002 => if x4 < (x1001.length : Int) then (if 0 ≤ x4 then (if (rd_T56 x1001 x4).f4 = true then (if x3.size + 8 ≤ 9223372036854775807 then ((spec_l2Digits.f k ((rd_T56 x1001 x4).f0)).bind fun t165 => (if (x3 ++ (⟨#[98, 97, 99, 107, 101, 110, 100, 32]⟩ : ByteArray)).size + t165.size ≤ 9223372036854775807 then (if ((x3 ++ (⟨#[98, 97, 99, 107, 101, 110, 100, 32]⟩ : ByteArray)) ++ t165).size + 1 ≤ 9223372036854775807 then ((spec_l2Text.f k ((rd_T56 x1001 x4).f1)).bind fun t166 => (if (((x3 ++ (⟨#[98, 97, 99, 107, 101, 110, 100, 32]⟩ : ByteArray)) ++ t165) ++ (⟨#[32]⟩ : ByteArray)).size + t166.size ≤ 9223372036854775807 then (if ((((x3 ++ (⟨#[98, 97, 99, 107, 101, 110, 100, 32]⟩ : ByteArray)) ++ t165) ++ (⟨#[32]⟩ : ByteArray)) ++ t166).size + 1 ≤ 9223372036854775807 then ((spec_l2Digits.f k ((rd_T56 x1001 x4).f2)).bind fun t167 => (if (((((x3 ++ (⟨#[98, 97, 99, 107, 101, 110, 100, 32]⟩ : ByteArray)) ++ t165) ++ (⟨#[32]⟩ : ByteArray)) ++ t166) ++ (⟨#[32]⟩ : ByteArray)).size + t167.size ≤ 9223372036854775807 then (if ((((((x3 ++ (⟨#[98, 97, 99, 107, 101, 110, 100, 32]⟩ : ByteArray)) ++ t165) ++ (⟨#[32]⟩ : ByteArray)) ++ t166) ++ (⟨#[32]⟩ : ByteArray)) ++ t167).size + 1 ≤ 9223372036854775807 then ((some (([(⟨#[]⟩ : ByteArray), (⟨#[111, 110]⟩ : ByteArray), (⟨#[100, 114, 97, 105, 110]⟩ : ByteArray), (⟨#[111, 102, 102]⟩ : ByteArray)] : List ByteArray) : List ByteArray)).bind fun y168 => (if 0 ≤ ((rd_T56 x1001 x4).f3) then (if ((rd_T56 x1001 x4).f3) < (y168.length : Int) then (if (((((((x3 ++ (⟨#[98, 97, 99, 107, 101, 110, 100, 32]⟩ : ByteArray)) ++ t165) ++ (⟨#[32]⟩ : ByteArray)) ++ t166) ++ (⟨#[32]⟩ : ByteArray)) ++ t167) ++ (⟨#[32]⟩ : ByteArray)).size + (rdOf ByteArray.empty y168 ((rd_T56 x1001 x4).f3)).size ≤ 9223372036854775807 then (if ((((((((x3 ++ (⟨#[98, 97, 99, 107, 101, 110, 100, 32]⟩ : ByteArray)) ++ t165) ++ (⟨#[32]⟩ : ByteArray)) ++ t166) ++ (⟨#[32]⟩ : ByteArray)) ++ t167) ++ (⟨#[32]⟩ : ByteArray)) ++ (rdOf ByteArray.empty y168 ((rd_T56 x1001 x4).f3))).size + 1 ≤ 9223372036854775807 then (if (((((((((x3 ++ (⟨#[98, 97, 99, 107, 101, 110, 100, 32]⟩ : ByteArray)) ++ t165) ++ (⟨#[32]⟩ : ByteArray)) ++ t166) ++ (⟨#[32]⟩ : ByteArray)) ++ t167) ++ (⟨#[32]⟩ : ByteArray)) ++ (rdOf ByteArray.empty y168 ((rd_T56 x1001 x4).f3))) ++ (⟨#[32]⟩ : ByteArray)).size + 2 ≤ 9223372036854775807 then (if ((((((((((x3 ++ (⟨#[98, 97, 99, 107, 101, 110, 100, 32]⟩ : ByteArray)) ++ t165) ++ (⟨#[32]⟩ : ByteArray)) ++ t166) ++ (⟨#[32]⟩ : ByteArray)) ++ t167) ++ (⟨#[32]⟩ : ByteArray)) ++ (rdOf ByteArray.empty y168 ((rd_T56 x1001 x4).f3))) ++ (⟨#[32]⟩ : ByteArray)) ++ (⟨#[117, 112]⟩ : ByteArray)).size + 1 ≤ 9223372036854775807 then (spec_l5Text.l0 k (((((((((((x3 ++ (⟨#[98, 97, 99, 107, 101, 110, 100, 32]⟩ : ByteArray)) ++ t165) ++ (⟨#[32]⟩ : ByteArray)) ++ t166) ++ (⟨#[32]⟩ : ByteArray)) ++ t167) ++ (⟨#[32]⟩ : ByteArray)) ++ (rdOf ByteArray.empty y168 ((rd_T56 x1001 x4).f3))) ++ (⟨#[32]⟩ : ByteArray)) ++ (⟨#[117, 112]⟩ : ByteArray)) ++ (⟨#[10]⟩ : ByteArray)) (wrap64 (x4 + 1)) x1000 x1001 x1002) else (none)) else (none)) else (none)) else (none)) else (none)) else (none))) else (none)) else (none))) else (none)) else (none))) else (none)) else (none))) else (none)) else (if x3.size + 8 ≤ 9223372036854775807 then ((spec_l2Digits.f k ((rd_T56 x1001 x4).f0)).bind fun t172 => (if (x3 ++ (⟨#[98, 97, 99, 107, 101, 110, 100, 32]⟩ : ByteArray)).size + t172.size ≤ 9223372036854775807 then (if ((x3 ++ (⟨#[98, 97, 99, 107, 101, 110, 100, 32]⟩ : ByteArray)) ++ t172).size + 1 ≤ 9223372036854775807 then ((spec_l2Text.f k ((rd_T56 x1001 x4).f1)).bind fun t173 => (if (((x3 ++ (⟨#[98, 97, 99, 107, 101, 110, 100, 32]⟩ : ByteArray)) ++ t172) ++ (⟨#[32]⟩ : ByteArray)).size + t173.size ≤ 9223372036854775807 then (if ((((x3 ++ (⟨#[98, 97, 99, 107, 101, 110, 100, 32]⟩ : ByteArray)) ++ t172) ++ (⟨#[32]⟩ : ByteArray)) ++ t173).size + 1 ≤ 9223372036854775807 then ((spec_l2Digits.f k ((rd_T56 x1001 x4).f2)).bind fun t174 => (if (((((x3 ++ (⟨#[98, 97, 99, 107, 101, 110, 100, 32]⟩ : ByteArray)) ++ t172) ++ (⟨#[32]⟩ : ByteArray)) ++ t173) ++ (⟨#[32]⟩ : ByteArray)).size + t174.size ≤ 9223372036854775807 then (if ((((((x3 ++ (⟨#[98, 97, 99, 107, 101, 110, 100, 32]⟩ : ByteArray)) ++ t172) ++ (⟨#[32]⟩ : ByteArray)) ++ t173) ++ (⟨#[32]⟩ : ByteArray)) ++ t174).size + 1 ≤ 9223372036854775807 then ((some (([(⟨#[]⟩ : ByteArray), (⟨#[111, 110]⟩ : ByteArray), (⟨#[100, 114, 97, 105, 110]⟩ : ByteArray), (⟨#[111, 102, 102]⟩ : ByteArray)] : List ByteArray) : List ByteArray)).bind fun y175 => (if 0 ≤ ((rd_T56 x1001 x4).f3) then (if ((rd_T56 x1001 x4).f3) < (y175.length : Int) then (if (((((((x3 ++ (⟨#[98, 97, 99, 107, 101, 110, 100, 32]⟩ : ByteArray)) ++ t172) ++ (⟨#[32]⟩ : ByteArray)) ++ t173) ++ (⟨#[32]⟩ : ByteArray)) ++ t174) ++ (⟨#[32]⟩ : ByteArray)).size + (rdOf ByteArray.empty y175 ((rd_T56 x1001 x4).f3)).size ≤ 9223372036854775807 then (if ((((((((x3 ++ (⟨#[98, 97, 99, 107, 101, 110, 100, 32]⟩ : ByteArray)) ++ t172) ++ (⟨#[32]⟩ : ByteArray)) ++ t173) ++ (⟨#[32]⟩ : ByteArray)) ++ t174) ++ (⟨#[32]⟩ : ByteArray)) ++ (rdOf ByteArray.empty y175 ((rd_T56 x1001 x4).f3))).size + 1 ≤ 9223372036854775807 then (if (((((((((x3 ++ (⟨#[98, 97, 99, 107, 101, 110, 100, 32]⟩ : ByteArray)) ++ t172) ++ (⟨#[32]⟩ : ByteArray)) ++ t173) ++ (⟨#[32]⟩ : ByteArray)) ++ t174) ++ (⟨#[32]⟩ : ByteArray)) ++ (rdOf ByteArray.empty y175 ((rd_T56 x1001 x4).f3))) ++ (⟨#[32]⟩ : ByteArray)).size + 4 ≤ 9223372036854775807 then (if ((((((((((x3 ++ (⟨#[98, 97, 99, 107, 101, 110, 100, 32]⟩ : ByteArray)) ++ t172) ++ (⟨#[32]⟩ : ByteArray)) ++ t173) ++ (⟨#[32]⟩ : ByteArray)) ++ t174) ++ (⟨#[32]⟩ : ByteArray)) ++ (rdOf ByteArray.empty y175 ((rd_T56 x1001 x4).f3))) ++ (⟨#[32]⟩ : ByteArray)) ++ (⟨#[100, 111, 119, 110]⟩ : ByteArray)).size + 1 ≤ 9223372036854775807 then (spec_l5Text.l0 k (((((((((((x3 ++ (⟨#[98, 97, 99, 107, 101, 110, 100, 32]⟩ : ByteArray)) ++ t172) ++ (⟨#[32]⟩ : ByteArray)) ++ t173) ++ (⟨#[32]⟩ : ByteArray)) ++ t174) ++ (⟨#[32]⟩ : ByteArray)) ++ (rdOf ByteArray.empty y175 ((rd_T56 x1001 x4).f3))) ++ (⟨#[32]⟩ : ByteArray)) ++ (⟨#[100, 111, 119, 110]⟩ : ByteArray)) ++ (⟨#[10]⟩ : ByteArray)) (wrap64 (x4 + 1)) x1000 x1001 x1002) else (none)) else (none)) else (none)) else (none)) else (none)) else (none))) else (none)) else (none))) else (none)) else (none))) else (none)) else (none))) else (none))) else (none)) else (spec_l5Text.l1 k x3 0 x1000 x1001 x1002)
def spec_l5Text.l1 : Nat → ByteArray → Int → Int → List (S56) → List (S61) → Option (ByteArray × Int)
 | 0, _, _, _, _, _ => none
 | k + 1, x3, x7, x1000, x1001, x1002 => if x7 < (x1002.length : Int) then (if 0 ≤ x7 then ((spec_l2Text.f k ((rd_T61 x1002 x7).f0)).bind fun t181 => (if 4 + t181.size ≤ 9223372036854775807 then (if ((⟨#[118, 105, 112, 32]⟩ : ByteArray) ++ t181).size + 1 ≤ 9223372036854775807 then ((spec_l2Digits.f k ((rd_T61 x1002 x7).f1)).bind fun t182 => (if (((⟨#[118, 105, 112, 32]⟩ : ByteArray) ++ t181) ++ (⟨#[32]⟩ : ByteArray)).size + t182.size ≤ 9223372036854775807 then (if ((((⟨#[118, 105, 112, 32]⟩ : ByteArray) ++ t181) ++ (⟨#[32]⟩ : ByteArray)) ++ t182).size + 1 ≤ 9223372036854775807 then ((spec_l2Digits.f k ((rd_T61 x1002 x7).f2)).bind fun t183 => (if (((((⟨#[118, 105, 112, 32]⟩ : ByteArray) ++ t181) ++ (⟨#[32]⟩ : ByteArray)) ++ t182) ++ (⟨#[32]⟩ : ByteArray)).size + t183.size ≤ 9223372036854775807 then ((spec_l5Line.f k ((((((⟨#[118, 105, 112, 32]⟩ : ByteArray) ++ t181) ++ (⟨#[32]⟩ : ByteArray)) ++ t182) ++ (⟨#[32]⟩ : ByteArray)) ++ t183) ((rd_T61 x1002 x7).f3)).bind fun t184 => (if x3.size + t184.size ≤ 9223372036854775807 then (spec_l5Text.l1 k (x3 ++ t184) (wrap64 (x7 + 1)) x1000 x1001 x1002) else (none))) else (none))) else (none)) else (none))) else (none)) else (none))) else (none)) else (some (x3, x1000))
end
def spec_l5Text.f (k : Nat) (s0_0 : Int) (s0_1 : List (S56)) (s0_2 : List (S61)) : Option (ByteArray × Int) := (spec_l5Line.f k (⟨#[118, 101, 114, 115, 105, 111, 110]⟩ : ByteArray) (([s0_0] : List Int))).bind fun t162 => (spec_l5Text.l0 k t162 0 s0_0 s0_1 s0_2)
theorem spec_l5Text.mono_l : ∀ k, (∀ y0 y1 y2 y3 y4, LeO (spec_l5Text.l0 k y0 y1 y2 y3 y4) (spec_l5Text.l0 (k + 1) y0 y1 y2 y3 y4)) ∧ (∀ y0 y1 y2 y3 y4, LeO (spec_l5Text.l1 k y0 y1 y2 y3 y4) (spec_l5Text.l1 (k + 1) y0 y1 y2 y3 y4))
 | 0 => ⟨fun _ _ _ _ _ r h => by simp [spec_l5Text.l0] at h, fun _ _ _ _ _ r h => by simp [spec_l5Text.l1] at h⟩
 | k + 1 => by
  obtain ⟨ih0, ih1⟩ := spec_l5Text.mono_l k
  refine ⟨?_, ?_⟩
  ·intro y0 y1 y2 y3 y4
   unfold spec_l5Text.l0
   repeat' first
   | (with_reducible exact ih0 _ _ _ _ _)
   | (with_reducible exact ih1 _ _ _ _ _)
   | (with_reducible exact spec_l2Digits.mono _ _)
   | (with_reducible exact spec_l2Text.mono _ _)
   | (with_reducible exact spec_l5Line.mono _ _ _)
   | (with_reducible exact LeO.refl _)
   | (with_reducible exact LeO.none _)
   | (with_reducible refine LeO.ite ?_ ?_)
   | (with_reducible refine LeO.bind ?_ (fun _ => ?_))
   | exact ih0 _ _ _ _ _
   | exact ih1 _ _ _ _ _
   | exact spec_l2Digits.mono _ _
   | exact spec_l2Text.mono _ _
   | exact spec_l5Line.mono _ _ _
   | exact LeO.none _
   | refine LeO.ite ?_ ?_
   | refine LeO.bind ?_ (fun _ => ?_)
  ·intro y0 y1 y2 y3 y4
   unfold spec_l5Text.l1
   repeat' first
   | (with_reducible exact ih0 _ _ _ _ _)
   | (with_reducible exact ih1 _ _ _ _ _)
   | (with_reducible exact spec_l2Digits.mono _ _)
   | (with_reducible exact spec_l2Text.mono _ _)
   | (with_reducible exact spec_l5Line.mono _ _ _)
   | (with_reducible exact LeO.refl _)
   | (with_reducible exact LeO.none _)
   | (with_reducible refine LeO.ite ?_ ?_)
   | (with_reducible refine LeO.bind ?_ (fun _ => ?_))
   | exact ih0 _ _ _ _ _
   | exact ih1 _ _ _ _ _
   | exact spec_l2Digits.mono _ _
   | exact spec_l2Text.mono _ _
   | exact spec_l5Line.mono _ _ _
   | exact LeO.none _
   | refine LeO.ite ?_ ?_
   | refine LeO.bind ?_ (fun _ => ?_)
theorem spec_l5Text.mono : ∀ a0 a1 a2 k, LeO (spec_l5Text.f k a0 a1 a2) (spec_l5Text.f (k + 1) a0 a1 a2) := by
 intro a0 a1 a2 k
 obtain ⟨ih0, ih1⟩ := spec_l5Text.mono_l k
 unfold spec_l5Text.f
 repeat' first
   | (with_reducible exact ih0 _ _ _ _ _)
   | (with_reducible exact ih1 _ _ _ _ _)
   | (with_reducible exact spec_l2Digits.mono _ _)
   | (with_reducible exact spec_l2Text.mono _ _)
   | (with_reducible exact spec_l5Line.mono _ _ _)
   | (with_reducible exact LeO.refl _)
   | (with_reducible exact LeO.none _)
   | (with_reducible refine LeO.ite ?_ ?_)
   | (with_reducible refine LeO.bind ?_ (fun _ => ?_))
   | exact ih0 _ _ _ _ _
   | exact ih1 _ _ _ _ _
   | exact spec_l2Digits.mono _ _
   | exact spec_l2Text.mono _ _
   | exact spec_l5Line.mono _ _ _
   | exact LeO.none _
   | refine LeO.ite ?_ ?_
   | refine LeO.bind ?_ (fun _ => ?_)
def spec_l5Text.T9 : Bool × List (List Nat × List Nat) := (true, [([], []), ([0], [0]), ([], []), ([2], [2]), ([3], [3]), ([1, 4], [1, 4]), ([5], [5]), ([], []), ([7], [7]), ([8, 4], [8]), ([6, 9], [6, 9]), ([10], [10]), ([], []), ([12], [12]), ([13, 9], [13]), ([11, 14], [11, 14]), ([15], [15]), ([], []), ([], []), ([18], [18]), ([17, 19], [17, 19]), ([20], [20]), ([16, 21], [16, 21]), ([22], [22]), ([], []), ([23, 24], [23, 24]), ([25], [25]), ([26, 14, 0, 1, 2, 3, 4, 5, 6, 7, 8, 9, 10, 11, 12, 13, 14, 15, 16, 17, 18, 19, 20, 21, 22, 23, 24, 25, 26], [0, 26])])
def spec_l5Text.B9 : List Nat := [0, 1, 0, 4, 12, 31, 63, 0, 128, 412, 1023, 2047, 0, 4096, 13212, 32767, 65535, 0, 0, 262144, 917504, 1966080, 4194303, 8388607, 0, 33554431, 67108863, 134217727]
theorem spec_l5Text.tab9 : rtab .any (opsOf Tryd.f13 9) = spec_l5Text.T9 := by kernel_rfl
theorem spec_l5Text.bits9 : waitsOk spec_l5Text.T9.2 spec_l5Text.B9 = true := by kernel_rfl
def spec_l5Text.T14 : Bool × List (List Nat × List Nat) := (true, [([], []), ([], []), ([1], [1]), ([2], [2]), ([3], [3]), ([4], [4]), ([], []), ([6], [6]), ([7, 3], [7]), ([5, 8], [5, 8]), ([9], [9]), ([], []), ([11], [11]), ([12, 8], [12]), ([10, 13], [10, 13]), ([], []), ([15], [15]), ([14, 16, 13], [14, 16]), ([0, 17], [0, 17]), ([18, 17, 0, 1, 2, 3, 4, 5, 6, 7, 8, 9, 10, 11, 12, 13, 14, 15, 16, 17, 18], [0, 18])])
def spec_l5Text.B14 : List Nat := [0, 0, 2, 6, 14, 30, 0, 64, 206, 510, 1022, 0, 2048, 6606, 16382, 0, 32768, 131070, 262143, 524287]
theorem spec_l5Text.tab14 : rtab .any (opsOf Tryd.f13 14) = spec_l5Text.T14 := by kernel_rfl
theorem spec_l5Text.bits14 : waitsOk spec_l5Text.T14.2 spec_l5Text.B14 = true := by kernel_rfl
set_option maxHeartbeats 8000000 in
set_option maxRecDepth 100000 in
theorem spec_l5Text.calls (k : Nat) (g : Nat) (s0_0 : Int) (s0_1 : List (S56)) (s0_2 : List (S61)) (r1 : ByteArray) (r2 : Int) (w0 w : World) (hI : IsS33 w0 w g s0_0 s0_1 s0_2) (hB : Below w0.heap.size w0 w) (h : spec_l5Text.f k s0_0 s0_1 s0_2 = some (r1, r2)) :
  Calls Tryd.prog 13 #[.pointer (some ⟨g, 0, none⟩)] w fun e w' => e = .returned (.string r1) ∧ IsS33 w0 w' g r2 s0_1 s0_2 ∧ Below w0.heap.size w0 w' ∧ KeepBut w w' g none := by
 have hu56 := Tryd.underlying56
 have hu61 := Tryd.underlying61
 have HI0 := Aside0.mk hI
 have HK := Aside0.mk (KeepBut.refl w g none)
 have HL := Aside0.mk hB.size
 clear hI
 have HW0 := Aside0.mk hB.size
 have HB := Aside0.mk hB
 clear hB
 have H : ((spec_l5Line.f k (⟨#[118, 101, 114, 115, 105, 111, 110]⟩ : ByteArray) (([s0_0] : List Int))).bind fun t162 => (spec_l5Text.l0 k t162 0 s0_0 s0_1 s0_2)) = some (r1, r2) := h
 clear h
 obtain ⟨y159, hy159⟩ : ∃ y_ : List Int, y_ = (([s0_0] : List Int)) := ⟨_, rfl⟩
 replace H : ((spec_l5Line.f k (⟨#[118, 101, 114, 115, 105, 111, 110]⟩ : ByteArray) y159).bind fun t162 => (spec_l5Text.l0 k t162 0 s0_0 s0_1 s0_2)) = some (r1, r2) := by first | (rw [hy159]; with_reducible exact H) | (have H2_ := (Option.bind_some _ _).symm.trans H; rw [hy159]; with_reducible exact H2_) | (have H2_ := (Option.bind_some _ _).symm.trans H; with_reducible exact H2_) | with_reducible exact H | (rw [hy159]; exact H) | exact H
 have Ny159 := Aside0.mk hy159
 clear hy159
 replace H := Option.bind_eq_some_iff.mp H
 obtain ⟨t162, A20, H⟩ := H
 replace H : (spec_l5Text.l0 k t162 0 s0_0 s0_1 s0_2) = some (r1, r2) := H
 have A2 := Aside0.mk A20
 clear A20
 have H' := Aside0.mk H
 clear H
 obtain ⟨ASz3_1, cSz3_1, ASz3_2, cSz3_2, HGz3, hgz3, HSz3_1, HSz3_2⟩ := HI0.out
 have hcz3_0 := cellS33_0 HGz3
 have hcz3_1 := cellS33_1 HGz3
 have hcz3_2 := cellS33_2 HGz3
 have hfz3_0 := blk_frozen HGz3 0
 clear HGz3 hgz3
 go_enter Tryd.func13, Tryd.ntmps13
 go_wp2_with (first | ((with_reducible refine gate_dst (N := 13) rfl ?_); refine Kd.R_lit (Kd.int .i64) _ 2 ?hg (N := 13) ?hd (xs := ([s0_0] : List Int)) (inner := [.int .i64 s0_0]) (ok := fun _ => True) (okp := fun _ => True) ?hr ?hp (fun _ hk => hk) trivial (Below.refl _ _) (Nat.le_refl _) (by simp) ?_; (case hd => rfl); (case hg => rfl); (case hr => first | (go_simp; done) | (go_simp; rfl)); (case hp => exact (Reps.one (show Kd.M (Kd.int .i64) _ _ _ s0_0 [.int .i64 s0_0] from rfl) (Reps.none _ _))); intro v160 w4 ho5 hb hg_ hnew_; clear hg_ hnew_; (first | rw [← Ny159.out] at ho5 | (simp only [Int.reduceToNat] at ho5; rw [← Ny159.out] at ho5)); have n0_ := Aside0.mk (Kd.R_lower ho5 (keep_size (w := w) (g := g) (row := none) (by repeat (first | (with_reducible first | exact HK.out | apply KeepBut.set_ | apply keep_drewN | apply keep_drew | apply keep_alloc) | exact HK.out)))); have n1_ := Aside0.mk (IsS33.below (by repeat (first | (with_reducible first | exact HI0.out | apply IsS33.alloc | apply IsS33.drewN | apply IsS33.drew | apply IsS33.set_0) | exact HI0.out)) hb); have n2_ := Aside0.mk (KeepBut.trans (by repeat (first | (with_reducible first | exact HK.out | apply KeepBut.set_ | apply keep_drewN | apply keep_drew | apply keep_alloc) | exact HK.out)) (KeepBut.of_below hb g none) (.inl rfl)); have n3_ := Aside0.mk (below_step (by repeat (first | (with_reducible first | exact HB.out | apply below_alloc | apply pw_below_drewN | apply below_drew1 | refine below_set ?_ (IsS33.ge HI0.out)) | exact HB.out)) hb); clear HI0; clear HK; clear HB; have HO161 := n0_; have HI0 := n1_; have HK := n2_; have HB := n3_; clear n0_ n1_ n2_ n3_; clear hb ho5; obtain ⟨Ao6, co6, eo6⟩ := Kd.R_slice HO161.out; subst eo6) | ((with_reducible refine gate_callee (f := 24) rfl ?_); refine goesL_ (some 14) rfl rfl Tryd.func24 (by kernel_rfl) rfl #[.string (⟨#[118, 101, 114, 115, 105, 111, 110]⟩ : ByteArray), .slice Ao6 y159.length co6] rfl (by (try simp only [List.map_toArray, List.map_cons, List.map_nil]); first | done | rfl | (simp only [List.length_drop, List.length_take]; rfl)) ?_; (with_reducible refine (spec_l5Line.calls k (⟨#[118, 101, 114, 115, 105, 111, 110]⟩ : ByteArray) _ _ y159 t162 _ ?side1 ?side2 A2.out).mono ?_); (case side1 => repeat (first | exact (Kd.R_reads' HO161.out).2.2 | (with_reducible refine Kd.C_alloc ?_ _) | (with_reducible refine Kd.C_drewN ?_ _) | (with_reducible refine Kd.C_drew ?_))); (case side2 => exact (Kd.R_reads' HO161.out).2.1); rintro e w7 ⟨rfl, hb⟩; refine ⟨_, rfl, ?_⟩; have n0_ := Aside0.mk (Kd.R_below (by (with_reducible repeat (first | apply Kd.R_alloc | apply Kd.R_drewN | apply Kd.R_drew)); exact HO161.out) hb); have n1_ := Aside0.mk (IsS33.below (by repeat (first | (with_reducible first | exact HI0.out | apply IsS33.alloc | apply IsS33.drewN | apply IsS33.drew | apply IsS33.set_0) | exact HI0.out)) hb); have n2_ := Aside0.mk (KeepBut.trans (by repeat (first | (with_reducible first | exact HK.out | apply KeepBut.set_ | apply keep_drewN | apply keep_drew | apply keep_alloc) | exact HK.out)) (KeepBut.of_below hb g none) (.inl rfl)); have n3_ := Aside0.mk (below_step (by repeat (first | (with_reducible first | exact HB.out | apply below_alloc | apply pw_below_drewN | apply below_drew1 | refine below_set ?_ (IsS33.ge HI0.out)) | exact HB.out)) hb); clear HO161; clear HI0; clear HK; clear HB; have HO161 := n0_; have HI0 := n1_; have HK := n2_; have HB := n3_; clear n0_ n1_ n2_ n3_; (try clear hb); (try clear hb2); (try clear hk); (try clear hi)))
 go_loopg [3, 4] k (fun kq v3 v4 w' => ∃ (x3_1 : ByteArray) (x4_1 : Int), v3 = .string x3_1 ∧ v4 = .int .i64 x4_1 ∧ Aside0 (spec_l5Text.l0 kq x3_1 x4_1 s0_0 s0_1 s0_2 = some (r1, r2)) ∧ Aside0 (kq ≤ k) ∧ Aside0 (IsS33 w0 w' g s0_0 s0_1 s0_2) ∧ Aside0 (KeepBut w w' g none) ∧ Aside0 (Below w0.heap.size w0 w'))
 case atStart => exact ⟨(t162), (0), (by first | rfl | (simp; done) | (simp [*]; done)), (by first | rfl | (simp; done) | (simp [*]; done)), H', ⟨Nat.le_refl _⟩, ⟨by repeat (first | (with_reducible first | exact HI0.out | apply IsS33.alloc | apply IsS33.drewN | apply IsS33.drew | apply IsS33.set_0) | exact HI0.out)⟩, ⟨by repeat (first | (with_reducible first | exact HK.out | apply KeepBut.set_ | apply keep_drewN | apply keep_drew | apply keep_alloc) | exact HK.out)⟩, ⟨by repeat (first | (with_reducible first | exact HB.out | apply below_alloc | apply pw_below_drewN | apply below_drew1 | refine below_set ?_ (IsS33.ge HI0.out)) | exact HB.out)⟩⟩
 case round =>
  clear H'
  try clear c1
  try clear c2
  try clear p2
  try clear hcz3_0
  try clear hcz3_1
  try clear hcz3_2
  try clear hfz3_0
  obtain ⟨x3_1, x4_1, rfl, rfl, HA, HK1, HI0, HK, HB⟩ := hrel
  cases gk with
  | zero => exact absurd HA.out (by simp [spec_l5Text.l0])
  | succ k1 =>
   have H := HA.out
   clear HA
   simp only [spec_l5Text.l0] at H
   by_cases c8 : x4_1 < (s0_1.length : Int)
   ·rw [if_pos c8] at H
    have c8b0 : decide (x4_1 < (s0_1.length : Int)) = true := decide_eq_true c8
    clear c8
    by_cases c9 : 0 ≤ x4_1
    ·rw [if_pos c9] at H
     have c9b0 : decide (0 ≤ x4_1) = true := decide_eq_true c9
     clear c9
     obtain ⟨bq10, hbq10⟩ : ∃ b_ : Bool, b_ = ((rd_T56 s0_1 x4_1).f4) := ⟨_, rfl⟩
     replace H : (if bq10 = true then (if x3_1.size + 8 ≤ 9223372036854775807 then ((spec_l2Digits.f k1 ((rd_T56 s0_1 x4_1).f0)).bind fun t165 => (if (x3_1 ++ (⟨#[98, 97, 99, 107, 101, 110, 100, 32]⟩ : ByteArray)).size + t165.size ≤ 9223372036854775807 then (if ((x3_1 ++ (⟨#[98, 97, 99, 107, 101, 110, 100, 32]⟩ : ByteArray)) ++ t165).size + 1 ≤ 9223372036854775807 then ((spec_l2Text.f k1 ((rd_T56 s0_1 x4_1).f1)).bind fun t166 => (if (((x3_1 ++ (⟨#[98, 97, 99, 107, 101, 110, 100, 32]⟩ : ByteArray)) ++ t165) ++ (⟨#[32]⟩ : ByteArray)).size + t166.size ≤ 9223372036854775807 then (if ((((x3_1 ++ (⟨#[98, 97, 99, 107, 101, 110, 100, 32]⟩ : ByteArray)) ++ t165) ++ (⟨#[32]⟩ : ByteArray)) ++ t166).size + 1 ≤ 9223372036854775807 then ((spec_l2Digits.f k1 ((rd_T56 s0_1 x4_1).f2)).bind fun t167 => (if (((((x3_1 ++ (⟨#[98, 97, 99, 107, 101, 110, 100, 32]⟩ : ByteArray)) ++ t165) ++ (⟨#[32]⟩ : ByteArray)) ++ t166) ++ (⟨#[32]⟩ : ByteArray)).size + t167.size ≤ 9223372036854775807 then (if ((((((x3_1 ++ (⟨#[98, 97, 99, 107, 101, 110, 100, 32]⟩ : ByteArray)) ++ t165) ++ (⟨#[32]⟩ : ByteArray)) ++ t166) ++ (⟨#[32]⟩ : ByteArray)) ++ t167).size + 1 ≤ 9223372036854775807 then ((some (([(⟨#[]⟩ : ByteArray), (⟨#[111, 110]⟩ : ByteArray), (⟨#[100, 114, 97, 105, 110]⟩ : ByteArray), (⟨#[111, 102, 102]⟩ : ByteArray)] : List ByteArray) : List ByteArray)).bind fun y168 => (if 0 ≤ ((rd_T56 s0_1 x4_1).f3) then (if ((rd_T56 s0_1 x4_1).f3) < (y168.length : Int) then (if (((((((x3_1 ++ (⟨#[98, 97, 99, 107, 101, 110, 100, 32]⟩ : ByteArray)) ++ t165) ++ (⟨#[32]⟩ : ByteArray)) ++ t166) ++ (⟨#[32]⟩ : ByteArray)) ++ t167) ++ (⟨#[32]⟩ : ByteArray)).size + (rdOf ByteArray.empty y168 ((rd_T56 s0_1 x4_1).f3)).size ≤ 9223372036854775807 then (if ((((((((x3_1 ++ (⟨#[98, 97, 99, 107, 101, 110, 100, 32]⟩ : ByteArray)) ++ t165) ++ (⟨#[32]⟩ : ByteArray)) ++ t166) ++ (⟨#[32]⟩ : ByteArray)) ++ t167) ++ (⟨#[32]⟩ : ByteArray)) ++ (rdOf ByteArray.empty y168 ((rd_T56 s0_1 x4_1).f3))).size + 1 ≤ 9223372036854775807 then (if (((((((((x3_1 ++ (⟨#[98, 97, 99, 107, 101, 110, 100, 32]⟩ : ByteArray)) ++ t165) ++ (⟨#[32]⟩ : ByteArray)) ++ t166) ++ (⟨#[32]⟩ : ByteArray)) ++ t167) ++ (⟨#[32]⟩ : ByteArray)) ++ (rdOf ByteArray.empty y168 ((rd_T56 s0_1 x4_1).f3))) ++ (⟨#[32]⟩ : ByteArray)).size + 2 ≤ 9223372036854775807 then (if ((((((((((x3_1 ++ (⟨#[98, 97, 99, 107, 101, 110, 100, 32]⟩ : ByteArray)) ++ t165) ++ (⟨#[32]⟩ : ByteArray)) ++ t166) ++ (⟨#[32]⟩ : ByteArray)) ++ t167) ++ (⟨#[32]⟩ : ByteArray)) ++ (rdOf ByteArray.empty y168 ((rd_T56 s0_1 x4_1).f3))) ++ (⟨#[32]⟩ : ByteArray)) ++ (⟨#[117, 112]⟩ : ByteArray)).size + 1 ≤ 9223372036854775807 then (spec_l5Text.l0 k1 (((((((((((x3_1 ++ (⟨#[98, 97, 99, 107, 101, 110, 100, 32]⟩ : ByteArray)) ++ t165) ++ (⟨#[32]⟩ : ByteArray)) ++ t166) ++ (⟨#[32]⟩ : ByteArray)) ++ t167) ++ (⟨#[32]⟩ : ByteArray)) ++ (rdOf ByteArray.empty y168 ((rd_T56 s0_1 x4_1).f3))) ++ (⟨#[32]⟩ : ByteArray)) ++ (⟨#[117, 112]⟩ : ByteArray)) ++ (⟨#[10]⟩ : ByteArray)) (wrap64 (x4_1 + 1)) s0_0 s0_1 s0_2) else (none)) else (none)) else (none)) else (none)) else (none)) else (none))) else (none)) else (none))) else (none)) else (none))) else (none)) else (none))) else (none)) else (if x3_1.size + 8 ≤ 9223372036854775807 then ((spec_l2Digits.f k1 ((rd_T56 s0_1 x4_1).f0)).bind fun t172 => (if (x3_1 ++ (⟨#[98, 97, 99, 107, 101, 110, 100, 32]⟩ : ByteArray)).size + t172.size ≤ 9223372036854775807 then (if ((x3_1 ++ (⟨#[98, 97, 99, 107, 101, 110, 100, 32]⟩ : ByteArray)) ++ t172).size + 1 ≤ 9223372036854775807 then ((spec_l2Text.f k1 ((rd_T56 s0_1 x4_1).f1)).bind fun t173 => (if (((x3_1 ++ (⟨#[98, 97, 99, 107, 101, 110, 100, 32]⟩ : ByteArray)) ++ t172) ++ (⟨#[32]⟩ : ByteArray)).size + t173.size ≤ 9223372036854775807 then (if ((((x3_1 ++ (⟨#[98, 97, 99, 107, 101, 110, 100, 32]⟩ : ByteArray)) ++ t172) ++ (⟨#[32]⟩ : ByteArray)) ++ t173).size + 1 ≤ 9223372036854775807 then ((spec_l2Digits.f k1 ((rd_T56 s0_1 x4_1).f2)).bind fun t174 => (if (((((x3_1 ++ (⟨#[98, 97, 99, 107, 101, 110, 100, 32]⟩ : ByteArray)) ++ t172) ++ (⟨#[32]⟩ : ByteArray)) ++ t173) ++ (⟨#[32]⟩ : ByteArray)).size + t174.size ≤ 9223372036854775807 then (if ((((((x3_1 ++ (⟨#[98, 97, 99, 107, 101, 110, 100, 32]⟩ : ByteArray)) ++ t172) ++ (⟨#[32]⟩ : ByteArray)) ++ t173) ++ (⟨#[32]⟩ : ByteArray)) ++ t174).size + 1 ≤ 9223372036854775807 then ((some (([(⟨#[]⟩ : ByteArray), (⟨#[111, 110]⟩ : ByteArray), (⟨#[100, 114, 97, 105, 110]⟩ : ByteArray), (⟨#[111, 102, 102]⟩ : ByteArray)] : List ByteArray) : List ByteArray)).bind fun y175 => (if 0 ≤ ((rd_T56 s0_1 x4_1).f3) then (if ((rd_T56 s0_1 x4_1).f3) < (y175.length : Int) then (if (((((((x3_1 ++ (⟨#[98, 97, 99, 107, 101, 110, 100, 32]⟩ : ByteArray)) ++ t172) ++ (⟨#[32]⟩ : ByteArray)) ++ t173) ++ (⟨#[32]⟩ : ByteArray)) ++ t174) ++ (⟨#[32]⟩ : ByteArray)).size + (rdOf ByteArray.empty y175 ((rd_T56 s0_1 x4_1).f3)).size ≤ 9223372036854775807 then (if ((((((((x3_1 ++ (⟨#[98, 97, 99, 107, 101, 110, 100, 32]⟩ : ByteArray)) ++ t172) ++ (⟨#[32]⟩ : ByteArray)) ++ t173) ++ (⟨#[32]⟩ : ByteArray)) ++ t174) ++ (⟨#[32]⟩ : ByteArray)) ++ (rdOf ByteArray.empty y175 ((rd_T56 s0_1 x4_1).f3))).size + 1 ≤ 9223372036854775807 then (if (((((((((x3_1 ++ (⟨#[98, 97, 99, 107, 101, 110, 100, 32]⟩ : ByteArray)) ++ t172) ++ (⟨#[32]⟩ : ByteArray)) ++ t173) ++ (⟨#[32]⟩ : ByteArray)) ++ t174) ++ (⟨#[32]⟩ : ByteArray)) ++ (rdOf ByteArray.empty y175 ((rd_T56 s0_1 x4_1).f3))) ++ (⟨#[32]⟩ : ByteArray)).size + 4 ≤ 9223372036854775807 then (if ((((((((((x3_1 ++ (⟨#[98, 97, 99, 107, 101, 110, 100, 32]⟩ : ByteArray)) ++ t172) ++ (⟨#[32]⟩ : ByteArray)) ++ t173) ++ (⟨#[32]⟩ : ByteArray)) ++ t174) ++ (⟨#[32]⟩ : ByteArray)) ++ (rdOf ByteArray.empty y175 ((rd_T56 s0_1 x4_1).f3))) ++ (⟨#[32]⟩ : ByteArray)) ++ (⟨#[100, 111, 119, 110]⟩ : ByteArray)).size + 1 ≤ 9223372036854775807 then (spec_l5Text.l0 k1 (((((((((((x3_1 ++ (⟨#[98, 97, 99, 107, 101, 110, 100, 32]⟩ : ByteArray)) ++ t172) ++ (⟨#[32]⟩ : ByteArray)) ++ t173) ++ (⟨#[32]⟩ : ByteArray)) ++ t174) ++ (⟨#[32]⟩ : ByteArray)) ++ (rdOf ByteArray.empty y175 ((rd_T56 s0_1 x4_1).f3))) ++ (⟨#[32]⟩ : ByteArray)) ++ (⟨#[100, 111, 119, 110]⟩ : ByteArray)) ++ (⟨#[10]⟩ : ByteArray)) (wrap64 (x4_1 + 1)) s0_0 s0_1 s0_2) else (none)) else (none)) else (none)) else (none)) else (none)) else (none))) else (none)) else (none))) else (none)) else (none))) else (none)) else (none))) else (none))) = some (r1, r2) := by rw [← hbq10] at H; exact H
     have Nbq10 := Aside0.mk hbq10
     clear hbq10
     by_cases c11 : bq10 = true
     ·subst c11
      have H1 : (if x3_1.size + 8 ≤ 9223372036854775807 then ((spec_l2Digits.f k1 ((rd_T56 s0_1 x4_1).f0)).bind fun t165 => (if (x3_1 ++ (⟨#[98, 97, 99, 107, 101, 110, 100, 32]⟩ : ByteArray)).size + t165.size ≤ 9223372036854775807 then (if ((x3_1 ++ (⟨#[98, 97, 99, 107, 101, 110, 100, 32]⟩ : ByteArray)) ++ t165).size + 1 ≤ 9223372036854775807 then ((spec_l2Text.f k1 ((rd_T56 s0_1 x4_1).f1)).bind fun t166 => (if (((x3_1 ++ (⟨#[98, 97, 99, 107, 101, 110, 100, 32]⟩ : ByteArray)) ++ t165) ++ (⟨#[32]⟩ : ByteArray)).size + t166.size ≤ 9223372036854775807 then (if ((((x3_1 ++ (⟨#[98, 97, 99, 107, 101, 110, 100, 32]⟩ : ByteArray)) ++ t165) ++ (⟨#[32]⟩ : ByteArray)) ++ t166).size + 1 ≤ 9223372036854775807 then ((spec_l2Digits.f k1 ((rd_T56 s0_1 x4_1).f2)).bind fun t167 => (if (((((x3_1 ++ (⟨#[98, 97, 99, 107, 101, 110, 100, 32]⟩ : ByteArray)) ++ t165) ++ (⟨#[32]⟩ : ByteArray)) ++ t166) ++ (⟨#[32]⟩ : ByteArray)).size + t167.size ≤ 9223372036854775807 then (if ((((((x3_1 ++ (⟨#[98, 97, 99, 107, 101, 110, 100, 32]⟩ : ByteArray)) ++ t165) ++ (⟨#[32]⟩ : ByteArray)) ++ t166) ++ (⟨#[32]⟩ : ByteArray)) ++ t167).size + 1 ≤ 9223372036854775807 then ((some (([(⟨#[]⟩ : ByteArray), (⟨#[111, 110]⟩ : ByteArray), (⟨#[100, 114, 97, 105, 110]⟩ : ByteArray), (⟨#[111, 102, 102]⟩ : ByteArray)] : List ByteArray) : List ByteArray)).bind fun y168 => (if 0 ≤ ((rd_T56 s0_1 x4_1).f3) then (if ((rd_T56 s0_1 x4_1).f3) < (y168.length : Int) then (if (((((((x3_1 ++ (⟨#[98, 97, 99, 107, 101, 110, 100, 32]⟩ : ByteArray)) ++ t165) ++ (⟨#[32]⟩ : ByteArray)) ++ t166) ++ (⟨#[32]⟩ : ByteArray)) ++ t167) ++ (⟨#[32]⟩ : ByteArray)).size + (rdOf ByteArray.empty y168 ((rd_T56 s0_1 x4_1).f3)).size ≤ 9223372036854775807 then (if ((((((((x3_1 ++ (⟨#[98, 97, 99, 107, 101, 110, 100, 32]⟩ : ByteArray)) ++ t165) ++ (⟨#[32]⟩ : ByteArray)) ++ t166) ++ (⟨#[32]⟩ : ByteArray)) ++ t167) ++ (⟨#[32]⟩ : ByteArray)) ++ (rdOf ByteArray.empty y168 ((rd_T56 s0_1 x4_1).f3))).size + 1 ≤ 9223372036854775807 then (if (((((((((x3_1 ++ (⟨#[98, 97, 99, 107, 101, 110, 100, 32]⟩ : ByteArray)) ++ t165) ++ (⟨#[32]⟩ : ByteArray)) ++ t166) ++ (⟨#[32]⟩ : ByteArray)) ++ t167) ++ (⟨#[32]⟩ : ByteArray)) ++ (rdOf ByteArray.empty y168 ((rd_T56 s0_1 x4_1).f3))) ++ (⟨#[32]⟩ : ByteArray)).size + 2 ≤ 9223372036854775807 then (if ((((((((((x3_1 ++ (⟨#[98, 97, 99, 107, 101, 110, 100, 32]⟩ : ByteArray)) ++ t165) ++ (⟨#[32]⟩ : ByteArray)) ++ t166) ++ (⟨#[32]⟩ : ByteArray)) ++ t167) ++ (⟨#[32]⟩ : ByteArray)) ++ (rdOf ByteArray.empty y168 ((rd_T56 s0_1 x4_1).f3))) ++ (⟨#[32]⟩ : ByteArray)) ++ (⟨#[117, 112]⟩ : ByteArray)).size + 1 ≤ 9223372036854775807 then (spec_l5Text.l0 k1 (((((((((((x3_1 ++ (⟨#[98, 97, 99, 107, 101, 110, 100, 32]⟩ : ByteArray)) ++ t165) ++ (⟨#[32]⟩ : ByteArray)) ++ t166) ++ (⟨#[32]⟩ : ByteArray)) ++ t167) ++ (⟨#[32]⟩ : ByteArray)) ++ (rdOf ByteArray.empty y168 ((rd_T56 s0_1 x4_1).f3))) ++ (⟨#[32]⟩ : ByteArray)) ++ (⟨#[117, 112]⟩ : ByteArray)) ++ (⟨#[10]⟩ : ByteArray)) (wrap64 (x4_1 + 1)) s0_0 s0_1 s0_2) else (none)) else (none)) else (none)) else (none)) else (none)) else (none))) else (none)) else (none))) else (none)) else (none))) else (none)) else (none))) else (none)) = some (r1, r2) := by rw [if_pos rfl] at H; exact H
      clear H
      have H := H1
      clear H1
      by_cases c12 : x3_1.size + 8 ≤ 9223372036854775807
      ·rw [if_pos c12] at H
       have c12b0 := eq_true c12
       have c12b1 : decide (x3_1.size + 8 ≤ 9223372036854775807) = true := decide_eq_true c12
       try have c12b2 : (9223372036854775807 < x3_1.size + 8) = False := eq_false (Nat.not_lt.2 c12)
       replace H := Option.bind_eq_some_iff.mp H
       obtain ⟨t165, A130, H⟩ := H
       replace H : (if (x3_1 ++ (⟨#[98, 97, 99, 107, 101, 110, 100, 32]⟩ : ByteArray)).size + t165.size ≤ 9223372036854775807 then (if ((x3_1 ++ (⟨#[98, 97, 99, 107, 101, 110, 100, 32]⟩ : ByteArray)) ++ t165).size + 1 ≤ 9223372036854775807 then ((spec_l2Text.f k1 ((rd_T56 s0_1 x4_1).f1)).bind fun t166 => (if (((x3_1 ++ (⟨#[98, 97, 99, 107, 101, 110, 100, 32]⟩ : ByteArray)) ++ t165) ++ (⟨#[32]⟩ : ByteArray)).size + t166.size ≤ 9223372036854775807 then (if ((((x3_1 ++ (⟨#[98, 97, 99, 107, 101, 110, 100, 32]⟩ : ByteArray)) ++ t165) ++ (⟨#[32]⟩ : ByteArray)) ++ t166).size + 1 ≤ 9223372036854775807 then ((spec_l2Digits.f k1 ((rd_T56 s0_1 x4_1).f2)).bind fun t167 => (if (((((x3_1 ++ (⟨#[98, 97, 99, 107, 101, 110, 100, 32]⟩ : ByteArray)) ++ t165) ++ (⟨#[32]⟩ : ByteArray)) ++ t166) ++ (⟨#[32]⟩ : ByteArray)).size + t167.size ≤ 9223372036854775807 then (if ((((((x3_1 ++ (⟨#[98, 97, 99, 107, 101, 110, 100, 32]⟩ : ByteArray)) ++ t165) ++ (⟨#[32]⟩ : ByteArray)) ++ t166) ++ (⟨#[32]⟩ : ByteArray)) ++ t167).size + 1 ≤ 9223372036854775807 then ((some (([(⟨#[]⟩ : ByteArray), (⟨#[111, 110]⟩ : ByteArray), (⟨#[100, 114, 97, 105, 110]⟩ : ByteArray), (⟨#[111, 102, 102]⟩ : ByteArray)] : List ByteArray) : List ByteArray)).bind fun y168 => (if 0 ≤ ((rd_T56 s0_1 x4_1).f3) then (if ((rd_T56 s0_1 x4_1).f3) < (y168.length : Int) then (if (((((((x3_1 ++ (⟨#[98, 97, 99, 107, 101, 110, 100, 32]⟩ : ByteArray)) ++ t165) ++ (⟨#[32]⟩ : ByteArray)) ++ t166) ++ (⟨#[32]⟩ : ByteArray)) ++ t167) ++ (⟨#[32]⟩ : ByteArray)).size + (rdOf ByteArray.empty y168 ((rd_T56 s0_1 x4_1).f3)).size ≤ 9223372036854775807 then (if ((((((((x3_1 ++ (⟨#[98, 97, 99, 107, 101, 110, 100, 32]⟩ : ByteArray)) ++ t165) ++ (⟨#[32]⟩ : ByteArray)) ++ t166) ++ (⟨#[32]⟩ : ByteArray)) ++ t167) ++ (⟨#[32]⟩ : ByteArray)) ++ (rdOf ByteArray.empty y168 ((rd_T56 s0_1 x4_1).f3))).size + 1 ≤ 9223372036854775807 then (if (((((((((x3_1 ++ (⟨#[98, 97, 99, 107, 101, 110, 100, 32]⟩ : ByteArray)) ++ t165) ++ (⟨#[32]⟩ : ByteArray)) ++ t166) ++ (⟨#[32]⟩ : ByteArray)) ++ t167) ++ (⟨#[32]⟩ : ByteArray)) ++ (rdOf ByteArray.empty y168 ((rd_T56 s0_1 x4_1).f3))) ++ (⟨#[32]⟩ : ByteArray)).size + 2 ≤ 9223372036854775807 then (if ((((((((((x3_1 ++ (⟨#[98, 97, 99, 107, 101, 110, 100, 32]⟩ : ByteArray)) ++ t165) ++ (⟨#[32]⟩ : ByteArray)) ++ t166) ++ (⟨#[32]⟩ : ByteArray)) ++ t167) ++ (⟨#[32]⟩ : ByteArray)) ++ (rdOf ByteArray.empty y168 ((rd_T56 s0_1 x4_1).f3))) ++ (⟨#[32]⟩ : ByteArray)) ++ (⟨#[117, 112]⟩ : ByteArray)).size + 1 ≤ 9223372036854775807 then (spec_l5Text.l0 k1 (((((((((((x3_1 ++ (⟨#[98, 97, 99, 107, 101, 110, 100, 32]⟩ : ByteArray)) ++ t165) ++ (⟨#[32]⟩ : ByteArray)) ++ t166) ++ (⟨#[32]⟩ : ByteArray)) ++ t167) ++ (⟨#[32]⟩ : ByteArray)) ++ (rdOf ByteArray.empty y168 ((rd_T56 s0_1 x4_1).f3))) ++ (⟨#[32]⟩ : ByteArray)) ++ (⟨#[117, 112]⟩ : ByteArray)) ++ (⟨#[10]⟩ : ByteArray)) (wrap64 (x4_1 + 1)) s0_0 s0_1 s0_2) else (none)) else (none)) else (none)) else (none)) else (none)) else (none))) else (none)) else (none))) else (none)) else (none))) else (none)) else (none)) = some (r1, r2) := H
       have A13 := Aside0.mk A130
       clear A130
       by_cases c14 : (x3_1 ++ (⟨#[98, 97, 99, 107, 101, 110, 100, 32]⟩ : ByteArray)).size + t165.size ≤ 9223372036854775807
       ·rw [if_pos c14] at H
        have c14b0 := eq_true c14
        have c14b1 : decide ((x3_1 ++ (⟨#[98, 97, 99, 107, 101, 110, 100, 32]⟩ : ByteArray)).size + t165.size ≤ 9223372036854775807) = true := decide_eq_true c14
        try have c14b2 : (9223372036854775807 < (x3_1 ++ (⟨#[98, 97, 99, 107, 101, 110, 100, 32]⟩ : ByteArray)).size + t165.size) = False := eq_false (Nat.not_lt.2 c14)
        have c14x : (9223372036854775807 < x3_1.size + 8 + t165.size) = False := eq_false (Nat.not_lt.2 (by have h_ := c14; (try simp only [ByteArray.size_append] at h_); exact h_))
        by_cases c15 : ((x3_1 ++ (⟨#[98, 97, 99, 107, 101, 110, 100, 32]⟩ : ByteArray)) ++ t165).size + 1 ≤ 9223372036854775807
        ·rw [if_pos c15] at H
         have c15b0 := eq_true c15
         have c15b1 : decide (((x3_1 ++ (⟨#[98, 97, 99, 107, 101, 110, 100, 32]⟩ : ByteArray)) ++ t165).size + 1 ≤ 9223372036854775807) = true := decide_eq_true c15
         try have c15b2 : (9223372036854775807 < ((x3_1 ++ (⟨#[98, 97, 99, 107, 101, 110, 100, 32]⟩ : ByteArray)) ++ t165).size + 1) = False := eq_false (Nat.not_lt.2 c15)
         have c15x : (9223372036854775807 < x3_1.size + 8 + t165.size + 1) = False := eq_false (Nat.not_lt.2 (by have h_ := c15; (try simp only [ByteArray.size_append] at h_); exact h_))
         replace H := Option.bind_eq_some_iff.mp H
         obtain ⟨t166, A160, H⟩ := H
         replace H : (if (((x3_1 ++ (⟨#[98, 97, 99, 107, 101, 110, 100, 32]⟩ : ByteArray)) ++ t165) ++ (⟨#[32]⟩ : ByteArray)).size + t166.size ≤ 9223372036854775807 then (if ((((x3_1 ++ (⟨#[98, 97, 99, 107, 101, 110, 100, 32]⟩ : ByteArray)) ++ t165) ++ (⟨#[32]⟩ : ByteArray)) ++ t166).size + 1 ≤ 9223372036854775807 then ((spec_l2Digits.f k1 ((rd_T56 s0_1 x4_1).f2)).bind fun t167 => (if (((((x3_1 ++ (⟨#[98, 97, 99, 107, 101, 110, 100, 32]⟩ : ByteArray)) ++ t165) ++ (⟨#[32]⟩ : ByteArray)) ++ t166) ++ (⟨#[32]⟩ : ByteArray)).size + t167.size ≤ 9223372036854775807 then (if ((((((x3_1 ++ (⟨#[98, 97, 99, 107, 101, 110, 100, 32]⟩ : ByteArray)) ++ t165) ++ (⟨#[32]⟩ : ByteArray)) ++ t166) ++ (⟨#[32]⟩ : ByteArray)) ++ t167).size + 1 ≤ 9223372036854775807 then ((some (([(⟨#[]⟩ : ByteArray), (⟨#[111, 110]⟩ : ByteArray), (⟨#[100, 114, 97, 105, 110]⟩ : ByteArray), (⟨#[111, 102, 102]⟩ : ByteArray)] : List ByteArray) : List ByteArray)).bind fun y168 => (if 0 ≤ ((rd_T56 s0_1 x4_1).f3) then (if ((rd_T56 s0_1 x4_1).f3) < (y168.length : Int) then (if (((((((x3_1 ++ (⟨#[98, 97, 99, 107, 101, 110, 100, 32]⟩ : ByteArray)) ++ t165) ++ (⟨#[32]⟩ : ByteArray)) ++ t166) ++ (⟨#[32]⟩ : ByteArray)) ++ t167) ++ (⟨#[32]⟩ : ByteArray)).size + (rdOf ByteArray.empty y168 ((rd_T56 s0_1 x4_1).f3)).size ≤ 9223372036854775807 then (if ((((((((x3_1 ++ (⟨#[98, 97, 99, 107, 101, 110, 100, 32]⟩ : ByteArray)) ++ t165) ++ (⟨#[32]⟩ : ByteArray)) ++ t166) ++ (⟨#[32]⟩ : ByteArray)) ++ t167) ++ (⟨#[32]⟩ : ByteArray)) ++ (rdOf ByteArray.empty y168 ((rd_T56 s0_1 x4_1).f3))).size + 1 ≤ 9223372036854775807 then (if (((((((((x3_1 ++ (⟨#[98, 97, 99, 107, 101, 110, 100, 32]⟩ : ByteArray)) ++ t165) ++ (⟨#[32]⟩ : ByteArray)) ++ t166) ++ (⟨#[32]⟩ : ByteArray)) ++ t167) ++ (⟨#[32]⟩ : ByteArray)) ++ (rdOf ByteArray.empty y168 ((rd_T56 s0_1 x4_1).f3))) ++ (⟨#[32]⟩ : ByteArray)).size + 2 ≤ 9223372036854775807 then (if ((((((((((x3_1 ++ (⟨#[98, 97, 99, 107, 101, 110, 100, 32]⟩ : ByteArray)) ++ t165) ++ (⟨#[32]⟩ : ByteArray)) ++ t166) ++ (⟨#[32]⟩ : ByteArray)) ++ t167) ++ (⟨#[32]⟩ : ByteArray)) ++ (rdOf ByteArray.empty y168 ((rd_T56 s0_1 x4_1).f3))) ++ (⟨#[32]⟩ : ByteArray)) ++ (⟨#[117, 112]⟩ : ByteArray)).size + 1 ≤ 9223372036854775807 then (spec_l5Text.l0 k1 (((((((((((x3_1 ++ (⟨#[98, 97, 99, 107, 101, 110, 100, 32]⟩ : ByteArray)) ++ t165) ++ (⟨#[32]⟩ : ByteArray)) ++ t166) ++ (⟨#[32]⟩ : ByteArray)) ++ t167) ++ (⟨#[32]⟩ : ByteArray)) ++ (rdOf ByteArray.empty y168 ((rd_T56 s0_1 x4_1).f3))) ++ (⟨#[32]⟩ : ByteArray)) ++ (⟨#[117, 112]⟩ : ByteArray)) ++ (⟨#[10]⟩ : ByteArray)) (wrap64 (x4_1 + 1)) s0_0 s0_1 s0_2) else (none)) else (none)) else (none)) else (none)) else (none)) else (none))) else (none)) else (none))) else (none)) else (none)) = some (r1, r2) := H
         have A16 := Aside0.mk A160
         clear A160
         by_cases c17 : (((x3_1 ++ (⟨#[98, 97, 99, 107, 101, 110, 100, 32]⟩ : ByteArray)) ++ t165) ++ (⟨#[32]⟩ : ByteArray)).size + t166.size ≤ 9223372036854775807
         ·rw [if_pos c17] at H
          have c17b0 := eq_true c17
          have c17b1 : decide ((((x3_1 ++ (⟨#[98, 97, 99, 107, 101, 110, 100, 32]⟩ : ByteArray)) ++ t165) ++ (⟨#[32]⟩ : ByteArray)).size + t166.size ≤ 9223372036854775807) = true := decide_eq_true c17
          try have c17b2 : (9223372036854775807 < (((x3_1 ++ (⟨#[98, 97, 99, 107, 101, 110, 100, 32]⟩ : ByteArray)) ++ t165) ++ (⟨#[32]⟩ : ByteArray)).size + t166.size) = False := eq_false (Nat.not_lt.2 c17)
          have c17x : (9223372036854775807 < x3_1.size + 8 + t165.size + 1 + t166.size) = False := eq_false (Nat.not_lt.2 (by have h_ := c17; (try simp only [ByteArray.size_append] at h_); exact h_))
          by_cases c18 : ((((x3_1 ++ (⟨#[98, 97, 99, 107, 101, 110, 100, 32]⟩ : ByteArray)) ++ t165) ++ (⟨#[32]⟩ : ByteArray)) ++ t166).size + 1 ≤ 9223372036854775807
          ·rw [if_pos c18] at H
           have c18b0 := eq_true c18
           have c18b1 : decide (((((x3_1 ++ (⟨#[98, 97, 99, 107, 101, 110, 100, 32]⟩ : ByteArray)) ++ t165) ++ (⟨#[32]⟩ : ByteArray)) ++ t166).size + 1 ≤ 9223372036854775807) = true := decide_eq_true c18
           try have c18b2 : (9223372036854775807 < ((((x3_1 ++ (⟨#[98, 97, 99, 107, 101, 110, 100, 32]⟩ : ByteArray)) ++ t165) ++ (⟨#[32]⟩ : ByteArray)) ++ t166).size + 1) = False := eq_false (Nat.not_lt.2 c18)
           have c18x : (9223372036854775807 < x3_1.size + 8 + t165.size + 1 + t166.size + 1) = False := eq_false (Nat.not_lt.2 (by have h_ := c18; (try simp only [ByteArray.size_append] at h_); exact h_))
           replace H := Option.bind_eq_some_iff.mp H
           obtain ⟨t167, A190, H⟩ := H
           replace H : (if (((((x3_1 ++ (⟨#[98, 97, 99, 107, 101, 110, 100, 32]⟩ : ByteArray)) ++ t165) ++ (⟨#[32]⟩ : ByteArray)) ++ t166) ++ (⟨#[32]⟩ : ByteArray)).size + t167.size ≤ 9223372036854775807 then (if ((((((x3_1 ++ (⟨#[98, 97, 99, 107, 101, 110, 100, 32]⟩ : ByteArray)) ++ t165) ++ (⟨#[32]⟩ : ByteArray)) ++ t166) ++ (⟨#[32]⟩ : ByteArray)) ++ t167).size + 1 ≤ 9223372036854775807 then ((some (([(⟨#[]⟩ : ByteArray), (⟨#[111, 110]⟩ : ByteArray), (⟨#[100, 114, 97, 105, 110]⟩ : ByteArray), (⟨#[111, 102, 102]⟩ : ByteArray)] : List ByteArray) : List ByteArray)).bind fun y168 => (if 0 ≤ ((rd_T56 s0_1 x4_1).f3) then (if ((rd_T56 s0_1 x4_1).f3) < (y168.length : Int) then (if (((((((x3_1 ++ (⟨#[98, 97, 99, 107, 101, 110, 100, 32]⟩ : ByteArray)) ++ t165) ++ (⟨#[32]⟩ : ByteArray)) ++ t166) ++ (⟨#[32]⟩ : ByteArray)) ++ t167) ++ (⟨#[32]⟩ : ByteArray)).size + (rdOf ByteArray.empty y168 ((rd_T56 s0_1 x4_1).f3)).size ≤ 9223372036854775807 then (if ((((((((x3_1 ++ (⟨#[98, 97, 99, 107, 101, 110, 100, 32]⟩ : ByteArray)) ++ t165) ++ (⟨#[32]⟩ : ByteArray)) ++ t166) ++ (⟨#[32]⟩ : ByteArray)) ++ t167) ++ (⟨#[32]⟩ : ByteArray)) ++ (rdOf ByteArray.empty y168 ((rd_T56 s0_1 x4_1).f3))).size + 1 ≤ 9223372036854775807 then (if (((((((((x3_1 ++ (⟨#[98, 97, 99, 107, 101, 110, 100, 32]⟩ : ByteArray)) ++ t165) ++ (⟨#[32]⟩ : ByteArray)) ++ t166) ++ (⟨#[32]⟩ : ByteArray)) ++ t167) ++ (⟨#[32]⟩ : ByteArray)) ++ (rdOf ByteArray.empty y168 ((rd_T56 s0_1 x4_1).f3))) ++ (⟨#[32]⟩ : ByteArray)).size + 2 ≤ 9223372036854775807 then (if ((((((((((x3_1 ++ (⟨#[98, 97, 99, 107, 101, 110, 100, 32]⟩ : ByteArray)) ++ t165) ++ (⟨#[32]⟩ : ByteArray)) ++ t166) ++ (⟨#[32]⟩ : ByteArray)) ++ t167) ++ (⟨#[32]⟩ : ByteArray)) ++ (rdOf ByteArray.empty y168 ((rd_T56 s0_1 x4_1).f3))) ++ (⟨#[32]⟩ : ByteArray)) ++ (⟨#[117, 112]⟩ : ByteArray)).size + 1 ≤ 9223372036854775807 then (spec_l5Text.l0 k1 (((((((((((x3_1 ++ (⟨#[98, 97, 99, 107, 101, 110, 100, 32]⟩ : ByteArray)) ++ t165) ++ (⟨#[32]⟩ : ByteArray)) ++ t166) ++ (⟨#[32]⟩ : ByteArray)) ++ t167) ++ (⟨#[32]⟩ : ByteArray)) ++ (rdOf ByteArray.empty y168 ((rd_T56 s0_1 x4_1).f3))) ++ (⟨#[32]⟩ : ByteArray)) ++ (⟨#[117, 112]⟩ : ByteArray)) ++ (⟨#[10]⟩ : ByteArray)) (wrap64 (x4_1 + 1)) s0_0 s0_1 s0_2) else (none)) else (none)) else (none)) else (none)) else (none)) else (none))) else (none)) else (none)) = some (r1, r2) := H
           have A19 := Aside0.mk A190
           clear A190
           by_cases c20 : (((((x3_1 ++ (⟨#[98, 97, 99, 107, 101, 110, 100, 32]⟩ : ByteArray)) ++ t165) ++ (⟨#[32]⟩ : ByteArray)) ++ t166) ++ (⟨#[32]⟩ : ByteArray)).size + t167.size ≤ 9223372036854775807
           ·rw [if_pos c20] at H
            have c20b0 := eq_true c20
            have c20b1 : decide ((((((x3_1 ++ (⟨#[98, 97, 99, 107, 101, 110, 100, 32]⟩ : ByteArray)) ++ t165) ++ (⟨#[32]⟩ : ByteArray)) ++ t166) ++ (⟨#[32]⟩ : ByteArray)).size + t167.size ≤ 9223372036854775807) = true := decide_eq_true c20
            try have c20b2 : (9223372036854775807 < (((((x3_1 ++ (⟨#[98, 97, 99, 107, 101, 110, 100, 32]⟩ : ByteArray)) ++ t165) ++ (⟨#[32]⟩ : ByteArray)) ++ t166) ++ (⟨#[32]⟩ : ByteArray)).size + t167.size) = False := eq_false (Nat.not_lt.2 c20)
            have c20x : (9223372036854775807 < x3_1.size + 8 + t165.size + 1 + t166.size + 1 + t167.size) = False := eq_false (Nat.not_lt.2 (by have h_ := c20; (try simp only [ByteArray.size_append] at h_); exact h_))
            by_cases c21 : ((((((x3_1 ++ (⟨#[98, 97, 99, 107, 101, 110, 100, 32]⟩ : ByteArray)) ++ t165) ++ (⟨#[32]⟩ : ByteArray)) ++ t166) ++ (⟨#[32]⟩ : ByteArray)) ++ t167).size + 1 ≤ 9223372036854775807
            ·rw [if_pos c21] at H
             have c21b0 := eq_true c21
             have c21b1 : decide (((((((x3_1 ++ (⟨#[98, 97, 99, 107, 101, 110, 100, 32]⟩ : ByteArray)) ++ t165) ++ (⟨#[32]⟩ : ByteArray)) ++ t166) ++ (⟨#[32]⟩ : ByteArray)) ++ t167).size + 1 ≤ 9223372036854775807) = true := decide_eq_true c21
             try have c21b2 : (9223372036854775807 < ((((((x3_1 ++ (⟨#[98, 97, 99, 107, 101, 110, 100, 32]⟩ : ByteArray)) ++ t165) ++ (⟨#[32]⟩ : ByteArray)) ++ t166) ++ (⟨#[32]⟩ : ByteArray)) ++ t167).size + 1) = False := eq_false (Nat.not_lt.2 c21)
             have c21x : (9223372036854775807 < x3_1.size + 8 + t165.size + 1 + t166.size + 1 + t167.size + 1) = False := eq_false (Nat.not_lt.2 (by have h_ := c21; (try simp only [ByteArray.size_append] at h_); exact h_))
             obtain ⟨y168, hy168⟩ : ∃ y_ : List ByteArray, y_ = (([(⟨#[]⟩ : ByteArray), (⟨#[111, 110]⟩ : ByteArray), (⟨#[100, 114, 97, 105, 110]⟩ : ByteArray), (⟨#[111, 102, 102]⟩ : ByteArray)] : List ByteArray)) := ⟨_, rfl⟩
             replace H : (if 0 ≤ ((rd_T56 s0_1 x4_1).f3) then (if ((rd_T56 s0_1 x4_1).f3) < (y168.length : Int) then (if (((((((x3_1 ++ (⟨#[98, 97, 99, 107, 101, 110, 100, 32]⟩ : ByteArray)) ++ t165) ++ (⟨#[32]⟩ : ByteArray)) ++ t166) ++ (⟨#[32]⟩ : ByteArray)) ++ t167) ++ (⟨#[32]⟩ : ByteArray)).size + (rdOf ByteArray.empty y168 ((rd_T56 s0_1 x4_1).f3)).size ≤ 9223372036854775807 then (if ((((((((x3_1 ++ (⟨#[98, 97, 99, 107, 101, 110, 100, 32]⟩ : ByteArray)) ++ t165) ++ (⟨#[32]⟩ : ByteArray)) ++ t166) ++ (⟨#[32]⟩ : ByteArray)) ++ t167) ++ (⟨#[32]⟩ : ByteArray)) ++ (rdOf ByteArray.empty y168 ((rd_T56 s0_1 x4_1).f3))).size + 1 ≤ 9223372036854775807 then (if (((((((((x3_1 ++ (⟨#[98, 97, 99, 107, 101, 110, 100, 32]⟩ : ByteArray)) ++ t165) ++ (⟨#[32]⟩ : ByteArray)) ++ t166) ++ (⟨#[32]⟩ : ByteArray)) ++ t167) ++ (⟨#[32]⟩ : ByteArray)) ++ (rdOf ByteArray.empty y168 ((rd_T56 s0_1 x4_1).f3))) ++ (⟨#[32]⟩ : ByteArray)).size + 2 ≤ 9223372036854775807 then (if ((((((((((x3_1 ++ (⟨#[98, 97, 99, 107, 101, 110, 100, 32]⟩ : ByteArray)) ++ t165) ++ (⟨#[32]⟩ : ByteArray)) ++ t166) ++ (⟨#[32]⟩ : ByteArray)) ++ t167) ++ (⟨#[32]⟩ : ByteArray)) ++ (rdOf ByteArray.empty y168 ((rd_T56 s0_1 x4_1).f3))) ++ (⟨#[32]⟩ : ByteArray)) ++ (⟨#[117, 112]⟩ : ByteArray)).size + 1 ≤ 9223372036854775807 then (spec_l5Text.l0 k1 (((((((((((x3_1 ++ (⟨#[98, 97, 99, 107, 101, 110, 100, 32]⟩ : ByteArray)) ++ t165) ++ (⟨#[32]⟩ : ByteArray)) ++ t166) ++ (⟨#[32]⟩ : ByteArray)) ++ t167) ++ (⟨#[32]⟩ : ByteArray)) ++ (rdOf ByteArray.empty y168 ((rd_T56 s0_1 x4_1).f3))) ++ (⟨#[32]⟩ : ByteArray)) ++ (⟨#[117, 112]⟩ : ByteArray)) ++ (⟨#[10]⟩ : ByteArray)) (wrap64 (x4_1 + 1)) s0_0 s0_1 s0_2) else (none)) else (none)) else (none)) else (none)) else (none)) else (none)) = some (r1, r2) := by first | (rw [hy168]; with_reducible exact H) | (have H2_ := (Option.bind_some _ _).symm.trans H; rw [hy168]; with_reducible exact H2_) | (have H2_ := (Option.bind_some _ _).symm.trans H; with_reducible exact H2_) | with_reducible exact H | (rw [hy168]; exact H) | exact H
             have Ny168 := Aside0.mk hy168
             clear hy168
             by_cases c22 : 0 ≤ ((rd_T56 s0_1 x4_1).f3)
             ·rw [if_pos c22] at H
              have c22b0 : decide (0 ≤ ((rd_T56 s0_1 x4_1).f3)) = true := decide_eq_true c22
              clear c22
              by_cases c23 : ((rd_T56 s0_1 x4_1).f3) < (y168.length : Int)
              ·rw [if_pos c23] at H
               have c23b0 : decide (((rd_T56 s0_1 x4_1).f3) < (y168.length : Int)) = true := decide_eq_true c23
               clear c23
               by_cases c24 : (((((((x3_1 ++ (⟨#[98, 97, 99, 107, 101, 110, 100, 32]⟩ : ByteArray)) ++ t165) ++ (⟨#[32]⟩ : ByteArray)) ++ t166) ++ (⟨#[32]⟩ : ByteArray)) ++ t167) ++ (⟨#[32]⟩ : ByteArray)).size + (rdOf ByteArray.empty y168 ((rd_T56 s0_1 x4_1).f3)).size ≤ 9223372036854775807
               ·rw [if_pos c24] at H
                have c24b0 := eq_true c24
                have c24b1 : decide ((((((((x3_1 ++ (⟨#[98, 97, 99, 107, 101, 110, 100, 32]⟩ : ByteArray)) ++ t165) ++ (⟨#[32]⟩ : ByteArray)) ++ t166) ++ (⟨#[32]⟩ : ByteArray)) ++ t167) ++ (⟨#[32]⟩ : ByteArray)).size + (rdOf ByteArray.empty y168 ((rd_T56 s0_1 x4_1).f3)).size ≤ 9223372036854775807) = true := decide_eq_true c24
                try have c24b2 : (9223372036854775807 < (((((((x3_1 ++ (⟨#[98, 97, 99, 107, 101, 110, 100, 32]⟩ : ByteArray)) ++ t165) ++ (⟨#[32]⟩ : ByteArray)) ++ t166) ++ (⟨#[32]⟩ : ByteArray)) ++ t167) ++ (⟨#[32]⟩ : ByteArray)).size + (rdOf ByteArray.empty y168 ((rd_T56 s0_1 x4_1).f3)).size) = False := eq_false (Nat.not_lt.2 c24)
                have c24x : (9223372036854775807 < x3_1.size + 8 + t165.size + 1 + t166.size + 1 + t167.size + 1 + (rdOf ByteArray.empty y168 ((rd_T56 s0_1 x4_1).f3)).size) = False := eq_false (Nat.not_lt.2 (by have h_ := c24; (try simp only [ByteArray.size_append] at h_); exact h_))
                by_cases c25 : ((((((((x3_1 ++ (⟨#[98, 97, 99, 107, 101, 110, 100, 32]⟩ : ByteArray)) ++ t165) ++ (⟨#[32]⟩ : ByteArray)) ++ t166) ++ (⟨#[32]⟩ : ByteArray)) ++ t167) ++ (⟨#[32]⟩ : ByteArray)) ++ (rdOf ByteArray.empty y168 ((rd_T56 s0_1 x4_1).f3))).size + 1 ≤ 9223372036854775807
                ·rw [if_pos c25] at H
                 have c25b0 := eq_true c25
                 have c25b1 : decide (((((((((x3_1 ++ (⟨#[98, 97, 99, 107, 101, 110, 100, 32]⟩ : ByteArray)) ++ t165) ++ (⟨#[32]⟩ : ByteArray)) ++ t166) ++ (⟨#[32]⟩ : ByteArray)) ++ t167) ++ (⟨#[32]⟩ : ByteArray)) ++ (rdOf ByteArray.empty y168 ((rd_T56 s0_1 x4_1).f3))).size + 1 ≤ 9223372036854775807) = true := decide_eq_true c25
                 try have c25b2 : (9223372036854775807 < ((((((((x3_1 ++ (⟨#[98, 97, 99, 107, 101, 110, 100, 32]⟩ : ByteArray)) ++ t165) ++ (⟨#[32]⟩ : ByteArray)) ++ t166) ++ (⟨#[32]⟩ : ByteArray)) ++ t167) ++ (⟨#[32]⟩ : ByteArray)) ++ (rdOf ByteArray.empty y168 ((rd_T56 s0_1 x4_1).f3))).size + 1) = False := eq_false (Nat.not_lt.2 c25)
                 have c25x : (9223372036854775807 < x3_1.size + 8 + t165.size + 1 + t166.size + 1 + t167.size + 1 + (rdOf ByteArray.empty y168 ((rd_T56 s0_1 x4_1).f3)).size + 1) = False := eq_false (Nat.not_lt.2 (by have h_ := c25; (try simp only [ByteArray.size_append] at h_); exact h_))
                 by_cases c26 : (((((((((x3_1 ++ (⟨#[98, 97, 99, 107, 101, 110, 100, 32]⟩ : ByteArray)) ++ t165) ++ (⟨#[32]⟩ : ByteArray)) ++ t166) ++ (⟨#[32]⟩ : ByteArray)) ++ t167) ++ (⟨#[32]⟩ : ByteArray)) ++ (rdOf ByteArray.empty y168 ((rd_T56 s0_1 x4_1).f3))) ++ (⟨#[32]⟩ : ByteArray)).size + 2 ≤ 9223372036854775807
                 ·rw [if_pos c26] at H
                  have c26b0 := eq_true c26
                  have c26b1 : decide ((((((((((x3_1 ++ (⟨#[98, 97, 99, 107, 101, 110, 100, 32]⟩ : ByteArray)) ++ t165) ++ (⟨#[32]⟩ : ByteArray)) ++ t166) ++ (⟨#[32]⟩ : ByteArray)) ++ t167) ++ (⟨#[32]⟩ : ByteArray)) ++ (rdOf ByteArray.empty y168 ((rd_T56 s0_1 x4_1).f3))) ++ (⟨#[32]⟩ : ByteArray)).size + 2 ≤ 9223372036854775807) = true := decide_eq_true c26
                  try have c26b2 : (9223372036854775807 < (((((((((x3_1 ++ (⟨#[98, 97, 99, 107, 101, 110, 100, 32]⟩ : ByteArray)) ++ t165) ++ (⟨#[32]⟩ : ByteArray)) ++ t166) ++ (⟨#[32]⟩ : ByteArray)) ++ t167) ++ (⟨#[32]⟩ : ByteArray)) ++ (rdOf ByteArray.empty y168 ((rd_T56 s0_1 x4_1).f3))) ++ (⟨#[32]⟩ : ByteArray)).size + 2) = False := eq_false (Nat.not_lt.2 c26)
                  have c26x : (9223372036854775807 < x3_1.size + 8 + t165.size + 1 + t166.size + 1 + t167.size + 1 + (rdOf ByteArray.empty y168 ((rd_T56 s0_1 x4_1).f3)).size + 1 + 2) = False := eq_false (Nat.not_lt.2 (by have h_ := c26; (try simp only [ByteArray.size_append] at h_); exact h_))
                  by_cases c27 : ((((((((((x3_1 ++ (⟨#[98, 97, 99, 107, 101, 110, 100, 32]⟩ : ByteArray)) ++ t165) ++ (⟨#[32]⟩ : ByteArray)) ++ t166) ++ (⟨#[32]⟩ : ByteArray)) ++ t167) ++ (⟨#[32]⟩ : ByteArray)) ++ (rdOf ByteArray.empty y168 ((rd_T56 s0_1 x4_1).f3))) ++ (⟨#[32]⟩ : ByteArray)) ++ (⟨#[117, 112]⟩ : ByteArray)).size + 1 ≤ 9223372036854775807
                  ·rw [if_pos c27] at H
                   have c27b0 := eq_true c27
                   have c27b1 : decide (((((((((((x3_1 ++ (⟨#[98, 97, 99, 107, 101, 110, 100, 32]⟩ : ByteArray)) ++ t165) ++ (⟨#[32]⟩ : ByteArray)) ++ t166) ++ (⟨#[32]⟩ : ByteArray)) ++ t167) ++ (⟨#[32]⟩ : ByteArray)) ++ (rdOf ByteArray.empty y168 ((rd_T56 s0_1 x4_1).f3))) ++ (⟨#[32]⟩ : ByteArray)) ++ (⟨#[117, 112]⟩ : ByteArray)).size + 1 ≤ 9223372036854775807) = true := decide_eq_true c27
                   try have c27b2 : (9223372036854775807 < ((((((((((x3_1 ++ (⟨#[98, 97, 99, 107, 101, 110, 100, 32]⟩ : ByteArray)) ++ t165) ++ (⟨#[32]⟩ : ByteArray)) ++ t166) ++ (⟨#[32]⟩ : ByteArray)) ++ t167) ++ (⟨#[32]⟩ : ByteArray)) ++ (rdOf ByteArray.empty y168 ((rd_T56 s0_1 x4_1).f3))) ++ (⟨#[32]⟩ : ByteArray)) ++ (⟨#[117, 112]⟩ : ByteArray)).size + 1) = False := eq_false (Nat.not_lt.2 c27)
                   have c27x : (9223372036854775807 < x3_1.size + 8 + t165.size + 1 + t166.size + 1 + t167.size + 1 + (rdOf ByteArray.empty y168 ((rd_T56 s0_1 x4_1).f3)).size + 1 + 2 + 1) = False := eq_false (Nat.not_lt.2 (by have h_ := c27; (try simp only [ByteArray.size_append] at h_); exact h_))
                   have H' := Aside0.mk H
                   clear H
                   obtain ⟨ASz28_1, cSz28_1, ASz28_2, cSz28_2, HGz28, hgz28, HSz28_1, HSz28_2⟩ := HI0.out
                   have hcz28_0 := cellS33_0 HGz28
                   have hcz28_1 := cellS33_1 HGz28
                   have hcz28_2 := cellS33_2 HGz28
                   have hfz28_0 := blk_frozen HGz28 0
                   clear HGz28 hgz28
                   have p163 : 0 ≤ (x4_1 : Int) := of_decide_eq_true (by first | (with_reducible assumption) | assumption)
                   have q163 : x4_1 < (s0_1.length : Int) := of_decide_eq_true (by first | (with_reducible assumption) | assumption)
                   obtain ⟨ad163, e163, hx163_0, hx163_1, hx163_2, hx163_3, hx163_4⟩ := at_T56 HSz28_1 x4_1 p163 q163
                   (try rw [← Nbq10.out] at hx163_4)
                   cases e163
                   replace hx163_0 := pw_cell_below HB.out hx163_0
                   replace hx163_1 := pw_cell_below HB.out hx163_1
                   replace hx163_2 := pw_cell_below HB.out hx163_2
                   replace hx163_3 := pw_cell_below HB.out hx163_3
                   replace hx163_4 := pw_cell_below HB.out hx163_4
                   replace p163 := eq_true p163
                   replace q163 := eq_true q163
                   try go_wp2_with (first | ((with_reducible refine gate_dst (N := 5) rfl ?_); refine box_event ?hg (N := 5) ?hd (cs := #[.int .i64 0, .int .i64 0, .int .i64 0, .int .i64 0, .bool false]) (t := 56) ?hr ?_; (case hd => rfl); (case hg => rfl); (case hr => first | (go_simp; done) | (go_simp; rfl)); intro gb164 hg w29 hbox hb; have n0_ := Aside0.mk (IsS33.below (by repeat (first | (with_reducible first | exact HI0.out | apply IsS33.alloc | apply IsS33.drewN | apply IsS33.drew | apply IsS33.set_0) | exact HI0.out)) hb); have n1_ := Aside0.mk (KeepBut.trans (by repeat (first | (with_reducible first | exact HK.out | apply KeepBut.set_ | apply keep_drewN | apply keep_drew | apply keep_alloc) | exact HK.out)) (KeepBut.of_below hb g none) (.inl rfl)); have n2_ := Aside0.mk (below_step (by repeat (first | (with_reducible first | exact HB.out | apply below_alloc | apply pw_below_drewN | apply below_drew1 | refine below_set ?_ (IsS33.ge HI0.out)) | exact HB.out)) hb); have n3_ := Aside0.mk (hbox); have n4_ := Aside0.mk ((by rw [hg]; exact (keep_size (w := w) (g := g) (row := none) (by repeat (first | (with_reducible first | exact HK.out | apply KeepBut.set_ | apply keep_drewN | apply keep_drew | apply keep_alloc) | exact HK.out))) : w.heap.size ≤ gb164)); have n5_ := Aside0.mk ((Nat.le_trans HW0.out (by rw [hg]; exact (keep_size (w := w) (g := g) (row := none) (by repeat (first | (with_reducible first | exact HK.out | apply KeepBut.set_ | apply keep_drewN | apply keep_drew | apply keep_alloc) | exact HK.out))) : w.heap.size ≤ gb164) : w0.heap.size ≤ gb164)); have n6_ := Aside0.mk ((by rw [hg]; exact Nat.ne_of_lt (IsS33.lt (show IsS33 w0 _ g s0_0 s0_1 s0_2 from by repeat (first | (with_reducible first | exact HI0.out | apply IsS33.alloc | apply IsS33.drewN | apply IsS33.drew | apply IsS33.set_0) | exact HI0.out))) : g ≠ gb164)); have n7_ := Aside0.mk ((by rw [hg]; exact Nat.ne_of_gt (IsS33.lt (show IsS33 w0 _ g s0_0 s0_1 s0_2 from by repeat (first | (with_reducible first | exact HI0.out | apply IsS33.alloc | apply IsS33.drewN | apply IsS33.drew | apply IsS33.set_0) | exact HI0.out))) : gb164 ≠ g)); clear HI0; clear HK; clear HB; have HI0 := n0_; have HK := n1_; have HB := n2_; have BK164 := n3_; have GW164 := n4_; have GE164 := n5_; have NB0_164 := n6_; have NB164_0 := n7_; clear n0_ n1_ n2_ n3_ n4_ n5_ n6_ n7_; clear hb hbox hg; have hnb30 := NB164_0.out; have hnc30 := NB0_164.out; have hcz31_0 : w29.cell? ⟨gb164, 0, none⟩ = some (.int .i64 0) := (blk_cell BK164.out 0).trans rfl; have hcz31_1 : w29.cell? ⟨gb164, 1, none⟩ = some (.int .i64 0) := (blk_cell BK164.out 1).trans rfl; have hcz31_2 : w29.cell? ⟨gb164, 2, none⟩ = some (.int .i64 0) := (blk_cell BK164.out 2).trans rfl; have hcz31_3 : w29.cell? ⟨gb164, 3, none⟩ = some (.int .i64 0) := (blk_cell BK164.out 3).trans rfl; have hcz31_4 : w29.cell? ⟨gb164, 4, none⟩ = some (.bool false) := (blk_cell BK164.out 4).trans rfl; have hfz31_0 := blk_frozen BK164.out 0; have hfz31_1 := blk_frozen BK164.out 1; have hfz31_2 := blk_frozen BK164.out 2; have hfz31_3 := blk_frozen BK164.out 3; have hfz31_4 := blk_frozen BK164.out 4))
                   have pi171 : (0 ≤ (((rd_T56 s0_1 x4_1).f3) : Int)) = True := eq_true (of_decide_eq_true (by first | (with_reducible assumption) | assumption))
                   have qi171 : (((rd_T56 s0_1 x4_1).f3) < (y168.length : Int)) = True := eq_true (of_decide_eq_true (by first | (with_reducible assumption) | assumption))
                   have n0_ : Aside0 ((((((w29.setCell ⟨gb164, 0, none⟩ (.int .i64 ((rd_T56 s0_1 x4_1).f0))).setCell ⟨gb164, 1, none⟩ (.int .i64 ((rd_T56 s0_1 x4_1).f1))).setCell ⟨gb164, 2, none⟩ (.int .i64 ((rd_T56 s0_1 x4_1).f2))).setCell ⟨gb164, 3, none⟩ (.int .i64 ((rd_T56 s0_1 x4_1).f3))).setCell ⟨gb164, 4, none⟩ (.bool true)).heap[gb164]? = some (.cells #[.int .i64 ((rd_T56 s0_1 x4_1).f0), .int .i64 ((rd_T56 s0_1 x4_1).f1), .int .i64 ((rd_T56 s0_1 x4_1).f2), .int .i64 ((rd_T56 s0_1 x4_1).f3), .bool true] 56 (0, 0))) := ⟨by (with_reducible repeat (first | refine blk_drewN ?_ _ | refine blk_drew ?_ | refine blk_alloc ?_ _)); refine blk_put (cs := #[.int .i64 ((rd_T56 s0_1 x4_1).f0), .int .i64 ((rd_T56 s0_1 x4_1).f1), .int .i64 ((rd_T56 s0_1 x4_1).f2), .int .i64 ((rd_T56 s0_1 x4_1).f3), .bool false]) ?_ 4 _ rfl; (with_reducible repeat (first | refine blk_drewN ?_ _ | refine blk_drew ?_ | refine blk_alloc ?_ _)); refine blk_put (cs := #[.int .i64 ((rd_T56 s0_1 x4_1).f0), .int .i64 ((rd_T56 s0_1 x4_1).f1), .int .i64 ((rd_T56 s0_1 x4_1).f2), .int .i64 0, .bool false]) ?_ 3 _ rfl; (with_reducible repeat (first | refine blk_drewN ?_ _ | refine blk_drew ?_ | refine blk_alloc ?_ _)); refine blk_put (cs := #[.int .i64 ((rd_T56 s0_1 x4_1).f0), .int .i64 ((rd_T56 s0_1 x4_1).f1), .int .i64 0, .int .i64 0, .bool false]) ?_ 2 _ rfl; (with_reducible repeat (first | refine blk_drewN ?_ _ | refine blk_drew ?_ | refine blk_alloc ?_ _)); refine blk_put (cs := #[.int .i64 ((rd_T56 s0_1 x4_1).f0), .int .i64 0, .int .i64 0, .int .i64 0, .bool false]) ?_ 1 _ rfl; (with_reducible repeat (first | refine blk_drewN ?_ _ | refine blk_drew ?_ | refine blk_alloc ?_ _)); refine blk_put (cs := #[.int .i64 0, .int .i64 0, .int .i64 0, .int .i64 0, .bool false]) ?_ 0 _ rfl; (with_reducible repeat (first | refine blk_drewN ?_ _ | refine blk_drew ?_ | refine blk_alloc ?_ _)); exact BK164.out⟩
                   have n1_ : Aside0 (IsS33 w0 (((((w29.setCell ⟨gb164, 0, none⟩ (.int .i64 ((rd_T56 s0_1 x4_1).f0))).setCell ⟨gb164, 1, none⟩ (.int .i64 ((rd_T56 s0_1 x4_1).f1))).setCell ⟨gb164, 2, none⟩ (.int .i64 ((rd_T56 s0_1 x4_1).f2))).setCell ⟨gb164, 3, none⟩ (.int .i64 ((rd_T56 s0_1 x4_1).f3))).setCell ⟨gb164, 4, none⟩ (.bool true)) g s0_0 s0_1 s0_2) := ⟨by repeat (first | (with_reducible first | exact HI0.out | apply IsS33.alloc | apply IsS33.drewN | apply IsS33.drew | apply IsS33.set_0 | refine IsS33.far ?_ NB0_164.out _) | exact HI0.out)⟩
                   have n2_ : Aside0 (KeepBut w (((((w29.setCell ⟨gb164, 0, none⟩ (.int .i64 ((rd_T56 s0_1 x4_1).f0))).setCell ⟨gb164, 1, none⟩ (.int .i64 ((rd_T56 s0_1 x4_1).f1))).setCell ⟨gb164, 2, none⟩ (.int .i64 ((rd_T56 s0_1 x4_1).f2))).setCell ⟨gb164, 3, none⟩ (.int .i64 ((rd_T56 s0_1 x4_1).f3))).setCell ⟨gb164, 4, none⟩ (.bool true)) g none) := ⟨by repeat (first | (with_reducible first | exact HK.out | apply KeepBut.set_ | apply keep_drewN | apply keep_drew | apply keep_alloc | refine keep_far ?_ GW164.out _) | exact HK.out)⟩
                   have n3_ : Aside0 (Below w0.heap.size w0 (((((w29.setCell ⟨gb164, 0, none⟩ (.int .i64 ((rd_T56 s0_1 x4_1).f0))).setCell ⟨gb164, 1, none⟩ (.int .i64 ((rd_T56 s0_1 x4_1).f1))).setCell ⟨gb164, 2, none⟩ (.int .i64 ((rd_T56 s0_1 x4_1).f2))).setCell ⟨gb164, 3, none⟩ (.int .i64 ((rd_T56 s0_1 x4_1).f3))).setCell ⟨gb164, 4, none⟩ (.bool true))) := ⟨by repeat (first | (with_reducible first | exact HB.out | apply below_alloc | apply pw_below_drewN | apply below_drew1 | refine below_set ?_ (IsS33.ge HI0.out) | refine below_set ?_ GE164.out) | exact HB.out)⟩
                   (try clear BK164)
                   (try clear HI0)
                   (try clear HK)
                   (try clear HB)
                   generalize (((((w29.setCell ⟨gb164, 0, none⟩ (.int .i64 ((rd_T56 s0_1 x4_1).f0))).setCell ⟨gb164, 1, none⟩ (.int .i64 ((rd_T56 s0_1 x4_1).f1))).setCell ⟨gb164, 2, none⟩ (.int .i64 ((rd_T56 s0_1 x4_1).f2))).setCell ⟨gb164, 3, none⟩ (.int .i64 ((rd_T56 s0_1 x4_1).f3))).setCell ⟨gb164, 4, none⟩ (.bool true)) = w32 at n0_ n1_ n2_ n3_ ⊢
                   have BK164 := n0_
                   have HI0 := n1_
                   have HK := n2_
                   have HB := n3_
                   clear n0_ n1_ n2_ n3_
                   have n0_ := Aside0.mk (blk_drew BK164.out)
                   have n1_ := Aside0.mk (IsS33.drew HI0.out)
                   have n2_ := Aside0.mk (keep_drew HK.out)
                   have n3_ := Aside0.mk (below_drew1 HB.out)
                   clear BK164
                   clear HI0
                   clear HK
                   clear HB
                   have BK164 := n0_
                   have HI0 := n1_
                   have HK := n2_
                   have HB := n3_
                   clear n0_ n1_ n2_ n3_
                   refine start_ (n := 28) (S := fun w' => True) (ds := []) #[false, false, false, false, false, false, false, false, false, false, false, false, false, false, false, false, false, false, false, false, false, false, false, false, false, false, false, false] (by kernel_rfl) rfl rfl trivial (fun hHeld => ?_); refine with_tabW spec_l5Text.tab9 spec_l5Text.bits9 (fun HT_ HW_ => ?_)
                   generalize w32.drew = w33 at BK164 HI0 HK HB hHeld ⊢
                   refine pure_ (i := 0) (N := some 33) (v := ?_) (a' := ?_) #[true, false, false, false, false, false, false, false, false, false, false, false, false, false, false, false, false, false, false, false, false, false, false, false, false, false, false, false] rfl rfl (any_of HT_.out (by kernel_rfl)) (fun _ _ _ h => h) (Or.inl ⟨by rfl, ?_⟩) ?_ ?_
                   rotate_left
                   ·intro w'
                    first | (go_simp; with_reducible rfl) | (go_simp; (try unfold Instr.field); go_simp; (try simp only [asAgg]); go_simp; with_reducible rfl)
                   rotate_left
                   ·simp only [Act.put, List.setIfInBounds_toArray, List.set_cons_zero, List.set_cons_succ, i64_w, i32_w]
                    rfl
                   refine pure_ (i := 2) (N := some 35) (v := ?_) (a' := ?_) #[true, false, true, false, false, false, false, false, false, false, false, false, false, false, false, false, false, false, false, false, false, false, false, false, false, false, false, false] rfl rfl (any_of HT_.out (by kernel_rfl)) (fun _ _ _ h => h) (Or.inl ⟨by rfl, ?_⟩) ?_ ?_
                   rotate_left
                   ·intro w'
                    first | (go_simp; with_reducible rfl) | (go_simp; (try unfold Instr.field); go_simp; (try simp only [asAgg]); go_simp; with_reducible rfl)
                   rotate_left
                   ·simp only [Act.put, List.setIfInBounds_toArray, List.set_cons_zero, List.set_cons_succ, i64_w, i32_w]
                    rfl
                   refine pure_ (i := 7) (N := some 40) (v := ?_) (a' := ?_) #[true, false, true, false, false, false, false, true, false, false, false, false, false, false, false, false, false, false, false, false, false, false, false, false, false, false, false, false] rfl rfl (any_of HT_.out (by kernel_rfl)) (fun _ _ _ h => h) (Or.inl ⟨by rfl, ?_⟩) ?_ ?_
                   rotate_left
                   ·intro w'
                    first | (go_simp; with_reducible rfl) | (go_simp; (try unfold Instr.field); go_simp; (try simp only [asAgg]); go_simp; with_reducible rfl)
                   rotate_left
                   ·simp only [Act.put, List.setIfInBounds_toArray, List.set_cons_zero, List.set_cons_succ, i64_w, i32_w]
                    rfl
                   refine pure_ (i := 12) (N := some 45) (v := ?_) (a' := ?_) #[true, false, true, false, false, false, false, true, false, false, false, false, true, false, false, false, false, false, false, false, false, false, false, false, false, false, false, false] rfl rfl (any_of HT_.out (by kernel_rfl)) (fun _ _ _ h => h) (Or.inl ⟨by rfl, ?_⟩) ?_ ?_
                   rotate_left
                   ·intro w'
                    first | (go_simp; with_reducible rfl) | (go_simp; (try unfold Instr.field); go_simp; (try simp only [asAgg]); go_simp; with_reducible rfl)
                   rotate_left
                   ·simp only [Act.put, List.setIfInBounds_toArray, List.set_cons_zero, List.set_cons_succ, i64_w, i32_w]
                    rfl
                   refine pure_ (i := 18) (N := some 51) (v := ?_) (a' := ?_) #[true, false, true, false, false, false, false, true, false, false, false, false, true, false, false, false, false, false, true, false, false, false, false, false, false, false, false, false] rfl rfl (any_of HT_.out (by kernel_rfl)) (fun _ _ _ h => h) (Or.inl ⟨by rfl, ?_⟩) ?_ ?_
                   rotate_left
                   ·intro w'
                    first | (go_simp; with_reducible rfl) | (go_simp; (try unfold Instr.field); go_simp; (try simp only [asAgg]); go_simp; with_reducible rfl)
                   rotate_left
                   ·simp only [Act.put, List.setIfInBounds_toArray, List.set_cons_zero, List.set_cons_succ, i64_w, i32_w]
                    rfl
                   refine pure_ (i := 24) (N := some 57) (v := ?_) (a' := ?_) #[true, false, true, false, false, false, false, true, false, false, false, false, true, false, false, false, false, false, true, false, false, false, false, false, true, false, false, false] rfl rfl (any_of HT_.out (by kernel_rfl)) (fun _ _ _ h => h) (Or.inl ⟨by rfl, ?_⟩) ?_ ?_
                   rotate_left
                   ·intro w'
                    first | (go_simp; with_reducible rfl) | (go_simp; (try unfold Instr.field); go_simp; (try simp only [asAgg]); go_simp; with_reducible rfl)
                   rotate_left
                   ·simp only [Act.put, List.setIfInBounds_toArray, List.set_cons_zero, List.set_cons_succ, i64_w, i32_w]
                    rfl
                   refine inv_at [1, 3, 4, 5, 6, 8, 9, 10, 11, 13, 14, 15, 16, 17, 19, 20, 21, 22, 23, 25, 26, 27] (fun a0_ b a w' => ∃ (v169 : Value) (adz_v169 : Addr) (m20_ : Value), a = putSel a0_ b [(1, 34, .string (x3_1 ++ (⟨#[98, 97, 99, 107, 101, 110, 100, 32]⟩ : ByteArray))), (3, 36, .int .i64 ((rd_T56 s0_1 x4_1).f0)), (4, 37, .string t165), (5, 38, .string ((x3_1 ++ (⟨#[98, 97, 99, 107, 101, 110, 100, 32]⟩ : ByteArray)) ++ t165)), (6, 39, .string (((x3_1 ++ (⟨#[98, 97, 99, 107, 101, 110, 100, 32]⟩ : ByteArray)) ++ t165) ++ (⟨#[32]⟩ : ByteArray))), (8, 41, .int .i64 ((rd_T56 s0_1 x4_1).f1)), (9, 42, .string t166), (10, 43, .string ((((x3_1 ++ (⟨#[98, 97, 99, 107, 101, 110, 100, 32]⟩ : ByteArray)) ++ t165) ++ (⟨#[32]⟩ : ByteArray)) ++ t166)), (11, 44, .string (((((x3_1 ++ (⟨#[98, 97, 99, 107, 101, 110, 100, 32]⟩ : ByteArray)) ++ t165) ++ (⟨#[32]⟩ : ByteArray)) ++ t166) ++ (⟨#[32]⟩ : ByteArray))), (13, 46, .int .i64 ((rd_T56 s0_1 x4_1).f2)), (14, 47, .string t167), (15, 48, .string ((((((x3_1 ++ (⟨#[98, 97, 99, 107, 101, 110, 100, 32]⟩ : ByteArray)) ++ t165) ++ (⟨#[32]⟩ : ByteArray)) ++ t166) ++ (⟨#[32]⟩ : ByteArray)) ++ t167)), (16, 49, .string (((((((x3_1 ++ (⟨#[98, 97, 99, 107, 101, 110, 100, 32]⟩ : ByteArray)) ++ t165) ++ (⟨#[32]⟩ : ByteArray)) ++ t166) ++ (⟨#[32]⟩ : ByteArray)) ++ t167) ++ (⟨#[32]⟩ : ByteArray))), (17, 50, v169), (19, 52, .int .i64 ((rd_T56 s0_1 x4_1).f3)), (20, 53, m20_), (21, 54, .string (rdOf ByteArray.empty y168 ((rd_T56 s0_1 x4_1).f3))), (22, 55, .string ((((((((x3_1 ++ (⟨#[98, 97, 99, 107, 101, 110, 100, 32]⟩ : ByteArray)) ++ t165) ++ (⟨#[32]⟩ : ByteArray)) ++ t166) ++ (⟨#[32]⟩ : ByteArray)) ++ t167) ++ (⟨#[32]⟩ : ByteArray)) ++ (rdOf ByteArray.empty y168 ((rd_T56 s0_1 x4_1).f3)))), (23, 56, .string (((((((((x3_1 ++ (⟨#[98, 97, 99, 107, 101, 110, 100, 32]⟩ : ByteArray)) ++ t165) ++ (⟨#[32]⟩ : ByteArray)) ++ t166) ++ (⟨#[32]⟩ : ByteArray)) ++ t167) ++ (⟨#[32]⟩ : ByteArray)) ++ (rdOf ByteArray.empty y168 ((rd_T56 s0_1 x4_1).f3))) ++ (⟨#[32]⟩ : ByteArray))), (25, 58, .string ((((((((((x3_1 ++ (⟨#[98, 97, 99, 107, 101, 110, 100, 32]⟩ : ByteArray)) ++ t165) ++ (⟨#[32]⟩ : ByteArray)) ++ t166) ++ (⟨#[32]⟩ : ByteArray)) ++ t167) ++ (⟨#[32]⟩ : ByteArray)) ++ (rdOf ByteArray.empty y168 ((rd_T56 s0_1 x4_1).f3))) ++ (⟨#[32]⟩ : ByteArray)) ++ (⟨#[117, 112]⟩ : ByteArray))), (26, 59, .string (((((((((((x3_1 ++ (⟨#[98, 97, 99, 107, 101, 110, 100, 32]⟩ : ByteArray)) ++ t165) ++ (⟨#[32]⟩ : ByteArray)) ++ t166) ++ (⟨#[32]⟩ : ByteArray)) ++ t167) ++ (⟨#[32]⟩ : ByteArray)) ++ (rdOf ByteArray.empty y168 ((rd_T56 s0_1 x4_1).f3))) ++ (⟨#[32]⟩ : ByteArray)) ++ (⟨#[117, 112]⟩ : ByteArray)) ++ (⟨#[10]⟩ : ByteArray))), (27, 3, .string (((((((((((x3_1 ++ (⟨#[98, 97, 99, 107, 101, 110, 100, 32]⟩ : ByteArray)) ++ t165) ++ (⟨#[32]⟩ : ByteArray)) ++ t166) ++ (⟨#[32]⟩ : ByteArray)) ++ t167) ++ (⟨#[32]⟩ : ByteArray)) ++ (rdOf ByteArray.empty y168 ((rd_T56 s0_1 x4_1).f3))) ++ (⟨#[32]⟩ : ByteArray)) ++ (⟨#[117, 112]⟩ : ByteArray)) ++ (⟨#[10]⟩ : ByteArray)))] ∧ (w'.heap[gb164]? = some (.cells #[.int .i64 ((rd_T56 s0_1 x4_1).f0), .int .i64 ((rd_T56 s0_1 x4_1).f1), .int .i64 ((rd_T56 s0_1 x4_1).f2), .int .i64 ((rd_T56 s0_1 x4_1).f3), .bool true] 56 (0, 0))) ∧ (IsS33 w0 w' g s0_0 s0_1 s0_2) ∧ (KeepBut w w' g none) ∧ (Below w0.heap.size w0 w') ∧ (b 17 = true → Kd.R Kd.string 9 w' w.heap.size (fun _ => True) v169 y168) ∧ (b 17 = true → ∃ c_, (v169 : Value) = .slice (some adz_v169) y168.length c_) ∧ (b 20 = true → (m20_ : Value) = .pointer (some (adz_v169.add (((rd_T56 s0_1 x4_1).f3)).toNat)))) HT_.out HW_.out (by kernel_rfl) (by kernel_rfl) ?_ ?_ ?_
                   ·exact ⟨.bool false, ⟨0, 0, none⟩, .bool false, by simp only [putSel, Bool.false_eq_true, if_false], BK164.out, HI0.out, HK.out, HB.out, fun h_ => absurd h_ (by decide), fun h_ => absurd h_ (by decide), fun h_ => absurd h_ (by decide)⟩
                   ·skip
                    clear BK164 HB HI0 HK
                    refine steps_cons ?_ ?_
                    ·rintro b a w' ⟨v169, adz_v169, m20_, ha, Q_BK164, Q_HI0, Q_HK, Q_HB, Q_HO170, Q_HA_HO170, Q_X20_⟩ hb_ hon hoff
                     refine ⟨_, rfl, fun K hK => ?_⟩
                     have e33 : a.tmps[33]? = some (.string x3_1) := by rw [ha]; exact (putSel_off rfl).trans rfl
                     replace ha := Aside0.mk ha
                     have BK164 := Aside0.mk Q_BK164
                     have HI0 := Aside0.mk Q_HI0
                     have HK := Aside0.mk Q_HK
                     have HB := Aside0.mk Q_HB
                     refine value_ (w1 := w') (v := .string (x3_1 ++ (⟨#[98, 97, 99, 107, 101, 110, 100, 32]⟩ : ByteArray))) (by rfl) rfl ?_ ?_
                     ·go_simp
                      (try simp only [i64_w])
                      try rfl
                     refine hK.out _ _ ⟨v169, adz_v169, m20_, (by rw [ha.out]; exact putSel_upk 0 hb_ rfl rfl rfl), Q_BK164, Q_HI0, Q_HK, Q_HB, Q_HO170, Q_HA_HO170, Q_X20_⟩
                    refine steps_cons ?_ ?_
                    ·rintro b a w' ⟨v169, adz_v169, m20_, ha, Q_BK164, Q_HI0, Q_HK, Q_HB, Q_HO170, Q_HA_HO170, Q_X20_⟩ hb_ hon hoff
                     refine ⟨_, rfl, fun K hK => ?_⟩
                     have e35 : a.tmps[35]? = some (.pointer (some ⟨gb164, 0, none⟩)) := by rw [ha]; exact (putSel_off rfl).trans rfl
                     replace ha := Aside0.mk ha
                     have BK164 := Aside0.mk Q_BK164
                     have HI0 := Aside0.mk Q_HI0
                     have HK := Aside0.mk Q_HK
                     have HB := Aside0.mk Q_HB
                     have hc0_ : w'.cell? ⟨gb164, 0, none⟩ = some (.int .i64 ((rd_T56 s0_1 x4_1).f0)) := (blk_cell BK164.out 0).trans rfl
                     have hc1_ : w'.cell? ⟨gb164, 1, none⟩ = some (.int .i64 ((rd_T56 s0_1 x4_1).f1)) := (blk_cell BK164.out 1).trans rfl
                     have hc2_ : w'.cell? ⟨gb164, 2, none⟩ = some (.int .i64 ((rd_T56 s0_1 x4_1).f2)) := (blk_cell BK164.out 2).trans rfl
                     have hc3_ : w'.cell? ⟨gb164, 3, none⟩ = some (.int .i64 ((rd_T56 s0_1 x4_1).f3)) := (blk_cell BK164.out 3).trans rfl
                     have hc4_ : w'.cell? ⟨gb164, 4, none⟩ = some (.bool true) := (blk_cell BK164.out 4).trans rfl
                     refine value_ (w1 := w') (v := .int .i64 ((rd_T56 s0_1 x4_1).f0)) (by rfl) rfl ?_ ?_
                     ·go_simp
                      (try simp only [i64_w])
                      try rfl
                     refine hK.out _ _ ⟨v169, adz_v169, m20_, (by rw [ha.out]; exact putSel_upk 1 hb_ rfl rfl rfl), Q_BK164, Q_HI0, Q_HK, Q_HB, Q_HO170, Q_HA_HO170, Q_X20_⟩
                    refine steps_cons ?_ ?_
                    ·rintro b a w' ⟨v169, adz_v169, m20_, ha, Q_BK164, Q_HI0, Q_HK, Q_HB, Q_HO170, Q_HA_HO170, Q_X20_⟩ hb_ hon hoff
                     refine ⟨_, rfl, fun K hK => ?_⟩
                     have e36 : a.tmps[36]? = some (.int .i64 ((rd_T56 s0_1 x4_1).f0)) := by rw [ha]; exact putSel_on (e := (3, 36, .int .i64 ((rd_T56 s0_1 x4_1).f0))) 1 rfl rfl (hon 3 (by kernel_rfl)) rfl
                     replace ha := Aside0.mk ha
                     have BK164 := Aside0.mk Q_BK164
                     have HI0 := Aside0.mk Q_HI0
                     have HK := Aside0.mk Q_HK
                     have HB := Aside0.mk Q_HB
                     refine goes_ Tryd.func25 (by kernel_rfl) rfl #[.int .i64 ((rd_T56 s0_1 x4_1).f0)] (by rfl) rfl rfl (by first | (simp only [List.map_toArray, List.map_cons, List.map_nil, Act.eval, Array.getD_eq_getD_getElem?, Option.getD_some, e36]; done) | (simp only [List.map_toArray, List.map_cons, List.map_nil, Act.eval, Array.getD_eq_getD_getElem?, Option.getD_some, e36]; rfl)) ?_
                     with_reducible refine (spec_l2Digits.calls k1 ((rd_T56 s0_1 x4_1).f0) t165 _ A13.out).mono ?_
                     rintro e w34 ⟨rfl, hb⟩
                     refine ⟨_, rfl, ?_⟩
                     have n0_ := Aside0.mk (IsS33.below (by repeat (first | (with_reducible first | exact HI0.out | apply IsS33.alloc | apply IsS33.drewN | apply IsS33.drew | apply IsS33.set_0 | refine IsS33.far ?_ NB0_164.out _) | exact HI0.out)) hb)
                     have n1_ := Aside0.mk (blk_below (g := gb164) (o := .cells #[.int .i64 ((rd_T56 s0_1 x4_1).f0), .int .i64 ((rd_T56 s0_1 x4_1).f1), .int .i64 ((rd_T56 s0_1 x4_1).f2), .int .i64 ((rd_T56 s0_1 x4_1).f3), .bool true] 56 (0, 0)) (by (with_reducible repeat (first | refine blk_drewN ?_ _ | refine blk_drew ?_ | refine blk_alloc ?_ _)); exact BK164.out) hb)
                     have n2_ := Aside0.mk (KeepBut.trans (by repeat (first | (with_reducible first | exact HK.out | apply KeepBut.set_ | apply keep_drewN | apply keep_drew | apply keep_alloc | refine keep_far ?_ GW164.out _) | exact HK.out)) (KeepBut.of_below hb g none) (.inl rfl))
                     have n3_ := Aside0.mk (below_step (by repeat (first | (with_reducible first | exact HB.out | apply below_alloc | apply pw_below_drewN | apply below_drew1 | refine below_set ?_ (IsS33.ge HI0.out) | refine below_set ?_ GE164.out) | exact HB.out)) hb)
                     have z_HO170 := fun (h0_ : b 17 = true) => (show Kd.R Kd.string 9 w34 w.heap.size (fun _ => True) v169 y168 from by first | exact (Kd.R_below (by (with_reducible repeat (first | apply Kd.R_alloc | apply Kd.R_drewN | apply Kd.R_drew)); exact (Q_HO170 h0_)) hb) | exact Kd.R_mono (Kd.R_below (by (with_reducible repeat (first | apply Kd.R_alloc | apply Kd.R_drewN | apply Kd.R_drew)); exact (Q_HO170 h0_)) hb) (fun _ h_ => by first | trivial | exact h_ | exact h_.1))
                     clear HI0
                     clear BK164
                     clear HK
                     clear HB
                     have HI0 := n0_
                     have BK164 := n1_
                     have HK := n2_
                     have HB := n3_
                     clear n0_ n1_ n2_ n3_
                     (try clear hb)
                     (try clear hb2)
                     (try clear hk)
                     (try clear hi)
                     refine hK.out _ _ ⟨v169, adz_v169, m20_, (by rw [ha.out]; exact putSel_upk 2 hb_ rfl rfl rfl), (by (with_reducible repeat (first | refine blk_drewN ?_ _ | refine blk_drew ?_ | refine blk_alloc ?_ _)); exact BK164.out), (by repeat (first | (with_reducible first | exact HI0.out | apply IsS33.alloc | apply IsS33.drewN | apply IsS33.drew | apply IsS33.set_0 | refine IsS33.far ?_ NB0_164.out _) | exact HI0.out)), (by repeat (first | (with_reducible first | exact HK.out | apply KeepBut.set_ | apply keep_drewN | apply keep_drew | apply keep_alloc | refine keep_far ?_ GW164.out _) | exact HK.out)), (by repeat (first | (with_reducible first | exact HB.out | apply below_alloc | apply pw_below_drewN | apply below_drew1 | refine below_set ?_ (IsS33.ge HI0.out) | refine below_set ?_ GE164.out) | exact HB.out)), z_HO170, Q_HA_HO170, Q_X20_⟩
                    refine steps_cons ?_ ?_
                    ·rintro b a w' ⟨v169, adz_v169, m20_, ha, Q_BK164, Q_HI0, Q_HK, Q_HB, Q_HO170, Q_HA_HO170, Q_X20_⟩ hb_ hon hoff
                     refine ⟨_, rfl, fun K hK => ?_⟩
                     have e34 : a.tmps[34]? = some (.string (x3_1 ++ (⟨#[98, 97, 99, 107, 101, 110, 100, 32]⟩ : ByteArray))) := by rw [ha]; exact putSel_on (e := (1, 34, .string (x3_1 ++ (⟨#[98, 97, 99, 107, 101, 110, 100, 32]⟩ : ByteArray)))) 0 rfl rfl (hon 1 (by kernel_rfl)) rfl
                     have e37 : a.tmps[37]? = some (.string t165) := by rw [ha]; exact putSel_on (e := (4, 37, .string t165)) 2 rfl rfl (hon 4 (by kernel_rfl)) rfl
                     replace ha := Aside0.mk ha
                     have BK164 := Aside0.mk Q_BK164
                     have HI0 := Aside0.mk Q_HI0
                     have HK := Aside0.mk Q_HK
                     have HB := Aside0.mk Q_HB
                     refine value_ (w1 := w') (v := .string ((x3_1 ++ (⟨#[98, 97, 99, 107, 101, 110, 100, 32]⟩ : ByteArray)) ++ t165)) (by rfl) rfl ?_ ?_
                     ·go_simp
                      (try simp only [i64_w])
                      try rfl
                     refine hK.out _ _ ⟨v169, adz_v169, m20_, (by rw [ha.out]; exact putSel_upk 3 hb_ rfl rfl rfl), Q_BK164, Q_HI0, Q_HK, Q_HB, Q_HO170, Q_HA_HO170, Q_X20_⟩
                    refine steps_cons ?_ ?_
                    ·rintro b a w' ⟨v169, adz_v169, m20_, ha, Q_BK164, Q_HI0, Q_HK, Q_HB, Q_HO170, Q_HA_HO170, Q_X20_⟩ hb_ hon hoff
                     refine ⟨_, rfl, fun K hK => ?_⟩
                     have e38 : a.tmps[38]? = some (.string ((x3_1 ++ (⟨#[98, 97, 99, 107, 101, 110, 100, 32]⟩ : ByteArray)) ++ t165)) := by rw [ha]; exact putSel_on (e := (5, 38, .string ((x3_1 ++ (⟨#[98, 97, 99, 107, 101, 110, 100, 32]⟩ : ByteArray)) ++ t165))) 3 rfl rfl (hon 5 (by kernel_rfl)) rfl
                     replace ha := Aside0.mk ha
                     have BK164 := Aside0.mk Q_BK164
                     have HI0 := Aside0.mk Q_HI0
                     have HK := Aside0.mk Q_HK
                     have HB := Aside0.mk Q_HB
                     refine value_ (w1 := w') (v := .string (((x3_1 ++ (⟨#[98, 97, 99, 107, 101, 110, 100, 32]⟩ : ByteArray)) ++ t165) ++ (⟨#[32]⟩ : ByteArray))) (by rfl) rfl ?_ ?_
                     ·go_simp
                      (try simp only [i64_w])
                      try rfl
                     refine hK.out _ _ ⟨v169, adz_v169, m20_, (by rw [ha.out]; exact putSel_upk 4 hb_ rfl rfl rfl), Q_BK164, Q_HI0, Q_HK, Q_HB, Q_HO170, Q_HA_HO170, Q_X20_⟩
                    refine steps_cons ?_ ?_
                    ·rintro b a w' ⟨v169, adz_v169, m20_, ha, Q_BK164, Q_HI0, Q_HK, Q_HB, Q_HO170, Q_HA_HO170, Q_X20_⟩ hb_ hon hoff
                     refine ⟨_, rfl, fun K hK => ?_⟩
                     have e40 : a.tmps[40]? = some (.pointer (some ⟨gb164, 1, none⟩)) := by rw [ha]; exact (putSel_off rfl).trans rfl
                     replace ha := Aside0.mk ha
                     have BK164 := Aside0.mk Q_BK164
                     have HI0 := Aside0.mk Q_HI0
                     have HK := Aside0.mk Q_HK
                     have HB := Aside0.mk Q_HB
                     have hc0_ : w'.cell? ⟨gb164, 0, none⟩ = some (.int .i64 ((rd_T56 s0_1 x4_1).f0)) := (blk_cell BK164.out 0).trans rfl
                     have hc1_ : w'.cell? ⟨gb164, 1, none⟩ = some (.int .i64 ((rd_T56 s0_1 x4_1).f1)) := (blk_cell BK164.out 1).trans rfl
                     have hc2_ : w'.cell? ⟨gb164, 2, none⟩ = some (.int .i64 ((rd_T56 s0_1 x4_1).f2)) := (blk_cell BK164.out 2).trans rfl
                     have hc3_ : w'.cell? ⟨gb164, 3, none⟩ = some (.int .i64 ((rd_T56 s0_1 x4_1).f3)) := (blk_cell BK164.out 3).trans rfl
                     have hc4_ : w'.cell? ⟨gb164, 4, none⟩ = some (.bool true) := (blk_cell BK164.out 4).trans rfl
                     refine value_ (w1 := w') (v := .int .i64 ((rd_T56 s0_1 x4_1).f1)) (by rfl) rfl ?_ ?_
                     ·go_simp
                      (try simp only [i64_w])
                      try rfl
                     refine hK.out _ _ ⟨v169, adz_v169, m20_, (by rw [ha.out]; exact putSel_upk 5 hb_ rfl rfl rfl), Q_BK164, Q_HI0, Q_HK, Q_HB, Q_HO170, Q_HA_HO170, Q_X20_⟩
                    refine steps_cons ?_ ?_
                    ·rintro b a w' ⟨v169, adz_v169, m20_, ha, Q_BK164, Q_HI0, Q_HK, Q_HB, Q_HO170, Q_HA_HO170, Q_X20_⟩ hb_ hon hoff
                     refine ⟨_, rfl, fun K hK => ?_⟩
                     have e41 : a.tmps[41]? = some (.int .i64 ((rd_T56 s0_1 x4_1).f1)) := by rw [ha]; exact putSel_on (e := (8, 41, .int .i64 ((rd_T56 s0_1 x4_1).f1))) 5 rfl rfl (hon 8 (by kernel_rfl)) rfl
                     replace ha := Aside0.mk ha
                     have BK164 := Aside0.mk Q_BK164
                     have HI0 := Aside0.mk Q_HI0
                     have HK := Aside0.mk Q_HK
                     have HB := Aside0.mk Q_HB
                     refine goes_ Tryd.func26 (by kernel_rfl) rfl #[.int .i64 ((rd_T56 s0_1 x4_1).f1)] (by rfl) rfl rfl (by first | (simp only [List.map_toArray, List.map_cons, List.map_nil, Act.eval, Array.getD_eq_getD_getElem?, Option.getD_some, e41]; done) | (simp only [List.map_toArray, List.map_cons, List.map_nil, Act.eval, Array.getD_eq_getD_getElem?, Option.getD_some, e41]; rfl)) ?_
                     with_reducible refine (spec_l2Text.calls k1 ((rd_T56 s0_1 x4_1).f1) t166 _ A16.out).mono ?_
                     rintro e w36 ⟨rfl, hb⟩
                     refine ⟨_, rfl, ?_⟩
                     have n0_ := Aside0.mk (IsS33.below (by repeat (first | (with_reducible first | exact HI0.out | apply IsS33.alloc | apply IsS33.drewN | apply IsS33.drew | apply IsS33.set_0 | refine IsS33.far ?_ NB0_164.out _) | exact HI0.out)) hb)
                     have n1_ := Aside0.mk (blk_below (g := gb164) (o := .cells #[.int .i64 ((rd_T56 s0_1 x4_1).f0), .int .i64 ((rd_T56 s0_1 x4_1).f1), .int .i64 ((rd_T56 s0_1 x4_1).f2), .int .i64 ((rd_T56 s0_1 x4_1).f3), .bool true] 56 (0, 0)) (by (with_reducible repeat (first | refine blk_drewN ?_ _ | refine blk_drew ?_ | refine blk_alloc ?_ _)); exact BK164.out) hb)
                     have n2_ := Aside0.mk (KeepBut.trans (by repeat (first | (with_reducible first | exact HK.out | apply KeepBut.set_ | apply keep_drewN | apply keep_drew | apply keep_alloc | refine keep_far ?_ GW164.out _) | exact HK.out)) (KeepBut.of_below hb g none) (.inl rfl))
                     have n3_ := Aside0.mk (below_step (by repeat (first | (with_reducible first | exact HB.out | apply below_alloc | apply pw_below_drewN | apply below_drew1 | refine below_set ?_ (IsS33.ge HI0.out) | refine below_set ?_ GE164.out) | exact HB.out)) hb)
                     have z_HO170 := fun (h0_ : b 17 = true) => (show Kd.R Kd.string 9 w36 w.heap.size (fun _ => True) v169 y168 from by first | exact (Kd.R_below (by (with_reducible repeat (first | apply Kd.R_alloc | apply Kd.R_drewN | apply Kd.R_drew)); exact (Q_HO170 h0_)) hb) | exact Kd.R_mono (Kd.R_below (by (with_reducible repeat (first | apply Kd.R_alloc | apply Kd.R_drewN | apply Kd.R_drew)); exact (Q_HO170 h0_)) hb) (fun _ h_ => by first | trivial | exact h_ | exact h_.1))
                     clear HI0
                     clear BK164
                     clear HK
                     clear HB
                     have HI0 := n0_
                     have BK164 := n1_
                     have HK := n2_
                     have HB := n3_
                     clear n0_ n1_ n2_ n3_
                     (try clear hb)
                     (try clear hb2)
                     (try clear hk)
                     (try clear hi)
                     refine hK.out _ _ ⟨v169, adz_v169, m20_, (by rw [ha.out]; exact putSel_upk 6 hb_ rfl rfl rfl), (by (with_reducible repeat (first | refine blk_drewN ?_ _ | refine blk_drew ?_ | refine blk_alloc ?_ _)); exact BK164.out), (by repeat (first | (with_reducible first | exact HI0.out | apply IsS33.alloc | apply IsS33.drewN | apply IsS33.drew | apply IsS33.set_0 | refine IsS33.far ?_ NB0_164.out _) | exact HI0.out)), (by repeat (first | (with_reducible first | exact HK.out | apply KeepBut.set_ | apply keep_drewN | apply keep_drew | apply keep_alloc | refine keep_far ?_ GW164.out _) | exact HK.out)), (by repeat (first | (with_reducible first | exact HB.out | apply below_alloc | apply pw_below_drewN | apply below_drew1 | refine below_set ?_ (IsS33.ge HI0.out) | refine below_set ?_ GE164.out) | exact HB.out)), z_HO170, Q_HA_HO170, Q_X20_⟩
                    refine steps_cons ?_ ?_
                    ·rintro b a w' ⟨v169, adz_v169, m20_, ha, Q_BK164, Q_HI0, Q_HK, Q_HB, Q_HO170, Q_HA_HO170, Q_X20_⟩ hb_ hon hoff
                     refine ⟨_, rfl, fun K hK => ?_⟩
                     have e39 : a.tmps[39]? = some (.string (((x3_1 ++ (⟨#[98, 97, 99, 107, 101, 110, 100, 32]⟩ : ByteArray)) ++ t165) ++ (⟨#[32]⟩ : ByteArray))) := by rw [ha]; exact putSel_on (e := (6, 39, .string (((x3_1 ++ (⟨#[98, 97, 99, 107, 101, 110, 100, 32]⟩ : ByteArray)) ++ t165) ++ (⟨#[32]⟩ : ByteArray)))) 4 rfl rfl (hon 6 (by kernel_rfl)) rfl
                     have e42 : a.tmps[42]? = some (.string t166) := by rw [ha]; exact putSel_on (e := (9, 42, .string t166)) 6 rfl rfl (hon 9 (by kernel_rfl)) rfl
                     replace ha := Aside0.mk ha
                     have BK164 := Aside0.mk Q_BK164
                     have HI0 := Aside0.mk Q_HI0
                     have HK := Aside0.mk Q_HK
                     have HB := Aside0.mk Q_HB
                     refine value_ (w1 := w') (v := .string ((((x3_1 ++ (⟨#[98, 97, 99, 107, 101, 110, 100, 32]⟩ : ByteArray)) ++ t165) ++ (⟨#[32]⟩ : ByteArray)) ++ t166)) (by rfl) rfl ?_ ?_
                     ·go_simp
                      (try simp only [i64_w])
                      try rfl
                     refine hK.out _ _ ⟨v169, adz_v169, m20_, (by rw [ha.out]; exact putSel_upk 7 hb_ rfl rfl rfl), Q_BK164, Q_HI0, Q_HK, Q_HB, Q_HO170, Q_HA_HO170, Q_X20_⟩
                    refine steps_cons ?_ ?_
                    ·rintro b a w' ⟨v169, adz_v169, m20_, ha, Q_BK164, Q_HI0, Q_HK, Q_HB, Q_HO170, Q_HA_HO170, Q_X20_⟩ hb_ hon hoff
                     refine ⟨_, rfl, fun K hK => ?_⟩
                     have e43 : a.tmps[43]? = some (.string ((((x3_1 ++ (⟨#[98, 97, 99, 107, 101, 110, 100, 32]⟩ : ByteArray)) ++ t165) ++ (⟨#[32]⟩ : ByteArray)) ++ t166)) := by rw [ha]; exact putSel_on (e := (10, 43, .string ((((x3_1 ++ (⟨#[98, 97, 99, 107, 101, 110, 100, 32]⟩ : ByteArray)) ++ t165) ++ (⟨#[32]⟩ : ByteArray)) ++ t166))) 7 rfl rfl (hon 10 (by kernel_rfl)) rfl
                     replace ha := Aside0.mk ha
                     have BK164 := Aside0.mk Q_BK164
                     have HI0 := Aside0.mk Q_HI0
                     have HK := Aside0.mk Q_HK
                     have HB := Aside0.mk Q_HB
                     refine value_ (w1 := w') (v := .string (((((x3_1 ++ (⟨#[98, 97, 99, 107, 101, 110, 100, 32]⟩ : ByteArray)) ++ t165) ++ (⟨#[32]⟩ : ByteArray)) ++ t166) ++ (⟨#[32]⟩ : ByteArray))) (by rfl) rfl ?_ ?_
                     ·go_simp
                      (try simp only [i64_w])
                      try rfl
                     refine hK.out _ _ ⟨v169, adz_v169, m20_, (by rw [ha.out]; exact putSel_upk 8 hb_ rfl rfl rfl), Q_BK164, Q_HI0, Q_HK, Q_HB, Q_HO170, Q_HA_HO170, Q_X20_⟩
                    refine steps_cons ?_ ?_
                    ·rintro b a w' ⟨v169, adz_v169, m20_, ha, Q_BK164, Q_HI0, Q_HK, Q_HB, Q_HO170, Q_HA_HO170, Q_X20_⟩ hb_ hon hoff
                     refine ⟨_, rfl, fun K hK => ?_⟩
                     have e45 : a.tmps[45]? = some (.pointer (some ⟨gb164, 2, none⟩)) := by rw [ha]; exact (putSel_off rfl).trans rfl
                     replace ha := Aside0.mk ha
                     have BK164 := Aside0.mk Q_BK164
                     have HI0 := Aside0.mk Q_HI0
                     have HK := Aside0.mk Q_HK
                     have HB := Aside0.mk Q_HB
                     have hc0_ : w'.cell? ⟨gb164, 0, none⟩ = some (.int .i64 ((rd_T56 s0_1 x4_1).f0)) := (blk_cell BK164.out 0).trans rfl
                     have hc1_ : w'.cell? ⟨gb164, 1, none⟩ = some (.int .i64 ((rd_T56 s0_1 x4_1).f1)) := (blk_cell BK164.out 1).trans rfl
                     have hc2_ : w'.cell? ⟨gb164, 2, none⟩ = some (.int .i64 ((rd_T56 s0_1 x4_1).f2)) := (blk_cell BK164.out 2).trans rfl
                     have hc3_ : w'.cell? ⟨gb164, 3, none⟩ = some (.int .i64 ((rd_T56 s0_1 x4_1).f3)) := (blk_cell BK164.out 3).trans rfl
                     have hc4_ : w'.cell? ⟨gb164, 4, none⟩ = some (.bool true) := (blk_cell BK164.out 4).trans rfl
                     refine value_ (w1 := w') (v := .int .i64 ((rd_T56 s0_1 x4_1).f2)) (by rfl) rfl ?_ ?_
                     ·go_simp
                      (try simp only [i64_w])
                      try rfl
                     refine hK.out _ _ ⟨v169, adz_v169, m20_, (by rw [ha.out]; exact putSel_upk 9 hb_ rfl rfl rfl), Q_BK164, Q_HI0, Q_HK, Q_HB, Q_HO170, Q_HA_HO170, Q_X20_⟩
                    refine steps_cons ?_ ?_
                    ·rintro b a w' ⟨v169, adz_v169, m20_, ha, Q_BK164, Q_HI0, Q_HK, Q_HB, Q_HO170, Q_HA_HO170, Q_X20_⟩ hb_ hon hoff
                     refine ⟨_, rfl, fun K hK => ?_⟩
                     have e46 : a.tmps[46]? = some (.int .i64 ((rd_T56 s0_1 x4_1).f2)) := by rw [ha]; exact putSel_on (e := (13, 46, .int .i64 ((rd_T56 s0_1 x4_1).f2))) 9 rfl rfl (hon 13 (by kernel_rfl)) rfl
                     replace ha := Aside0.mk ha
                     have BK164 := Aside0.mk Q_BK164
                     have HI0 := Aside0.mk Q_HI0
                     have HK := Aside0.mk Q_HK
                     have HB := Aside0.mk Q_HB
                     refine goes_ Tryd.func25 (by kernel_rfl) rfl #[.int .i64 ((rd_T56 s0_1 x4_1).f2)] (by rfl) rfl rfl (by first | (simp only [List.map_toArray, List.map_cons, List.map_nil, Act.eval, Array.getD_eq_getD_getElem?, Option.getD_some, e46]; done) | (simp only [List.map_toArray, List.map_cons, List.map_nil, Act.eval, Array.getD_eq_getD_getElem?, Option.getD_some, e46]; rfl)) ?_
                     with_reducible refine (spec_l2Digits.calls k1 ((rd_T56 s0_1 x4_1).f2) t167 _ A19.out).mono ?_
                     rintro e w37 ⟨rfl, hb⟩
                     refine ⟨_, rfl, ?_⟩
                     have n0_ := Aside0.mk (IsS33.below (by repeat (first | (with_reducible first | exact HI0.out | apply IsS33.alloc | apply IsS33.drewN | apply IsS33.drew | apply IsS33.set_0 | refine IsS33.far ?_ NB0_164.out _) | exact HI0.out)) hb)
                     have n1_ := Aside0.mk (blk_below (g := gb164) (o := .cells #[.int .i64 ((rd_T56 s0_1 x4_1).f0), .int .i64 ((rd_T56 s0_1 x4_1).f1), .int .i64 ((rd_T56 s0_1 x4_1).f2), .int .i64 ((rd_T56 s0_1 x4_1).f3), .bool true] 56 (0, 0)) (by (with_reducible repeat (first | refine blk_drewN ?_ _ | refine blk_drew ?_ | refine blk_alloc ?_ _)); exact BK164.out) hb)
                     have n2_ := Aside0.mk (KeepBut.trans (by repeat (first | (with_reducible first | exact HK.out | apply KeepBut.set_ | apply keep_drewN | apply keep_drew | apply keep_alloc | refine keep_far ?_ GW164.out _) | exact HK.out)) (KeepBut.of_below hb g none) (.inl rfl))
                     have n3_ := Aside0.mk (below_step (by repeat (first | (with_reducible first | exact HB.out | apply below_alloc | apply pw_below_drewN | apply below_drew1 | refine below_set ?_ (IsS33.ge HI0.out) | refine below_set ?_ GE164.out) | exact HB.out)) hb)
                     have z_HO170 := fun (h0_ : b 17 = true) => (show Kd.R Kd.string 9 w37 w.heap.size (fun _ => True) v169 y168 from by first | exact (Kd.R_below (by (with_reducible repeat (first | apply Kd.R_alloc | apply Kd.R_drewN | apply Kd.R_drew)); exact (Q_HO170 h0_)) hb) | exact Kd.R_mono (Kd.R_below (by (with_reducible repeat (first | apply Kd.R_alloc | apply Kd.R_drewN | apply Kd.R_drew)); exact (Q_HO170 h0_)) hb) (fun _ h_ => by first | trivial | exact h_ | exact h_.1))
                     clear HI0
                     clear BK164
                     clear HK
                     clear HB
                     have HI0 := n0_
                     have BK164 := n1_
                     have HK := n2_
                     have HB := n3_
                     clear n0_ n1_ n2_ n3_
                     (try clear hb)
                     (try clear hb2)
                     (try clear hk)
                     (try clear hi)
                     refine hK.out _ _ ⟨v169, adz_v169, m20_, (by rw [ha.out]; exact putSel_upk 10 hb_ rfl rfl rfl), (by (with_reducible repeat (first | refine blk_drewN ?_ _ | refine blk_drew ?_ | refine blk_alloc ?_ _)); exact BK164.out), (by repeat (first | (with_reducible first | exact HI0.out | apply IsS33.alloc | apply IsS33.drewN | apply IsS33.drew | apply IsS33.set_0 | refine IsS33.far ?_ NB0_164.out _) | exact HI0.out)), (by repeat (first | (with_reducible first | exact HK.out | apply KeepBut.set_ | apply keep_drewN | apply keep_drew | apply keep_alloc | refine keep_far ?_ GW164.out _) | exact HK.out)), (by repeat (first | (with_reducible first | exact HB.out | apply below_alloc | apply pw_below_drewN | apply below_drew1 | refine below_set ?_ (IsS33.ge HI0.out) | refine below_set ?_ GE164.out) | exact HB.out)), z_HO170, Q_HA_HO170, Q_X20_⟩
                    refine steps_cons ?_ ?_
                    ·rintro b a w' ⟨v169, adz_v169, m20_, ha, Q_BK164, Q_HI0, Q_HK, Q_HB, Q_HO170, Q_HA_HO170, Q_X20_⟩ hb_ hon hoff
                     refine ⟨_, rfl, fun K hK => ?_⟩
                     have e44 : a.tmps[44]? = some (.string (((((x3_1 ++ (⟨#[98, 97, 99, 107, 101, 110, 100, 32]⟩ : ByteArray)) ++ t165) ++ (⟨#[32]⟩ : ByteArray)) ++ t166) ++ (⟨#[32]⟩ : ByteArray))) := by rw [ha]; exact putSel_on (e := (11, 44, .string (((((x3_1 ++ (⟨#[98, 97, 99, 107, 101, 110, 100, 32]⟩ : ByteArray)) ++ t165) ++ (⟨#[32]⟩ : ByteArray)) ++ t166) ++ (⟨#[32]⟩ : ByteArray)))) 8 rfl rfl (hon 11 (by kernel_rfl)) rfl
                     have e47 : a.tmps[47]? = some (.string t167) := by rw [ha]; exact putSel_on (e := (14, 47, .string t167)) 10 rfl rfl (hon 14 (by kernel_rfl)) rfl
                     replace ha := Aside0.mk ha
                     have BK164 := Aside0.mk Q_BK164
                     have HI0 := Aside0.mk Q_HI0
                     have HK := Aside0.mk Q_HK
                     have HB := Aside0.mk Q_HB
                     refine value_ (w1 := w') (v := .string ((((((x3_1 ++ (⟨#[98, 97, 99, 107, 101, 110, 100, 32]⟩ : ByteArray)) ++ t165) ++ (⟨#[32]⟩ : ByteArray)) ++ t166) ++ (⟨#[32]⟩ : ByteArray)) ++ t167)) (by rfl) rfl ?_ ?_
                     ·go_simp
                      (try simp only [i64_w])
                      try rfl
                     refine hK.out _ _ ⟨v169, adz_v169, m20_, (by rw [ha.out]; exact putSel_upk 11 hb_ rfl rfl rfl), Q_BK164, Q_HI0, Q_HK, Q_HB, Q_HO170, Q_HA_HO170, Q_X20_⟩
                    refine steps_cons ?_ ?_
                    ·rintro b a w' ⟨v169, adz_v169, m20_, ha, Q_BK164, Q_HI0, Q_HK, Q_HB, Q_HO170, Q_HA_HO170, Q_X20_⟩ hb_ hon hoff
                     refine ⟨_, rfl, fun K hK => ?_⟩
                     have e48 : a.tmps[48]? = some (.string ((((((x3_1 ++ (⟨#[98, 97, 99, 107, 101, 110, 100, 32]⟩ : ByteArray)) ++ t165) ++ (⟨#[32]⟩ : ByteArray)) ++ t166) ++ (⟨#[32]⟩ : ByteArray)) ++ t167)) := by rw [ha]; exact putSel_on (e := (15, 48, .string ((((((x3_1 ++ (⟨#[98, 97, 99, 107, 101, 110, 100, 32]⟩ : ByteArray)) ++ t165) ++ (⟨#[32]⟩ : ByteArray)) ++ t166) ++ (⟨#[32]⟩ : ByteArray)) ++ t167))) 11 rfl rfl (hon 15 (by kernel_rfl)) rfl
                     replace ha := Aside0.mk ha
                     have BK164 := Aside0.mk Q_BK164
                     have HI0 := Aside0.mk Q_HI0
                     have HK := Aside0.mk Q_HK
                     have HB := Aside0.mk Q_HB
                     refine value_ (w1 := w') (v := .string (((((((x3_1 ++ (⟨#[98, 97, 99, 107, 101, 110, 100, 32]⟩ : ByteArray)) ++ t165) ++ (⟨#[32]⟩ : ByteArray)) ++ t166) ++ (⟨#[32]⟩ : ByteArray)) ++ t167) ++ (⟨#[32]⟩ : ByteArray))) (by rfl) rfl ?_ ?_
                     ·go_simp
                      (try simp only [i64_w])
                      try rfl
                     refine hK.out _ _ ⟨v169, adz_v169, m20_, (by rw [ha.out]; exact putSel_upk 12 hb_ rfl rfl rfl), Q_BK164, Q_HI0, Q_HK, Q_HB, Q_HO170, Q_HA_HO170, Q_X20_⟩
                    refine steps_cons ?_ ?_
                    ·rintro b a w' ⟨v169, adz_v169, m20_, ha, Q_BK164, Q_HI0, Q_HK, Q_HB, Q_HO170, Q_HA_HO170, Q_X20_⟩ hb_ hon hoff
                     refine ⟨_, rfl, fun K hK => ?_⟩
                     replace ha := Aside0.mk ha
                     have BK164 := Aside0.mk Q_BK164
                     have HI0 := Aside0.mk Q_HI0
                     have HK := Aside0.mk Q_HK
                     have HB := Aside0.mk Q_HB
                     refine Kd.R_lit_step Kd.string _ 9 ?hg (N := 50) ?hd (xs := ([(⟨#[]⟩ : ByteArray), (⟨#[111, 110]⟩ : ByteArray), (⟨#[100, 114, 97, 105, 110]⟩ : ByteArray), (⟨#[111, 102, 102]⟩ : ByteArray)] : List ByteArray)) (inner := [.string (⟨#[]⟩ : ByteArray), .string (⟨#[111, 110]⟩ : ByteArray), .string (⟨#[100, 114, 97, 105, 110]⟩ : ByteArray), .string (⟨#[111, 102, 102]⟩ : ByteArray)]) (ok := fun _ => True) (okp := fun _ => True) ?hr ?hp (fun _ hk => hk) trivial (Below.refl _ _) (Nat.le_refl _) (by simp) ?_; (case hd => rfl); (case hg => rfl); (case hr => first | (go_simp; done) | (go_simp; rfl)); (case hp => exact (Reps.one (show Kd.M Kd.string _ _ _ (⟨#[]⟩ : ByteArray) [.string (⟨#[]⟩ : ByteArray)] from rfl) (Reps.one (show Kd.M Kd.string _ _ _ (⟨#[111, 110]⟩ : ByteArray) [.string (⟨#[111, 110]⟩ : ByteArray)] from rfl) (Reps.one (show Kd.M Kd.string _ _ _ (⟨#[100, 114, 97, 105, 110]⟩ : ByteArray) [.string (⟨#[100, 114, 97, 105, 110]⟩ : ByteArray)] from rfl) (Reps.one (show Kd.M Kd.string _ _ _ (⟨#[111, 102, 102]⟩ : ByteArray) [.string (⟨#[111, 102, 102]⟩ : ByteArray)] from rfl) (Reps.none _ _))))))
                     intro v169 w34 ho35 hb hg_ hnew_
                     clear hg_ hnew_
                     (first | rw [← Ny168.out] at ho35 | (simp only [Int.reduceToNat] at ho35; rw [← Ny168.out] at ho35))
                     have n0_ := Aside0.mk (Kd.R_lower ho35 (keep_size (w := w) (g := g) (row := none) (by repeat (first | (with_reducible first | exact HK.out | apply KeepBut.set_ | apply keep_drewN | apply keep_drew | apply keep_alloc | refine keep_far ?_ GW164.out _) | exact HK.out))))
                     have n1_ := Aside0.mk (IsS33.below (by repeat (first | (with_reducible first | exact HI0.out | apply IsS33.alloc | apply IsS33.drewN | apply IsS33.drew | apply IsS33.set_0 | refine IsS33.far ?_ NB0_164.out _) | exact HI0.out)) hb)
                     have n2_ := Aside0.mk (blk_below (g := gb164) (o := .cells #[.int .i64 ((rd_T56 s0_1 x4_1).f0), .int .i64 ((rd_T56 s0_1 x4_1).f1), .int .i64 ((rd_T56 s0_1 x4_1).f2), .int .i64 ((rd_T56 s0_1 x4_1).f3), .bool true] 56 (0, 0)) (by (with_reducible repeat (first | refine blk_drewN ?_ _ | refine blk_drew ?_ | refine blk_alloc ?_ _)); exact BK164.out) hb)
                     have n3_ := Aside0.mk (KeepBut.trans (by repeat (first | (with_reducible first | exact HK.out | apply KeepBut.set_ | apply keep_drewN | apply keep_drew | apply keep_alloc | refine keep_far ?_ GW164.out _) | exact HK.out)) (KeepBut.of_below hb g none) (.inl rfl))
                     have n4_ := Aside0.mk (below_step (by repeat (first | (with_reducible first | exact HB.out | apply below_alloc | apply pw_below_drewN | apply below_drew1 | refine below_set ?_ (IsS33.ge HI0.out) | refine below_set ?_ GE164.out) | exact HB.out)) hb)
                     clear HI0
                     clear BK164
                     clear HK
                     clear HB
                     have HO170 := n0_
                     have HI0 := n1_
                     have BK164 := n2_
                     have HK := n3_
                     have HB := n4_
                     clear n0_ n1_ n2_ n3_ n4_
                     clear hb ho35
                     obtain ⟨Ao36, co36, eo36⟩ := Kd.R_slice HO170.out
                     subst eo36
                     obtain ⟨ado36, fo36, _⟩ := Kd.at_string (Kd.R_reads' HO170.out).2.2 0 (by decide) (by rw [Ny168.out]; simp)
                     cases fo36
                     refine hK.out _ _ ⟨.slice (some ado36) y168.length co36, ado36, m20_, (by rw [ha.out]; exact putSel_upk 13 hb_ rfl rfl rfl), (by (with_reducible repeat (first | refine blk_drewN ?_ _ | refine blk_drew ?_ | refine blk_alloc ?_ _)); exact BK164.out), (by repeat (first | (with_reducible first | exact HI0.out | apply IsS33.alloc | apply IsS33.drewN | apply IsS33.drew | apply IsS33.set_0 | refine IsS33.far ?_ NB0_164.out _) | exact HI0.out)), (by repeat (first | (with_reducible first | exact HK.out | apply KeepBut.set_ | apply keep_drewN | apply keep_drew | apply keep_alloc | refine keep_far ?_ GW164.out _) | exact HK.out)), (by repeat (first | (with_reducible first | exact HB.out | apply below_alloc | apply pw_below_drewN | apply below_drew1 | refine below_set ?_ (IsS33.ge HI0.out) | refine below_set ?_ GE164.out) | exact HB.out)), fun _ => (by (with_reducible repeat (first | apply Kd.R_alloc | apply Kd.R_drewN | apply Kd.R_drew)); exact HO170.out), fun _ => ⟨_, rfl⟩, fun h0_ => absurd ((hoff 20 (by kernel_rfl)).symm.trans h0_) (by decide)⟩
                    refine steps_cons ?_ ?_
                    ·rintro b a w' ⟨v169, adz_v169, m20_, ha, Q_BK164, Q_HI0, Q_HK, Q_HB, Q_HO170, Q_HA_HO170, Q_X20_⟩ hb_ hon hoff
                     refine ⟨_, rfl, fun K hK => ?_⟩
                     have e51 : a.tmps[51]? = some (.pointer (some ⟨gb164, 3, none⟩)) := by rw [ha]; exact (putSel_off rfl).trans rfl
                     replace ha := Aside0.mk ha
                     have BK164 := Aside0.mk Q_BK164
                     have HI0 := Aside0.mk Q_HI0
                     have HK := Aside0.mk Q_HK
                     have HB := Aside0.mk Q_HB
                     have hc0_ : w'.cell? ⟨gb164, 0, none⟩ = some (.int .i64 ((rd_T56 s0_1 x4_1).f0)) := (blk_cell BK164.out 0).trans rfl
                     have hc1_ : w'.cell? ⟨gb164, 1, none⟩ = some (.int .i64 ((rd_T56 s0_1 x4_1).f1)) := (blk_cell BK164.out 1).trans rfl
                     have hc2_ : w'.cell? ⟨gb164, 2, none⟩ = some (.int .i64 ((rd_T56 s0_1 x4_1).f2)) := (blk_cell BK164.out 2).trans rfl
                     have hc3_ : w'.cell? ⟨gb164, 3, none⟩ = some (.int .i64 ((rd_T56 s0_1 x4_1).f3)) := (blk_cell BK164.out 3).trans rfl
                     have hc4_ : w'.cell? ⟨gb164, 4, none⟩ = some (.bool true) := (blk_cell BK164.out 4).trans rfl
                     refine value_ (w1 := w') (v := .int .i64 ((rd_T56 s0_1 x4_1).f3)) (by rfl) rfl ?_ ?_
                     ·go_simp
                      (try simp only [i64_w])
                      try rfl
                     refine hK.out _ _ ⟨v169, adz_v169, m20_, (by rw [ha.out]; exact putSel_upk 14 hb_ rfl rfl rfl), Q_BK164, Q_HI0, Q_HK, Q_HB, Q_HO170, Q_HA_HO170, fun h0_ => absurd ((hoff 20 (by kernel_rfl)).symm.trans h0_) (by decide)⟩
                    refine steps_cons ?_ ?_
                    ·rintro b a w' ⟨v169, adz_v169, m20_, ha, Q_BK164, Q_HI0, Q_HK, Q_HB, Q_HO170, Q_HA_HO170, Q_X20_⟩ hb_ hon hoff
                     refine ⟨_, rfl, fun K hK => ?_⟩
                     have e50 : a.tmps[50]? = some (v169) := by rw [ha]; exact putSel_on (e := (17, 50, v169)) 13 rfl rfl (hon 17 (by kernel_rfl)) rfl
                     have e52 : a.tmps[52]? = some (.int .i64 ((rd_T56 s0_1 x4_1).f3)) := by rw [ha]; exact putSel_on (e := (19, 52, .int .i64 ((rd_T56 s0_1 x4_1).f3))) 14 rfl rfl (hon 19 (by kernel_rfl)) rfl
                     replace ha := Aside0.mk ha
                     have BK164 := Aside0.mk Q_BK164
                     have HI0 := Aside0.mk Q_HI0
                     have HK := Aside0.mk Q_HK
                     have HB := Aside0.mk Q_HB
                     have HO170 := Aside0.mk (Q_HO170 (hon 17 (by kernel_rfl)))
                     have HA_HO170 := Aside0.mk (Q_HA_HO170 (hon 17 (by kernel_rfl)))
                     obtain ⟨c_, hv_⟩ := HA_HO170.out
                     rw [hv_] at e50
                     refine value_ (w1 := w') (v := .pointer (some (adz_v169.add (((rd_T56 s0_1 x4_1).f3)).toNat))) (by rfl) rfl ?_ ?_
                     ·go_simp
                      (try simp only [i64_w])
                      try rfl
                     refine hK.out _ _ ⟨v169, adz_v169, (.pointer (some (adz_v169.add (((rd_T56 s0_1 x4_1).f3)).toNat))), (by rw [ha.out]; exact putSel_upk 15 hb_ rfl rfl rfl), Q_BK164, Q_HI0, Q_HK, Q_HB, Q_HO170, Q_HA_HO170, fun _ => rfl⟩
                    refine steps_cons ?_ ?_
                    ·rintro b a w' ⟨v169, adz_v169, m20_, ha, Q_BK164, Q_HI0, Q_HK, Q_HB, Q_HO170, Q_HA_HO170, Q_X20_⟩ hb_ hon hoff
                     refine ⟨_, rfl, fun K hK => ?_⟩
                     have e53 : a.tmps[53]? = some (m20_) := by rw [ha]; exact putSel_on (e := (20, 53, m20_)) 15 rfl rfl (hon 20 (by kernel_rfl)) rfl
                     rw [Q_X20_ (hon 20 (by kernel_rfl))] at e53
                     replace ha := Aside0.mk ha
                     have BK164 := Aside0.mk Q_BK164
                     have HI0 := Aside0.mk Q_HI0
                     have HK := Aside0.mk Q_HK
                     have HB := Aside0.mk Q_HB
                     have HO170 := Aside0.mk (Q_HO170 (hon 17 (by kernel_rfl)))
                     have HA_HO170 := Aside0.mk (Q_HA_HO170 (hon 17 (by kernel_rfl)))
                     obtain ⟨c_, hv_⟩ := HA_HO170.out
                     have hF_ := HO170.out
                     rw [hv_] at hF_
                     obtain ⟨ad_, ea_, hx_⟩ := Kd.at_string (Kd.R_reads' hF_).2.2 ((rd_T56 s0_1 x4_1).f3) (of_eq_true pi171) (of_eq_true qi171)
                     cases ea_
                     refine value_ (w1 := w') (v := .string (rdOf ByteArray.empty y168 ((rd_T56 s0_1 x4_1).f3))) (by rfl) rfl ?_ ?_
                     ·go_simp
                      (try simp only [i64_w])
                      try rfl
                     refine hK.out _ _ ⟨v169, adz_v169, m20_, (by rw [ha.out]; exact putSel_upk 16 hb_ rfl rfl rfl), Q_BK164, Q_HI0, Q_HK, Q_HB, Q_HO170, Q_HA_HO170, Q_X20_⟩
                    refine steps_cons ?_ ?_
                    ·rintro b a w' ⟨v169, adz_v169, m20_, ha, Q_BK164, Q_HI0, Q_HK, Q_HB, Q_HO170, Q_HA_HO170, Q_X20_⟩ hb_ hon hoff
                     refine ⟨_, rfl, fun K hK => ?_⟩
                     have e49 : a.tmps[49]? = some (.string (((((((x3_1 ++ (⟨#[98, 97, 99, 107, 101, 110, 100, 32]⟩ : ByteArray)) ++ t165) ++ (⟨#[32]⟩ : ByteArray)) ++ t166) ++ (⟨#[32]⟩ : ByteArray)) ++ t167) ++ (⟨#[32]⟩ : ByteArray))) := by rw [ha]; exact putSel_on (e := (16, 49, .string (((((((x3_1 ++ (⟨#[98, 97, 99, 107, 101, 110, 100, 32]⟩ : ByteArray)) ++ t165) ++ (⟨#[32]⟩ : ByteArray)) ++ t166) ++ (⟨#[32]⟩ : ByteArray)) ++ t167) ++ (⟨#[32]⟩ : ByteArray)))) 12 rfl rfl (hon 16 (by kernel_rfl)) rfl
                     have e54 : a.tmps[54]? = some (.string (rdOf ByteArray.empty y168 ((rd_T56 s0_1 x4_1).f3))) := by rw [ha]; exact putSel_on (e := (21, 54, .string (rdOf ByteArray.empty y168 ((rd_T56 s0_1 x4_1).f3)))) 16 rfl rfl (hon 21 (by kernel_rfl)) rfl
                     replace ha := Aside0.mk ha
                     have BK164 := Aside0.mk Q_BK164
                     have HI0 := Aside0.mk Q_HI0
                     have HK := Aside0.mk Q_HK
                     have HB := Aside0.mk Q_HB
                     have HO170 := Aside0.mk (Q_HO170 (hon 17 (by kernel_rfl)))
                     have HA_HO170 := Aside0.mk (Q_HA_HO170 (hon 17 (by kernel_rfl)))
                     refine value_ (w1 := w') (v := .string ((((((((x3_1 ++ (⟨#[98, 97, 99, 107, 101, 110, 100, 32]⟩ : ByteArray)) ++ t165) ++ (⟨#[32]⟩ : ByteArray)) ++ t166) ++ (⟨#[32]⟩ : ByteArray)) ++ t167) ++ (⟨#[32]⟩ : ByteArray)) ++ (rdOf ByteArray.empty y168 ((rd_T56 s0_1 x4_1).f3)))) (by rfl) rfl ?_ ?_
                     ·go_simp
                      (try simp only [i64_w])
                      try rfl
                     refine hK.out _ _ ⟨v169, adz_v169, m20_, (by rw [ha.out]; exact putSel_upk 17 hb_ rfl rfl rfl), Q_BK164, Q_HI0, Q_HK, Q_HB, Q_HO170, Q_HA_HO170, Q_X20_⟩
                    refine steps_cons ?_ ?_
                    ·rintro b a w' ⟨v169, adz_v169, m20_, ha, Q_BK164, Q_HI0, Q_HK, Q_HB, Q_HO170, Q_HA_HO170, Q_X20_⟩ hb_ hon hoff
                     refine ⟨_, rfl, fun K hK => ?_⟩
                     have e55 : a.tmps[55]? = some (.string ((((((((x3_1 ++ (⟨#[98, 97, 99, 107, 101, 110, 100, 32]⟩ : ByteArray)) ++ t165) ++ (⟨#[32]⟩ : ByteArray)) ++ t166) ++ (⟨#[32]⟩ : ByteArray)) ++ t167) ++ (⟨#[32]⟩ : ByteArray)) ++ (rdOf ByteArray.empty y168 ((rd_T56 s0_1 x4_1).f3)))) := by rw [ha]; exact putSel_on (e := (22, 55, .string ((((((((x3_1 ++ (⟨#[98, 97, 99, 107, 101, 110, 100, 32]⟩ : ByteArray)) ++ t165) ++ (⟨#[32]⟩ : ByteArray)) ++ t166) ++ (⟨#[32]⟩ : ByteArray)) ++ t167) ++ (⟨#[32]⟩ : ByteArray)) ++ (rdOf ByteArray.empty y168 ((rd_T56 s0_1 x4_1).f3))))) 17 rfl rfl (hon 22 (by kernel_rfl)) rfl
                     replace ha := Aside0.mk ha
                     have BK164 := Aside0.mk Q_BK164
                     have HI0 := Aside0.mk Q_HI0
                     have HK := Aside0.mk Q_HK
                     have HB := Aside0.mk Q_HB
                     have HO170 := Aside0.mk (Q_HO170 (hon 17 (by kernel_rfl)))
                     have HA_HO170 := Aside0.mk (Q_HA_HO170 (hon 17 (by kernel_rfl)))
                     refine value_ (w1 := w') (v := .string (((((((((x3_1 ++ (⟨#[98, 97, 99, 107, 101, 110, 100, 32]⟩ : ByteArray)) ++ t165) ++ (⟨#[32]⟩ : ByteArray)) ++ t166) ++ (⟨#[32]⟩ : ByteArray)) ++ t167) ++ (⟨#[32]⟩ : ByteArray)) ++ (rdOf ByteArray.empty y168 ((rd_T56 s0_1 x4_1).f3))) ++ (⟨#[32]⟩ : ByteArray))) (by rfl) rfl ?_ ?_
                     ·go_simp
                      (try simp only [i64_w])
                      try rfl
                     refine hK.out _ _ ⟨v169, adz_v169, m20_, (by rw [ha.out]; exact putSel_upk 18 hb_ rfl rfl rfl), Q_BK164, Q_HI0, Q_HK, Q_HB, Q_HO170, Q_HA_HO170, Q_X20_⟩
                    refine steps_cons ?_ ?_
                    ·rintro b a w' ⟨v169, adz_v169, m20_, ha, Q_BK164, Q_HI0, Q_HK, Q_HB, Q_HO170, Q_HA_HO170, Q_X20_⟩ hb_ hon hoff
                     refine ⟨_, rfl, fun K hK => ?_⟩
                     have e56 : a.tmps[56]? = some (.string (((((((((x3_1 ++ (⟨#[98, 97, 99, 107, 101, 110, 100, 32]⟩ : ByteArray)) ++ t165) ++ (⟨#[32]⟩ : ByteArray)) ++ t166) ++ (⟨#[32]⟩ : ByteArray)) ++ t167) ++ (⟨#[32]⟩ : ByteArray)) ++ (rdOf ByteArray.empty y168 ((rd_T56 s0_1 x4_1).f3))) ++ (⟨#[32]⟩ : ByteArray))) := by rw [ha]; exact putSel_on (e := (23, 56, .string (((((((((x3_1 ++ (⟨#[98, 97, 99, 107, 101, 110, 100, 32]⟩ : ByteArray)) ++ t165) ++ (⟨#[32]⟩ : ByteArray)) ++ t166) ++ (⟨#[32]⟩ : ByteArray)) ++ t167) ++ (⟨#[32]⟩ : ByteArray)) ++ (rdOf ByteArray.empty y168 ((rd_T56 s0_1 x4_1).f3))) ++ (⟨#[32]⟩ : ByteArray)))) 18 rfl rfl (hon 23 (by kernel_rfl)) rfl
                     have e57 : a.tmps[57]? = some (.string (⟨#[117, 112]⟩ : ByteArray)) := by rw [ha]; exact (putSel_off rfl).trans rfl
                     replace ha := Aside0.mk ha
                     have BK164 := Aside0.mk Q_BK164
                     have HI0 := Aside0.mk Q_HI0
                     have HK := Aside0.mk Q_HK
                     have HB := Aside0.mk Q_HB
                     have HO170 := Aside0.mk (Q_HO170 (hon 17 (by kernel_rfl)))
                     have HA_HO170 := Aside0.mk (Q_HA_HO170 (hon 17 (by kernel_rfl)))
                     refine value_ (w1 := w') (v := .string ((((((((((x3_1 ++ (⟨#[98, 97, 99, 107, 101, 110, 100, 32]⟩ : ByteArray)) ++ t165) ++ (⟨#[32]⟩ : ByteArray)) ++ t166) ++ (⟨#[32]⟩ : ByteArray)) ++ t167) ++ (⟨#[32]⟩ : ByteArray)) ++ (rdOf ByteArray.empty y168 ((rd_T56 s0_1 x4_1).f3))) ++ (⟨#[32]⟩ : ByteArray)) ++ (⟨#[117, 112]⟩ : ByteArray))) (by rfl) rfl ?_ ?_
                     ·go_simp
                      (try simp only [i64_w])
                      try rfl
                     refine hK.out _ _ ⟨v169, adz_v169, m20_, (by rw [ha.out]; exact putSel_upk 19 hb_ rfl rfl rfl), Q_BK164, Q_HI0, Q_HK, Q_HB, Q_HO170, Q_HA_HO170, Q_X20_⟩
                    refine steps_cons ?_ ?_
                    ·rintro b a w' ⟨v169, adz_v169, m20_, ha, Q_BK164, Q_HI0, Q_HK, Q_HB, Q_HO170, Q_HA_HO170, Q_X20_⟩ hb_ hon hoff
                     refine ⟨_, rfl, fun K hK => ?_⟩
                     have e58 : a.tmps[58]? = some (.string ((((((((((x3_1 ++ (⟨#[98, 97, 99, 107, 101, 110, 100, 32]⟩ : ByteArray)) ++ t165) ++ (⟨#[32]⟩ : ByteArray)) ++ t166) ++ (⟨#[32]⟩ : ByteArray)) ++ t167) ++ (⟨#[32]⟩ : ByteArray)) ++ (rdOf ByteArray.empty y168 ((rd_T56 s0_1 x4_1).f3))) ++ (⟨#[32]⟩ : ByteArray)) ++ (⟨#[117, 112]⟩ : ByteArray))) := by rw [ha]; exact putSel_on (e := (25, 58, .string ((((((((((x3_1 ++ (⟨#[98, 97, 99, 107, 101, 110, 100, 32]⟩ : ByteArray)) ++ t165) ++ (⟨#[32]⟩ : ByteArray)) ++ t166) ++ (⟨#[32]⟩ : ByteArray)) ++ t167) ++ (⟨#[32]⟩ : ByteArray)) ++ (rdOf ByteArray.empty y168 ((rd_T56 s0_1 x4_1).f3))) ++ (⟨#[32]⟩ : ByteArray)) ++ (⟨#[117, 112]⟩ : ByteArray)))) 19 rfl rfl (hon 25 (by kernel_rfl)) rfl
                     replace ha := Aside0.mk ha
                     have BK164 := Aside0.mk Q_BK164
                     have HI0 := Aside0.mk Q_HI0
                     have HK := Aside0.mk Q_HK
                     have HB := Aside0.mk Q_HB
                     have HO170 := Aside0.mk (Q_HO170 (hon 17 (by kernel_rfl)))
                     have HA_HO170 := Aside0.mk (Q_HA_HO170 (hon 17 (by kernel_rfl)))
                     refine value_ (w1 := w') (v := .string (((((((((((x3_1 ++ (⟨#[98, 97, 99, 107, 101, 110, 100, 32]⟩ : ByteArray)) ++ t165) ++ (⟨#[32]⟩ : ByteArray)) ++ t166) ++ (⟨#[32]⟩ : ByteArray)) ++ t167) ++ (⟨#[32]⟩ : ByteArray)) ++ (rdOf ByteArray.empty y168 ((rd_T56 s0_1 x4_1).f3))) ++ (⟨#[32]⟩ : ByteArray)) ++ (⟨#[117, 112]⟩ : ByteArray)) ++ (⟨#[10]⟩ : ByteArray))) (by rfl) rfl ?_ ?_
                     ·go_simp
                      (try simp only [i64_w])
                      try rfl
                     refine hK.out _ _ ⟨v169, adz_v169, m20_, (by rw [ha.out]; exact putSel_upk 20 hb_ rfl rfl rfl), Q_BK164, Q_HI0, Q_HK, Q_HB, Q_HO170, Q_HA_HO170, Q_X20_⟩
                    refine steps_cons ?_ ?_
                    ·rintro b a w' ⟨v169, adz_v169, m20_, ha, Q_BK164, Q_HI0, Q_HK, Q_HB, Q_HO170, Q_HA_HO170, Q_X20_⟩ hb_ hon hoff
                     refine ⟨_, rfl, fun K hK => ?_⟩
                     have e59 : a.tmps[59]? = some (.string (((((((((((x3_1 ++ (⟨#[98, 97, 99, 107, 101, 110, 100, 32]⟩ : ByteArray)) ++ t165) ++ (⟨#[32]⟩ : ByteArray)) ++ t166) ++ (⟨#[32]⟩ : ByteArray)) ++ t167) ++ (⟨#[32]⟩ : ByteArray)) ++ (rdOf ByteArray.empty y168 ((rd_T56 s0_1 x4_1).f3))) ++ (⟨#[32]⟩ : ByteArray)) ++ (⟨#[117, 112]⟩ : ByteArray)) ++ (⟨#[10]⟩ : ByteArray))) := by rw [ha]; exact putSel_on (e := (26, 59, .string (((((((((((x3_1 ++ (⟨#[98, 97, 99, 107, 101, 110, 100, 32]⟩ : ByteArray)) ++ t165) ++ (⟨#[32]⟩ : ByteArray)) ++ t166) ++ (⟨#[32]⟩ : ByteArray)) ++ t167) ++ (⟨#[32]⟩ : ByteArray)) ++ (rdOf ByteArray.empty y168 ((rd_T56 s0_1 x4_1).f3))) ++ (⟨#[32]⟩ : ByteArray)) ++ (⟨#[117, 112]⟩ : ByteArray)) ++ (⟨#[10]⟩ : ByteArray)))) 20 rfl rfl (hon 26 (by kernel_rfl)) rfl
                     replace ha := Aside0.mk ha
                     have BK164 := Aside0.mk Q_BK164
                     have HI0 := Aside0.mk Q_HI0
                     have HK := Aside0.mk Q_HK
                     have HB := Aside0.mk Q_HB
                     have HO170 := Aside0.mk (Q_HO170 (hon 17 (by kernel_rfl)))
                     have HA_HO170 := Aside0.mk (Q_HA_HO170 (hon 17 (by kernel_rfl)))
                     refine value_ (w1 := w') (v := .string (((((((((((x3_1 ++ (⟨#[98, 97, 99, 107, 101, 110, 100, 32]⟩ : ByteArray)) ++ t165) ++ (⟨#[32]⟩ : ByteArray)) ++ t166) ++ (⟨#[32]⟩ : ByteArray)) ++ t167) ++ (⟨#[32]⟩ : ByteArray)) ++ (rdOf ByteArray.empty y168 ((rd_T56 s0_1 x4_1).f3))) ++ (⟨#[32]⟩ : ByteArray)) ++ (⟨#[117, 112]⟩ : ByteArray)) ++ (⟨#[10]⟩ : ByteArray))) (by rfl) rfl ?_ ?_
                     ·go_simp
                      (try simp only [i64_w])
                      try rfl
                     refine hK.out _ _ ⟨v169, adz_v169, m20_, (by rw [ha.out]; exact putSel_upk 21 hb_ rfl rfl rfl), Q_BK164, Q_HI0, Q_HK, Q_HB, Q_HO170, Q_HA_HO170, Q_X20_⟩
                    exact steps_nil
                   rintro b a w40 hall ⟨v169, adz_v169, m20_, ha, Q_BK164, Q_HI0, Q_HK, Q_HB, Q_HO170, Q_HA_HO170, Q_X20_⟩
                   clear BK164 HB HI0 HK
                   have hb1_ := hall 1 (by kernel_rfl)
                   have hb3_ := hall 3 (by kernel_rfl)
                   have hb4_ := hall 4 (by kernel_rfl)
                   have hb5_ := hall 5 (by kernel_rfl)
                   have hb6_ := hall 6 (by kernel_rfl)
                   have hb8_ := hall 8 (by kernel_rfl)
                   have hb9_ := hall 9 (by kernel_rfl)
                   have hb10_ := hall 10 (by kernel_rfl)
                   have hb11_ := hall 11 (by kernel_rfl)
                   have hb13_ := hall 13 (by kernel_rfl)
                   have hb14_ := hall 14 (by kernel_rfl)
                   have hb15_ := hall 15 (by kernel_rfl)
                   have hb16_ := hall 16 (by kernel_rfl)
                   have hb17_ := hall 17 (by kernel_rfl)
                   have hb19_ := hall 19 (by kernel_rfl)
                   have hb20_ := hall 20 (by kernel_rfl)
                   have hb21_ := hall 21 (by kernel_rfl)
                   have hb22_ := hall 22 (by kernel_rfl)
                   have hb23_ := hall 23 (by kernel_rfl)
                   have hb25_ := hall 25 (by kernel_rfl)
                   have hb26_ := hall 26 (by kernel_rfl)
                   have hb27_ := hall 27 (by kernel_rfl)
                   subst ha
                   obtain rfl := Q_X20_ hb20_
                   simp only [putSel, hb1_, hb3_, hb4_, hb5_, hb6_, hb8_, hb9_, hb10_, hb11_, hb13_, hb14_, hb15_, hb16_, hb17_, hb19_, hb20_, hb21_, hb22_, hb23_, hb25_, hb26_, hb27_, if_true, Act.put, List.setIfInBounds_toArray, List.set_cons_zero, List.set_cons_succ]
                   have BK164 := Aside0.mk Q_BK164
                   clear Q_BK164
                   have HI0 := Aside0.mk Q_HI0
                   clear Q_HI0
                   have HK := Aside0.mk Q_HK
                   clear Q_HK
                   have HB := Aside0.mk Q_HB
                   clear Q_HB
                   have HO170 := Aside0.mk (Q_HO170 hb17_)
                   clear Q_HO170
                   have HA_HO170 := Aside0.mk (Q_HA_HO170 hb17_)
                   clear Q_HA_HO170
                   clear hall hb1_ hb3_ hb4_ hb5_ hb6_ hb8_ hb9_ hb10_ hb11_ hb13_ hb14_ hb15_ hb16_ hb17_ hb19_ hb20_ hb21_ hb22_ hb23_ hb25_ hb26_ hb27_
                   obtain ⟨co41, eo41⟩ := HA_HO170.out
                   clear HA_HO170
                   subst eo41
                   try go_wp2
                   go_roundg k1
                   case measure => have := HK1.out; omega
                   case rel => exact ⟨(((((((((((x3_1 ++ (⟨#[98, 97, 99, 107, 101, 110, 100, 32]⟩ : ByteArray)) ++ t165) ++ (⟨#[32]⟩ : ByteArray)) ++ t166) ++ (⟨#[32]⟩ : ByteArray)) ++ t167) ++ (⟨#[32]⟩ : ByteArray)) ++ (rdOf ByteArray.empty y168 ((rd_T56 s0_1 x4_1).f3))) ++ (⟨#[32]⟩ : ByteArray)) ++ (⟨#[117, 112]⟩ : ByteArray)) ++ (⟨#[10]⟩ : ByteArray)), (wrap64 (x4_1 + 1)), (by first | rfl | (simp; done) | (simp [*]; done)), (by first | rfl | (simp; done) | (simp [*]; done)), H', ⟨by have := HK1.out; omega⟩, ⟨by repeat (first | (with_reducible first | exact HI0.out | apply IsS33.alloc | apply IsS33.drewN | apply IsS33.drew | apply IsS33.set_0 | refine IsS33.far ?_ NB0_164.out _) | exact HI0.out)⟩, ⟨by repeat (first | (with_reducible first | exact HK.out | apply KeepBut.set_ | apply keep_drewN | apply keep_drew | apply keep_alloc | refine keep_far ?_ GW164.out _) | exact HK.out)⟩, ⟨by repeat (first | (with_reducible first | exact HB.out | apply below_alloc | apply pw_below_drewN | apply below_drew1 | refine below_set ?_ (IsS33.ge HI0.out) | refine below_set ?_ GE164.out) | exact HB.out)⟩⟩
                  ·rw [if_neg c27] at H
                   exact absurd H (by simp)
                 ·rw [if_neg c26] at H
                  exact absurd H (by simp)
                ·rw [if_neg c25] at H
                 exact absurd H (by simp)
               ·rw [if_neg c24] at H
                exact absurd H (by simp)
              ·rw [if_neg c23] at H
               exact absurd H (by simp)
             ·rw [if_neg c22] at H
              exact absurd H (by simp)
            ·rw [if_neg c21] at H
             exact absurd H (by simp)
           ·rw [if_neg c20] at H
            exact absurd H (by simp)
          ·rw [if_neg c18] at H
           exact absurd H (by simp)
         ·rw [if_neg c17] at H
          exact absurd H (by simp)
        ·rw [if_neg c15] at H
         exact absurd H (by simp)
       ·rw [if_neg c14] at H
        exact absurd H (by simp)
      ·rw [if_neg c12] at H
       exact absurd H (by simp)
     ·replace c11 := Bool.eq_false_iff.mpr c11
      subst c11
      have H1 : (if x3_1.size + 8 ≤ 9223372036854775807 then ((spec_l2Digits.f k1 ((rd_T56 s0_1 x4_1).f0)).bind fun t172 => (if (x3_1 ++ (⟨#[98, 97, 99, 107, 101, 110, 100, 32]⟩ : ByteArray)).size + t172.size ≤ 9223372036854775807 then (if ((x3_1 ++ (⟨#[98, 97, 99, 107, 101, 110, 100, 32]⟩ : ByteArray)) ++ t172).size + 1 ≤ 9223372036854775807 then ((spec_l2Text.f k1 ((rd_T56 s0_1 x4_1).f1)).bind fun t173 => (if (((x3_1 ++ (⟨#[98, 97, 99, 107, 101, 110, 100, 32]⟩ : ByteArray)) ++ t172) ++ (⟨#[32]⟩ : ByteArray)).size + t173.size ≤ 9223372036854775807 then (if ((((x3_1 ++ (⟨#[98, 97, 99, 107, 101, 110, 100, 32]⟩ : ByteArray)) ++ t172) ++ (⟨#[32]⟩ : ByteArray)) ++ t173).size + 1 ≤ 9223372036854775807 then ((spec_l2Digits.f k1 ((rd_T56 s0_1 x4_1).f2)).bind fun t174 => (if (((((x3_1 ++ (⟨#[98, 97, 99, 107, 101, 110, 100, 32]⟩ : ByteArray)) ++ t172) ++ (⟨#[32]⟩ : ByteArray)) ++ t173) ++ (⟨#[32]⟩ : ByteArray)).size + t174.size ≤ 9223372036854775807 then (if ((((((x3_1 ++ (⟨#[98, 97, 99, 107, 101, 110, 100, 32]⟩ : ByteArray)) ++ t172) ++ (⟨#[32]⟩ : ByteArray)) ++ t173) ++ (⟨#[32]⟩ : ByteArray)) ++ t174).size + 1 ≤ 9223372036854775807 then ((some (([(⟨#[]⟩ : ByteArray), (⟨#[111, 110]⟩ : ByteArray), (⟨#[100, 114, 97, 105, 110]⟩ : ByteArray), (⟨#[111, 102, 102]⟩ : ByteArray)] : List ByteArray) : List ByteArray)).bind fun y175 => (if 0 ≤ ((rd_T56 s0_1 x4_1).f3) then (if ((rd_T56 s0_1 x4_1).f3) < (y175.length : Int) then (if (((((((x3_1 ++ (⟨#[98, 97, 99, 107, 101, 110, 100, 32]⟩ : ByteArray)) ++ t172) ++ (⟨#[32]⟩ : ByteArray)) ++ t173) ++ (⟨#[32]⟩ : ByteArray)) ++ t174) ++ (⟨#[32]⟩ : ByteArray)).size + (rdOf ByteArray.empty y175 ((rd_T56 s0_1 x4_1).f3)).size ≤ 9223372036854775807 then (if ((((((((x3_1 ++ (⟨#[98, 97, 99, 107, 101, 110, 100, 32]⟩ : ByteArray)) ++ t172) ++ (⟨#[32]⟩ : ByteArray)) ++ t173) ++ (⟨#[32]⟩ : ByteArray)) ++ t174) ++ (⟨#[32]⟩ : ByteArray)) ++ (rdOf ByteArray.empty y175 ((rd_T56 s0_1 x4_1).f3))).size + 1 ≤ 9223372036854775807 then (if (((((((((x3_1 ++ (⟨#[98, 97, 99, 107, 101, 110, 100, 32]⟩ : ByteArray)) ++ t172) ++ (⟨#[32]⟩ : ByteArray)) ++ t173) ++ (⟨#[32]⟩ : ByteArray)) ++ t174) ++ (⟨#[32]⟩ : ByteArray)) ++ (rdOf ByteArray.empty y175 ((rd_T56 s0_1 x4_1).f3))) ++ (⟨#[32]⟩ : ByteArray)).size + 4 ≤ 9223372036854775807 then (if ((((((((((x3_1 ++ (⟨#[98, 97, 99, 107, 101, 110, 100, 32]⟩ : ByteArray)) ++ t172) ++ (⟨#[32]⟩ : ByteArray)) ++ t173) ++ (⟨#[32]⟩ : ByteArray)) ++ t174) ++ (⟨#[32]⟩ : ByteArray)) ++ (rdOf ByteArray.empty y175 ((rd_T56 s0_1 x4_1).f3))) ++ (⟨#[32]⟩ : ByteArray)) ++ (⟨#[100, 111, 119, 110]⟩ : ByteArray)).size + 1 ≤ 9223372036854775807 then (spec_l5Text.l0 k1 (((((((((((x3_1 ++ (⟨#[98, 97, 99, 107, 101, 110, 100, 32]⟩ : ByteArray)) ++ t172) ++ (⟨#[32]⟩ : ByteArray)) ++ t173) ++ (⟨#[32]⟩ : ByteArray)) ++ t174) ++ (⟨#[32]⟩ : ByteArray)) ++ (rdOf ByteArray.empty y175 ((rd_T56 s0_1 x4_1).f3))) ++ (⟨#[32]⟩ : ByteArray)) ++ (⟨#[100, 111, 119, 110]⟩ : ByteArray)) ++ (⟨#[10]⟩ : ByteArray)) (wrap64 (x4_1 + 1)) s0_0 s0_1 s0_2) else (none)) else (none)) else (none)) else (none)) else (none)) else (none))) else (none)) else (none))) else (none)) else (none))) else (none)) else (none))) else (none)) = some (r1, r2) := by rw [if_neg (show ¬ (false = true) by decide)] at H; exact H
      clear H
      have H := H1
      clear H1
      by_cases c42 : x3_1.size + 8 ≤ 9223372036854775807
      ·rw [if_pos c42] at H
       have c42b0 := eq_true c42
       have c42b1 : decide (x3_1.size + 8 ≤ 9223372036854775807) = true := decide_eq_true c42
       try have c42b2 : (9223372036854775807 < x3_1.size + 8) = False := eq_false (Nat.not_lt.2 c42)
       replace H := Option.bind_eq_some_iff.mp H
       obtain ⟨t172, A430, H⟩ := H
       replace H : (if (x3_1 ++ (⟨#[98, 97, 99, 107, 101, 110, 100, 32]⟩ : ByteArray)).size + t172.size ≤ 9223372036854775807 then (if ((x3_1 ++ (⟨#[98, 97, 99, 107, 101, 110, 100, 32]⟩ : ByteArray)) ++ t172).size + 1 ≤ 9223372036854775807 then ((spec_l2Text.f k1 ((rd_T56 s0_1 x4_1).f1)).bind fun t173 => (if (((x3_1 ++ (⟨#[98, 97, 99, 107, 101, 110, 100, 32]⟩ : ByteArray)) ++ t172) ++ (⟨#[32]⟩ : ByteArray)).size + t173.size ≤ 9223372036854775807 then (if ((((x3_1 ++ (⟨#[98, 97, 99, 107, 101, 110, 100, 32]⟩ : ByteArray)) ++ t172) ++ (⟨#[32]⟩ : ByteArray)) ++ t173).size + 1 ≤ 9223372036854775807 then ((spec_l2Digits.f k1 ((rd_T56 s0_1 x4_1).f2)).bind fun t174 => (if (((((x3_1 ++ (⟨#[98, 97, 99, 107, 101, 110, 100, 32]⟩ : ByteArray)) ++ t172) ++ (⟨#[32]⟩ : ByteArray)) ++ t173) ++ (⟨#[32]⟩ : ByteArray)).size + t174.size ≤ 9223372036854775807 then (if ((((((x3_1 ++ (⟨#[98, 97, 99, 107, 101, 110, 100, 32]⟩ : ByteArray)) ++ t172) ++ (⟨#[32]⟩ : ByteArray)) ++ t173) ++ (⟨#[32]⟩ : ByteArray)) ++ t174).size + 1 ≤ 9223372036854775807 then ((some (([(⟨#[]⟩ : ByteArray), (⟨#[111, 110]⟩ : ByteArray), (⟨#[100, 114, 97, 105, 110]⟩ : ByteArray), (⟨#[111, 102, 102]⟩ : ByteArray)] : List ByteArray) : List ByteArray)).bind fun y175 => (if 0 ≤ ((rd_T56 s0_1 x4_1).f3) then (if ((rd_T56 s0_1 x4_1).f3) < (y175.length : Int) then (if (((((((x3_1 ++ (⟨#[98, 97, 99, 107, 101, 110, 100, 32]⟩ : ByteArray)) ++ t172) ++ (⟨#[32]⟩ : ByteArray)) ++ t173) ++ (⟨#[32]⟩ : ByteArray)) ++ t174) ++ (⟨#[32]⟩ : ByteArray)).size + (rdOf ByteArray.empty y175 ((rd_T56 s0_1 x4_1).f3)).size ≤ 9223372036854775807 then (if ((((((((x3_1 ++ (⟨#[98, 97, 99, 107, 101, 110, 100, 32]⟩ : ByteArray)) ++ t172) ++ (⟨#[32]⟩ : ByteArray)) ++ t173) ++ (⟨#[32]⟩ : ByteArray)) ++ t174) ++ (⟨#[32]⟩ : ByteArray)) ++ (rdOf ByteArray.empty y175 ((rd_T56 s0_1 x4_1).f3))).size + 1 ≤ 9223372036854775807 then (if (((((((((x3_1 ++ (⟨#[98, 97, 99, 107, 101, 110, 100, 32]⟩ : ByteArray)) ++ t172) ++ (⟨#[32]⟩ : ByteArray)) ++ t173) ++ (⟨#[32]⟩ : ByteArray)) ++ t174) ++ (⟨#[32]⟩ : ByteArray)) ++ (rdOf ByteArray.empty y175 ((rd_T56 s0_1 x4_1).f3))) ++ (⟨#[32]⟩ : ByteArray)).size + 4 ≤ 9223372036854775807 then (if ((((((((((x3_1 ++ (⟨#[98, 97, 99, 107, 101, 110, 100, 32]⟩ : ByteArray)) ++ t172) ++ (⟨#[32]⟩ : ByteArray)) ++ t173) ++ (⟨#[32]⟩ : ByteArray)) ++ t174) ++ (⟨#[32]⟩ : ByteArray)) ++ (rdOf ByteArray.empty y175 ((rd_T56 s0_1 x4_1).f3))) ++ (⟨#[32]⟩ : ByteArray)) ++ (⟨#[100, 111, 119, 110]⟩ : ByteArray)).size + 1 ≤ 9223372036854775807 then (spec_l5Text.l0 k1 (((((((((((x3_1 ++ (⟨#[98, 97, 99, 107, 101, 110, 100, 32]⟩ : ByteArray)) ++ t172) ++ (⟨#[32]⟩ : ByteArray)) ++ t173) ++ (⟨#[32]⟩ : ByteArray)) ++ t174) ++ (⟨#[32]⟩ : ByteArray)) ++ (rdOf ByteArray.empty y175 ((rd_T56 s0_1 x4_1).f3))) ++ (⟨#[32]⟩ : ByteArray)) ++ (⟨#[100, 111, 119, 110]⟩ : ByteArray)) ++ (⟨#[10]⟩ : ByteArray)) (wrap64 (x4_1 + 1)) s0_0 s0_1 s0_2) else (none)) else (none)) else (none)) else (none)) else (none)) else (none))) else (none)) else (none))) else (none)) else (none))) else (none)) else (none)) = some (r1, r2) := H
       have A43 := Aside0.mk A430
       clear A430
       by_cases c44 : (x3_1 ++ (⟨#[98, 97, 99, 107, 101, 110, 100, 32]⟩ : ByteArray)).size + t172.size ≤ 9223372036854775807
       ·rw [if_pos c44] at H
        have c44b0 := eq_true c44
        have c44b1 : decide ((x3_1 ++ (⟨#[98, 97, 99, 107, 101, 110, 100, 32]⟩ : ByteArray)).size + t172.size ≤ 9223372036854775807) = true := decide_eq_true c44
        try have c44b2 : (9223372036854775807 < (x3_1 ++ (⟨#[98, 97, 99, 107, 101, 110, 100, 32]⟩ : ByteArray)).size + t172.size) = False := eq_false (Nat.not_lt.2 c44)
        have c44x : (9223372036854775807 < x3_1.size + 8 + t172.size) = False := eq_false (Nat.not_lt.2 (by have h_ := c44; (try simp only [ByteArray.size_append] at h_); exact h_))
        by_cases c45 : ((x3_1 ++ (⟨#[98, 97, 99, 107, 101, 110, 100, 32]⟩ : ByteArray)) ++ t172).size + 1 ≤ 9223372036854775807
        ·rw [if_pos c45] at H
         have c45b0 := eq_true c45
         have c45b1 : decide (((x3_1 ++ (⟨#[98, 97, 99, 107, 101, 110, 100, 32]⟩ : ByteArray)) ++ t172).size + 1 ≤ 9223372036854775807) = true := decide_eq_true c45
         try have c45b2 : (9223372036854775807 < ((x3_1 ++ (⟨#[98, 97, 99, 107, 101, 110, 100, 32]⟩ : ByteArray)) ++ t172).size + 1) = False := eq_false (Nat.not_lt.2 c45)
         have c45x : (9223372036854775807 < x3_1.size + 8 + t172.size + 1) = False := eq_false (Nat.not_lt.2 (by have h_ := c45; (try simp only [ByteArray.size_append] at h_); exact h_))
         replace H := Option.bind_eq_some_iff.mp H
         obtain ⟨t173, A460, H⟩ := H
         replace H : (if (((x3_1 ++ (⟨#[98, 97, 99, 107, 101, 110, 100, 32]⟩ : ByteArray)) ++ t172) ++ (⟨#[32]⟩ : ByteArray)).size + t173.size ≤ 9223372036854775807 then (if ((((x3_1 ++ (⟨#[98, 97, 99, 107, 101, 110, 100, 32]⟩ : ByteArray)) ++ t172) ++ (⟨#[32]⟩ : ByteArray)) ++ t173).size + 1 ≤ 9223372036854775807 then ((spec_l2Digits.f k1 ((rd_T56 s0_1 x4_1).f2)).bind fun t174 => (if (((((x3_1 ++ (⟨#[98, 97, 99, 107, 101, 110, 100, 32]⟩ : ByteArray)) ++ t172) ++ (⟨#[32]⟩ : ByteArray)) ++ t173) ++ (⟨#[32]⟩ : ByteArray)).size + t174.size ≤ 9223372036854775807 then (if ((((((x3_1 ++ (⟨#[98, 97, 99, 107, 101, 110, 100, 32]⟩ : ByteArray)) ++ t172) ++ (⟨#[32]⟩ : ByteArray)) ++ t173) ++ (⟨#[32]⟩ : ByteArray)) ++ t174).size + 1 ≤ 9223372036854775807 then ((some (([(⟨#[]⟩ : ByteArray), (⟨#[111, 110]⟩ : ByteArray), (⟨#[100, 114, 97, 105, 110]⟩ : ByteArray), (⟨#[111, 102, 102]⟩ : ByteArray)] : List ByteArray) : List ByteArray)).bind fun y175 => (if 0 ≤ ((rd_T56 s0_1 x4_1).f3) then (if ((rd_T56 s0_1 x4_1).f3) < (y175.length : Int) then (if (((((((x3_1 ++ (⟨#[98, 97, 99, 107, 101, 110, 100, 32]⟩ : ByteArray)) ++ t172) ++ (⟨#[32]⟩ : ByteArray)) ++ t173) ++ (⟨#[32]⟩ : ByteArray)) ++ t174) ++ (⟨#[32]⟩ : ByteArray)).size + (rdOf ByteArray.empty y175 ((rd_T56 s0_1 x4_1).f3)).size ≤ 9223372036854775807 then (if ((((((((x3_1 ++ (⟨#[98, 97, 99, 107, 101, 110, 100, 32]⟩ : ByteArray)) ++ t172) ++ (⟨#[32]⟩ : ByteArray)) ++ t173) ++ (⟨#[32]⟩ : ByteArray)) ++ t174) ++ (⟨#[32]⟩ : ByteArray)) ++ (rdOf ByteArray.empty y175 ((rd_T56 s0_1 x4_1).f3))).size + 1 ≤ 9223372036854775807 then (if (((((((((x3_1 ++ (⟨#[98, 97, 99, 107, 101, 110, 100, 32]⟩ : ByteArray)) ++ t172) ++ (⟨#[32]⟩ : ByteArray)) ++ t173) ++ (⟨#[32]⟩ : ByteArray)) ++ t174) ++ (⟨#[32]⟩ : ByteArray)) ++ (rdOf ByteArray.empty y175 ((rd_T56 s0_1 x4_1).f3))) ++ (⟨#[32]⟩ : ByteArray)).size + 4 ≤ 9223372036854775807 then (if ((((((((((x3_1 ++ (⟨#[98, 97, 99, 107, 101, 110, 100, 32]⟩ : ByteArray)) ++ t172) ++ (⟨#[32]⟩ : ByteArray)) ++ t173) ++ (⟨#[32]⟩ : ByteArray)) ++ t174) ++ (⟨#[32]⟩ : ByteArray)) ++ (rdOf ByteArray.empty y175 ((rd_T56 s0_1 x4_1).f3))) ++ (⟨#[32]⟩ : ByteArray)) ++ (⟨#[100, 111, 119, 110]⟩ : ByteArray)).size + 1 ≤ 9223372036854775807 then (spec_l5Text.l0 k1 (((((((((((x3_1 ++ (⟨#[98, 97, 99, 107, 101, 110, 100, 32]⟩ : ByteArray)) ++ t172) ++ (⟨#[32]⟩ : ByteArray)) ++ t173) ++ (⟨#[32]⟩ : ByteArray)) ++ t174) ++ (⟨#[32]⟩ : ByteArray)) ++ (rdOf ByteArray.empty y175 ((rd_T56 s0_1 x4_1).f3))) ++ (⟨#[32]⟩ : ByteArray)) ++ (⟨#[100, 111, 119, 110]⟩ : ByteArray)) ++ (⟨#[10]⟩ : ByteArray)) (wrap64 (x4_1 + 1)) s0_0 s0_1 s0_2) else (none)) else (none)) else (none)) else (none)) else (none)) else (none))) else (none)) else (none))) else (none)) else (none)) = some (r1, r2) := H
         have A46 := Aside0.mk A460
         clear A460
         by_cases c47 : (((x3_1 ++ (⟨#[98, 97, 99, 107, 101, 110, 100, 32]⟩ : ByteArray)) ++ t172) ++ (⟨#[32]⟩ : ByteArray)).size + t173.size ≤ 9223372036854775807
         ·rw [if_pos c47] at H
          have c47b0 := eq_true c47
          have c47b1 : decide ((((x3_1 ++ (⟨#[98, 97, 99, 107, 101, 110, 100, 32]⟩ : ByteArray)) ++ t172) ++ (⟨#[32]⟩ : ByteArray)).size + t173.size ≤ 9223372036854775807) = true := decide_eq_true c47
          try have c47b2 : (9223372036854775807 < (((x3_1 ++ (⟨#[98, 97, 99, 107, 101, 110, 100, 32]⟩ : ByteArray)) ++ t172) ++ (⟨#[32]⟩ : ByteArray)).size + t173.size) = False := eq_false (Nat.not_lt.2 c47)
          have c47x : (9223372036854775807 < x3_1.size + 8 + t172.size + 1 + t173.size) = False := eq_false (Nat.not_lt.2 (by have h_ := c47; (try simp only [ByteArray.size_append] at h_); exact h_))
          by_cases c48 : ((((x3_1 ++ (⟨#[98, 97, 99, 107, 101, 110, 100, 32]⟩ : ByteArray)) ++ t172) ++ (⟨#[32]⟩ : ByteArray)) ++ t173).size + 1 ≤ 9223372036854775807
          ·rw [if_pos c48] at H
           have c48b0 := eq_true c48
           have c48b1 : decide (((((x3_1 ++ (⟨#[98, 97, 99, 107, 101, 110, 100, 32]⟩ : ByteArray)) ++ t172) ++ (⟨#[32]⟩ : ByteArray)) ++ t173).size + 1 ≤ 9223372036854775807) = true := decide_eq_true c48
           try have c48b2 : (9223372036854775807 < ((((x3_1 ++ (⟨#[98, 97, 99, 107, 101, 110, 100, 32]⟩ : ByteArray)) ++ t172) ++ (⟨#[32]⟩ : ByteArray)) ++ t173).size + 1) = False := eq_false (Nat.not_lt.2 c48)
           have c48x : (9223372036854775807 < x3_1.size + 8 + t172.size + 1 + t173.size + 1) = False := eq_false (Nat.not_lt.2 (by have h_ := c48; (try simp only [ByteArray.size_append] at h_); exact h_))
           replace H := Option.bind_eq_some_iff.mp H
           obtain ⟨t174, A490, H⟩ := H
           replace H : (if (((((x3_1 ++ (⟨#[98, 97, 99, 107, 101, 110, 100, 32]⟩ : ByteArray)) ++ t172) ++ (⟨#[32]⟩ : ByteArray)) ++ t173) ++ (⟨#[32]⟩ : ByteArray)).size + t174.size ≤ 9223372036854775807 then (if ((((((x3_1 ++ (⟨#[98, 97, 99, 107, 101, 110, 100, 32]⟩ : ByteArray)) ++ t172) ++ (⟨#[32]⟩ : ByteArray)) ++ t173) ++ (⟨#[32]⟩ : ByteArray)) ++ t174).size + 1 ≤ 9223372036854775807 then ((some (([(⟨#[]⟩ : ByteArray), (⟨#[111, 110]⟩ : ByteArray), (⟨#[100, 114, 97, 105, 110]⟩ : ByteArray), (⟨#[111, 102, 102]⟩ : ByteArray)] : List ByteArray) : List ByteArray)).bind fun y175 => (if 0 ≤ ((rd_T56 s0_1 x4_1).f3) then (if ((rd_T56 s0_1 x4_1).f3) < (y175.length : Int) then (if (((((((x3_1 ++ (⟨#[98, 97, 99, 107, 101, 110, 100, 32]⟩ : ByteArray)) ++ t172) ++ (⟨#[32]⟩ : ByteArray)) ++ t173) ++ (⟨#[32]⟩ : ByteArray)) ++ t174) ++ (⟨#[32]⟩ : ByteArray)).size + (rdOf ByteArray.empty y175 ((rd_T56 s0_1 x4_1).f3)).size ≤ 9223372036854775807 then (if ((((((((x3_1 ++ (⟨#[98, 97, 99, 107, 101, 110, 100, 32]⟩ : ByteArray)) ++ t172) ++ (⟨#[32]⟩ : ByteArray)) ++ t173) ++ (⟨#[32]⟩ : ByteArray)) ++ t174) ++ (⟨#[32]⟩ : ByteArray)) ++ (rdOf ByteArray.empty y175 ((rd_T56 s0_1 x4_1).f3))).size + 1 ≤ 9223372036854775807 then (if (((((((((x3_1 ++ (⟨#[98, 97, 99, 107, 101, 110, 100, 32]⟩ : ByteArray)) ++ t172) ++ (⟨#[32]⟩ : ByteArray)) ++ t173) ++ (⟨#[32]⟩ : ByteArray)) ++ t174) ++ (⟨#[32]⟩ : ByteArray)) ++ (rdOf ByteArray.empty y175 ((rd_T56 s0_1 x4_1).f3))) ++ (⟨#[32]⟩ : ByteArray)).size + 4 ≤ 9223372036854775807 then (if ((((((((((x3_1 ++ (⟨#[98, 97, 99, 107, 101, 110, 100, 32]⟩ : ByteArray)) ++ t172) ++ (⟨#[32]⟩ : ByteArray)) ++ t173) ++ (⟨#[32]⟩ : ByteArray)) ++ t174) ++ (⟨#[32]⟩ : ByteArray)) ++ (rdOf ByteArray.empty y175 ((rd_T56 s0_1 x4_1).f3))) ++ (⟨#[32]⟩ : ByteArray)) ++ (⟨#[100, 111, 119, 110]⟩ : ByteArray)).size + 1 ≤ 9223372036854775807 then (spec_l5Text.l0 k1 (((((((((((x3_1 ++ (⟨#[98, 97, 99, 107, 101, 110, 100, 32]⟩ : ByteArray)) ++ t172) ++ (⟨#[32]⟩ : ByteArray)) ++ t173) ++ (⟨#[32]⟩ : ByteArray)) ++ t174) ++ (⟨#[32]⟩ : ByteArray)) ++ (rdOf ByteArray.empty y175 ((rd_T56 s0_1 x4_1).f3))) ++ (⟨#[32]⟩ : ByteArray)) ++ (⟨#[100, 111, 119, 110]⟩ : ByteArray)) ++ (⟨#[10]⟩ : ByteArray)) (wrap64 (x4_1 + 1)) s0_0 s0_1 s0_2) else (none)) else (none)) else (none)) else (none)) else (none)) else (none))) else (none)) else (none)) = some (r1, r2) := H
           have A49 := Aside0.mk A490
           clear A490
           by_cases c50 : (((((x3_1 ++ (⟨#[98, 97, 99, 107, 101, 110, 100, 32]⟩ : ByteArray)) ++ t172) ++ (⟨#[32]⟩ : ByteArray)) ++ t173) ++ (⟨#[32]⟩ : ByteArray)).size + t174.size ≤ 9223372036854775807
           ·rw [if_pos c50] at H
            have c50b0 := eq_true c50
            have c50b1 : decide ((((((x3_1 ++ (⟨#[98, 97, 99, 107, 101, 110, 100, 32]⟩ : ByteArray)) ++ t172) ++ (⟨#[32]⟩ : ByteArray)) ++ t173) ++ (⟨#[32]⟩ : ByteArray)).size + t174.size ≤ 9223372036854775807) = true := decide_eq_true c50
            try have c50b2 : (9223372036854775807 < (((((x3_1 ++ (⟨#[98, 97, 99, 107, 101, 110, 100, 32]⟩ : ByteArray)) ++ t172) ++ (⟨#[32]⟩ : ByteArray)) ++ t173) ++ (⟨#[32]⟩ : ByteArray)).size + t174.size) = False := eq_false (Nat.not_lt.2 c50)
            have c50x : (9223372036854775807 < x3_1.size + 8 + t172.size + 1 + t173.size + 1 + t174.size) = False := eq_false (Nat.not_lt.2 (by have h_ := c50; (try simp only [ByteArray.size_append] at h_); exact h_))
            by_cases c51 : ((((((x3_1 ++ (⟨#[98, 97, 99, 107, 101, 110, 100, 32]⟩ : ByteArray)) ++ t172) ++ (⟨#[32]⟩ : ByteArray)) ++ t173) ++ (⟨#[32]⟩ : ByteArray)) ++ t174).size + 1 ≤ 9223372036854775807
            ·rw [if_pos c51] at H
             have c51b0 := eq_true c51
             have c51b1 : decide (((((((x3_1 ++ (⟨#[98, 97, 99, 107, 101, 110, 100, 32]⟩ : ByteArray)) ++ t172) ++ (⟨#[32]⟩ : ByteArray)) ++ t173) ++ (⟨#[32]⟩ : ByteArray)) ++ t174).size + 1 ≤ 9223372036854775807) = true := decide_eq_true c51
             try have c51b2 : (9223372036854775807 < ((((((x3_1 ++ (⟨#[98, 97, 99, 107, 101, 110, 100, 32]⟩ : ByteArray)) ++ t172) ++ (⟨#[32]⟩ : ByteArray)) ++ t173) ++ (⟨#[32]⟩ : ByteArray)) ++ t174).size + 1) = False := eq_false (Nat.not_lt.2 c51)
             have c51x : (9223372036854775807 < x3_1.size + 8 + t172.size + 1 + t173.size + 1 + t174.size + 1) = False := eq_false (Nat.not_lt.2 (by have h_ := c51; (try simp only [ByteArray.size_append] at h_); exact h_))
             obtain ⟨y175, hy175⟩ : ∃ y_ : List ByteArray, y_ = (([(⟨#[]⟩ : ByteArray), (⟨#[111, 110]⟩ : ByteArray), (⟨#[100, 114, 97, 105, 110]⟩ : ByteArray), (⟨#[111, 102, 102]⟩ : ByteArray)] : List ByteArray)) := ⟨_, rfl⟩
             replace H : (if 0 ≤ ((rd_T56 s0_1 x4_1).f3) then (if ((rd_T56 s0_1 x4_1).f3) < (y175.length : Int) then (if (((((((x3_1 ++ (⟨#[98, 97, 99, 107, 101, 110, 100, 32]⟩ : ByteArray)) ++ t172) ++ (⟨#[32]⟩ : ByteArray)) ++ t173) ++ (⟨#[32]⟩ : ByteArray)) ++ t174) ++ (⟨#[32]⟩ : ByteArray)).size + (rdOf ByteArray.empty y175 ((rd_T56 s0_1 x4_1).f3)).size ≤ 9223372036854775807 then (if ((((((((x3_1 ++ (⟨#[98, 97, 99, 107, 101, 110, 100, 32]⟩ : ByteArray)) ++ t172) ++ (⟨#[32]⟩ : ByteArray)) ++ t173) ++ (⟨#[32]⟩ : ByteArray)) ++ t174) ++ (⟨#[32]⟩ : ByteArray)) ++ (rdOf ByteArray.empty y175 ((rd_T56 s0_1 x4_1).f3))).size + 1 ≤ 9223372036854775807 then (if (((((((((x3_1 ++ (⟨#[98, 97, 99, 107, 101, 110, 100, 32]⟩ : ByteArray)) ++ t172) ++ (⟨#[32]⟩ : ByteArray)) ++ t173) ++ (⟨#[32]⟩ : ByteArray)) ++ t174) ++ (⟨#[32]⟩ : ByteArray)) ++ (rdOf ByteArray.empty y175 ((rd_T56 s0_1 x4_1).f3))) ++ (⟨#[32]⟩ : ByteArray)).size + 4 ≤ 9223372036854775807 then (if ((((((((((x3_1 ++ (⟨#[98, 97, 99, 107, 101, 110, 100, 32]⟩ : ByteArray)) ++ t172) ++ (⟨#[32]⟩ : ByteArray)) ++ t173) ++ (⟨#[32]⟩ : ByteArray)) ++ t174) ++ (⟨#[32]⟩ : ByteArray)) ++ (rdOf ByteArray.empty y175 ((rd_T56 s0_1 x4_1).f3))) ++ (⟨#[32]⟩ : ByteArray)) ++ (⟨#[100, 111, 119, 110]⟩ : ByteArray)).size + 1 ≤ 9223372036854775807 then (spec_l5Text.l0 k1 (((((((((((x3_1 ++ (⟨#[98, 97, 99, 107, 101, 110, 100, 32]⟩ : ByteArray)) ++ t172) ++ (⟨#[32]⟩ : ByteArray)) ++ t173) ++ (⟨#[32]⟩ : ByteArray)) ++ t174) ++ (⟨#[32]⟩ : ByteArray)) ++ (rdOf ByteArray.empty y175 ((rd_T56 s0_1 x4_1).f3))) ++ (⟨#[32]⟩ : ByteArray)) ++ (⟨#[100, 111, 119, 110]⟩ : ByteArray)) ++ (⟨#[10]⟩ : ByteArray)) (wrap64 (x4_1 + 1)) s0_0 s0_1 s0_2) else (none)) else (none)) else (none)) else (none)) else (none)) else (none)) = some (r1, r2) := by first | (rw [hy175]; with_reducible exact H) | (have H2_ := (Option.bind_some _ _).symm.trans H; rw [hy175]; with_reducible exact H2_) | (have H2_ := (Option.bind_some _ _).symm.trans H; with_reducible exact H2_) | with_reducible exact H | (rw [hy175]; exact H) | exact H
             have Ny175 := Aside0.mk hy175
             clear hy175
             by_cases c52 : 0 ≤ ((rd_T56 s0_1 x4_1).f3)
             ·rw [if_pos c52] at H
              have c52b0 : decide (0 ≤ ((rd_T56 s0_1 x4_1).f3)) = true := decide_eq_true c52
              clear c52
              by_cases c53 : ((rd_T56 s0_1 x4_1).f3) < (y175.length : Int)
              ·rw [if_pos c53] at H
               have c53b0 : decide (((rd_T56 s0_1 x4_1).f3) < (y175.length : Int)) = true := decide_eq_true c53
               clear c53
               by_cases c54 : (((((((x3_1 ++ (⟨#[98, 97, 99, 107, 101, 110, 100, 32]⟩ : ByteArray)) ++ t172) ++ (⟨#[32]⟩ : ByteArray)) ++ t173) ++ (⟨#[32]⟩ : ByteArray)) ++ t174) ++ (⟨#[32]⟩ : ByteArray)).size + (rdOf ByteArray.empty y175 ((rd_T56 s0_1 x4_1).f3)).size ≤ 9223372036854775807
               ·rw [if_pos c54] at H
                have c54b0 := eq_true c54
                have c54b1 : decide ((((((((x3_1 ++ (⟨#[98, 97, 99, 107, 101, 110, 100, 32]⟩ : ByteArray)) ++ t172) ++ (⟨#[32]⟩ : ByteArray)) ++ t173) ++ (⟨#[32]⟩ : ByteArray)) ++ t174) ++ (⟨#[32]⟩ : ByteArray)).size + (rdOf ByteArray.empty y175 ((rd_T56 s0_1 x4_1).f3)).size ≤ 9223372036854775807) = true := decide_eq_true c54
                try have c54b2 : (9223372036854775807 < (((((((x3_1 ++ (⟨#[98, 97, 99, 107, 101, 110, 100, 32]⟩ : ByteArray)) ++ t172) ++ (⟨#[32]⟩ : ByteArray)) ++ t173) ++ (⟨#[32]⟩ : ByteArray)) ++ t174) ++ (⟨#[32]⟩ : ByteArray)).size + (rdOf ByteArray.empty y175 ((rd_T56 s0_1 x4_1).f3)).size) = False := eq_false (Nat.not_lt.2 c54)
                have c54x : (9223372036854775807 < x3_1.size + 8 + t172.size + 1 + t173.size + 1 + t174.size + 1 + (rdOf ByteArray.empty y175 ((rd_T56 s0_1 x4_1).f3)).size) = False := eq_false (Nat.not_lt.2 (by have h_ := c54; (try simp only [ByteArray.size_append] at h_); exact h_))
                by_cases c55 : ((((((((x3_1 ++ (⟨#[98, 97, 99, 107, 101, 110, 100, 32]⟩ : ByteArray)) ++ t172) ++ (⟨#[32]⟩ : ByteArray)) ++ t173) ++ (⟨#[32]⟩ : ByteArray)) ++ t174) ++ (⟨#[32]⟩ : ByteArray)) ++ (rdOf ByteArray.empty y175 ((rd_T56 s0_1 x4_1).f3))).size + 1 ≤ 9223372036854775807
                ·rw [if_pos c55] at H
                 have c55b0 := eq_true c55
                 have c55b1 : decide (((((((((x3_1 ++ (⟨#[98, 97, 99, 107, 101, 110, 100, 32]⟩ : ByteArray)) ++ t172) ++ (⟨#[32]⟩ : ByteArray)) ++ t173) ++ (⟨#[32]⟩ : ByteArray)) ++ t174) ++ (⟨#[32]⟩ : ByteArray)) ++ (rdOf ByteArray.empty y175 ((rd_T56 s0_1 x4_1).f3))).size + 1 ≤ 9223372036854775807) = true := decide_eq_true c55
                 try have c55b2 : (9223372036854775807 < ((((((((x3_1 ++ (⟨#[98, 97, 99, 107, 101, 110, 100, 32]⟩ : ByteArray)) ++ t172) ++ (⟨#[32]⟩ : ByteArray)) ++ t173) ++ (⟨#[32]⟩ : ByteArray)) ++ t174) ++ (⟨#[32]⟩ : ByteArray)) ++ (rdOf ByteArray.empty y175 ((rd_T56 s0_1 x4_1).f3))).size + 1) = False := eq_false (Nat.not_lt.2 c55)
                 have c55x : (9223372036854775807 < x3_1.size + 8 + t172.size + 1 + t173.size + 1 + t174.size + 1 + (rdOf ByteArray.empty y175 ((rd_T56 s0_1 x4_1).f3)).size + 1) = False := eq_false (Nat.not_lt.2 (by have h_ := c55; (try simp only [ByteArray.size_append] at h_); exact h_))
                 by_cases c56 : (((((((((x3_1 ++ (⟨#[98, 97, 99, 107, 101, 110, 100, 32]⟩ : ByteArray)) ++ t172) ++ (⟨#[32]⟩ : ByteArray)) ++ t173) ++ (⟨#[32]⟩ : ByteArray)) ++ t174) ++ (⟨#[32]⟩ : ByteArray)) ++ (rdOf ByteArray.empty y175 ((rd_T56 s0_1 x4_1).f3))) ++ (⟨#[32]⟩ : ByteArray)).size + 4 ≤ 9223372036854775807
                 ·rw [if_pos c56] at H
                  have c56b0 := eq_true c56
                  have c56b1 : decide ((((((((((x3_1 ++ (⟨#[98, 97, 99, 107, 101, 110, 100, 32]⟩ : ByteArray)) ++ t172) ++ (⟨#[32]⟩ : ByteArray)) ++ t173) ++ (⟨#[32]⟩ : ByteArray)) ++ t174) ++ (⟨#[32]⟩ : ByteArray)) ++ (rdOf ByteArray.empty y175 ((rd_T56 s0_1 x4_1).f3))) ++ (⟨#[32]⟩ : ByteArray)).size + 4 ≤ 9223372036854775807) = true := decide_eq_true c56
                  try have c56b2 : (9223372036854775807 < (((((((((x3_1 ++ (⟨#[98, 97, 99, 107, 101, 110, 100, 32]⟩ : ByteArray)) ++ t172) ++ (⟨#[32]⟩ : ByteArray)) ++ t173) ++ (⟨#[32]⟩ : ByteArray)) ++ t174) ++ (⟨#[32]⟩ : ByteArray)) ++ (rdOf ByteArray.empty y175 ((rd_T56 s0_1 x4_1).f3))) ++ (⟨#[32]⟩ : ByteArray)).size + 4) = False := eq_false (Nat.not_lt.2 c56)
                  have c56x : (9223372036854775807 < x3_1.size + 8 + t172.size + 1 + t173.size + 1 + t174.size + 1 + (rdOf ByteArray.empty y175 ((rd_T56 s0_1 x4_1).f3)).size + 1 + 4) = False := eq_false (Nat.not_lt.2 (by have h_ := c56; (try simp only [ByteArray.size_append] at h_); exact h_))
                  by_cases c57 : ((((((((((x3_1 ++ (⟨#[98, 97, 99, 107, 101, 110, 100, 32]⟩ : ByteArray)) ++ t172) ++ (⟨#[32]⟩ : ByteArray)) ++ t173) ++ (⟨#[32]⟩ : ByteArray)) ++ t174) ++ (⟨#[32]⟩ : ByteArray)) ++ (rdOf ByteArray.empty y175 ((rd_T56 s0_1 x4_1).f3))) ++ (⟨#[32]⟩ : ByteArray)) ++ (⟨#[100, 111, 119, 110]⟩ : ByteArray)).size + 1 ≤ 9223372036854775807
                  ·rw [if_pos c57] at H
                   have c57b0 := eq_true c57
                   have c57b1 : decide (((((((((((x3_1 ++ (⟨#[98, 97, 99, 107, 101, 110, 100, 32]⟩ : ByteArray)) ++ t172) ++ (⟨#[32]⟩ : ByteArray)) ++ t173) ++ (⟨#[32]⟩ : ByteArray)) ++ t174) ++ (⟨#[32]⟩ : ByteArray)) ++ (rdOf ByteArray.empty y175 ((rd_T56 s0_1 x4_1).f3))) ++ (⟨#[32]⟩ : ByteArray)) ++ (⟨#[100, 111, 119, 110]⟩ : ByteArray)).size + 1 ≤ 9223372036854775807) = true := decide_eq_true c57
                   try have c57b2 : (9223372036854775807 < ((((((((((x3_1 ++ (⟨#[98, 97, 99, 107, 101, 110, 100, 32]⟩ : ByteArray)) ++ t172) ++ (⟨#[32]⟩ : ByteArray)) ++ t173) ++ (⟨#[32]⟩ : ByteArray)) ++ t174) ++ (⟨#[32]⟩ : ByteArray)) ++ (rdOf ByteArray.empty y175 ((rd_T56 s0_1 x4_1).f3))) ++ (⟨#[32]⟩ : ByteArray)) ++ (⟨#[100, 111, 119, 110]⟩ : ByteArray)).size + 1) = False := eq_false (Nat.not_lt.2 c57)
                   have c57x : (9223372036854775807 < x3_1.size + 8 + t172.size + 1 + t173.size + 1 + t174.size + 1 + (rdOf ByteArray.empty y175 ((rd_T56 s0_1 x4_1).f3)).size + 1 + 4 + 1) = False := eq_false (Nat.not_lt.2 (by have h_ := c57; (try simp only [ByteArray.size_append] at h_); exact h_))
                   have H' := Aside0.mk H
                   clear H
                   obtain ⟨ASz58_1, cSz58_1, ASz58_2, cSz58_2, HGz58, hgz58, HSz58_1, HSz58_2⟩ := HI0.out
                   have hcz58_0 := cellS33_0 HGz58
                   have hcz58_1 := cellS33_1 HGz58
                   have hcz58_2 := cellS33_2 HGz58
                   have hfz58_0 := blk_frozen HGz58 0
                   clear HGz58 hgz58
                   have p163 : 0 ≤ (x4_1 : Int) := of_decide_eq_true (by first | (with_reducible assumption) | assumption)
                   have q163 : x4_1 < (s0_1.length : Int) := of_decide_eq_true (by first | (with_reducible assumption) | assumption)
                   obtain ⟨ad163, e163, hx163_0, hx163_1, hx163_2, hx163_3, hx163_4⟩ := at_T56 HSz58_1 x4_1 p163 q163
                   (try rw [← Nbq10.out] at hx163_4)
                   cases e163
                   replace hx163_0 := pw_cell_below HB.out hx163_0
                   replace hx163_1 := pw_cell_below HB.out hx163_1
                   replace hx163_2 := pw_cell_below HB.out hx163_2
                   replace hx163_3 := pw_cell_below HB.out hx163_3
                   replace hx163_4 := pw_cell_below HB.out hx163_4
                   replace p163 := eq_true p163
                   replace q163 := eq_true q163
                   try go_wp2_with (first | ((with_reducible refine gate_dst (N := 5) rfl ?_); refine box_event ?hg (N := 5) ?hd (cs := #[.int .i64 0, .int .i64 0, .int .i64 0, .int .i64 0, .bool false]) (t := 56) ?hr ?_; (case hd => rfl); (case hg => rfl); (case hr => first | (go_simp; done) | (go_simp; rfl)); intro gb164 hg w59 hbox hb; have n0_ := Aside0.mk (IsS33.below (by repeat (first | (with_reducible first | exact HI0.out | apply IsS33.alloc | apply IsS33.drewN | apply IsS33.drew | apply IsS33.set_0) | exact HI0.out)) hb); have n1_ := Aside0.mk (KeepBut.trans (by repeat (first | (with_reducible first | exact HK.out | apply KeepBut.set_ | apply keep_drewN | apply keep_drew | apply keep_alloc) | exact HK.out)) (KeepBut.of_below hb g none) (.inl rfl)); have n2_ := Aside0.mk (below_step (by repeat (first | (with_reducible first | exact HB.out | apply below_alloc | apply pw_below_drewN | apply below_drew1 | refine below_set ?_ (IsS33.ge HI0.out)) | exact HB.out)) hb); have n3_ := Aside0.mk (hbox); have n4_ := Aside0.mk ((by rw [hg]; exact (keep_size (w := w) (g := g) (row := none) (by repeat (first | (with_reducible first | exact HK.out | apply KeepBut.set_ | apply keep_drewN | apply keep_drew | apply keep_alloc) | exact HK.out))) : w.heap.size ≤ gb164)); have n5_ := Aside0.mk ((Nat.le_trans HW0.out (by rw [hg]; exact (keep_size (w := w) (g := g) (row := none) (by repeat (first | (with_reducible first | exact HK.out | apply KeepBut.set_ | apply keep_drewN | apply keep_drew | apply keep_alloc) | exact HK.out))) : w.heap.size ≤ gb164) : w0.heap.size ≤ gb164)); have n6_ := Aside0.mk ((by rw [hg]; exact Nat.ne_of_lt (IsS33.lt (show IsS33 w0 _ g s0_0 s0_1 s0_2 from by repeat (first | (with_reducible first | exact HI0.out | apply IsS33.alloc | apply IsS33.drewN | apply IsS33.drew | apply IsS33.set_0) | exact HI0.out))) : g ≠ gb164)); have n7_ := Aside0.mk ((by rw [hg]; exact Nat.ne_of_gt (IsS33.lt (show IsS33 w0 _ g s0_0 s0_1 s0_2 from by repeat (first | (with_reducible first | exact HI0.out | apply IsS33.alloc | apply IsS33.drewN | apply IsS33.drew | apply IsS33.set_0) | exact HI0.out))) : gb164 ≠ g)); clear HI0; clear HK; clear HB; have HI0 := n0_; have HK := n1_; have HB := n2_; have BK164 := n3_; have GW164 := n4_; have GE164 := n5_; have NB0_164 := n6_; have NB164_0 := n7_; clear n0_ n1_ n2_ n3_ n4_ n5_ n6_ n7_; clear hb hbox hg; have hnb60 := NB164_0.out; have hnc60 := NB0_164.out; have hcz61_0 : w59.cell? ⟨gb164, 0, none⟩ = some (.int .i64 0) := (blk_cell BK164.out 0).trans rfl; have hcz61_1 : w59.cell? ⟨gb164, 1, none⟩ = some (.int .i64 0) := (blk_cell BK164.out 1).trans rfl; have hcz61_2 : w59.cell? ⟨gb164, 2, none⟩ = some (.int .i64 0) := (blk_cell BK164.out 2).trans rfl; have hcz61_3 : w59.cell? ⟨gb164, 3, none⟩ = some (.int .i64 0) := (blk_cell BK164.out 3).trans rfl; have hcz61_4 : w59.cell? ⟨gb164, 4, none⟩ = some (.bool false) := (blk_cell BK164.out 4).trans rfl; have hfz61_0 := blk_frozen BK164.out 0; have hfz61_1 := blk_frozen BK164.out 1; have hfz61_2 := blk_frozen BK164.out 2; have hfz61_3 := blk_frozen BK164.out 3; have hfz61_4 := blk_frozen BK164.out 4))
                   have pi178 : (0 ≤ (((rd_T56 s0_1 x4_1).f3) : Int)) = True := eq_true (of_decide_eq_true (by first | (with_reducible assumption) | assumption))
                   have qi178 : (((rd_T56 s0_1 x4_1).f3) < (y175.length : Int)) = True := eq_true (of_decide_eq_true (by first | (with_reducible assumption) | assumption))
                   have n0_ : Aside0 ((((((w59.setCell ⟨gb164, 0, none⟩ (.int .i64 ((rd_T56 s0_1 x4_1).f0))).setCell ⟨gb164, 1, none⟩ (.int .i64 ((rd_T56 s0_1 x4_1).f1))).setCell ⟨gb164, 2, none⟩ (.int .i64 ((rd_T56 s0_1 x4_1).f2))).setCell ⟨gb164, 3, none⟩ (.int .i64 ((rd_T56 s0_1 x4_1).f3))).setCell ⟨gb164, 4, none⟩ (.bool false)).heap[gb164]? = some (.cells #[.int .i64 ((rd_T56 s0_1 x4_1).f0), .int .i64 ((rd_T56 s0_1 x4_1).f1), .int .i64 ((rd_T56 s0_1 x4_1).f2), .int .i64 ((rd_T56 s0_1 x4_1).f3), .bool false] 56 (0, 0))) := ⟨by (with_reducible repeat (first | refine blk_drewN ?_ _ | refine blk_drew ?_ | refine blk_alloc ?_ _)); refine blk_put (cs := #[.int .i64 ((rd_T56 s0_1 x4_1).f0), .int .i64 ((rd_T56 s0_1 x4_1).f1), .int .i64 ((rd_T56 s0_1 x4_1).f2), .int .i64 ((rd_T56 s0_1 x4_1).f3), .bool false]) ?_ 4 _ rfl; (with_reducible repeat (first | refine blk_drewN ?_ _ | refine blk_drew ?_ | refine blk_alloc ?_ _)); refine blk_put (cs := #[.int .i64 ((rd_T56 s0_1 x4_1).f0), .int .i64 ((rd_T56 s0_1 x4_1).f1), .int .i64 ((rd_T56 s0_1 x4_1).f2), .int .i64 0, .bool false]) ?_ 3 _ rfl; (with_reducible repeat (first | refine blk_drewN ?_ _ | refine blk_drew ?_ | refine blk_alloc ?_ _)); refine blk_put (cs := #[.int .i64 ((rd_T56 s0_1 x4_1).f0), .int .i64 ((rd_T56 s0_1 x4_1).f1), .int .i64 0, .int .i64 0, .bool false]) ?_ 2 _ rfl; (with_reducible repeat (first | refine blk_drewN ?_ _ | refine blk_drew ?_ | refine blk_alloc ?_ _)); refine blk_put (cs := #[.int .i64 ((rd_T56 s0_1 x4_1).f0), .int .i64 0, .int .i64 0, .int .i64 0, .bool false]) ?_ 1 _ rfl; (with_reducible repeat (first | refine blk_drewN ?_ _ | refine blk_drew ?_ | refine blk_alloc ?_ _)); refine blk_put (cs := #[.int .i64 0, .int .i64 0, .int .i64 0, .int .i64 0, .bool false]) ?_ 0 _ rfl; (with_reducible repeat (first | refine blk_drewN ?_ _ | refine blk_drew ?_ | refine blk_alloc ?_ _)); exact BK164.out⟩
                   have n1_ : Aside0 (IsS33 w0 (((((w59.setCell ⟨gb164, 0, none⟩ (.int .i64 ((rd_T56 s0_1 x4_1).f0))).setCell ⟨gb164, 1, none⟩ (.int .i64 ((rd_T56 s0_1 x4_1).f1))).setCell ⟨gb164, 2, none⟩ (.int .i64 ((rd_T56 s0_1 x4_1).f2))).setCell ⟨gb164, 3, none⟩ (.int .i64 ((rd_T56 s0_1 x4_1).f3))).setCell ⟨gb164, 4, none⟩ (.bool false)) g s0_0 s0_1 s0_2) := ⟨by repeat (first | (with_reducible first | exact HI0.out | apply IsS33.alloc | apply IsS33.drewN | apply IsS33.drew | apply IsS33.set_0 | refine IsS33.far ?_ NB0_164.out _) | exact HI0.out)⟩
                   have n2_ : Aside0 (KeepBut w (((((w59.setCell ⟨gb164, 0, none⟩ (.int .i64 ((rd_T56 s0_1 x4_1).f0))).setCell ⟨gb164, 1, none⟩ (.int .i64 ((rd_T56 s0_1 x4_1).f1))).setCell ⟨gb164, 2, none⟩ (.int .i64 ((rd_T56 s0_1 x4_1).f2))).setCell ⟨gb164, 3, none⟩ (.int .i64 ((rd_T56 s0_1 x4_1).f3))).setCell ⟨gb164, 4, none⟩ (.bool false)) g none) := ⟨by repeat (first | (with_reducible first | exact HK.out | apply KeepBut.set_ | apply keep_drewN | apply keep_drew | apply keep_alloc | refine keep_far ?_ GW164.out _) | exact HK.out)⟩
                   have n3_ : Aside0 (Below w0.heap.size w0 (((((w59.setCell ⟨gb164, 0, none⟩ (.int .i64 ((rd_T56 s0_1 x4_1).f0))).setCell ⟨gb164, 1, none⟩ (.int .i64 ((rd_T56 s0_1 x4_1).f1))).setCell ⟨gb164, 2, none⟩ (.int .i64 ((rd_T56 s0_1 x4_1).f2))).setCell ⟨gb164, 3, none⟩ (.int .i64 ((rd_T56 s0_1 x4_1).f3))).setCell ⟨gb164, 4, none⟩ (.bool false))) := ⟨by repeat (first | (with_reducible first | exact HB.out | apply below_alloc | apply pw_below_drewN | apply below_drew1 | refine below_set ?_ (IsS33.ge HI0.out) | refine below_set ?_ GE164.out) | exact HB.out)⟩
                   (try clear BK164)
                   (try clear HI0)
                   (try clear HK)
                   (try clear HB)
                   generalize (((((w59.setCell ⟨gb164, 0, none⟩ (.int .i64 ((rd_T56 s0_1 x4_1).f0))).setCell ⟨gb164, 1, none⟩ (.int .i64 ((rd_T56 s0_1 x4_1).f1))).setCell ⟨gb164, 2, none⟩ (.int .i64 ((rd_T56 s0_1 x4_1).f2))).setCell ⟨gb164, 3, none⟩ (.int .i64 ((rd_T56 s0_1 x4_1).f3))).setCell ⟨gb164, 4, none⟩ (.bool false)) = w62 at n0_ n1_ n2_ n3_ ⊢
                   have BK164 := n0_
                   have HI0 := n1_
                   have HK := n2_
                   have HB := n3_
                   clear n0_ n1_ n2_ n3_
                   have n0_ := Aside0.mk (blk_drew BK164.out)
                   have n1_ := Aside0.mk (IsS33.drew HI0.out)
                   have n2_ := Aside0.mk (keep_drew HK.out)
                   have n3_ := Aside0.mk (below_drew1 HB.out)
                   clear BK164
                   clear HI0
                   clear HK
                   clear HB
                   have BK164 := n0_
                   have HI0 := n1_
                   have HK := n2_
                   have HB := n3_
                   clear n0_ n1_ n2_ n3_
                   refine start_ (n := 28) (S := fun w' => True) (ds := []) #[false, false, false, false, false, false, false, false, false, false, false, false, false, false, false, false, false, false, false, false, false, false, false, false, false, false, false, false] (by kernel_rfl) rfl rfl trivial (fun hHeld => ?_); refine with_tabW spec_l5Text.tab9 spec_l5Text.bits9 (fun HT_ HW_ => ?_)
                   generalize w62.drew = w63 at BK164 HI0 HK HB hHeld ⊢
                   refine pure_ (i := 0) (N := some 33) (v := ?_) (a' := ?_) #[true, false, false, false, false, false, false, false, false, false, false, false, false, false, false, false, false, false, false, false, false, false, false, false, false, false, false, false] rfl rfl (any_of HT_.out (by kernel_rfl)) (fun _ _ _ h => h) (Or.inl ⟨by rfl, ?_⟩) ?_ ?_
                   rotate_left
                   ·intro w'
                    first | (go_simp; with_reducible rfl) | (go_simp; (try unfold Instr.field); go_simp; (try simp only [asAgg]); go_simp; with_reducible rfl)
                   rotate_left
                   ·simp only [Act.put, List.setIfInBounds_toArray, List.set_cons_zero, List.set_cons_succ, i64_w, i32_w]
                    rfl
                   refine pure_ (i := 2) (N := some 35) (v := ?_) (a' := ?_) #[true, false, true, false, false, false, false, false, false, false, false, false, false, false, false, false, false, false, false, false, false, false, false, false, false, false, false, false] rfl rfl (any_of HT_.out (by kernel_rfl)) (fun _ _ _ h => h) (Or.inl ⟨by rfl, ?_⟩) ?_ ?_
                   rotate_left
                   ·intro w'
                    first | (go_simp; with_reducible rfl) | (go_simp; (try unfold Instr.field); go_simp; (try simp only [asAgg]); go_simp; with_reducible rfl)
                   rotate_left
                   ·simp only [Act.put, List.setIfInBounds_toArray, List.set_cons_zero, List.set_cons_succ, i64_w, i32_w]
                    rfl
                   refine pure_ (i := 7) (N := some 40) (v := ?_) (a' := ?_) #[true, false, true, false, false, false, false, true, false, false, false, false, false, false, false, false, false, false, false, false, false, false, false, false, false, false, false, false] rfl rfl (any_of HT_.out (by kernel_rfl)) (fun _ _ _ h => h) (Or.inl ⟨by rfl, ?_⟩) ?_ ?_
                   rotate_left
                   ·intro w'
                    first | (go_simp; with_reducible rfl) | (go_simp; (try unfold Instr.field); go_simp; (try simp only [asAgg]); go_simp; with_reducible rfl)
                   rotate_left
                   ·simp only [Act.put, List.setIfInBounds_toArray, List.set_cons_zero, List.set_cons_succ, i64_w, i32_w]
                    rfl
                   refine pure_ (i := 12) (N := some 45) (v := ?_) (a' := ?_) #[true, false, true, false, false, false, false, true, false, false, false, false, true, false, false, false, false, false, false, false, false, false, false, false, false, false, false, false] rfl rfl (any_of HT_.out (by kernel_rfl)) (fun _ _ _ h => h) (Or.inl ⟨by rfl, ?_⟩) ?_ ?_
                   rotate_left
                   ·intro w'
                    first | (go_simp; with_reducible rfl) | (go_simp; (try unfold Instr.field); go_simp; (try simp only [asAgg]); go_simp; with_reducible rfl)
                   rotate_left
                   ·simp only [Act.put, List.setIfInBounds_toArray, List.set_cons_zero, List.set_cons_succ, i64_w, i32_w]
                    rfl
                   refine pure_ (i := 18) (N := some 51) (v := ?_) (a' := ?_) #[true, false, true, false, false, false, false, true, false, false, false, false, true, false, false, false, false, false, true, false, false, false, false, false, false, false, false, false] rfl rfl (any_of HT_.out (by kernel_rfl)) (fun _ _ _ h => h) (Or.inl ⟨by rfl, ?_⟩) ?_ ?_
                   rotate_left
                   ·intro w'
                    first | (go_simp; with_reducible rfl) | (go_simp; (try unfold Instr.field); go_simp; (try simp only [asAgg]); go_simp; with_reducible rfl)
                   rotate_left
                   ·simp only [Act.put, List.setIfInBounds_toArray, List.set_cons_zero, List.set_cons_succ, i64_w, i32_w]
                    rfl
                   refine pure_ (i := 24) (N := some 57) (v := ?_) (a' := ?_) #[true, false, true, false, false, false, false, true, false, false, false, false, true, false, false, false, false, false, true, false, false, false, false, false, true, false, false, false] rfl rfl (any_of HT_.out (by kernel_rfl)) (fun _ _ _ h => h) (Or.inl ⟨by rfl, ?_⟩) ?_ ?_
                   rotate_left
                   ·intro w'
                    first | (go_simp; with_reducible rfl) | (go_simp; (try unfold Instr.field); go_simp; (try simp only [asAgg]); go_simp; with_reducible rfl)
                   rotate_left
                   ·simp only [Act.put, List.setIfInBounds_toArray, List.set_cons_zero, List.set_cons_succ, i64_w, i32_w]
                    rfl
                   refine inv_at [1, 3, 4, 5, 6, 8, 9, 10, 11, 13, 14, 15, 16, 17, 19, 20, 21, 22, 23, 25, 26, 27] (fun a0_ b a w' => ∃ (v176 : Value) (adz_v176 : Addr) (m20_ : Value), a = putSel a0_ b [(1, 34, .string (x3_1 ++ (⟨#[98, 97, 99, 107, 101, 110, 100, 32]⟩ : ByteArray))), (3, 36, .int .i64 ((rd_T56 s0_1 x4_1).f0)), (4, 37, .string t172), (5, 38, .string ((x3_1 ++ (⟨#[98, 97, 99, 107, 101, 110, 100, 32]⟩ : ByteArray)) ++ t172)), (6, 39, .string (((x3_1 ++ (⟨#[98, 97, 99, 107, 101, 110, 100, 32]⟩ : ByteArray)) ++ t172) ++ (⟨#[32]⟩ : ByteArray))), (8, 41, .int .i64 ((rd_T56 s0_1 x4_1).f1)), (9, 42, .string t173), (10, 43, .string ((((x3_1 ++ (⟨#[98, 97, 99, 107, 101, 110, 100, 32]⟩ : ByteArray)) ++ t172) ++ (⟨#[32]⟩ : ByteArray)) ++ t173)), (11, 44, .string (((((x3_1 ++ (⟨#[98, 97, 99, 107, 101, 110, 100, 32]⟩ : ByteArray)) ++ t172) ++ (⟨#[32]⟩ : ByteArray)) ++ t173) ++ (⟨#[32]⟩ : ByteArray))), (13, 46, .int .i64 ((rd_T56 s0_1 x4_1).f2)), (14, 47, .string t174), (15, 48, .string ((((((x3_1 ++ (⟨#[98, 97, 99, 107, 101, 110, 100, 32]⟩ : ByteArray)) ++ t172) ++ (⟨#[32]⟩ : ByteArray)) ++ t173) ++ (⟨#[32]⟩ : ByteArray)) ++ t174)), (16, 49, .string (((((((x3_1 ++ (⟨#[98, 97, 99, 107, 101, 110, 100, 32]⟩ : ByteArray)) ++ t172) ++ (⟨#[32]⟩ : ByteArray)) ++ t173) ++ (⟨#[32]⟩ : ByteArray)) ++ t174) ++ (⟨#[32]⟩ : ByteArray))), (17, 50, v176), (19, 52, .int .i64 ((rd_T56 s0_1 x4_1).f3)), (20, 53, m20_), (21, 54, .string (rdOf ByteArray.empty y175 ((rd_T56 s0_1 x4_1).f3))), (22, 55, .string ((((((((x3_1 ++ (⟨#[98, 97, 99, 107, 101, 110, 100, 32]⟩ : ByteArray)) ++ t172) ++ (⟨#[32]⟩ : ByteArray)) ++ t173) ++ (⟨#[32]⟩ : ByteArray)) ++ t174) ++ (⟨#[32]⟩ : ByteArray)) ++ (rdOf ByteArray.empty y175 ((rd_T56 s0_1 x4_1).f3)))), (23, 56, .string (((((((((x3_1 ++ (⟨#[98, 97, 99, 107, 101, 110, 100, 32]⟩ : ByteArray)) ++ t172) ++ (⟨#[32]⟩ : ByteArray)) ++ t173) ++ (⟨#[32]⟩ : ByteArray)) ++ t174) ++ (⟨#[32]⟩ : ByteArray)) ++ (rdOf ByteArray.empty y175 ((rd_T56 s0_1 x4_1).f3))) ++ (⟨#[32]⟩ : ByteArray))), (25, 58, .string ((((((((((x3_1 ++ (⟨#[98, 97, 99, 107, 101, 110, 100, 32]⟩ : ByteArray)) ++ t172) ++ (⟨#[32]⟩ : ByteArray)) ++ t173) ++ (⟨#[32]⟩ : ByteArray)) ++ t174) ++ (⟨#[32]⟩ : ByteArray)) ++ (rdOf ByteArray.empty y175 ((rd_T56 s0_1 x4_1).f3))) ++ (⟨#[32]⟩ : ByteArray)) ++ (⟨#[100, 111, 119, 110]⟩ : ByteArray))), (26, 59, .string (((((((((((x3_1 ++ (⟨#[98, 97, 99, 107, 101, 110, 100, 32]⟩ : ByteArray)) ++ t172) ++ (⟨#[32]⟩ : ByteArray)) ++ t173) ++ (⟨#[32]⟩ : ByteArray)) ++ t174) ++ (⟨#[32]⟩ : ByteArray)) ++ (rdOf ByteArray.empty y175 ((rd_T56 s0_1 x4_1).f3))) ++ (⟨#[32]⟩ : ByteArray)) ++ (⟨#[100, 111, 119, 110]⟩ : ByteArray)) ++ (⟨#[10]⟩ : ByteArray))), (27, 3, .string (((((((((((x3_1 ++ (⟨#[98, 97, 99, 107, 101, 110, 100, 32]⟩ : ByteArray)) ++ t172) ++ (⟨#[32]⟩ : ByteArray)) ++ t173) ++ (⟨#[32]⟩ : ByteArray)) ++ t174) ++ (⟨#[32]⟩ : ByteArray)) ++ (rdOf ByteArray.empty y175 ((rd_T56 s0_1 x4_1).f3))) ++ (⟨#[32]⟩ : ByteArray)) ++ (⟨#[100, 111, 119, 110]⟩ : ByteArray)) ++ (⟨#[10]⟩ : ByteArray)))] ∧ (w'.heap[gb164]? = some (.cells #[.int .i64 ((rd_T56 s0_1 x4_1).f0), .int .i64 ((rd_T56 s0_1 x4_1).f1), .int .i64 ((rd_T56 s0_1 x4_1).f2), .int .i64 ((rd_T56 s0_1 x4_1).f3), .bool false] 56 (0, 0))) ∧ (IsS33 w0 w' g s0_0 s0_1 s0_2) ∧ (KeepBut w w' g none) ∧ (Below w0.heap.size w0 w') ∧ (b 17 = true → Kd.R Kd.string 9 w' w.heap.size (fun _ => True) v176 y175) ∧ (b 17 = true → ∃ c_, (v176 : Value) = .slice (some adz_v176) y175.length c_) ∧ (b 20 = true → (m20_ : Value) = .pointer (some (adz_v176.add (((rd_T56 s0_1 x4_1).f3)).toNat)))) HT_.out HW_.out (by kernel_rfl) (by kernel_rfl) ?_ ?_ ?_
                   ·exact ⟨.bool false, ⟨0, 0, none⟩, .bool false, by simp only [putSel, Bool.false_eq_true, if_false], BK164.out, HI0.out, HK.out, HB.out, fun h_ => absurd h_ (by decide), fun h_ => absurd h_ (by decide), fun h_ => absurd h_ (by decide)⟩
                   ·skip
                    clear BK164 HB HI0 HK
                    refine steps_cons ?_ ?_
                    ·rintro b a w' ⟨v176, adz_v176, m20_, ha, Q_BK164, Q_HI0, Q_HK, Q_HB, Q_HO177, Q_HA_HO177, Q_X20_⟩ hb_ hon hoff
                     refine ⟨_, rfl, fun K hK => ?_⟩
                     have e33 : a.tmps[33]? = some (.string x3_1) := by rw [ha]; exact (putSel_off rfl).trans rfl
                     replace ha := Aside0.mk ha
                     have BK164 := Aside0.mk Q_BK164
                     have HI0 := Aside0.mk Q_HI0
                     have HK := Aside0.mk Q_HK
                     have HB := Aside0.mk Q_HB
                     refine value_ (w1 := w') (v := .string (x3_1 ++ (⟨#[98, 97, 99, 107, 101, 110, 100, 32]⟩ : ByteArray))) (by rfl) rfl ?_ ?_
                     ·go_simp
                      (try simp only [i64_w])
                      try rfl
                     refine hK.out _ _ ⟨v176, adz_v176, m20_, (by rw [ha.out]; exact putSel_upk 0 hb_ rfl rfl rfl), Q_BK164, Q_HI0, Q_HK, Q_HB, Q_HO177, Q_HA_HO177, Q_X20_⟩
                    refine steps_cons ?_ ?_
                    ·rintro b a w' ⟨v176, adz_v176, m20_, ha, Q_BK164, Q_HI0, Q_HK, Q_HB, Q_HO177, Q_HA_HO177, Q_X20_⟩ hb_ hon hoff
                     refine ⟨_, rfl, fun K hK => ?_⟩
                     have e35 : a.tmps[35]? = some (.pointer (some ⟨gb164, 0, none⟩)) := by rw [ha]; exact (putSel_off rfl).trans rfl
                     replace ha := Aside0.mk ha
                     have BK164 := Aside0.mk Q_BK164
                     have HI0 := Aside0.mk Q_HI0
                     have HK := Aside0.mk Q_HK
                     have HB := Aside0.mk Q_HB
                     have hc0_ : w'.cell? ⟨gb164, 0, none⟩ = some (.int .i64 ((rd_T56 s0_1 x4_1).f0)) := (blk_cell BK164.out 0).trans rfl
                     have hc1_ : w'.cell? ⟨gb164, 1, none⟩ = some (.int .i64 ((rd_T56 s0_1 x4_1).f1)) := (blk_cell BK164.out 1).trans rfl
                     have hc2_ : w'.cell? ⟨gb164, 2, none⟩ = some (.int .i64 ((rd_T56 s0_1 x4_1).f2)) := (blk_cell BK164.out 2).trans rfl
                     have hc3_ : w'.cell? ⟨gb164, 3, none⟩ = some (.int .i64 ((rd_T56 s0_1 x4_1).f3)) := (blk_cell BK164.out 3).trans rfl
                     have hc4_ : w'.cell? ⟨gb164, 4, none⟩ = some (.bool false) := (blk_cell BK164.out 4).trans rfl
                     refine value_ (w1 := w') (v := .int .i64 ((rd_T56 s0_1 x4_1).f0)) (by rfl) rfl ?_ ?_
                     ·go_simp
                      (try simp only [i64_w])
                      try rfl
                     refine hK.out _ _ ⟨v176, adz_v176, m20_, (by rw [ha.out]; exact putSel_upk 1 hb_ rfl rfl rfl), Q_BK164, Q_HI0, Q_HK, Q_HB, Q_HO177, Q_HA_HO177, Q_X20_⟩
                    refine steps_cons ?_ ?_
                    ·rintro b a w' ⟨v176, adz_v176, m20_, ha, Q_BK164, Q_HI0, Q_HK, Q_HB, Q_HO177, Q_HA_HO177, Q_X20_⟩ hb_ hon hoff
                     refine ⟨_, rfl, fun K hK => ?_⟩
                     have e36 : a.tmps[36]? = some (.int .i64 ((rd_T56 s0_1 x4_1).f0)) := by rw [ha]; exact putSel_on (e := (3, 36, .int .i64 ((rd_T56 s0_1 x4_1).f0))) 1 rfl rfl (hon 3 (by kernel_rfl)) rfl
                     replace ha := Aside0.mk ha
                     have BK164 := Aside0.mk Q_BK164
                     have HI0 := Aside0.mk Q_HI0
                     have HK := Aside0.mk Q_HK
                     have HB := Aside0.mk Q_HB
                     refine goes_ Tryd.func25 (by kernel_rfl) rfl #[.int .i64 ((rd_T56 s0_1 x4_1).f0)] (by rfl) rfl rfl (by first | (simp only [List.map_toArray, List.map_cons, List.map_nil, Act.eval, Array.getD_eq_getD_getElem?, Option.getD_some, e36]; done) | (simp only [List.map_toArray, List.map_cons, List.map_nil, Act.eval, Array.getD_eq_getD_getElem?, Option.getD_some, e36]; rfl)) ?_
                     with_reducible refine (spec_l2Digits.calls k1 ((rd_T56 s0_1 x4_1).f0) t172 _ A43.out).mono ?_
                     rintro e w64 ⟨rfl, hb⟩
                     refine ⟨_, rfl, ?_⟩
                     have n0_ := Aside0.mk (IsS33.below (by repeat (first | (with_reducible first | exact HI0.out | apply IsS33.alloc | apply IsS33.drewN | apply IsS33.drew | apply IsS33.set_0 | refine IsS33.far ?_ NB0_164.out _) | exact HI0.out)) hb)
                     have n1_ := Aside0.mk (blk_below (g := gb164) (o := .cells #[.int .i64 ((rd_T56 s0_1 x4_1).f0), .int .i64 ((rd_T56 s0_1 x4_1).f1), .int .i64 ((rd_T56 s0_1 x4_1).f2), .int .i64 ((rd_T56 s0_1 x4_1).f3), .bool false] 56 (0, 0)) (by (with_reducible repeat (first | refine blk_drewN ?_ _ | refine blk_drew ?_ | refine blk_alloc ?_ _)); exact BK164.out) hb)
                     have n2_ := Aside0.mk (KeepBut.trans (by repeat (first | (with_reducible first | exact HK.out | apply KeepBut.set_ | apply keep_drewN | apply keep_drew | apply keep_alloc | refine keep_far ?_ GW164.out _) | exact HK.out)) (KeepBut.of_below hb g none) (.inl rfl))
                     have n3_ := Aside0.mk (below_step (by repeat (first | (with_reducible first | exact HB.out | apply below_alloc | apply pw_below_drewN | apply below_drew1 | refine below_set ?_ (IsS33.ge HI0.out) | refine below_set ?_ GE164.out) | exact HB.out)) hb)
                     have z_HO177 := fun (h0_ : b 17 = true) => (show Kd.R Kd.string 9 w64 w.heap.size (fun _ => True) v176 y175 from by first | exact (Kd.R_below (by (with_reducible repeat (first | apply Kd.R_alloc | apply Kd.R_drewN | apply Kd.R_drew)); exact (Q_HO177 h0_)) hb) | exact Kd.R_mono (Kd.R_below (by (with_reducible repeat (first | apply Kd.R_alloc | apply Kd.R_drewN | apply Kd.R_drew)); exact (Q_HO177 h0_)) hb) (fun _ h_ => by first | trivial | exact h_ | exact h_.1))
                     clear HI0
                     clear BK164
                     clear HK
                     clear HB
                     have HI0 := n0_
                     have BK164 := n1_
                     have HK := n2_
                     have HB := n3_
                     clear n0_ n1_ n2_ n3_
                     (try clear hb)
                     (try clear hb2)
                     (try clear hk)
                     (try clear hi)
                     refine hK.out _ _ ⟨v176, adz_v176, m20_, (by rw [ha.out]; exact putSel_upk 2 hb_ rfl rfl rfl), (by (with_reducible repeat (first | refine blk_drewN ?_ _ | refine blk_drew ?_ | refine blk_alloc ?_ _)); exact BK164.out), (by repeat (first | (with_reducible first | exact HI0.out | apply IsS33.alloc | apply IsS33.drewN | apply IsS33.drew | apply IsS33.set_0 | refine IsS33.far ?_ NB0_164.out _) | exact HI0.out)), (by repeat (first | (with_reducible first | exact HK.out | apply KeepBut.set_ | apply keep_drewN | apply keep_drew | apply keep_alloc | refine keep_far ?_ GW164.out _) | exact HK.out)), (by repeat (first | (with_reducible first | exact HB.out | apply below_alloc | apply pw_below_drewN | apply below_drew1 | refine below_set ?_ (IsS33.ge HI0.out) | refine below_set ?_ GE164.out) | exact HB.out)), z_HO177, Q_HA_HO177, Q_X20_⟩
                    refine steps_cons ?_ ?_
                    ·rintro b a w' ⟨v176, adz_v176, m20_, ha, Q_BK164, Q_HI0, Q_HK, Q_HB, Q_HO177, Q_HA_HO177, Q_X20_⟩ hb_ hon hoff
                     refine ⟨_, rfl, fun K hK => ?_⟩
                     have e34 : a.tmps[34]? = some (.string (x3_1 ++ (⟨#[98, 97, 99, 107, 101, 110, 100, 32]⟩ : ByteArray))) := by rw [ha]; exact putSel_on (e := (1, 34, .string (x3_1 ++ (⟨#[98, 97, 99, 107, 101, 110, 100, 32]⟩ : ByteArray)))) 0 rfl rfl (hon 1 (by kernel_rfl)) rfl
                     have e37 : a.tmps[37]? = some (.string t172) := by rw [ha]; exact putSel_on (e := (4, 37, .string t172)) 2 rfl rfl (hon 4 (by kernel_rfl)) rfl
                     replace ha := Aside0.mk ha
                     have BK164 := Aside0.mk Q_BK164
                     have HI0 := Aside0.mk Q_HI0
                     have HK := Aside0.mk Q_HK
                     have HB := Aside0.mk Q_HB
                     refine value_ (w1 := w') (v := .string ((x3_1 ++ (⟨#[98, 97, 99, 107, 101, 110, 100, 32]⟩ : ByteArray)) ++ t172)) (by rfl) rfl ?_ ?_
                     ·go_simp
                      (try simp only [i64_w])
                      try rfl
                     refine hK.out _ _ ⟨v176, adz_v176, m20_, (by rw [ha.out]; exact putSel_upk 3 hb_ rfl rfl rfl), Q_BK164, Q_HI0, Q_HK, Q_HB, Q_HO177, Q_HA_HO177, Q_X20_⟩
                    refine steps_cons ?_ ?_
                    ·rintro b a w' ⟨v176, adz_v176, m20_, ha, Q_BK164, Q_HI0, Q_HK, Q_HB, Q_HO177, Q_HA_HO177, Q_X20_⟩ hb_ hon hoff
                     refine ⟨_, rfl, fun K hK => ?_⟩
                     have e38 : a.tmps[38]? = some (.string ((x3_1 ++ (⟨#[98, 97, 99, 107, 101, 110, 100, 32]⟩ : ByteArray)) ++ t172)) := by rw [ha]; exact putSel_on (e := (5, 38, .string ((x3_1 ++ (⟨#[98, 97, 99, 107, 101, 110, 100, 32]⟩ : ByteArray)) ++ t172))) 3 rfl rfl (hon 5 (by kernel_rfl)) rfl
                     replace ha := Aside0.mk ha
                     have BK164 := Aside0.mk Q_BK164
                     have HI0 := Aside0.mk Q_HI0
                     have HK := Aside0.mk Q_HK
                     have HB := Aside0.mk Q_HB
                     refine value_ (w1 := w') (v := .string (((x3_1 ++ (⟨#[98, 97, 99, 107, 101, 110, 100, 32]⟩ : ByteArray)) ++ t172) ++ (⟨#[32]⟩ : ByteArray))) (by rfl) rfl ?_ ?_
                     ·go_simp
                      (try simp only [i64_w])
                      try rfl
                     refine hK.out _ _ ⟨v176, adz_v176, m20_, (by rw [ha.out]; exact putSel_upk 4 hb_ rfl rfl rfl), Q_BK164, Q_HI0, Q_HK, Q_HB, Q_HO177, Q_HA_HO177, Q_X20_⟩
                    refine steps_cons ?_ ?_
                    ·rintro b a w' ⟨v176, adz_v176, m20_, ha, Q_BK164, Q_HI0, Q_HK, Q_HB, Q_HO177, Q_HA_HO177, Q_X20_⟩ hb_ hon hoff
                     refine ⟨_, rfl, fun K hK => ?_⟩
                     have e40 : a.tmps[40]? = some (.pointer (some ⟨gb164, 1, none⟩)) := by rw [ha]; exact (putSel_off rfl).trans rfl
                     replace ha := Aside0.mk ha
                     have BK164 := Aside0.mk Q_BK164
                     have HI0 := Aside0.mk Q_HI0
                     have HK := Aside0.mk Q_HK
                     have HB := Aside0.mk Q_HB
                     have hc0_ : w'.cell? ⟨gb164, 0, none⟩ = some (.int .i64 ((rd_T56 s0_1 x4_1).f0)) := (blk_cell BK164.out 0).trans rfl
                     have hc1_ : w'.cell? ⟨gb164, 1, none⟩ = some (.int .i64 ((rd_T56 s0_1 x4_1).f1)) := (blk_cell BK164.out 1).trans rfl
                     have hc2_ : w'.cell? ⟨gb164, 2, none⟩ = some (.int .i64 ((rd_T56 s0_1 x4_1).f2)) := (blk_cell BK164.out 2).trans rfl
                     have hc3_ : w'.cell? ⟨gb164, 3, none⟩ = some (.int .i64 ((rd_T56 s0_1 x4_1).f3)) := (blk_cell BK164.out 3).trans rfl
                     have hc4_ : w'.cell? ⟨gb164, 4, none⟩ = some (.bool false) := (blk_cell BK164.out 4).trans rfl
                     refine value_ (w1 := w') (v := .int .i64 ((rd_T56 s0_1 x4_1).f1)) (by rfl) rfl ?_ ?_
                     ·go_simp
                      (try simp only [i64_w])
                      try rfl
                     refine hK.out _ _ ⟨v176, adz_v176, m20_, (by rw [ha.out]; exact putSel_upk 5 hb_ rfl rfl rfl), Q_BK164, Q_HI0, Q_HK, Q_HB, Q_HO177, Q_HA_HO177, Q_X20_⟩
                    refine steps_cons ?_ ?_
                    ·rintro b a w' ⟨v176, adz_v176, m20_, ha, Q_BK164, Q_HI0, Q_HK, Q_HB, Q_HO177, Q_HA_HO177, Q_X20_⟩ hb_ hon hoff
                     refine ⟨_, rfl, fun K hK => ?_⟩
                     have e41 : a.tmps[41]? = some (.int .i64 ((rd_T56 s0_1 x4_1).f1)) := by rw [ha]; exact putSel_on (e := (8, 41, .int .i64 ((rd_T56 s0_1 x4_1).f1))) 5 rfl rfl (hon 8 (by kernel_rfl)) rfl
                     replace ha := Aside0.mk ha
                     have BK164 := Aside0.mk Q_BK164
                     have HI0 := Aside0.mk Q_HI0
                     have HK := Aside0.mk Q_HK
                     have HB := Aside0.mk Q_HB
                     refine goes_ Tryd.func26 (by kernel_rfl) rfl #[.int .i64 ((rd_T56 s0_1 x4_1).f1)] (by rfl) rfl rfl (by first | (simp only [List.map_toArray, List.map_cons, List.map_nil, Act.eval, Array.getD_eq_getD_getElem?, Option.getD_some, e41]; done) | (simp only [List.map_toArray, List.map_cons, List.map_nil, Act.eval, Array.getD_eq_getD_getElem?, Option.getD_some, e41]; rfl)) ?_
                     with_reducible refine (spec_l2Text.calls k1 ((rd_T56 s0_1 x4_1).f1) t173 _ A46.out).mono ?_
                     rintro e w66 ⟨rfl, hb⟩
                     refine ⟨_, rfl, ?_⟩
                     have n0_ := Aside0.mk (IsS33.below (by repeat (first | (with_reducible first | exact HI0.out | apply IsS33.alloc | apply IsS33.drewN | apply IsS33.drew | apply IsS33.set_0 | refine IsS33.far ?_ NB0_164.out _) | exact HI0.out)) hb)
                     have n1_ := Aside0.mk (blk_below (g := gb164) (o := .cells #[.int .i64 ((rd_T56 s0_1 x4_1).f0), .int .i64 ((rd_T56 s0_1 x4_1).f1), .int .i64 ((rd_T56 s0_1 x4_1).f2), .int .i64 ((rd_T56 s0_1 x4_1).f3), .bool false] 56 (0, 0)) (by (with_reducible repeat (first | refine blk_drewN ?_ _ | refine blk_drew ?_ | refine blk_alloc ?_ _)); exact BK164.out) hb)
                     have n2_ := Aside0.mk (KeepBut.trans (by repeat (first | (with_reducible first | exact HK.out | apply KeepBut.set_ | apply keep_drewN | apply keep_drew | apply keep_alloc | refine keep_far ?_ GW164.out _) | exact HK.out)) (KeepBut.of_below hb g none) (.inl rfl))
                     have n3_ := Aside0.mk (below_step (by repeat (first | (with_reducible first | exact HB.out | apply below_alloc | apply pw_below_drewN | apply below_drew1 | refine below_set ?_ (IsS33.ge HI0.out) | refine below_set ?_ GE164.out) | exact HB.out)) hb)
                     have z_HO177 := fun (h0_ : b 17 = true) => (show Kd.R Kd.string 9 w66 w.heap.size (fun _ => True) v176 y175 from by first | exact (Kd.R_below (by (with_reducible repeat (first | apply Kd.R_alloc | apply Kd.R_drewN | apply Kd.R_drew)); exact (Q_HO177 h0_)) hb) | exact Kd.R_mono (Kd.R_below (by (with_reducible repeat (first | apply Kd.R_alloc | apply Kd.R_drewN | apply Kd.R_drew)); exact (Q_HO177 h0_)) hb) (fun _ h_ => by first | trivial | exact h_ | exact h_.1))
                     clear HI0
                     clear BK164
                     clear HK
                     clear HB
                     have HI0 := n0_
                     have BK164 := n1_
                     have HK := n2_
                     have HB := n3_
                     clear n0_ n1_ n2_ n3_
                     (try clear hb)
                     (try clear hb2)
                     (try clear hk)
                     (try clear hi)
                     refine hK.out _ _ ⟨v176, adz_v176, m20_, (by rw [ha.out]; exact putSel_upk 6 hb_ rfl rfl rfl), (by (with_reducible repeat (first | refine blk_drewN ?_ _ | refine blk_drew ?_ | refine blk_alloc ?_ _)); exact BK164.out), (by repeat (first | (with_reducible first | exact HI0.out | apply IsS33.alloc | apply IsS33.drewN | apply IsS33.drew | apply IsS33.set_0 | refine IsS33.far ?_ NB0_164.out _) | exact HI0.out)), (by repeat (first | (with_reducible first | exact HK.out | apply KeepBut.set_ | apply keep_drewN | apply keep_drew | apply keep_alloc | refine keep_far ?_ GW164.out _) | exact HK.out)), (by repeat (first | (with_reducible first | exact HB.out | apply below_alloc | apply pw_below_drewN | apply below_drew1 | refine below_set ?_ (IsS33.ge HI0.out) | refine below_set ?_ GE164.out) | exact HB.out)), z_HO177, Q_HA_HO177, Q_X20_⟩
                    refine steps_cons ?_ ?_
                    ·rintro b a w' ⟨v176, adz_v176, m20_, ha, Q_BK164, Q_HI0, Q_HK, Q_HB, Q_HO177, Q_HA_HO177, Q_X20_⟩ hb_ hon hoff
                     refine ⟨_, rfl, fun K hK => ?_⟩
                     have e39 : a.tmps[39]? = some (.string (((x3_1 ++ (⟨#[98, 97, 99, 107, 101, 110, 100, 32]⟩ : ByteArray)) ++ t172) ++ (⟨#[32]⟩ : ByteArray))) := by rw [ha]; exact putSel_on (e := (6, 39, .string (((x3_1 ++ (⟨#[98, 97, 99, 107, 101, 110, 100, 32]⟩ : ByteArray)) ++ t172) ++ (⟨#[32]⟩ : ByteArray)))) 4 rfl rfl (hon 6 (by kernel_rfl)) rfl
                     have e42 : a.tmps[42]? = some (.string t173) := by rw [ha]; exact putSel_on (e := (9, 42, .string t173)) 6 rfl rfl (hon 9 (by kernel_rfl)) rfl
                     replace ha := Aside0.mk ha
                     have BK164 := Aside0.mk Q_BK164
                     have HI0 := Aside0.mk Q_HI0
                     have HK := Aside0.mk Q_HK
                     have HB := Aside0.mk Q_HB
                     refine value_ (w1 := w') (v := .string ((((x3_1 ++ (⟨#[98, 97, 99, 107, 101, 110, 100, 32]⟩ : ByteArray)) ++ t172) ++ (⟨#[32]⟩ : ByteArray)) ++ t173)) (by rfl) rfl ?_ ?_
                     ·go_simp
                      (try simp only [i64_w])
                      try rfl
                     refine hK.out _ _ ⟨v176, adz_v176, m20_, (by rw [ha.out]; exact putSel_upk 7 hb_ rfl rfl rfl), Q_BK164, Q_HI0, Q_HK, Q_HB, Q_HO177, Q_HA_HO177, Q_X20_⟩
                    refine steps_cons ?_ ?_
                    ·rintro b a w' ⟨v176, adz_v176, m20_, ha, Q_BK164, Q_HI0, Q_HK, Q_HB, Q_HO177, Q_HA_HO177, Q_X20_⟩ hb_ hon hoff
                     refine ⟨_, rfl, fun K hK => ?_⟩
                     have e43 : a.tmps[43]? = some (.string ((((x3_1 ++ (⟨#[98, 97, 99, 107, 101, 110, 100, 32]⟩ : ByteArray)) ++ t172) ++ (⟨#[32]⟩ : ByteArray)) ++ t173)) := by rw [ha]; exact putSel_on (e := (10, 43, .string ((((x3_1 ++ (⟨#[98, 97, 99, 107, 101, 110, 100, 32]⟩ : ByteArray)) ++ t172) ++ (⟨#[32]⟩ : ByteArray)) ++ t173))) 7 rfl rfl (hon 10 (by kernel_rfl)) rfl
                     replace ha := Aside0.mk ha
                     have BK164 := Aside0.mk Q_BK164
                     have HI0 := Aside0.mk Q_HI0
                     have HK := Aside0.mk Q_HK
                     have HB := Aside0.mk Q_HB
                     refine value_ (w1 := w') (v := .string (((((x3_1 ++ (⟨#[98, 97, 99, 107, 101, 110, 100, 32]⟩ : ByteArray)) ++ t172) ++ (⟨#[32]⟩ : ByteArray)) ++ t173) ++ (⟨#[32]⟩ : ByteArray))) (by rfl) rfl ?_ ?_
                     ·go_simp
                      (try simp only [i64_w])
                      try rfl
                     refine hK.out _ _ ⟨v176, adz_v176, m20_, (by rw [ha.out]; exact putSel_upk 8 hb_ rfl rfl rfl), Q_BK164, Q_HI0, Q_HK, Q_HB, Q_HO177, Q_HA_HO177, Q_X20_⟩
                    refine steps_cons ?_ ?_
                    ·rintro b a w' ⟨v176, adz_v176, m20_, ha, Q_BK164, Q_HI0, Q_HK, Q_HB, Q_HO177, Q_HA_HO177, Q_X20_⟩ hb_ hon hoff
                     refine ⟨_, rfl, fun K hK => ?_⟩
                     have e45 : a.tmps[45]? = some (.pointer (some ⟨gb164, 2, none⟩)) := by rw [ha]; exact (putSel_off rfl).trans rfl
                     replace ha := Aside0.mk ha
                     have BK164 := Aside0.mk Q_BK164
                     have HI0 := Aside0.mk Q_HI0
                     have HK := Aside0.mk Q_HK
                     have HB := Aside0.mk Q_HB
                     have hc0_ : w'.cell? ⟨gb164, 0, none⟩ = some (.int .i64 ((rd_T56 s0_1 x4_1).f0)) := (blk_cell BK164.out 0).trans rfl
                     have hc1_ : w'.cell? ⟨gb164, 1, none⟩ = some (.int .i64 ((rd_T56 s0_1 x4_1).f1)) := (blk_cell BK164.out 1).trans rfl
                     have hc2_ : w'.cell? ⟨gb164, 2, none⟩ = some (.int .i64 ((rd_T56 s0_1 x4_1).f2)) := (blk_cell BK164.out 2).trans rfl
                     have hc3_ : w'.cell? ⟨gb164, 3, none⟩ = some (.int .i64 ((rd_T56 s0_1 x4_1).f3)) := (blk_cell BK164.out 3).trans rfl
                     have hc4_ : w'.cell? ⟨gb164, 4, none⟩ = some (.bool false) := (blk_cell BK164.out 4).trans rfl
                     refine value_ (w1 := w') (v := .int .i64 ((rd_T56 s0_1 x4_1).f2)) (by rfl) rfl ?_ ?_
                     ·go_simp
                      (try simp only [i64_w])
                      try rfl
                     refine hK.out _ _ ⟨v176, adz_v176, m20_, (by rw [ha.out]; exact putSel_upk 9 hb_ rfl rfl rfl), Q_BK164, Q_HI0, Q_HK, Q_HB, Q_HO177, Q_HA_HO177, Q_X20_⟩
                    refine steps_cons ?_ ?_
                    ·rintro b a w' ⟨v176, adz_v176, m20_, ha, Q_BK164, Q_HI0, Q_HK, Q_HB, Q_HO177, Q_HA_HO177, Q_X20_⟩ hb_ hon hoff
                     refine ⟨_, rfl, fun K hK => ?_⟩
                     have e46 : a.tmps[46]? = some (.int .i64 ((rd_T56 s0_1 x4_1).f2)) := by rw [ha]; exact putSel_on (e := (13, 46, .int .i64 ((rd_T56 s0_1 x4_1).f2))) 9 rfl rfl (hon 13 (by kernel_rfl)) rfl
                     replace ha := Aside0.mk ha
                     have BK164 := Aside0.mk Q_BK164
                     have HI0 := Aside0.mk Q_HI0
                     have HK := Aside0.mk Q_HK
                     have HB := Aside0.mk Q_HB
                     refine goes_ Tryd.func25 (by kernel_rfl) rfl #[.int .i64 ((rd_T56 s0_1 x4_1).f2)] (by rfl) rfl rfl (by first | (simp only [List.map_toArray, List.map_cons, List.map_nil, Act.eval, Array.getD_eq_getD_getElem?, Option.getD_some, e46]; done) | (simp only [List.map_toArray, List.map_cons, List.map_nil, Act.eval, Array.getD_eq_getD_getElem?, Option.getD_some, e46]; rfl)) ?_
                     with_reducible refine (spec_l2Digits.calls k1 ((rd_T56 s0_1 x4_1).f2) t174 _ A49.out).mono ?_
                     rintro e w67 ⟨rfl, hb⟩
                     refine ⟨_, rfl, ?_⟩
                     have n0_ := Aside0.mk (IsS33.below (by repeat (first | (with_reducible first | exact HI0.out | apply IsS33.alloc | apply IsS33.drewN | apply IsS33.drew | apply IsS33.set_0 | refine IsS33.far ?_ NB0_164.out _) | exact HI0.out)) hb)
                     have n1_ := Aside0.mk (blk_below (g := gb164) (o := .cells #[.int .i64 ((rd_T56 s0_1 x4_1).f0), .int .i64 ((rd_T56 s0_1 x4_1).f1), .int .i64 ((rd_T56 s0_1 x4_1).f2), .int .i64 ((rd_T56 s0_1 x4_1).f3), .bool false] 56 (0, 0)) (by (with_reducible repeat (first | refine blk_drewN ?_ _ | refine blk_drew ?_ | refine blk_alloc ?_ _)); exact BK164.out) hb)
                     have n2_ := Aside0.mk (KeepBut.trans (by repeat (first | (with_reducible first | exact HK.out | apply KeepBut.set_ | apply keep_drewN | apply keep_drew | apply keep_alloc | refine keep_far ?_ GW164.out _) | exact HK.out)) (KeepBut.of_below hb g none) (.inl rfl))
                     have n3_ := Aside0.mk (below_step (by repeat (first | (with_reducible first | exact HB.out | apply below_alloc | apply pw_below_drewN | apply below_drew1 | refine below_set ?_ (IsS33.ge HI0.out) | refine below_set ?_ GE164.out) | exact HB.out)) hb)
                     have z_HO177 := fun (h0_ : b 17 = true) => (show Kd.R Kd.string 9 w67 w.heap.size (fun _ => True) v176 y175 from by first | exact (Kd.R_below (by (with_reducible repeat (first | apply Kd.R_alloc | apply Kd.R_drewN | apply Kd.R_drew)); exact (Q_HO177 h0_)) hb) | exact Kd.R_mono (Kd.R_below (by (with_reducible repeat (first | apply Kd.R_alloc | apply Kd.R_drewN | apply Kd.R_drew)); exact (Q_HO177 h0_)) hb) (fun _ h_ => by first | trivial | exact h_ | exact h_.1))
                     clear HI0
                     clear BK164
                     clear HK
                     clear HB
                     have HI0 := n0_
                     have BK164 := n1_
                     have HK := n2_
                     have HB := n3_
                     clear n0_ n1_ n2_ n3_
                     (try clear hb)
                     (try clear hb2)
                     (try clear hk)
                     (try clear hi)
                     refine hK.out _ _ ⟨v176, adz_v176, m20_, (by rw [ha.out]; exact putSel_upk 10 hb_ rfl rfl rfl), (by (with_reducible repeat (first | refine blk_drewN ?_ _ | refine blk_drew ?_ | refine blk_alloc ?_ _)); exact BK164.out), (by repeat (first | (with_reducible first | exact HI0.out | apply IsS33.alloc | apply IsS33.drewN | apply IsS33.drew | apply IsS33.set_0 | refine IsS33.far ?_ NB0_164.out _) | exact HI0.out)), (by repeat (first | (with_reducible first | exact HK.out | apply KeepBut.set_ | apply keep_drewN | apply keep_drew | apply keep_alloc | refine keep_far ?_ GW164.out _) | exact HK.out)), (by repeat (first | (with_reducible first | exact HB.out | apply below_alloc | apply pw_below_drewN | apply below_drew1 | refine below_set ?_ (IsS33.ge HI0.out) | refine below_set ?_ GE164.out) | exact HB.out)), z_HO177, Q_HA_HO177, Q_X20_⟩
                    refine steps_cons ?_ ?_
                    ·rintro b a w' ⟨v176, adz_v176, m20_, ha, Q_BK164, Q_HI0, Q_HK, Q_HB, Q_HO177, Q_HA_HO177, Q_X20_⟩ hb_ hon hoff
                     refine ⟨_, rfl, fun K hK => ?_⟩
                     have e44 : a.tmps[44]? = some (.string (((((x3_1 ++ (⟨#[98, 97, 99, 107, 101, 110, 100, 32]⟩ : ByteArray)) ++ t172) ++ (⟨#[32]⟩ : ByteArray)) ++ t173) ++ (⟨#[32]⟩ : ByteArray))) := by rw [ha]; exact putSel_on (e := (11, 44, .string (((((x3_1 ++ (⟨#[98, 97, 99, 107, 101, 110, 100, 32]⟩ : ByteArray)) ++ t172) ++ (⟨#[32]⟩ : ByteArray)) ++ t173) ++ (⟨#[32]⟩ : ByteArray)))) 8 rfl rfl (hon 11 (by kernel_rfl)) rfl
                     have e47 : a.tmps[47]? = some (.string t174) := by rw [ha]; exact putSel_on (e := (14, 47, .string t174)) 10 rfl rfl (hon 14 (by kernel_rfl)) rfl
                     replace ha := Aside0.mk ha
                     have BK164 := Aside0.mk Q_BK164
                     have HI0 := Aside0.mk Q_HI0
                     have HK := Aside0.mk Q_HK
                     have HB := Aside0.mk Q_HB
                     refine value_ (w1 := w') (v := .string ((((((x3_1 ++ (⟨#[98, 97, 99, 107, 101, 110, 100, 32]⟩ : ByteArray)) ++ t172) ++ (⟨#[32]⟩ : ByteArray)) ++ t173) ++ (⟨#[32]⟩ : ByteArray)) ++ t174)) (by rfl) rfl ?_ ?_
                     ·go_simp
                      (try simp only [i64_w])
                      try rfl
                     refine hK.out _ _ ⟨v176, adz_v176, m20_, (by rw [ha.out]; exact putSel_upk 11 hb_ rfl rfl rfl), Q_BK164, Q_HI0, Q_HK, Q_HB, Q_HO177, Q_HA_HO177, Q_X20_⟩
                    refine steps_cons ?_ ?_
                    ·rintro b a w' ⟨v176, adz_v176, m20_, ha, Q_BK164, Q_HI0, Q_HK, Q_HB, Q_HO177, Q_HA_HO177, Q_X20_⟩ hb_ hon hoff
                     refine ⟨_, rfl, fun K hK => ?_⟩
                     have e48 : a.tmps[48]? = some (.string ((((((x3_1 ++ (⟨#[98, 97, 99, 107, 101, 110, 100, 32]⟩ : ByteArray)) ++ t172) ++ (⟨#[32]⟩ : ByteArray)) ++ t173) ++ (⟨#[32]⟩ : ByteArray)) ++ t174)) := by rw [ha]; exact putSel_on (e := (15, 48, .string ((((((x3_1 ++ (⟨#[98, 97, 99, 107, 101, 110, 100, 32]⟩ : ByteArray)) ++ t172) ++ (⟨#[32]⟩ : ByteArray)) ++ t173) ++ (⟨#[32]⟩ : ByteArray)) ++ t174))) 11 rfl rfl (hon 15 (by kernel_rfl)) rfl
                     replace ha := Aside0.mk ha
                     have BK164 := Aside0.mk Q_BK164
                     have HI0 := Aside0.mk Q_HI0
                     have HK := Aside0.mk Q_HK
                     have HB := Aside0.mk Q_HB
                     refine value_ (w1 := w') (v := .string (((((((x3_1 ++ (⟨#[98, 97, 99, 107, 101, 110, 100, 32]⟩ : ByteArray)) ++ t172) ++ (⟨#[32]⟩ : ByteArray)) ++ t173) ++ (⟨#[32]⟩ : ByteArray)) ++ t174) ++ (⟨#[32]⟩ : ByteArray))) (by rfl) rfl ?_ ?_
                     ·go_simp
                      (try simp only [i64_w])
                      try rfl
                     refine hK.out _ _ ⟨v176, adz_v176, m20_, (by rw [ha.out]; exact putSel_upk 12 hb_ rfl rfl rfl), Q_BK164, Q_HI0, Q_HK, Q_HB, Q_HO177, Q_HA_HO177, Q_X20_⟩
                    refine steps_cons ?_ ?_
                    ·rintro b a w' ⟨v176, adz_v176, m20_, ha, Q_BK164, Q_HI0, Q_HK, Q_HB, Q_HO177, Q_HA_HO177, Q_X20_⟩ hb_ hon hoff
                     refine ⟨_, rfl, fun K hK => ?_⟩
                     replace ha := Aside0.mk ha
                     have BK164 := Aside0.mk Q_BK164
                     have HI0 := Aside0.mk Q_HI0
                     have HK := Aside0.mk Q_HK
                     have HB := Aside0.mk Q_HB
                     refine Kd.R_lit_step Kd.string _ 9 ?hg (N := 50) ?hd (xs := ([(⟨#[]⟩ : ByteArray), (⟨#[111, 110]⟩ : ByteArray), (⟨#[100, 114, 97, 105, 110]⟩ : ByteArray), (⟨#[111, 102, 102]⟩ : ByteArray)] : List ByteArray)) (inner := [.string (⟨#[]⟩ : ByteArray), .string (⟨#[111, 110]⟩ : ByteArray), .string (⟨#[100, 114, 97, 105, 110]⟩ : ByteArray), .string (⟨#[111, 102, 102]⟩ : ByteArray)]) (ok := fun _ => True) (okp := fun _ => True) ?hr ?hp (fun _ hk => hk) trivial (Below.refl _ _) (Nat.le_refl _) (by simp) ?_; (case hd => rfl); (case hg => rfl); (case hr => first | (go_simp; done) | (go_simp; rfl)); (case hp => exact (Reps.one (show Kd.M Kd.string _ _ _ (⟨#[]⟩ : ByteArray) [.string (⟨#[]⟩ : ByteArray)] from rfl) (Reps.one (show Kd.M Kd.string _ _ _ (⟨#[111, 110]⟩ : ByteArray) [.string (⟨#[111, 110]⟩ : ByteArray)] from rfl) (Reps.one (show Kd.M Kd.string _ _ _ (⟨#[100, 114, 97, 105, 110]⟩ : ByteArray) [.string (⟨#[100, 114, 97, 105, 110]⟩ : ByteArray)] from rfl) (Reps.one (show Kd.M Kd.string _ _ _ (⟨#[111, 102, 102]⟩ : ByteArray) [.string (⟨#[111, 102, 102]⟩ : ByteArray)] from rfl) (Reps.none _ _))))))
                     intro v176 w64 ho65 hb hg_ hnew_
                     clear hg_ hnew_
                     (first | rw [← Ny175.out] at ho65 | (simp only [Int.reduceToNat] at ho65; rw [← Ny175.out] at ho65))
                     have n0_ := Aside0.mk (Kd.R_lower ho65 (keep_size (w := w) (g := g) (row := none) (by repeat (first | (with_reducible first | exact HK.out | apply KeepBut.set_ | apply keep_drewN | apply keep_drew | apply keep_alloc | refine keep_far ?_ GW164.out _) | exact HK.out))))
                     have n1_ := Aside0.mk (IsS33.below (by repeat (first | (with_reducible first | exact HI0.out | apply IsS33.alloc | apply IsS33.drewN | apply IsS33.drew | apply IsS33.set_0 | refine IsS33.far ?_ NB0_164.out _) | exact HI0.out)) hb)
                     have n2_ := Aside0.mk (blk_below (g := gb164) (o := .cells #[.int .i64 ((rd_T56 s0_1 x4_1).f0), .int .i64 ((rd_T56 s0_1 x4_1).f1), .int .i64 ((rd_T56 s0_1 x4_1).f2), .int .i64 ((rd_T56 s0_1 x4_1).f3), .bool false] 56 (0, 0)) (by (with_reducible repeat (first | refine blk_drewN ?_ _ | refine blk_drew ?_ | refine blk_alloc ?_ _)); exact BK164.out) hb)
                     have n3_ := Aside0.mk (KeepBut.trans (by repeat (first | (with_reducible first | exact HK.out | apply KeepBut.set_ | apply keep_drewN | apply keep_drew | apply keep_alloc | refine keep_far ?_ GW164.out _) | exact HK.out)) (KeepBut.of_below hb g none) (.inl rfl))
                     have n4_ := Aside0.mk (below_step (by repeat (first | (with_reducible first | exact HB.out | apply below_alloc | apply pw_below_drewN | apply below_drew1 | refine below_set ?_ (IsS33.ge HI0.out) | refine below_set ?_ GE164.out) | exact HB.out)) hb)
                     clear HI0
                     clear BK164
                     clear HK
                     clear HB
                     have HO177 := n0_
                     have HI0 := n1_
                     have BK164 := n2_
                     have HK := n3_
                     have HB := n4_
                     clear n0_ n1_ n2_ n3_ n4_
                     clear hb ho65
                     obtain ⟨Ao66, co66, eo66⟩ := Kd.R_slice HO177.out
                     subst eo66
                     obtain ⟨ado66, fo66, _⟩ := Kd.at_string (Kd.R_reads' HO177.out).2.2 0 (by decide) (by rw [Ny175.out]; simp)
                     cases fo66
                     refine hK.out _ _ ⟨.slice (some ado66) y175.length co66, ado66, m20_, (by rw [ha.out]; exact putSel_upk 13 hb_ rfl rfl rfl), (by (with_reducible repeat (first | refine blk_drewN ?_ _ | refine blk_drew ?_ | refine blk_alloc ?_ _)); exact BK164.out), (by repeat (first | (with_reducible first | exact HI0.out | apply IsS33.alloc | apply IsS33.drewN | apply IsS33.drew | apply IsS33.set_0 | refine IsS33.far ?_ NB0_164.out _) | exact HI0.out)), (by repeat (first | (with_reducible first | exact HK.out | apply KeepBut.set_ | apply keep_drewN | apply keep_drew | apply keep_alloc | refine keep_far ?_ GW164.out _) | exact HK.out)), (by repeat (first | (with_reducible first | exact HB.out | apply below_alloc | apply pw_below_drewN | apply below_drew1 | refine below_set ?_ (IsS33.ge HI0.out) | refine below_set ?_ GE164.out) | exact HB.out)), fun _ => (by (with_reducible repeat (first | apply Kd.R_alloc | apply Kd.R_drewN | apply Kd.R_drew)); exact HO177.out), fun _ => ⟨_, rfl⟩, fun h0_ => absurd ((hoff 20 (by kernel_rfl)).symm.trans h0_) (by decide)⟩
                    refine steps_cons ?_ ?_
                    ·rintro b a w' ⟨v176, adz_v176, m20_, ha, Q_BK164, Q_HI0, Q_HK, Q_HB, Q_HO177, Q_HA_HO177, Q_X20_⟩ hb_ hon hoff
                     refine ⟨_, rfl, fun K hK => ?_⟩
                     have e51 : a.tmps[51]? = some (.pointer (some ⟨gb164, 3, none⟩)) := by rw [ha]; exact (putSel_off rfl).trans rfl
                     replace ha := Aside0.mk ha
                     have BK164 := Aside0.mk Q_BK164
                     have HI0 := Aside0.mk Q_HI0
                     have HK := Aside0.mk Q_HK
                     have HB := Aside0.mk Q_HB
                     have hc0_ : w'.cell? ⟨gb164, 0, none⟩ = some (.int .i64 ((rd_T56 s0_1 x4_1).f0)) := (blk_cell BK164.out 0).trans rfl
                     have hc1_ : w'.cell? ⟨gb164, 1, none⟩ = some (.int .i64 ((rd_T56 s0_1 x4_1).f1)) := (blk_cell BK164.out 1).trans rfl
                     have hc2_ : w'.cell? ⟨gb164, 2, none⟩ = some (.int .i64 ((rd_T56 s0_1 x4_1).f2)) := (blk_cell BK164.out 2).trans rfl
                     have hc3_ : w'.cell? ⟨gb164, 3, none⟩ = some (.int .i64 ((rd_T56 s0_1 x4_1).f3)) := (blk_cell BK164.out 3).trans rfl
                     have hc4_ : w'.cell? ⟨gb164, 4, none⟩ = some (.bool false) := (blk_cell BK164.out 4).trans rfl
                     refine value_ (w1 := w') (v := .int .i64 ((rd_T56 s0_1 x4_1).f3)) (by rfl) rfl ?_ ?_
                     ·go_simp
                      (try simp only [i64_w])
                      try rfl
                     refine hK.out _ _ ⟨v176, adz_v176, m20_, (by rw [ha.out]; exact putSel_upk 14 hb_ rfl rfl rfl), Q_BK164, Q_HI0, Q_HK, Q_HB, Q_HO177, Q_HA_HO177, fun h0_ => absurd ((hoff 20 (by kernel_rfl)).symm.trans h0_) (by decide)⟩
                    refine steps_cons ?_ ?_
                    ·rintro b a w' ⟨v176, adz_v176, m20_, ha, Q_BK164, Q_HI0, Q_HK, Q_HB, Q_HO177, Q_HA_HO177, Q_X20_⟩ hb_ hon hoff
                     refine ⟨_, rfl, fun K hK => ?_⟩
                     have e50 : a.tmps[50]? = some (v176) := by rw [ha]; exact putSel_on (e := (17, 50, v176)) 13 rfl rfl (hon 17 (by kernel_rfl)) rfl
                     have e52 : a.tmps[52]? = some (.int .i64 ((rd_T56 s0_1 x4_1).f3)) := by rw [ha]; exact putSel_on (e := (19, 52, .int .i64 ((rd_T56 s0_1 x4_1).f3))) 14 rfl rfl (hon 19 (by kernel_rfl)) rfl
                     replace ha := Aside0.mk ha
                     have BK164 := Aside0.mk Q_BK164
                     have HI0 := Aside0.mk Q_HI0
                     have HK := Aside0.mk Q_HK
                     have HB := Aside0.mk Q_HB
                     have HO177 := Aside0.mk (Q_HO177 (hon 17 (by kernel_rfl)))
                     have HA_HO177 := Aside0.mk (Q_HA_HO177 (hon 17 (by kernel_rfl)))
                     obtain ⟨c_, hv_⟩ := HA_HO177.out
                     rw [hv_] at e50
                     refine value_ (w1 := w') (v := .pointer (some (adz_v176.add (((rd_T56 s0_1 x4_1).f3)).toNat))) (by rfl) rfl ?_ ?_
                     ·go_simp
                      (try simp only [i64_w])
                      try rfl
                     refine hK.out _ _ ⟨v176, adz_v176, (.pointer (some (adz_v176.add (((rd_T56 s0_1 x4_1).f3)).toNat))), (by rw [ha.out]; exact putSel_upk 15 hb_ rfl rfl rfl), Q_BK164, Q_HI0, Q_HK, Q_HB, Q_HO177, Q_HA_HO177, fun _ => rfl⟩
                    refine steps_cons ?_ ?_
                    ·rintro b a w' ⟨v176, adz_v176, m20_, ha, Q_BK164, Q_HI0, Q_HK, Q_HB, Q_HO177, Q_HA_HO177, Q_X20_⟩ hb_ hon hoff
                     refine ⟨_, rfl, fun K hK => ?_⟩
                     have e53 : a.tmps[53]? = some (m20_) := by rw [ha]; exact putSel_on (e := (20, 53, m20_)) 15 rfl rfl (hon 20 (by kernel_rfl)) rfl
                     rw [Q_X20_ (hon 20 (by kernel_rfl))] at e53
                     replace ha := Aside0.mk ha
                     have BK164 := Aside0.mk Q_BK164
                     have HI0 := Aside0.mk Q_HI0
                     have HK := Aside0.mk Q_HK
                     have HB := Aside0.mk Q_HB
                     have HO177 := Aside0.mk (Q_HO177 (hon 17 (by kernel_rfl)))
                     have HA_HO177 := Aside0.mk (Q_HA_HO177 (hon 17 (by kernel_rfl)))
                     obtain ⟨c_, hv_⟩ := HA_HO177.out
                     have hF_ := HO177.out
                     rw [hv_] at hF_
                     obtain ⟨ad_, ea_, hx_⟩ := Kd.at_string (Kd.R_reads' hF_).2.2 ((rd_T56 s0_1 x4_1).f3) (of_eq_true pi178) (of_eq_true qi178)
                     cases ea_
                     refine value_ (w1 := w') (v := .string (rdOf ByteArray.empty y175 ((rd_T56 s0_1 x4_1).f3))) (by rfl) rfl ?_ ?_
                     ·go_simp
                      (try simp only [i64_w])
                      try rfl
                     refine hK.out _ _ ⟨v176, adz_v176, m20_, (by rw [ha.out]; exact putSel_upk 16 hb_ rfl rfl rfl), Q_BK164, Q_HI0, Q_HK, Q_HB, Q_HO177, Q_HA_HO177, Q_X20_⟩
                    refine steps_cons ?_ ?_
                    ·rintro b a w' ⟨v176, adz_v176, m20_, ha, Q_BK164, Q_HI0, Q_HK, Q_HB, Q_HO177, Q_HA_HO177, Q_X20_⟩ hb_ hon hoff
                     refine ⟨_, rfl, fun K hK => ?_⟩
                     have e49 : a.tmps[49]? = some (.string (((((((x3_1 ++ (⟨#[98, 97, 99, 107, 101, 110, 100, 32]⟩ : ByteArray)) ++ t172) ++ (⟨#[32]⟩ : ByteArray)) ++ t173) ++ (⟨#[32]⟩ : ByteArray)) ++ t174) ++ (⟨#[32]⟩ : ByteArray))) := by rw [ha]; exact putSel_on (e := (16, 49, .string (((((((x3_1 ++ (⟨#[98, 97, 99, 107, 101, 110, 100, 32]⟩ : ByteArray)) ++ t172) ++ (⟨#[32]⟩ : ByteArray)) ++ t173) ++ (⟨#[32]⟩ : ByteArray)) ++ t174) ++ (⟨#[32]⟩ : ByteArray)))) 12 rfl rfl (hon 16 (by kernel_rfl)) rfl
                     have e54 : a.tmps[54]? = some (.string (rdOf ByteArray.empty y175 ((rd_T56 s0_1 x4_1).f3))) := by rw [ha]; exact putSel_on (e := (21, 54, .string (rdOf ByteArray.empty y175 ((rd_T56 s0_1 x4_1).f3)))) 16 rfl rfl (hon 21 (by kernel_rfl)) rfl
                     replace ha := Aside0.mk ha
                     have BK164 := Aside0.mk Q_BK164
                     have HI0 := Aside0.mk Q_HI0
                     have HK := Aside0.mk Q_HK
                     have HB := Aside0.mk Q_HB
                     have HO177 := Aside0.mk (Q_HO177 (hon 17 (by kernel_rfl)))
                     have HA_HO177 := Aside0.mk (Q_HA_HO177 (hon 17 (by kernel_rfl)))
                     refine value_ (w1 := w') (v := .string ((((((((x3_1 ++ (⟨#[98, 97, 99, 107, 101, 110, 100, 32]⟩ : ByteArray)) ++ t172) ++ (⟨#[32]⟩ : ByteArray)) ++ t173) ++ (⟨#[32]⟩ : ByteArray)) ++ t174) ++ (⟨#[32]⟩ : ByteArray)) ++ (rdOf ByteArray.empty y175 ((rd_T56 s0_1 x4_1).f3)))) (by rfl) rfl ?_ ?_
                     ·go_simp
                      (try simp only [i64_w])
                      try rfl
                     refine hK.out _ _ ⟨v176, adz_v176, m20_, (by rw [ha.out]; exact putSel_upk 17 hb_ rfl rfl rfl), Q_BK164, Q_HI0, Q_HK, Q_HB, Q_HO177, Q_HA_HO177, Q_X20_⟩
                    refine steps_cons ?_ ?_
                    ·rintro b a w' ⟨v176, adz_v176, m20_, ha, Q_BK164, Q_HI0, Q_HK, Q_HB, Q_HO177, Q_HA_HO177, Q_X20_⟩ hb_ hon hoff
                     refine ⟨_, rfl, fun K hK => ?_⟩
                     have e55 : a.tmps[55]? = some (.string ((((((((x3_1 ++ (⟨#[98, 97, 99, 107, 101, 110, 100, 32]⟩ : ByteArray)) ++ t172) ++ (⟨#[32]⟩ : ByteArray)) ++ t173) ++ (⟨#[32]⟩ : ByteArray)) ++ t174) ++ (⟨#[32]⟩ : ByteArray)) ++ (rdOf ByteArray.empty y175 ((rd_T56 s0_1 x4_1).f3)))) := by rw [ha]; exact putSel_on (e := (22, 55, .string ((((((((x3_1 ++ (⟨#[98, 97, 99, 107, 101, 110, 100, 32]⟩ : ByteArray)) ++ t172) ++ (⟨#[32]⟩ : ByteArray)) ++ t173) ++ (⟨#[32]⟩ : ByteArray)) ++ t174) ++ (⟨#[32]⟩ : ByteArray)) ++ (rdOf ByteArray.empty y175 ((rd_T56 s0_1 x4_1).f3))))) 17 rfl rfl (hon 22 (by kernel_rfl)) rfl
                     replace ha := Aside0.mk ha
                     have BK164 := Aside0.mk Q_BK164
                     have HI0 := Aside0.mk Q_HI0
                     have HK := Aside0.mk Q_HK
                     have HB := Aside0.mk Q_HB
                     have HO177 := Aside0.mk (Q_HO177 (hon 17 (by kernel_rfl)))
                     have HA_HO177 := Aside0.mk (Q_HA_HO177 (hon 17 (by kernel_rfl)))
                     refine value_ (w1 := w') (v := .string (((((((((x3_1 ++ (⟨#[98, 97, 99, 107, 101, 110, 100, 32]⟩ : ByteArray)) ++ t172) ++ (⟨#[32]⟩ : ByteArray)) ++ t173) ++ (⟨#[32]⟩ : ByteArray)) ++ t174) ++ (⟨#[32]⟩ : ByteArray)) ++ (rdOf ByteArray.empty y175 ((rd_T56 s0_1 x4_1).f3))) ++ (⟨#[32]⟩ : ByteArray))) (by rfl) rfl ?_ ?_
                     ·go_simp
                      (try simp only [i64_w])
                      try rfl
                     refine hK.out _ _ ⟨v176, adz_v176, m20_, (by rw [ha.out]; exact putSel_upk 18 hb_ rfl rfl rfl), Q_BK164, Q_HI0, Q_HK, Q_HB, Q_HO177, Q_HA_HO177, Q_X20_⟩
                    refine steps_cons ?_ ?_
                    ·rintro b a w' ⟨v176, adz_v176, m20_, ha, Q_BK164, Q_HI0, Q_HK, Q_HB, Q_HO177, Q_HA_HO177, Q_X20_⟩ hb_ hon hoff
                     refine ⟨_, rfl, fun K hK => ?_⟩
                     have e56 : a.tmps[56]? = some (.string (((((((((x3_1 ++ (⟨#[98, 97, 99, 107, 101, 110, 100, 32]⟩ : ByteArray)) ++ t172) ++ (⟨#[32]⟩ : ByteArray)) ++ t173) ++ (⟨#[32]⟩ : ByteArray)) ++ t174) ++ (⟨#[32]⟩ : ByteArray)) ++ (rdOf ByteArray.empty y175 ((rd_T56 s0_1 x4_1).f3))) ++ (⟨#[32]⟩ : ByteArray))) := by rw [ha]; exact putSel_on (e := (23, 56, .string (((((((((x3_1 ++ (⟨#[98, 97, 99, 107, 101, 110, 100, 32]⟩ : ByteArray)) ++ t172) ++ (⟨#[32]⟩ : ByteArray)) ++ t173) ++ (⟨#[32]⟩ : ByteArray)) ++ t174) ++ (⟨#[32]⟩ : ByteArray)) ++ (rdOf ByteArray.empty y175 ((rd_T56 s0_1 x4_1).f3))) ++ (⟨#[32]⟩ : ByteArray)))) 18 rfl rfl (hon 23 (by kernel_rfl)) rfl
                     have e57 : a.tmps[57]? = some (.string (⟨#[100, 111, 119, 110]⟩ : ByteArray)) := by rw [ha]; exact (putSel_off rfl).trans rfl
                     replace ha := Aside0.mk ha
                     have BK164 := Aside0.mk Q_BK164
                     have HI0 := Aside0.mk Q_HI0
                     have HK := Aside0.mk Q_HK
                     have HB := Aside0.mk Q_HB
                     have HO177 := Aside0.mk (Q_HO177 (hon 17 (by kernel_rfl)))
                     have HA_HO177 := Aside0.mk (Q_HA_HO177 (hon 17 (by kernel_rfl)))
                     refine value_ (w1 := w') (v := .string ((((((((((x3_1 ++ (⟨#[98, 97, 99, 107, 101, 110, 100, 32]⟩ : ByteArray)) ++ t172) ++ (⟨#[32]⟩ : ByteArray)) ++ t173) ++ (⟨#[32]⟩ : ByteArray)) ++ t174) ++ (⟨#[32]⟩ : ByteArray)) ++ (rdOf ByteArray.empty y175 ((rd_T56 s0_1 x4_1).f3))) ++ (⟨#[32]⟩ : ByteArray)) ++ (⟨#[100, 111, 119, 110]⟩ : ByteArray))) (by rfl) rfl ?_ ?_
                     ·go_simp
                      (try simp only [i64_w])
                      try rfl
                     refine hK.out _ _ ⟨v176, adz_v176, m20_, (by rw [ha.out]; exact putSel_upk 19 hb_ rfl rfl rfl), Q_BK164, Q_HI0, Q_HK, Q_HB, Q_HO177, Q_HA_HO177, Q_X20_⟩
                    refine steps_cons ?_ ?_
                    ·rintro b a w' ⟨v176, adz_v176, m20_, ha, Q_BK164, Q_HI0, Q_HK, Q_HB, Q_HO177, Q_HA_HO177, Q_X20_⟩ hb_ hon hoff
                     refine ⟨_, rfl, fun K hK => ?_⟩
                     have e58 : a.tmps[58]? = some (.string ((((((((((x3_1 ++ (⟨#[98, 97, 99, 107, 101, 110, 100, 32]⟩ : ByteArray)) ++ t172) ++ (⟨#[32]⟩ : ByteArray)) ++ t173) ++ (⟨#[32]⟩ : ByteArray)) ++ t174) ++ (⟨#[32]⟩ : ByteArray)) ++ (rdOf ByteArray.empty y175 ((rd_T56 s0_1 x4_1).f3))) ++ (⟨#[32]⟩ : ByteArray)) ++ (⟨#[100, 111, 119, 110]⟩ : ByteArray))) := by rw [ha]; exact putSel_on (e := (25, 58, .string ((((((((((x3_1 ++ (⟨#[98, 97, 99, 107, 101, 110, 100, 32]⟩ : ByteArray)) ++ t172) ++ (⟨#[32]⟩ : ByteArray)) ++ t173) ++ (⟨#[32]⟩ : ByteArray)) ++ t174) ++ (⟨#[32]⟩ : ByteArray)) ++ (rdOf ByteArray.empty y175 ((rd_T56 s0_1 x4_1).f3))) ++ (⟨#[32]⟩ : ByteArray)) ++ (⟨#[100, 111, 119, 110]⟩ : ByteArray)))) 19 rfl rfl (hon 25 (by kernel_rfl)) rfl
                     replace ha := Aside0.mk ha
                     have BK164 := Aside0.mk Q_BK164
                     have HI0 := Aside0.mk Q_HI0
                     have HK := Aside0.mk Q_HK
                     have HB := Aside0.mk Q_HB
                     have HO177 := Aside0.mk (Q_HO177 (hon 17 (by kernel_rfl)))
                     have HA_HO177 := Aside0.mk (Q_HA_HO177 (hon 17 (by kernel_rfl)))
                     refine value_ (w1 := w') (v := .string (((((((((((x3_1 ++ (⟨#[98, 97, 99, 107, 101, 110, 100, 32]⟩ : ByteArray)) ++ t172) ++ (⟨#[32]⟩ : ByteArray)) ++ t173) ++ (⟨#[32]⟩ : ByteArray)) ++ t174) ++ (⟨#[32]⟩ : ByteArray)) ++ (rdOf ByteArray.empty y175 ((rd_T56 s0_1 x4_1).f3))) ++ (⟨#[32]⟩ : ByteArray)) ++ (⟨#[100, 111, 119, 110]⟩ : ByteArray)) ++ (⟨#[10]⟩ : ByteArray))) (by rfl) rfl ?_ ?_
                     ·go_simp
                      (try simp only [i64_w])
                      try rfl
                     refine hK.out _ _ ⟨v176, adz_v176, m20_, (by rw [ha.out]; exact putSel_upk 20 hb_ rfl rfl rfl), Q_BK164, Q_HI0, Q_HK, Q_HB, Q_HO177, Q_HA_HO177, Q_X20_⟩
                    refine steps_cons ?_ ?_
                    ·rintro b a w' ⟨v176, adz_v176, m20_, ha, Q_BK164, Q_HI0, Q_HK, Q_HB, Q_HO177, Q_HA_HO177, Q_X20_⟩ hb_ hon hoff
                     refine ⟨_, rfl, fun K hK => ?_⟩
                     have e59 : a.tmps[59]? = some (.string (((((((((((x3_1 ++ (⟨#[98, 97, 99, 107, 101, 110, 100, 32]⟩ : ByteArray)) ++ t172) ++ (⟨#[32]⟩ : ByteArray)) ++ t173) ++ (⟨#[32]⟩ : ByteArray)) ++ t174) ++ (⟨#[32]⟩ : ByteArray)) ++ (rdOf ByteArray.empty y175 ((rd_T56 s0_1 x4_1).f3))) ++ (⟨#[32]⟩ : ByteArray)) ++ (⟨#[100, 111, 119, 110]⟩ : ByteArray)) ++ (⟨#[10]⟩ : ByteArray))) := by rw [ha]; exact putSel_on (e := (26, 59, .string (((((((((((x3_1 ++ (⟨#[98, 97, 99, 107, 101, 110, 100, 32]⟩ : ByteArray)) ++ t172) ++ (⟨#[32]⟩ : ByteArray)) ++ t173) ++ (⟨#[32]⟩ : ByteArray)) ++ t174) ++ (⟨#[32]⟩ : ByteArray)) ++ (rdOf ByteArray.empty y175 ((rd_T56 s0_1 x4_1).f3))) ++ (⟨#[32]⟩ : ByteArray)) ++ (⟨#[100, 111, 119, 110]⟩ : ByteArray)) ++ (⟨#[10]⟩ : ByteArray)))) 20 rfl rfl (hon 26 (by kernel_rfl)) rfl
                     replace ha := Aside0.mk ha
                     have BK164 := Aside0.mk Q_BK164
                     have HI0 := Aside0.mk Q_HI0
                     have HK := Aside0.mk Q_HK
                     have HB := Aside0.mk Q_HB
                     have HO177 := Aside0.mk (Q_HO177 (hon 17 (by kernel_rfl)))
                     have HA_HO177 := Aside0.mk (Q_HA_HO177 (hon 17 (by kernel_rfl)))
                     refine value_ (w1 := w') (v := .string (((((((((((x3_1 ++ (⟨#[98, 97, 99, 107, 101, 110, 100, 32]⟩ : ByteArray)) ++ t172) ++ (⟨#[32]⟩ : ByteArray)) ++ t173) ++ (⟨#[32]⟩ : ByteArray)) ++ t174) ++ (⟨#[32]⟩ : ByteArray)) ++ (rdOf ByteArray.empty y175 ((rd_T56 s0_1 x4_1).f3))) ++ (⟨#[32]⟩ : ByteArray)) ++ (⟨#[100, 111, 119, 110]⟩ : ByteArray)) ++ (⟨#[10]⟩ : ByteArray))) (by rfl) rfl ?_ ?_
                     ·go_simp
                      (try simp only [i64_w])
                      try rfl
                     refine hK.out _ _ ⟨v176, adz_v176, m20_, (by rw [ha.out]; exact putSel_upk 21 hb_ rfl rfl rfl), Q_BK164, Q_HI0, Q_HK, Q_HB, Q_HO177, Q_HA_HO177, Q_X20_⟩
                    exact steps_nil
                   rintro b a w70 hall ⟨v176, adz_v176, m20_, ha, Q_BK164, Q_HI0, Q_HK, Q_HB, Q_HO177, Q_HA_HO177, Q_X20_⟩
                   clear BK164 HB HI0 HK
                   have hb1_ := hall 1 (by kernel_rfl)
                   have hb3_ := hall 3 (by kernel_rfl)
                   have hb4_ := hall 4 (by kernel_rfl)
                   have hb5_ := hall 5 (by kernel_rfl)
                   have hb6_ := hall 6 (by kernel_rfl)
                   have hb8_ := hall 8 (by kernel_rfl)
                   have hb9_ := hall 9 (by kernel_rfl)
                   have hb10_ := hall 10 (by kernel_rfl)
                   have hb11_ := hall 11 (by kernel_rfl)
                   have hb13_ := hall 13 (by kernel_rfl)
                   have hb14_ := hall 14 (by kernel_rfl)
                   have hb15_ := hall 15 (by kernel_rfl)
                   have hb16_ := hall 16 (by kernel_rfl)
                   have hb17_ := hall 17 (by kernel_rfl)
                   have hb19_ := hall 19 (by kernel_rfl)
                   have hb20_ := hall 20 (by kernel_rfl)
                   have hb21_ := hall 21 (by kernel_rfl)
                   have hb22_ := hall 22 (by kernel_rfl)
                   have hb23_ := hall 23 (by kernel_rfl)
                   have hb25_ := hall 25 (by kernel_rfl)
                   have hb26_ := hall 26 (by kernel_rfl)
                   have hb27_ := hall 27 (by kernel_rfl)
                   subst ha
                   obtain rfl := Q_X20_ hb20_
                   simp only [putSel, hb1_, hb3_, hb4_, hb5_, hb6_, hb8_, hb9_, hb10_, hb11_, hb13_, hb14_, hb15_, hb16_, hb17_, hb19_, hb20_, hb21_, hb22_, hb23_, hb25_, hb26_, hb27_, if_true, Act.put, List.setIfInBounds_toArray, List.set_cons_zero, List.set_cons_succ]
                   have BK164 := Aside0.mk Q_BK164
                   clear Q_BK164
                   have HI0 := Aside0.mk Q_HI0
                   clear Q_HI0
                   have HK := Aside0.mk Q_HK
                   clear Q_HK
                   have HB := Aside0.mk Q_HB
                   clear Q_HB
                   have HO177 := Aside0.mk (Q_HO177 hb17_)
                   clear Q_HO177
                   have HA_HO177 := Aside0.mk (Q_HA_HO177 hb17_)
                   clear Q_HA_HO177
                   clear hall hb1_ hb3_ hb4_ hb5_ hb6_ hb8_ hb9_ hb10_ hb11_ hb13_ hb14_ hb15_ hb16_ hb17_ hb19_ hb20_ hb21_ hb22_ hb23_ hb25_ hb26_ hb27_
                   obtain ⟨co71, eo71⟩ := HA_HO177.out
                   clear HA_HO177
                   subst eo71
                   try go_wp2
                   go_roundg k1
                   case measure => have := HK1.out; omega
                   case rel => exact ⟨(((((((((((x3_1 ++ (⟨#[98, 97, 99, 107, 101, 110, 100, 32]⟩ : ByteArray)) ++ t172) ++ (⟨#[32]⟩ : ByteArray)) ++ t173) ++ (⟨#[32]⟩ : ByteArray)) ++ t174) ++ (⟨#[32]⟩ : ByteArray)) ++ (rdOf ByteArray.empty y175 ((rd_T56 s0_1 x4_1).f3))) ++ (⟨#[32]⟩ : ByteArray)) ++ (⟨#[100, 111, 119, 110]⟩ : ByteArray)) ++ (⟨#[10]⟩ : ByteArray)), (wrap64 (x4_1 + 1)), (by first | rfl | (simp; done) | (simp [*]; done)), (by first | rfl | (simp; done) | (simp [*]; done)), H', ⟨by have := HK1.out; omega⟩, ⟨by repeat (first | (with_reducible first | exact HI0.out | apply IsS33.alloc | apply IsS33.drewN | apply IsS33.drew | apply IsS33.set_0 | refine IsS33.far ?_ NB0_164.out _) | exact HI0.out)⟩, ⟨by repeat (first | (with_reducible first | exact HK.out | apply KeepBut.set_ | apply keep_drewN | apply keep_drew | apply keep_alloc | refine keep_far ?_ GW164.out _) | exact HK.out)⟩, ⟨by repeat (first | (with_reducible first | exact HB.out | apply below_alloc | apply pw_below_drewN | apply below_drew1 | refine below_set ?_ (IsS33.ge HI0.out) | refine below_set ?_ GE164.out) | exact HB.out)⟩⟩
                  ·rw [if_neg c57] at H
                   exact absurd H (by simp)
                 ·rw [if_neg c56] at H
                  exact absurd H (by simp)
                ·rw [if_neg c55] at H
                 exact absurd H (by simp)
               ·rw [if_neg c54] at H
                exact absurd H (by simp)
              ·rw [if_neg c53] at H
               exact absurd H (by simp)
             ·rw [if_neg c52] at H
              exact absurd H (by simp)
            ·rw [if_neg c51] at H
             exact absurd H (by simp)
           ·rw [if_neg c50] at H
            exact absurd H (by simp)
          ·rw [if_neg c48] at H
           exact absurd H (by simp)
         ·rw [if_neg c47] at H
          exact absurd H (by simp)
        ·rw [if_neg c45] at H
         exact absurd H (by simp)
       ·rw [if_neg c44] at H
        exact absurd H (by simp)
      ·rw [if_neg c42] at H
       exact absurd H (by simp)
    ·rw [if_neg c9] at H
     exact absurd H (by simp)
   ·rw [if_neg c8] at H
    have c8b0 : decide (x4_1 < (s0_1.length : Int)) = false := decide_eq_false c8
    clear c8
    have H' := Aside0.mk H
    clear H
    obtain ⟨ASz72_1, cSz72_1, ASz72_2, cSz72_2, HGz72, hgz72, HSz72_1, HSz72_2⟩ := HI0.out
    have hcz72_0 := cellS33_0 HGz72
    have hcz72_1 := cellS33_1 HGz72
    have hcz72_2 := cellS33_2 HGz72
    have hfz72_0 := blk_frozen HGz72 0
    clear HGz72 hgz72
    go_wp2
    go_loopg [3, 7] k1 (fun kq v3 v7 w' => ∃ (x3_2 : ByteArray) (x7_2 : Int), v3 = .string x3_2 ∧ v7 = .int .i64 x7_2 ∧ Aside0 (spec_l5Text.l1 kq x3_2 x7_2 s0_0 s0_1 s0_2 = some (r1, r2)) ∧ Aside0 (kq ≤ k1) ∧ Aside0 (IsS33 w0 w' g s0_0 s0_1 s0_2) ∧ Aside0 (KeepBut w w' g none) ∧ Aside0 (Below w0.heap.size w0 w'))
    case atStart => exact ⟨(x3_1), (0), (by first | rfl | (simp; done) | (simp [*]; done)), (by first | rfl | (simp; done) | (simp [*]; done)), H', ⟨Nat.le_refl _⟩, ⟨by repeat (first | (with_reducible first | exact HI0.out | apply IsS33.alloc | apply IsS33.drewN | apply IsS33.drew | apply IsS33.set_0) | exact HI0.out)⟩, ⟨by repeat (first | (with_reducible first | exact HK.out | apply KeepBut.set_ | apply keep_drewN | apply keep_drew | apply keep_alloc) | exact HK.out)⟩, ⟨by repeat (first | (with_reducible first | exact HB.out | apply below_alloc | apply pw_below_drewN | apply below_drew1 | refine below_set ?_ (IsS33.ge HI0.out)) | exact HB.out)⟩⟩
    case round =>
     clear H'
     try clear c1
     try clear qi1
     try clear c2
     try clear p2
     try clear c3
     try clear c4
     try clear c5
     try clear p6
     try clear c8
     try clear c8b0
     try clear c9
     try clear qi17
     try clear c25
     try clear c26
     try clear c42
     try clear c44
     try clear c45
     try clear c47
     try clear c48
     try clear c50
     try clear c51
     try clear c52
     try clear c53
     try clear c54
     try clear c55
     try clear c56
     try clear c57
     try clear p64
     try clear hcz72_0
     try clear hcz72_1
     try clear hcz72_2
     try clear hfz72_0
     obtain ⟨x3_2, x7_2, rfl, rfl, HA, HK2, HI0, HK, HB⟩ := hrel
     cases gk with
     | zero => exact absurd HA.out (by simp [spec_l5Text.l1])
     | succ k2 =>
      have H := HA.out
      clear HA
      simp only [spec_l5Text.l1] at H
      by_cases c73 : x7_2 < (s0_2.length : Int)
      ·rw [if_pos c73] at H
       have c73b0 : decide (x7_2 < (s0_2.length : Int)) = true := decide_eq_true c73
       clear c73
       by_cases c74 : 0 ≤ x7_2
       ·rw [if_pos c74] at H
        have c74b0 : decide (0 ≤ x7_2) = true := decide_eq_true c74
        clear c74
        replace H := Option.bind_eq_some_iff.mp H
        obtain ⟨t181, A750, H⟩ := H
        replace H : (if 4 + t181.size ≤ 9223372036854775807 then (if ((⟨#[118, 105, 112, 32]⟩ : ByteArray) ++ t181).size + 1 ≤ 9223372036854775807 then ((spec_l2Digits.f k2 ((rd_T61 s0_2 x7_2).f1)).bind fun t182 => (if (((⟨#[118, 105, 112, 32]⟩ : ByteArray) ++ t181) ++ (⟨#[32]⟩ : ByteArray)).size + t182.size ≤ 9223372036854775807 then (if ((((⟨#[118, 105, 112, 32]⟩ : ByteArray) ++ t181) ++ (⟨#[32]⟩ : ByteArray)) ++ t182).size + 1 ≤ 9223372036854775807 then ((spec_l2Digits.f k2 ((rd_T61 s0_2 x7_2).f2)).bind fun t183 => (if (((((⟨#[118, 105, 112, 32]⟩ : ByteArray) ++ t181) ++ (⟨#[32]⟩ : ByteArray)) ++ t182) ++ (⟨#[32]⟩ : ByteArray)).size + t183.size ≤ 9223372036854775807 then ((spec_l5Line.f k2 ((((((⟨#[118, 105, 112, 32]⟩ : ByteArray) ++ t181) ++ (⟨#[32]⟩ : ByteArray)) ++ t182) ++ (⟨#[32]⟩ : ByteArray)) ++ t183) ((rd_T61 s0_2 x7_2).f3)).bind fun t184 => (if x3_2.size + t184.size ≤ 9223372036854775807 then (spec_l5Text.l1 k2 (x3_2 ++ t184) (wrap64 (x7_2 + 1)) s0_0 s0_1 s0_2) else (none))) else (none))) else (none)) else (none))) else (none)) else (none)) = some (r1, r2) := H
        have A75 := Aside0.mk A750
        clear A750
        by_cases c76 : 4 + t181.size ≤ 9223372036854775807
        ·rw [if_pos c76] at H
         have c76b0 := eq_true c76
         have c76b1 : decide (4 + t181.size ≤ 9223372036854775807) = true := decide_eq_true c76
         try have c76b2 : (9223372036854775807 < 4 + t181.size) = False := eq_false (Nat.not_lt.2 c76)
         by_cases c77 : ((⟨#[118, 105, 112, 32]⟩ : ByteArray) ++ t181).size + 1 ≤ 9223372036854775807
         ·rw [if_pos c77] at H
          have c77b0 := eq_true c77
          have c77b1 : decide (((⟨#[118, 105, 112, 32]⟩ : ByteArray) ++ t181).size + 1 ≤ 9223372036854775807) = true := decide_eq_true c77
          try have c77b2 : (9223372036854775807 < ((⟨#[118, 105, 112, 32]⟩ : ByteArray) ++ t181).size + 1) = False := eq_false (Nat.not_lt.2 c77)
          have c77x : (9223372036854775807 < 4 + t181.size + 1) = False := eq_false (Nat.not_lt.2 (by have h_ := c77; (try simp only [ByteArray.size_append] at h_); exact h_))
          replace H := Option.bind_eq_some_iff.mp H
          obtain ⟨t182, A780, H⟩ := H
          replace H : (if (((⟨#[118, 105, 112, 32]⟩ : ByteArray) ++ t181) ++ (⟨#[32]⟩ : ByteArray)).size + t182.size ≤ 9223372036854775807 then (if ((((⟨#[118, 105, 112, 32]⟩ : ByteArray) ++ t181) ++ (⟨#[32]⟩ : ByteArray)) ++ t182).size + 1 ≤ 9223372036854775807 then ((spec_l2Digits.f k2 ((rd_T61 s0_2 x7_2).f2)).bind fun t183 => (if (((((⟨#[118, 105, 112, 32]⟩ : ByteArray) ++ t181) ++ (⟨#[32]⟩ : ByteArray)) ++ t182) ++ (⟨#[32]⟩ : ByteArray)).size + t183.size ≤ 9223372036854775807 then ((spec_l5Line.f k2 ((((((⟨#[118, 105, 112, 32]⟩ : ByteArray) ++ t181) ++ (⟨#[32]⟩ : ByteArray)) ++ t182) ++ (⟨#[32]⟩ : ByteArray)) ++ t183) ((rd_T61 s0_2 x7_2).f3)).bind fun t184 => (if x3_2.size + t184.size ≤ 9223372036854775807 then (spec_l5Text.l1 k2 (x3_2 ++ t184) (wrap64 (x7_2 + 1)) s0_0 s0_1 s0_2) else (none))) else (none))) else (none)) else (none)) = some (r1, r2) := H
          have A78 := Aside0.mk A780
          clear A780
          by_cases c79 : (((⟨#[118, 105, 112, 32]⟩ : ByteArray) ++ t181) ++ (⟨#[32]⟩ : ByteArray)).size + t182.size ≤ 9223372036854775807
          ·rw [if_pos c79] at H
           have c79b0 := eq_true c79
           have c79b1 : decide ((((⟨#[118, 105, 112, 32]⟩ : ByteArray) ++ t181) ++ (⟨#[32]⟩ : ByteArray)).size + t182.size ≤ 9223372036854775807) = true := decide_eq_true c79
           try have c79b2 : (9223372036854775807 < (((⟨#[118, 105, 112, 32]⟩ : ByteArray) ++ t181) ++ (⟨#[32]⟩ : ByteArray)).size + t182.size) = False := eq_false (Nat.not_lt.2 c79)
           have c79x : (9223372036854775807 < 4 + t181.size + 1 + t182.size) = False := eq_false (Nat.not_lt.2 (by have h_ := c79; (try simp only [ByteArray.size_append] at h_); exact h_))
           by_cases c80 : ((((⟨#[118, 105, 112, 32]⟩ : ByteArray) ++ t181) ++ (⟨#[32]⟩ : ByteArray)) ++ t182).size + 1 ≤ 9223372036854775807
           ·rw [if_pos c80] at H
            have c80b0 := eq_true c80
            have c80b1 : decide (((((⟨#[118, 105, 112, 32]⟩ : ByteArray) ++ t181) ++ (⟨#[32]⟩ : ByteArray)) ++ t182).size + 1 ≤ 9223372036854775807) = true := decide_eq_true c80
            try have c80b2 : (9223372036854775807 < ((((⟨#[118, 105, 112, 32]⟩ : ByteArray) ++ t181) ++ (⟨#[32]⟩ : ByteArray)) ++ t182).size + 1) = False := eq_false (Nat.not_lt.2 c80)
            have c80x : (9223372036854775807 < 4 + t181.size + 1 + t182.size + 1) = False := eq_false (Nat.not_lt.2 (by have h_ := c80; (try simp only [ByteArray.size_append] at h_); exact h_))
            replace H := Option.bind_eq_some_iff.mp H
            obtain ⟨t183, A810, H⟩ := H
            replace H : (if (((((⟨#[118, 105, 112, 32]⟩ : ByteArray) ++ t181) ++ (⟨#[32]⟩ : ByteArray)) ++ t182) ++ (⟨#[32]⟩ : ByteArray)).size + t183.size ≤ 9223372036854775807 then ((spec_l5Line.f k2 ((((((⟨#[118, 105, 112, 32]⟩ : ByteArray) ++ t181) ++ (⟨#[32]⟩ : ByteArray)) ++ t182) ++ (⟨#[32]⟩ : ByteArray)) ++ t183) ((rd_T61 s0_2 x7_2).f3)).bind fun t184 => (if x3_2.size + t184.size ≤ 9223372036854775807 then (spec_l5Text.l1 k2 (x3_2 ++ t184) (wrap64 (x7_2 + 1)) s0_0 s0_1 s0_2) else (none))) else (none)) = some (r1, r2) := H
            have A81 := Aside0.mk A810
            clear A810
            by_cases c82 : (((((⟨#[118, 105, 112, 32]⟩ : ByteArray) ++ t181) ++ (⟨#[32]⟩ : ByteArray)) ++ t182) ++ (⟨#[32]⟩ : ByteArray)).size + t183.size ≤ 9223372036854775807
            ·rw [if_pos c82] at H
             have c82b0 := eq_true c82
             have c82b1 : decide ((((((⟨#[118, 105, 112, 32]⟩ : ByteArray) ++ t181) ++ (⟨#[32]⟩ : ByteArray)) ++ t182) ++ (⟨#[32]⟩ : ByteArray)).size + t183.size ≤ 9223372036854775807) = true := decide_eq_true c82
             try have c82b2 : (9223372036854775807 < (((((⟨#[118, 105, 112, 32]⟩ : ByteArray) ++ t181) ++ (⟨#[32]⟩ : ByteArray)) ++ t182) ++ (⟨#[32]⟩ : ByteArray)).size + t183.size) = False := eq_false (Nat.not_lt.2 c82)
             have c82x : (9223372036854775807 < 4 + t181.size + 1 + t182.size + 1 + t183.size) = False := eq_false (Nat.not_lt.2 (by have h_ := c82; (try simp only [ByteArray.size_append] at h_); exact h_))
             replace H := Option.bind_eq_some_iff.mp H
             obtain ⟨t184, A830, H⟩ := H
             replace H : (if x3_2.size + t184.size ≤ 9223372036854775807 then (spec_l5Text.l1 k2 (x3_2 ++ t184) (wrap64 (x7_2 + 1)) s0_0 s0_1 s0_2) else (none)) = some (r1, r2) := H
             have A83 := Aside0.mk A830
             clear A830
             by_cases c84 : x3_2.size + t184.size ≤ 9223372036854775807
             ·rw [if_pos c84] at H
              have c84b0 := eq_true c84
              have c84b1 : decide (x3_2.size + t184.size ≤ 9223372036854775807) = true := decide_eq_true c84
              try have c84b2 : (9223372036854775807 < x3_2.size + t184.size) = False := eq_false (Nat.not_lt.2 c84)
              have H' := Aside0.mk H
              clear H
              obtain ⟨ASz85_1, cSz85_1, ASz85_2, cSz85_2, HGz85, hgz85, HSz85_1, HSz85_2⟩ := HI0.out
              have hcz85_0 := cellS33_0 HGz85
              have hcz85_1 := cellS33_1 HGz85
              have hcz85_2 := cellS33_2 HGz85
              have hfz85_0 := blk_frozen HGz85 0
              clear HGz85 hgz85
              have p179 : 0 ≤ (x7_2 : Int) := of_decide_eq_true (by first | (with_reducible assumption) | assumption)
              have q179 : x7_2 < (s0_2.length : Int) := of_decide_eq_true (by first | (with_reducible assumption) | assumption)
              obtain ⟨ad179, A179_3, c179_3, e179, hx179_0, hx179_1, hx179_2, hx179_3, hl179_3, hi179_3⟩ := at_T61 HSz85_2 x7_2 p179 q179
              cases e179
              replace hx179_0 := pw_cell_below HB.out hx179_0
              replace hx179_1 := pw_cell_below HB.out hx179_1
              replace hx179_2 := pw_cell_below HB.out hx179_2
              replace hx179_3 := pw_cell_below HB.out hx179_3
              have HR179_3 := Aside0.mk (Kd.C_below hi179_3 HB.out)
              have HRB179_3 := Aside0.mk hi179_3
              have HC179_3 := Aside0.mk hl179_3
              clear hi179_3 hl179_3
              replace p179 := eq_true p179
              replace q179 := eq_true q179
              try go_wp2_with (first | ((with_reducible refine gate_dst (N := 8) rfl ?_); refine box_event ?hg (N := 8) ?hd (cs := #[.int .i64 0, .int .i64 0, .int .i64 0, .slice none 0 0]) (t := 61) ?hr ?_; (case hd => rfl); (case hg => rfl); (case hr => first | (go_simp; done) | (go_simp; rfl)); intro gb180 hg w86 hbox hb; have n0_ := Aside0.mk (IsS33.below (by repeat (first | (with_reducible first | exact HI0.out | apply IsS33.alloc | apply IsS33.drewN | apply IsS33.drew | apply IsS33.set_0) | exact HI0.out)) hb); have n1_ := Aside0.mk (Kd.C_below (by repeat (first | (with_reducible exact HR179_3.out) | (with_reducible refine Kd.C_alloc ?_ _) | (with_reducible refine Kd.C_drewN ?_ _) | (with_reducible refine Kd.C_drew ?_) | exact HR179_3.out)) hb); have n2_ := Aside0.mk (KeepBut.trans (by repeat (first | (with_reducible first | exact HK.out | apply KeepBut.set_ | apply keep_drewN | apply keep_drew | apply keep_alloc) | exact HK.out)) (KeepBut.of_below hb g none) (.inl rfl)); have n3_ := Aside0.mk (below_step (by repeat (first | (with_reducible first | exact HB.out | apply below_alloc | apply pw_below_drewN | apply below_drew1 | refine below_set ?_ (IsS33.ge HI0.out)) | exact HB.out)) hb); have n4_ := Aside0.mk (hbox); have n5_ := Aside0.mk ((by rw [hg]; exact (keep_size (w := w) (g := g) (row := none) (by repeat (first | (with_reducible first | exact HK.out | apply KeepBut.set_ | apply keep_drewN | apply keep_drew | apply keep_alloc) | exact HK.out))) : w.heap.size ≤ gb180)); have n6_ := Aside0.mk ((Nat.le_trans HW0.out (by rw [hg]; exact (keep_size (w := w) (g := g) (row := none) (by repeat (first | (with_reducible first | exact HK.out | apply KeepBut.set_ | apply keep_drewN | apply keep_drew | apply keep_alloc) | exact HK.out))) : w.heap.size ≤ gb180) : w0.heap.size ≤ gb180)); have n7_ := Aside0.mk ((by rw [hg]; exact Nat.ne_of_lt (IsS33.lt (show IsS33 w0 _ g s0_0 s0_1 s0_2 from by repeat (first | (with_reducible first | exact HI0.out | apply IsS33.alloc | apply IsS33.drewN | apply IsS33.drew | apply IsS33.set_0) | exact HI0.out))) : g ≠ gb180)); have n8_ := Aside0.mk ((by rw [hg]; exact Nat.ne_of_gt (IsS33.lt (show IsS33 w0 _ g s0_0 s0_1 s0_2 from by repeat (first | (with_reducible first | exact HI0.out | apply IsS33.alloc | apply IsS33.drewN | apply IsS33.drew | apply IsS33.set_0) | exact HI0.out))) : gb180 ≠ g)); clear HI0; clear HR179_3; clear HK; clear HB; have HI0 := n0_; have HR179_3 := n1_; have HK := n2_; have HB := n3_; have BK180 := n4_; have GW180 := n5_; have GE180 := n6_; have NB0_180 := n7_; have NB180_0 := n8_; clear n0_ n1_ n2_ n3_ n4_ n5_ n6_ n7_ n8_; clear hb hbox hg; have hnb87 := NB180_0.out; have hnc87 := NB0_180.out; have hcz88_0 : w86.cell? ⟨gb180, 0, none⟩ = some (.int .i64 0) := (blk_cell BK180.out 0).trans rfl; have hcz88_1 : w86.cell? ⟨gb180, 1, none⟩ = some (.int .i64 0) := (blk_cell BK180.out 1).trans rfl; have hcz88_2 : w86.cell? ⟨gb180, 2, none⟩ = some (.int .i64 0) := (blk_cell BK180.out 2).trans rfl; have hcz88_3 : w86.cell? ⟨gb180, 3, none⟩ = some (.slice none 0 0) := (blk_cell BK180.out 3).trans rfl; have hfz88_0 := blk_frozen BK180.out 0; have hfz88_1 := blk_frozen BK180.out 1; have hfz88_2 := blk_frozen BK180.out 2; have hfz88_3 := blk_frozen BK180.out 3))
              have n0_ : Aside0 (((((w86.setCell ⟨gb180, 0, none⟩ (.int .i64 ((rd_T61 s0_2 x7_2).f0))).setCell ⟨gb180, 1, none⟩ (.int .i64 ((rd_T61 s0_2 x7_2).f1))).setCell ⟨gb180, 2, none⟩ (.int .i64 ((rd_T61 s0_2 x7_2).f2))).setCell ⟨gb180, 3, none⟩ (.slice A179_3 ((rd_T61 s0_2 x7_2).f3).length c179_3)).heap[gb180]? = some (.cells #[.int .i64 ((rd_T61 s0_2 x7_2).f0), .int .i64 ((rd_T61 s0_2 x7_2).f1), .int .i64 ((rd_T61 s0_2 x7_2).f2), .slice A179_3 ((rd_T61 s0_2 x7_2).f3).length c179_3] 61 (0, 0))) := ⟨by (with_reducible repeat (first | refine blk_drewN ?_ _ | refine blk_drew ?_ | refine blk_alloc ?_ _)); refine blk_put (cs := #[.int .i64 ((rd_T61 s0_2 x7_2).f0), .int .i64 ((rd_T61 s0_2 x7_2).f1), .int .i64 ((rd_T61 s0_2 x7_2).f2), .slice none 0 0]) ?_ 3 _ rfl; (with_reducible repeat (first | refine blk_drewN ?_ _ | refine blk_drew ?_ | refine blk_alloc ?_ _)); refine blk_put (cs := #[.int .i64 ((rd_T61 s0_2 x7_2).f0), .int .i64 ((rd_T61 s0_2 x7_2).f1), .int .i64 0, .slice none 0 0]) ?_ 2 _ rfl; (with_reducible repeat (first | refine blk_drewN ?_ _ | refine blk_drew ?_ | refine blk_alloc ?_ _)); refine blk_put (cs := #[.int .i64 ((rd_T61 s0_2 x7_2).f0), .int .i64 0, .int .i64 0, .slice none 0 0]) ?_ 1 _ rfl; (with_reducible repeat (first | refine blk_drewN ?_ _ | refine blk_drew ?_ | refine blk_alloc ?_ _)); refine blk_put (cs := #[.int .i64 0, .int .i64 0, .int .i64 0, .slice none 0 0]) ?_ 0 _ rfl; (with_reducible repeat (first | refine blk_drewN ?_ _ | refine blk_drew ?_ | refine blk_alloc ?_ _)); exact BK180.out⟩
              have n1_ : Aside0 (IsS33 w0 ((((w86.setCell ⟨gb180, 0, none⟩ (.int .i64 ((rd_T61 s0_2 x7_2).f0))).setCell ⟨gb180, 1, none⟩ (.int .i64 ((rd_T61 s0_2 x7_2).f1))).setCell ⟨gb180, 2, none⟩ (.int .i64 ((rd_T61 s0_2 x7_2).f2))).setCell ⟨gb180, 3, none⟩ (.slice A179_3 ((rd_T61 s0_2 x7_2).f3).length c179_3)) g s0_0 s0_1 s0_2) := ⟨by repeat (first | (with_reducible first | exact HI0.out | apply IsS33.alloc | apply IsS33.drewN | apply IsS33.drew | apply IsS33.set_0 | refine IsS33.far ?_ NB0_180.out _) | exact HI0.out)⟩
              have n2_ : Aside0 (KeepBut w ((((w86.setCell ⟨gb180, 0, none⟩ (.int .i64 ((rd_T61 s0_2 x7_2).f0))).setCell ⟨gb180, 1, none⟩ (.int .i64 ((rd_T61 s0_2 x7_2).f1))).setCell ⟨gb180, 2, none⟩ (.int .i64 ((rd_T61 s0_2 x7_2).f2))).setCell ⟨gb180, 3, none⟩ (.slice A179_3 ((rd_T61 s0_2 x7_2).f3).length c179_3)) g none) := ⟨by repeat (first | (with_reducible first | exact HK.out | apply KeepBut.set_ | apply keep_drewN | apply keep_drew | apply keep_alloc | refine keep_far ?_ GW180.out _) | exact HK.out)⟩
              have n3_ : Aside0 (Below w0.heap.size w0 ((((w86.setCell ⟨gb180, 0, none⟩ (.int .i64 ((rd_T61 s0_2 x7_2).f0))).setCell ⟨gb180, 1, none⟩ (.int .i64 ((rd_T61 s0_2 x7_2).f1))).setCell ⟨gb180, 2, none⟩ (.int .i64 ((rd_T61 s0_2 x7_2).f2))).setCell ⟨gb180, 3, none⟩ (.slice A179_3 ((rd_T61 s0_2 x7_2).f3).length c179_3))) := ⟨by repeat (first | (with_reducible first | exact HB.out | apply below_alloc | apply pw_below_drewN | apply below_drew1 | refine below_set ?_ (IsS33.ge HI0.out) | refine below_set ?_ GE180.out) | exact HB.out)⟩
              (try clear BK180)
              (try clear HI0)
              (try clear HK)
              (try clear HB)
              generalize ((((w86.setCell ⟨gb180, 0, none⟩ (.int .i64 ((rd_T61 s0_2 x7_2).f0))).setCell ⟨gb180, 1, none⟩ (.int .i64 ((rd_T61 s0_2 x7_2).f1))).setCell ⟨gb180, 2, none⟩ (.int .i64 ((rd_T61 s0_2 x7_2).f2))).setCell ⟨gb180, 3, none⟩ (.slice A179_3 ((rd_T61 s0_2 x7_2).f3).length c179_3)) = w89 at n0_ n1_ n2_ n3_ ⊢
              have BK180 := n0_
              have HI0 := n1_
              have HK := n2_
              have HB := n3_
              clear n0_ n1_ n2_ n3_
              have n0_ := Aside0.mk (blk_drew BK180.out)
              have n1_ := Aside0.mk (IsS33.drew HI0.out)
              have n2_ := Aside0.mk (keep_drew HK.out)
              have n3_ := Aside0.mk (below_drew1 HB.out)
              clear BK180
              clear HI0
              clear HK
              clear HB
              have BK180 := n0_
              have HI0 := n1_
              have HK := n2_
              have HB := n3_
              clear n0_ n1_ n2_ n3_
              refine start_ (n := 20) (S := fun w' => w'.cell? ⟨gb180, 0, none⟩ = some (.int .i64 ((rd_T61 s0_2 x7_2).f0)) ∧ w'.cell? ⟨gb180, 1, none⟩ = some (.int .i64 ((rd_T61 s0_2 x7_2).f1)) ∧ w'.cell? ⟨gb180, 2, none⟩ = some (.int .i64 ((rd_T61 s0_2 x7_2).f2)) ∧ w'.cell? ⟨gb180, 3, none⟩ = some (.slice A179_3 ((rd_T61 s0_2 x7_2).f3).length c179_3)) (ds := []) #[false, false, false, false, false, false, false, false, false, false, false, false, false, false, false, false, false, false, false, false] (by kernel_rfl) rfl rfl ⟨(blk_cell BK180.out 0).trans rfl, (blk_cell BK180.out 1).trans rfl, (blk_cell BK180.out 2).trans rfl, (blk_cell BK180.out 3).trans rfl⟩ (fun hHeld => ?_); refine with_tabW spec_l5Text.tab14 spec_l5Text.bits14 (fun HT_ HW_ => ?_)
              generalize w89.drew = w90 at BK180 HI0 HK HB hHeld ⊢
              refine pure_ (i := 0) (N := some 76) (v := ?_) (a' := ?_) #[true, false, false, false, false, false, false, false, false, false, false, false, false, false, false, false, false, false, false, false] rfl rfl (any_of HT_.out (by kernel_rfl)) (fun _ _ _ h => h) (Or.inl ⟨by rfl, ?_⟩) ?_ ?_
              rotate_left
              ·intro w'
               first | (go_simp; with_reducible rfl) | (go_simp; (try unfold Instr.field); go_simp; (try simp only [asAgg]); go_simp; with_reducible rfl)
              rotate_left
              ·simp only [Act.put, List.setIfInBounds_toArray, List.set_cons_zero, List.set_cons_succ, i64_w, i32_w]
               rfl
              refine pure_ (i := 1) (N := some 77) (v := ?_) (a' := ?_) #[true, true, false, false, false, false, false, false, false, false, false, false, false, false, false, false, false, false, false, false] rfl rfl (any_of HT_.out (by kernel_rfl)) (fun _ _ _ h => h) (Or.inl ⟨by rfl, ?_⟩) ?_ ?_
              rotate_left
              ·intro w'
               first | (go_simp; with_reducible rfl) | (go_simp; (try unfold Instr.field); go_simp; (try simp only [asAgg]); go_simp; with_reducible rfl)
              rotate_left
              ·simp only [Act.put, List.setIfInBounds_toArray, List.set_cons_zero, List.set_cons_succ, i64_w, i32_w]
               rfl
              refine pure_ (i := 6) (N := some 82) (v := ?_) (a' := ?_) #[true, true, false, false, false, false, true, false, false, false, false, false, false, false, false, false, false, false, false, false] rfl rfl (any_of HT_.out (by kernel_rfl)) (fun _ _ _ h => h) (Or.inl ⟨by rfl, ?_⟩) ?_ ?_
              rotate_left
              ·intro w'
               first | (go_simp; with_reducible rfl) | (go_simp; (try unfold Instr.field); go_simp; (try simp only [asAgg]); go_simp; with_reducible rfl)
              rotate_left
              ·simp only [Act.put, List.setIfInBounds_toArray, List.set_cons_zero, List.set_cons_succ, i64_w, i32_w]
               rfl
              refine pure_ (i := 11) (N := some 87) (v := ?_) (a' := ?_) #[true, true, false, false, false, false, true, false, false, false, false, true, false, false, false, false, false, false, false, false] rfl rfl (any_of HT_.out (by kernel_rfl)) (fun _ _ _ h => h) (Or.inl ⟨by rfl, ?_⟩) ?_ ?_
              rotate_left
              ·intro w'
               first | (go_simp; with_reducible rfl) | (go_simp; (try unfold Instr.field); go_simp; (try simp only [asAgg]); go_simp; with_reducible rfl)
              rotate_left
              ·simp only [Act.put, List.setIfInBounds_toArray, List.set_cons_zero, List.set_cons_succ, i64_w, i32_w]
               rfl
              refine pure_ (i := 15) (N := some 91) (v := ?_) (a' := ?_) #[true, true, false, false, false, false, true, false, false, false, false, true, false, false, false, true, false, false, false, false] rfl rfl (any_of HT_.out (by kernel_rfl)) (fun _ _ _ h => h) (Or.inl ⟨by rfl, ?_⟩) ?_ ?_
              rotate_left
              ·intro w'
               first | (go_simp; with_reducible rfl) | (go_simp; (try unfold Instr.field); go_simp; (try simp only [asAgg]); go_simp; with_reducible rfl)
              rotate_left
              ·simp only [Act.put, List.setIfInBounds_toArray, List.set_cons_zero, List.set_cons_succ, i64_w, i32_w]
               rfl
              refine take_ (i := 2) (N := some 78) (v := ?_) (a' := ?_) #[true, true, true, false, false, false, true, false, false, false, false, true, false, false, false, true, false, false, false, false] rfl rfl (take_ofW HT_.out HW_.out (by kernel_rfl)) (fun _ _ _ h => h) (Or.inl ⟨by rfl, ?_⟩) hHeld ?_ ?_
              rotate_left
              ·rintro w' ⟨s0, s1, s2, s3⟩
               go_simp
               with_reducible rfl
              rotate_left
              ·simp only [Act.put, List.setIfInBounds_toArray, List.set_cons_zero, List.set_cons_succ, i64_w, i32_w]
               rfl
              refine take_ (i := 7) (N := some 83) (v := ?_) (a' := ?_) #[true, true, true, false, false, false, true, true, false, false, false, true, false, false, false, true, false, false, false, false] rfl rfl (take_ofW HT_.out HW_.out (by kernel_rfl)) (fun _ _ _ h => h) (Or.inl ⟨by rfl, ?_⟩) hHeld ?_ ?_
              rotate_left
              ·rintro w' ⟨s0, s1, s2, s3⟩
               go_simp
               with_reducible rfl
              rotate_left
              ·simp only [Act.put, List.setIfInBounds_toArray, List.set_cons_zero, List.set_cons_succ, i64_w, i32_w]
               rfl
              refine take_ (i := 12) (N := some 88) (v := ?_) (a' := ?_) #[true, true, true, false, false, false, true, true, false, false, false, true, true, false, false, true, false, false, false, false] rfl rfl (take_ofW HT_.out HW_.out (by kernel_rfl)) (fun _ _ _ h => h) (Or.inl ⟨by rfl, ?_⟩) hHeld ?_ ?_
              rotate_left
              ·rintro w' ⟨s0, s1, s2, s3⟩
               go_simp
               with_reducible rfl
              rotate_left
              ·simp only [Act.put, List.setIfInBounds_toArray, List.set_cons_zero, List.set_cons_succ, i64_w, i32_w]
               rfl
              refine take_ (i := 16) (N := some 92) (v := ?_) (a' := ?_) #[true, true, true, false, false, false, true, true, false, false, false, true, true, false, false, true, true, false, false, false] rfl rfl (take_ofW HT_.out HW_.out (by kernel_rfl)) (fun _ _ _ h => h) (Or.inl ⟨by rfl, ?_⟩) hHeld ?_ ?_
              rotate_left
              ·rintro w' ⟨s0, s1, s2, s3⟩
               go_simp
               with_reducible rfl
              rotate_left
              ·simp only [Act.put, List.setIfInBounds_toArray, List.set_cons_zero, List.set_cons_succ, i64_w, i32_w]
               rfl
              refine one_ (i := 3) (N := some 79) #[true, true, true, true, false, false, true, true, false, false, false, true, true, false, false, true, true, false, false, false] rfl rfl (one_of HT_.out (by kernel_rfl)) (by decide) (fun K hK => ?_)
              refine goes_ Tryd.func26 (by kernel_rfl) rfl #[.int .i64 ((rd_T61 s0_2 x7_2).f0)] (by rfl) rfl rfl (by (try simp only [List.map_toArray, List.map_cons, List.map_nil]); first | done | rfl | (simp only [List.length_drop, List.length_take]; rfl)) ?_
              with_reducible refine (spec_l2Text.calls k2 ((rd_T61 s0_2 x7_2).f0) t181 _ A75.out).mono ?_
              rintro e w91 ⟨rfl, hb⟩
              refine ⟨_, rfl, ?_⟩
              have n0_ := Aside0.mk (IsS33.below (by repeat (first | (with_reducible first | exact HI0.out | apply IsS33.alloc | apply IsS33.drewN | apply IsS33.drew | apply IsS33.set_0 | refine IsS33.far ?_ NB0_180.out _) | exact HI0.out)) hb)
              have n1_ := Aside0.mk (blk_below (g := gb180) (o := .cells #[.int .i64 ((rd_T61 s0_2 x7_2).f0), .int .i64 ((rd_T61 s0_2 x7_2).f1), .int .i64 ((rd_T61 s0_2 x7_2).f2), .slice A179_3 ((rd_T61 s0_2 x7_2).f3).length c179_3] 61 (0, 0)) (by (with_reducible repeat (first | refine blk_drewN ?_ _ | refine blk_drew ?_ | refine blk_alloc ?_ _)); exact BK180.out) hb)
              have n2_ := Aside0.mk (KeepBut.trans (by repeat (first | (with_reducible first | exact HK.out | apply KeepBut.set_ | apply keep_drewN | apply keep_drew | apply keep_alloc | refine keep_far ?_ GW180.out _) | exact HK.out)) (KeepBut.of_below hb g none) (.inl rfl))
              have n3_ := Aside0.mk (below_step (by repeat (first | (with_reducible first | exact HB.out | apply below_alloc | apply pw_below_drewN | apply below_drew1 | refine below_set ?_ (IsS33.ge HI0.out) | refine below_set ?_ GE180.out) | exact HB.out)) hb)
              clear HI0
              clear BK180
              clear HK
              clear HB
              have HI0 := n0_
              have BK180 := n1_
              have HK := n2_
              have HB := n3_
              clear n0_ n1_ n2_ n3_
              (try clear hb)
              (try clear hb2)
              (try clear hk)
              (try clear hi)
              refine hK.out _ _ ⟨(blk_cell BK180.out 0).trans rfl, (blk_cell BK180.out 1).trans rfl, (blk_cell BK180.out 2).trans rfl, (blk_cell BK180.out 3).trans rfl⟩ (fun hHeld => ?_)
              clear hK K
              refine norm_ (a' := ?_) ?_ ?_
              rotate_left
              ·show Act.put _ (some 79) _ = _
               simp only [Act.put, List.setIfInBounds_toArray, List.set_cons_zero, List.set_cons_succ, i64_w, i32_w]
               rfl
              refine pure_ (i := 4) (N := some 80) (v := ?_) (a' := ?_) #[true, true, true, true, true, false, true, true, false, false, false, true, true, false, false, true, true, false, false, false] rfl rfl (any_of HT_.out (by kernel_rfl)) (fun _ _ _ h => h) (Or.inl ⟨by rfl, ?_⟩) ?_ ?_
              rotate_left
              ·intro w'
               first | (go_simp; with_reducible rfl) | (go_simp; (try unfold Instr.field); go_simp; (try simp only [asAgg]); go_simp; with_reducible rfl)
              rotate_left
              ·simp only [Act.put, List.setIfInBounds_toArray, List.set_cons_zero, List.set_cons_succ, i64_w, i32_w]
               rfl
              refine pure_ (i := 5) (N := some 81) (v := ?_) (a' := ?_) #[true, true, true, true, true, true, true, true, false, false, false, true, true, false, false, true, true, false, false, false] rfl rfl (any_of HT_.out (by kernel_rfl)) (fun _ _ _ h => h) (Or.inl ⟨by rfl, ?_⟩) ?_ ?_
              rotate_left
              ·intro w'
               first | (go_simp; with_reducible rfl) | (go_simp; (try unfold Instr.field); go_simp; (try simp only [asAgg]); go_simp; with_reducible rfl)
              rotate_left
              ·simp only [Act.put, List.setIfInBounds_toArray, List.set_cons_zero, List.set_cons_succ, i64_w, i32_w]
               rfl
              refine one_ (i := 8) (N := some 84) #[true, true, true, true, true, true, true, true, true, false, false, true, true, false, false, true, true, false, false, false] rfl rfl (one_of HT_.out (by kernel_rfl)) (by decide) (fun K hK => ?_)
              refine goes_ Tryd.func25 (by kernel_rfl) rfl #[.int .i64 ((rd_T61 s0_2 x7_2).f1)] (by rfl) rfl rfl (by (try simp only [List.map_toArray, List.map_cons, List.map_nil]); first | done | rfl | (simp only [List.length_drop, List.length_take]; rfl)) ?_
              with_reducible refine (spec_l2Digits.calls k2 ((rd_T61 s0_2 x7_2).f1) t182 _ A78.out).mono ?_
              rintro e w92 ⟨rfl, hb⟩
              refine ⟨_, rfl, ?_⟩
              have n0_ := Aside0.mk (IsS33.below (by repeat (first | (with_reducible first | exact HI0.out | apply IsS33.alloc | apply IsS33.drewN | apply IsS33.drew | apply IsS33.set_0 | refine IsS33.far ?_ NB0_180.out _) | exact HI0.out)) hb)
              have n1_ := Aside0.mk (blk_below (g := gb180) (o := .cells #[.int .i64 ((rd_T61 s0_2 x7_2).f0), .int .i64 ((rd_T61 s0_2 x7_2).f1), .int .i64 ((rd_T61 s0_2 x7_2).f2), .slice A179_3 ((rd_T61 s0_2 x7_2).f3).length c179_3] 61 (0, 0)) (by (with_reducible repeat (first | refine blk_drewN ?_ _ | refine blk_drew ?_ | refine blk_alloc ?_ _)); exact BK180.out) hb)
              have n2_ := Aside0.mk (KeepBut.trans (by repeat (first | (with_reducible first | exact HK.out | apply KeepBut.set_ | apply keep_drewN | apply keep_drew | apply keep_alloc | refine keep_far ?_ GW180.out _) | exact HK.out)) (KeepBut.of_below hb g none) (.inl rfl))
              have n3_ := Aside0.mk (below_step (by repeat (first | (with_reducible first | exact HB.out | apply below_alloc | apply pw_below_drewN | apply below_drew1 | refine below_set ?_ (IsS33.ge HI0.out) | refine below_set ?_ GE180.out) | exact HB.out)) hb)
              clear HI0
              clear BK180
              clear HK
              clear HB
              have HI0 := n0_
              have BK180 := n1_
              have HK := n2_
              have HB := n3_
              clear n0_ n1_ n2_ n3_
              (try clear hb)
              (try clear hb2)
              (try clear hk)
              (try clear hi)
              refine hK.out _ _ ⟨(blk_cell BK180.out 0).trans rfl, (blk_cell BK180.out 1).trans rfl, (blk_cell BK180.out 2).trans rfl, (blk_cell BK180.out 3).trans rfl⟩ (fun hHeld => ?_)
              clear hK K
              refine norm_ (a' := ?_) ?_ ?_
              rotate_left
              ·show Act.put _ (some 84) _ = _
               simp only [Act.put, List.setIfInBounds_toArray, List.set_cons_zero, List.set_cons_succ, i64_w, i32_w]
               rfl
              refine pure_ (i := 9) (N := some 85) (v := ?_) (a' := ?_) #[true, true, true, true, true, true, true, true, true, true, false, true, true, false, false, true, true, false, false, false] rfl rfl (any_of HT_.out (by kernel_rfl)) (fun _ _ _ h => h) (Or.inl ⟨by rfl, ?_⟩) ?_ ?_
              rotate_left
              ·intro w'
               first | (go_simp; with_reducible rfl) | (go_simp; (try unfold Instr.field); go_simp; (try simp only [asAgg]); go_simp; with_reducible rfl)
              rotate_left
              ·simp only [Act.put, List.setIfInBounds_toArray, List.set_cons_zero, List.set_cons_succ, i64_w, i32_w]
               rfl
              refine pure_ (i := 10) (N := some 86) (v := ?_) (a' := ?_) #[true, true, true, true, true, true, true, true, true, true, true, true, true, false, false, true, true, false, false, false] rfl rfl (any_of HT_.out (by kernel_rfl)) (fun _ _ _ h => h) (Or.inl ⟨by rfl, ?_⟩) ?_ ?_
              rotate_left
              ·intro w'
               first | (go_simp; with_reducible rfl) | (go_simp; (try unfold Instr.field); go_simp; (try simp only [asAgg]); go_simp; with_reducible rfl)
              rotate_left
              ·simp only [Act.put, List.setIfInBounds_toArray, List.set_cons_zero, List.set_cons_succ, i64_w, i32_w]
               rfl
              refine one_ (i := 13) (N := some 89) #[true, true, true, true, true, true, true, true, true, true, true, true, true, true, false, true, true, false, false, false] rfl rfl (one_of HT_.out (by kernel_rfl)) (by decide) (fun K hK => ?_)
              refine goes_ Tryd.func25 (by kernel_rfl) rfl #[.int .i64 ((rd_T61 s0_2 x7_2).f2)] (by rfl) rfl rfl (by (try simp only [List.map_toArray, List.map_cons, List.map_nil]); first | done | rfl | (simp only [List.length_drop, List.length_take]; rfl)) ?_
              with_reducible refine (spec_l2Digits.calls k2 ((rd_T61 s0_2 x7_2).f2) t183 _ A81.out).mono ?_
              rintro e w93 ⟨rfl, hb⟩
              refine ⟨_, rfl, ?_⟩
              have n0_ := Aside0.mk (IsS33.below (by repeat (first | (with_reducible first | exact HI0.out | apply IsS33.alloc | apply IsS33.drewN | apply IsS33.drew | apply IsS33.set_0 | refine IsS33.far ?_ NB0_180.out _) | exact HI0.out)) hb)
              have n1_ := Aside0.mk (blk_below (g := gb180) (o := .cells #[.int .i64 ((rd_T61 s0_2 x7_2).f0), .int .i64 ((rd_T61 s0_2 x7_2).f1), .int .i64 ((rd_T61 s0_2 x7_2).f2), .slice A179_3 ((rd_T61 s0_2 x7_2).f3).length c179_3] 61 (0, 0)) (by (with_reducible repeat (first | refine blk_drewN ?_ _ | refine blk_drew ?_ | refine blk_alloc ?_ _)); exact BK180.out) hb)
              have n2_ := Aside0.mk (KeepBut.trans (by repeat (first | (with_reducible first | exact HK.out | apply KeepBut.set_ | apply keep_drewN | apply keep_drew | apply keep_alloc | refine keep_far ?_ GW180.out _) | exact HK.out)) (KeepBut.of_below hb g none) (.inl rfl))
              have n3_ := Aside0.mk (below_step (by repeat (first | (with_reducible first | exact HB.out | apply below_alloc | apply pw_below_drewN | apply below_drew1 | refine below_set ?_ (IsS33.ge HI0.out) | refine below_set ?_ GE180.out) | exact HB.out)) hb)
              clear HI0
              clear BK180
              clear HK
              clear HB
              have HI0 := n0_
              have BK180 := n1_
              have HK := n2_
              have HB := n3_
              clear n0_ n1_ n2_ n3_
              (try clear hb)
              (try clear hb2)
              (try clear hk)
              (try clear hi)
              refine hK.out _ _ ⟨(blk_cell BK180.out 0).trans rfl, (blk_cell BK180.out 1).trans rfl, (blk_cell BK180.out 2).trans rfl, (blk_cell BK180.out 3).trans rfl⟩ (fun hHeld => ?_)
              clear hK K
              refine norm_ (a' := ?_) ?_ ?_
              rotate_left
              ·show Act.put _ (some 89) _ = _
               simp only [Act.put, List.setIfInBounds_toArray, List.set_cons_zero, List.set_cons_succ, i64_w, i32_w]
               rfl
              refine pure_ (i := 14) (N := some 90) (v := ?_) (a' := ?_) #[true, true, true, true, true, true, true, true, true, true, true, true, true, true, true, true, true, false, false, false] rfl rfl (any_of HT_.out (by kernel_rfl)) (fun _ _ _ h => h) (Or.inl ⟨by rfl, ?_⟩) ?_ ?_
              rotate_left
              ·intro w'
               first | (go_simp; with_reducible rfl) | (go_simp; (try unfold Instr.field); go_simp; (try simp only [asAgg]); go_simp; with_reducible rfl)
              rotate_left
              ·simp only [Act.put, List.setIfInBounds_toArray, List.set_cons_zero, List.set_cons_succ, i64_w, i32_w]
               rfl
              refine one_ (i := 17) (N := some 93) #[true, true, true, true, true, true, true, true, true, true, true, true, true, true, true, true, true, true, false, false] rfl rfl (one_of HT_.out (by kernel_rfl)) (by decide) (fun K hK => ?_)
              refine goes_ Tryd.func24 (by kernel_rfl) rfl #[.string ((((((⟨#[118, 105, 112, 32]⟩ : ByteArray) ++ t181) ++ (⟨#[32]⟩ : ByteArray)) ++ t182) ++ (⟨#[32]⟩ : ByteArray)) ++ t183), .slice A179_3 ((rd_T61 s0_2 x7_2).f3).length c179_3] (by rfl) rfl rfl (by (try simp only [List.map_toArray, List.map_cons, List.map_nil]); first | done | rfl | (simp only [List.length_drop, List.length_take]; rfl)) ?_
              with_reducible refine (spec_l5Line.calls k2 ((((((⟨#[118, 105, 112, 32]⟩ : ByteArray) ++ t181) ++ (⟨#[32]⟩ : ByteArray)) ++ t182) ++ (⟨#[32]⟩ : ByteArray)) ++ t183) _ _ ((rd_T61 s0_2 x7_2).f3) t184 _ ?side1 ?side2 A83.out).mono ?_
              (case side1 => exact Kd.C_below HRB179_3.out HB.out)
              (case side2 => exact HC179_3.out)
              rintro e w94 ⟨rfl, hb⟩
              refine ⟨_, rfl, ?_⟩
              have n0_ := Aside0.mk (IsS33.below (by repeat (first | (with_reducible first | exact HI0.out | apply IsS33.alloc | apply IsS33.drewN | apply IsS33.drew | apply IsS33.set_0 | refine IsS33.far ?_ NB0_180.out _) | exact HI0.out)) hb)
              have n1_ := Aside0.mk (blk_below (g := gb180) (o := .cells #[.int .i64 ((rd_T61 s0_2 x7_2).f0), .int .i64 ((rd_T61 s0_2 x7_2).f1), .int .i64 ((rd_T61 s0_2 x7_2).f2), .slice A179_3 ((rd_T61 s0_2 x7_2).f3).length c179_3] 61 (0, 0)) (by (with_reducible repeat (first | refine blk_drewN ?_ _ | refine blk_drew ?_ | refine blk_alloc ?_ _)); exact BK180.out) hb)
              have n2_ := Aside0.mk (KeepBut.trans (by repeat (first | (with_reducible first | exact HK.out | apply KeepBut.set_ | apply keep_drewN | apply keep_drew | apply keep_alloc | refine keep_far ?_ GW180.out _) | exact HK.out)) (KeepBut.of_below hb g none) (.inl rfl))
              have n3_ := Aside0.mk (below_step (by repeat (first | (with_reducible first | exact HB.out | apply below_alloc | apply pw_below_drewN | apply below_drew1 | refine below_set ?_ (IsS33.ge HI0.out) | refine below_set ?_ GE180.out) | exact HB.out)) hb)
              clear HI0
              clear BK180
              clear HK
              clear HB
              have HI0 := n0_
              have BK180 := n1_
              have HK := n2_
              have HB := n3_
              clear n0_ n1_ n2_ n3_
              (try clear hb)
              (try clear hb2)
              (try clear hk)
              (try clear hi)
              refine hK.out _ _ ⟨(blk_cell BK180.out 0).trans rfl, (blk_cell BK180.out 1).trans rfl, (blk_cell BK180.out 2).trans rfl, (blk_cell BK180.out 3).trans rfl⟩ (fun hHeld => ?_)
              clear hK K
              refine norm_ (a' := ?_) ?_ ?_
              rotate_left
              ·show Act.put _ (some 93) _ = _
               simp only [Act.put, List.setIfInBounds_toArray, List.set_cons_zero, List.set_cons_succ, i64_w, i32_w]
               rfl
              refine pure_ (i := 18) (N := some 94) (v := ?_) (a' := ?_) #[true, true, true, true, true, true, true, true, true, true, true, true, true, true, true, true, true, true, true, false] rfl rfl (any_of HT_.out (by kernel_rfl)) (fun _ _ _ h => h) (Or.inl ⟨by rfl, ?_⟩) ?_ ?_
              rotate_left
              ·intro w'
               first | (go_simp; with_reducible rfl) | (go_simp; (try unfold Instr.field); go_simp; (try simp only [asAgg]); go_simp; with_reducible rfl)
              rotate_left
              ·simp only [Act.put, List.setIfInBounds_toArray, List.set_cons_zero, List.set_cons_succ, i64_w, i32_w]
               rfl
              refine pure_ (i := 19) (N := some 3) (v := ?_) (a' := ?_) #[true, true, true, true, true, true, true, true, true, true, true, true, true, true, true, true, true, true, true, true] rfl rfl (any_of HT_.out (by kernel_rfl)) (fun _ _ _ h => h) (Or.inl ⟨by rfl, ?_⟩) ?_ ?_
              rotate_left
              ·intro w'
               first | (go_simp; with_reducible rfl) | (go_simp; (try unfold Instr.field); go_simp; (try simp only [asAgg]); go_simp; with_reducible rfl)
              rotate_left
              ·simp only [Act.put, List.setIfInBounds_toArray, List.set_cons_zero, List.set_cons_succ, i64_w, i32_w]
               rfl
              refine done_ (done_of HT_.out (by kernel_rfl)) ?_
              try go_wp2
              go_roundg k2
              case measure => have := HK1.out; have := HK2.out; omega
              case rel => exact ⟨(x3_2 ++ t184), (wrap64 (x7_2 + 1)), (by first | rfl | (simp; done) | (simp [*]; done)), (by first | rfl | (simp; done) | (simp [*]; done)), H', ⟨by have := HK1.out; have := HK2.out; omega⟩, ⟨by repeat (first | (with_reducible first | exact HI0.out | apply IsS33.alloc | apply IsS33.drewN | apply IsS33.drew | apply IsS33.set_0 | refine IsS33.far ?_ NB0_180.out _) | exact HI0.out)⟩, ⟨by repeat (first | (with_reducible first | exact HK.out | apply KeepBut.set_ | apply keep_drewN | apply keep_drew | apply keep_alloc | refine keep_far ?_ GW180.out _) | exact HK.out)⟩, ⟨by repeat (first | (with_reducible first | exact HB.out | apply below_alloc | apply pw_below_drewN | apply below_drew1 | refine below_set ?_ (IsS33.ge HI0.out) | refine below_set ?_ GE180.out) | exact HB.out)⟩⟩
             ·rw [if_neg c84] at H
              exact absurd H (by simp)
            ·rw [if_neg c82] at H
             exact absurd H (by simp)
           ·rw [if_neg c80] at H
            exact absurd H (by simp)
          ·rw [if_neg c79] at H
           exact absurd H (by simp)
         ·rw [if_neg c77] at H
          exact absurd H (by simp)
        ·rw [if_neg c76] at H
         exact absurd H (by simp)
       ·rw [if_neg c74] at H
        exact absurd H (by simp)
      ·rw [if_neg c73] at H
       have c73b0 : decide (x7_2 < (s0_2.length : Int)) = false := decide_eq_false c73
       clear c73
       simp only [Option.some.injEq, Prod.mk.injEq] at H
       obtain ⟨rfl, rfl⟩ := H
       obtain ⟨ASz95_1, cSz95_1, ASz95_2, cSz95_2, HGz95, hgz95, HSz95_1, HSz95_2⟩ := HI0.out
       have hcz95_0 := cellS33_0 HGz95
       have hcz95_1 := cellS33_1 HGz95
       have hcz95_2 := cellS33_2 HGz95
       have hfz95_0 := blk_frozen HGz95 0
       clear HGz95 hgz95
       go_wp2
       go_ret
       exact ⟨by first | rfl | (simp [errW_none, errW_some] <;> rfl) | (simp [*, errW_none, errW_some] <;> rfl), by repeat (first | (with_reducible first | exact HI0.out | apply IsS33.alloc | apply IsS33.drewN | apply IsS33.drew | apply IsS33.set_0) | exact HI0.out), by repeat (first | (with_reducible first | exact HB.out | apply below_alloc | apply pw_below_drewN | apply below_drew1 | refine below_set ?_ (IsS33.ge HI0.out)) | exact HB.out), by repeat (first | (with_reducible first | exact HK.out | apply KeepBut.set_ | apply keep_drewN | apply keep_drew | apply keep_alloc) | exact HK.out)⟩

end Go.Proofs.YtfmlhpoaipeoeaaDoor.QFnExactConfigText
