-- MADE BY PROGRAM (qprint.py): walks of the functions that the law FnExactConfigText reaches. Lean checks it.
import Derived.Test.YtfmlhpoaipeoeaaDoorQFnExactConfigTextx0
import Derived.Test.YtfmlhpoaipeoeaaDoorQFnExactConfigTextx5
namespace Go.Proofs.YtfmlhpoaipeoeaaDoor.QFnExactConfigText
open Go.RowKit Go.Proofs.YtfmlhpoaipeoeaaDoorW.PrintWords Go.Proofs.YtfmlhpoaipeoeaaDoorW.PrintLast Go.Proofs.YtfmlhpoaipeoeaaDoorW.PrintMore
attribute [local go_sem] max2_int min2_int max_two min_two max_three min_three max_four min_four   -- for this text's walks alone
set_option linter.unusedVariables false
set_option linter.unusedSimpArgs false

/-! ### impl_configText: function 17 -/
/-! #### a stage's word -/
def Ct.stage (i : Int) : Option ByteArray := if i = 1 then some ⟨#[111, 110]⟩ else if i = 2 then some ⟨#[100, 114, 97, 105, 110]⟩ else if i = 3 then some ⟨#[111, 102, 102]⟩ else none
set_option maxRecDepth 100000 in
theorem Ct.stage_index {i : Int} {t : ByteArray} (h : Ct.stage i = some t) : ∀ w : World, (Instr.index 69 (.agg #[.string ⟨#[]⟩, .string ⟨#[111, 110]⟩, .string ⟨#[100, 114, 97, 105, 110]⟩, .string ⟨#[111, 102, 102]⟩]) (.int .i64 i)).run Tryd.prog w = .ok (.string t) w := by
  unfold Ct.stage at h
  split at h
  · rename_i c; subst c; cases h; exact fun _ => by kernel_rfl
  · split at h
    · rename_i c; subst c; cases h; exact fun _ => by kernel_rfl
    · split at h
      · rename_i c; subst c; cases h; exact fun _ => by kernel_rfl
      · cases h
mutual
def impl_configText.l0 : Nat → ByteArray → List (S56) → Int → Int → Int → List (S56) → List (S61) → Option (ByteArray)
  | 0, _, _, _, _, _, _, _ => none
  | k + 1, x3, x15, x16, x17, x278000, x278001, x278002 => if x17 < x16 then (if 0 ≤ x17 then (if x17 < (x15.length : Int) then ((Ct.stage ((rd_T56 x15 x17).f3)).bind fun t281 => ((impl_decimal.f ((rd_T56 x15 x17).f0)).bind fun t282 => (if 8 + t282.size ≤ 9223372036854775807 then (if ((⟨#[98, 97, 99, 107, 101, 110, 100, 32]⟩ : ByteArray) ++ t282).size + 1 ≤ 9223372036854775807 then ((impl_addressText.f ((rd_T56 x15 x17).f1)).bind fun t283 => (if (((⟨#[98, 97, 99, 107, 101, 110, 100, 32]⟩ : ByteArray) ++ t282) ++ (⟨#[32]⟩ : ByteArray)).size + t283.size ≤ 9223372036854775807 then (if ((((⟨#[98, 97, 99, 107, 101, 110, 100, 32]⟩ : ByteArray) ++ t282) ++ (⟨#[32]⟩ : ByteArray)) ++ t283).size + 1 ≤ 9223372036854775807 then ((impl_decimal.f ((rd_T56 x15 x17).f2)).bind fun t284 => (if (((((⟨#[98, 97, 99, 107, 101, 110, 100, 32]⟩ : ByteArray) ++ t282) ++ (⟨#[32]⟩ : ByteArray)) ++ t283) ++ (⟨#[32]⟩ : ByteArray)).size + t284.size ≤ 9223372036854775807 then (if ((((((⟨#[98, 97, 99, 107, 101, 110, 100, 32]⟩ : ByteArray) ++ t282) ++ (⟨#[32]⟩ : ByteArray)) ++ t283) ++ (⟨#[32]⟩ : ByteArray)) ++ t284).size + 1 ≤ 9223372036854775807 then (if (((((((⟨#[98, 97, 99, 107, 101, 110, 100, 32]⟩ : ByteArray) ++ t282) ++ (⟨#[32]⟩ : ByteArray)) ++ t283) ++ (⟨#[32]⟩ : ByteArray)) ++ t284) ++ (⟨#[32]⟩ : ByteArray)).size + t281.size ≤ 9223372036854775807 then (if ((((((((⟨#[98, 97, 99, 107, 101, 110, 100, 32]⟩ : ByteArray) ++ t282) ++ (⟨#[32]⟩ : ByteArray)) ++ t283) ++ (⟨#[32]⟩ : ByteArray)) ++ t284) ++ (⟨#[32]⟩ : ByteArray)) ++ t281).size + 1 ≤ 9223372036854775807 then ((impl_chosen.f ((rd_T56 x15 x17).f4) (⟨#[117, 112]⟩ : ByteArray) (⟨#[100, 111, 119, 110]⟩ : ByteArray)).bind fun t285 => (if (((((((((⟨#[98, 97, 99, 107, 101, 110, 100, 32]⟩ : ByteArray) ++ t282) ++ (⟨#[32]⟩ : ByteArray)) ++ t283) ++ (⟨#[32]⟩ : ByteArray)) ++ t284) ++ (⟨#[32]⟩ : ByteArray)) ++ t281) ++ (⟨#[32]⟩ : ByteArray)).size + t285.size ≤ 9223372036854775807 then (if ((((((((((⟨#[98, 97, 99, 107, 101, 110, 100, 32]⟩ : ByteArray) ++ t282) ++ (⟨#[32]⟩ : ByteArray)) ++ t283) ++ (⟨#[32]⟩ : ByteArray)) ++ t284) ++ (⟨#[32]⟩ : ByteArray)) ++ t281) ++ (⟨#[32]⟩ : ByteArray)) ++ t285).size + 1 ≤ 9223372036854775807 then (if x3.size + (((((((((((⟨#[98, 97, 99, 107, 101, 110, 100, 32]⟩ : ByteArray) ++ t282) ++ (⟨#[32]⟩ : ByteArray)) ++ t283) ++ (⟨#[32]⟩ : ByteArray)) ++ t284) ++ (⟨#[32]⟩ : ByteArray)) ++ t281) ++ (⟨#[32]⟩ : ByteArray)) ++ t285) ++ (⟨#[10]⟩ : ByteArray)).size ≤ 9223372036854775807 then (impl_configText.l0 k (x3 ++ (((((((((((⟨#[98, 97, 99, 107, 101, 110, 100, 32]⟩ : ByteArray) ++ t282) ++ (⟨#[32]⟩ : ByteArray)) ++ t283) ++ (⟨#[32]⟩ : ByteArray)) ++ t284) ++ (⟨#[32]⟩ : ByteArray)) ++ t281) ++ (⟨#[32]⟩ : ByteArray)) ++ t285) ++ (⟨#[10]⟩ : ByteArray))) x15 x16 (wrap64 (x17 + 1)) x278000 x278001 x278002) else (none)) else (none)) else (none))) else (none)) else (none)) else (none)) else (none))) else (none)) else (none))) else (none)) else (none)))) else (none)) else (none)) else (impl_configText.l1 k x3 x278002 (x278002.length : Int) 0)
def impl_configText.l1 : Nat → ByteArray → List (S61) → Int → Int → Option (ByteArray)
  | 0, _, _, _, _ => none
  | k + 1, x3, x52, x53, x54 => if x54 < x53 then (if 0 ≤ x54 then (if x54 < (x52.length : Int) then ((impl_addressText.f ((rd_T61 x52 x54).f0)).bind fun t288 => (if 4 + t288.size ≤ 9223372036854775807 then (if ((⟨#[118, 105, 112, 32]⟩ : ByteArray) ++ t288).size + 1 ≤ 9223372036854775807 then ((some (([(rd_T61 x52 x54).f1, (rd_T61 x52 x54).f2] : List Int) : List Int)).bind fun y289 => (if y289.length + ((rd_T61 x52 x54).f3).length < 17592186044416 then ((impl_decimals.f (⟨#[32]⟩ : ByteArray) (y289 ++ ((rd_T61 x52 x54).f3))).bind fun t295 => (if (((⟨#[118, 105, 112, 32]⟩ : ByteArray) ++ t288) ++ (⟨#[32]⟩ : ByteArray)).size + t295.size ≤ 9223372036854775807 then (if ((((⟨#[118, 105, 112, 32]⟩ : ByteArray) ++ t288) ++ (⟨#[32]⟩ : ByteArray)) ++ t295).size + 1 ≤ 9223372036854775807 then (if x3.size + (((((⟨#[118, 105, 112, 32]⟩ : ByteArray) ++ t288) ++ (⟨#[32]⟩ : ByteArray)) ++ t295) ++ (⟨#[10]⟩ : ByteArray)).size ≤ 9223372036854775807 then (impl_configText.l1 k (x3 ++ (((((⟨#[118, 105, 112, 32]⟩ : ByteArray) ++ t288) ++ (⟨#[32]⟩ : ByteArray)) ++ t295) ++ (⟨#[10]⟩ : ByteArray))) x52 x53 (wrap64 (x54 + 1))) else (none)) else (none)) else (none))) else (none))) else (none)) else (none))) else (none)) else (none)) else (some x3)
end
def impl_configText.f (k : Nat) (a0_0 : Int) (l0_1 : List (S56)) (l0_2 : List (S61)) : Option (ByteArray) := (impl_decimal.f a0_0).bind fun t278 => (if 8 + t278.size ≤ 9223372036854775807 then (if ((⟨#[118, 101, 114, 115, 105, 111, 110, 32]⟩ : ByteArray) ++ t278).size + 1 ≤ 9223372036854775807 then (impl_configText.l0 k (((⟨#[118, 101, 114, 115, 105, 111, 110, 32]⟩ : ByteArray) ++ t278) ++ (⟨#[10]⟩ : ByteArray)) l0_1 (l0_1.length : Int) 0 a0_0 l0_1 l0_2) else (none)) else (none))
theorem impl_configText.mono_l : ∀ k, (∀ y0 y1 y2 y3 y4 y5 y6, LeO (impl_configText.l0 k y0 y1 y2 y3 y4 y5 y6) (impl_configText.l0 (k + 1) y0 y1 y2 y3 y4 y5 y6)) ∧ (∀ y0 y1 y2 y3, LeO (impl_configText.l1 k y0 y1 y2 y3) (impl_configText.l1 (k + 1) y0 y1 y2 y3))
  | 0 => ⟨fun _ _ _ _ _ _ _ r h => by simp [impl_configText.l0] at h, fun _ _ _ _ r h => by simp [impl_configText.l1] at h⟩
  | k + 1 => by
    obtain ⟨ih0, ih1⟩ := impl_configText.mono_l k
    refine ⟨?_, ?_⟩
    · intro y0 y1 y2 y3 y4 y5 y6
      unfold impl_configText.l0
      repeat' first
      | (with_reducible exact ih0 _ _ _ _ _ _ _)
      | (with_reducible exact ih1 _ _ _ _)
      | (with_reducible exact LeO.refl _)
      | (with_reducible exact LeO.none _)
      | (with_reducible refine LeO.ite ?_ ?_)
      | (with_reducible refine LeO.bind ?_ (fun _ => ?_))
      | exact ih0 _ _ _ _ _ _ _
      | exact ih1 _ _ _ _
      | exact LeO.none _
      | refine LeO.ite ?_ ?_
      | refine LeO.bind ?_ (fun _ => ?_)
    · intro y0 y1 y2 y3
      unfold impl_configText.l1
      repeat' first
      | (with_reducible exact ih0 _ _ _ _ _ _ _)
      | (with_reducible exact ih1 _ _ _ _)
      | (with_reducible exact LeO.refl _)
      | (with_reducible exact LeO.none _)
      | (with_reducible refine LeO.ite ?_ ?_)
      | (with_reducible refine LeO.bind ?_ (fun _ => ?_))
      | exact ih0 _ _ _ _ _ _ _
      | exact ih1 _ _ _ _
      | exact LeO.none _
      | refine LeO.ite ?_ ?_
      | refine LeO.bind ?_ (fun _ => ?_)
theorem impl_configText.mono : ∀ a0 a1 a2 k, LeO (impl_configText.f k a0 a1 a2) (impl_configText.f (k + 1) a0 a1 a2) := by
  intro a0 a1 a2 k
  obtain ⟨ih0, ih1⟩ := impl_configText.mono_l k
  unfold impl_configText.f
  repeat' first
      | (with_reducible exact ih0 _ _ _ _ _ _ _)
      | (with_reducible exact ih1 _ _ _ _)
      | (with_reducible exact LeO.refl _)
      | (with_reducible exact LeO.none _)
      | (with_reducible refine LeO.ite ?_ ?_)
      | (with_reducible refine LeO.bind ?_ (fun _ => ?_))
      | exact ih0 _ _ _ _ _ _ _
      | exact ih1 _ _ _ _
      | exact LeO.none _
      | refine LeO.ite ?_ ?_
      | refine LeO.bind ?_ (fun _ => ?_)
def impl_configText.T6 : Bool × List (List Nat × List Nat) := (true, [([], []), ([], []), ([1], [1]), ([2], [2]), ([3], [3]), ([4], [4]), ([], []), ([6], [6]), ([7, 3], [7]), ([5, 8], [5, 8]), ([9], [9]), ([], []), ([11], [11]), ([12, 8], [12]), ([10, 13], [10, 13]), ([14], [14]), ([], []), ([15, 16], [15, 16]), ([17], [17]), ([], []), ([19], [19]), ([20, 13], [20]), ([18, 21], [18, 21]), ([22], [22]), ([0, 23], [0, 23]), ([24, 21, 0, 1, 2, 3, 4, 5, 6, 7, 8, 9, 10, 11, 12, 13, 14, 15, 16, 17, 18, 19, 20, 21, 22, 23, 24], [0, 24])])
def impl_configText.B6 : List Nat := [0, 0, 2, 6, 14, 30, 0, 64, 206, 510, 1022, 0, 2048, 6606, 16382, 32766, 0, 131070, 262142, 0, 524288, 1587662, 4194302, 8388606, 16777215, 33554431]
theorem impl_configText.tab6 : rtab .any (opsOf Tryd.f17 6) = impl_configText.T6 := by kernel_rfl
theorem impl_configText.bits6 : waitsOk impl_configText.T6.2 impl_configText.B6 = true := by kernel_rfl
def impl_configText.T11 : Bool × List (List Nat × List Nat) := (true, [([], []), ([], []), ([1], [1]), ([2], [2]), ([3], [3]), ([4], [4]), ([], []), ([6], [6]), ([], []), ([8], [8]), ([7, 9], [7, 9]), ([], []), ([11], [11]), ([10, 12, 3], [10, 12]), ([13, 13], [13]), ([5, 14], [5, 14]), ([15], [15]), ([0, 16], [0, 16]), ([17, 14, 0, 1, 2, 3, 4, 5, 6, 7, 8, 9, 10, 11, 12, 13, 14, 15, 16, 17], [0, 17])])
def impl_configText.B11 : List Nat := [0, 0, 2, 6, 14, 30, 0, 64, 0, 256, 960, 0, 2048, 8142, 16334, 32766, 65534, 131071, 262143]
theorem impl_configText.tab11 : rtab .any (opsOf Tryd.f17 11) = impl_configText.T11 := by kernel_rfl
theorem impl_configText.bits11 : waitsOk impl_configText.T11.2 impl_configText.B11 = true := by kernel_rfl
set_option maxHeartbeats 8000000 in
set_option maxRecDepth 100000 in
theorem impl_configText.calls (k : Nat) (a0_0 : Int) (A0_1 : Option Addr) (c0_1 : Nat) (l0_1 : List (S56)) (A0_2 : Option Addr) (c0_2 : Nat) (l0_2 : List (S61)) (r : ByteArray) (w : World) (hr0_1 : Kd.C k56 w A0_1 l0_1.length l0_1) (hc0_1 : l0_1.length ≤ c0_1) (hr0_2 : Kd.C k61 w A0_2 l0_2.length l0_2) (hc0_2 : l0_2.length ≤ c0_2) (ht_ : Lib.TabIs Tryd.prog w "internal/strconv.uint64pow10" .u64 Lib.pow10Tab) (h : impl_configText.f k a0_0 l0_1 l0_2 = some r) :
    Calls Tryd.prog 17 #[.agg #[.int .i64 a0_0, .slice A0_1 l0_1.length c0_1, .slice A0_2 l0_2.length c0_2]] w fun e w' => e = .returned (.string r) ∧ Below w.heap.size w w' := by
  have hu33 := Tryd.underlying33
  have hu56 := Tryd.underlying56
  have hu61 := Tryd.underlying61
  have HR0_1 := Aside0.mk hr0_1
  have HC0_1 := Aside0.mk hc0_1
  clear hr0_1 hc0_1
  have HR0_2 := Aside0.mk hr0_2
  have HC0_2 := Aside0.mk hc0_2
  clear hr0_2 hc0_2
  have HB := Aside0.mk (Below.refl w.heap.size w)
  have H : ((impl_decimal.f a0_0).bind fun t278 => (if 8 + t278.size ≤ 9223372036854775807 then (if ((⟨#[118, 101, 114, 115, 105, 111, 110, 32]⟩ : ByteArray) ++ t278).size + 1 ≤ 9223372036854775807 then (impl_configText.l0 k (((⟨#[118, 101, 114, 115, 105, 111, 110, 32]⟩ : ByteArray) ++ t278) ++ (⟨#[10]⟩ : ByteArray)) l0_1 (l0_1.length : Int) 0 a0_0 l0_1 l0_2) else (none)) else (none))) = some r := h
  clear h
  replace H := Option.bind_eq_some_iff.mp H
  obtain ⟨t278, A20, H⟩ := H
  replace H : (if 8 + t278.size ≤ 9223372036854775807 then (if ((⟨#[118, 101, 114, 115, 105, 111, 110, 32]⟩ : ByteArray) ++ t278).size + 1 ≤ 9223372036854775807 then (impl_configText.l0 k (((⟨#[118, 101, 114, 115, 105, 111, 110, 32]⟩ : ByteArray) ++ t278) ++ (⟨#[10]⟩ : ByteArray)) l0_1 (l0_1.length : Int) 0 a0_0 l0_1 l0_2) else (none)) else (none)) = some r := H
  have A2 := Aside0.mk A20
  clear A20
  by_cases c3 : 8 + t278.size ≤ 9223372036854775807
  · rw [if_pos c3] at H
    have c3b0 := eq_true c3
    have c3b1 : decide (8 + t278.size ≤ 9223372036854775807) = true := decide_eq_true c3
    try have c3b2 : (9223372036854775807 < 8 + t278.size) = False := eq_false (Nat.not_lt.2 c3)
    by_cases c4 : ((⟨#[118, 101, 114, 115, 105, 111, 110, 32]⟩ : ByteArray) ++ t278).size + 1 ≤ 9223372036854775807
    · rw [if_pos c4] at H
      have c4b0 := eq_true c4
      have c4b1 : decide (((⟨#[118, 101, 114, 115, 105, 111, 110, 32]⟩ : ByteArray) ++ t278).size + 1 ≤ 9223372036854775807) = true := decide_eq_true c4
      try have c4b2 : (9223372036854775807 < ((⟨#[118, 101, 114, 115, 105, 111, 110, 32]⟩ : ByteArray) ++ t278).size + 1) = False := eq_false (Nat.not_lt.2 c4)
      have c4x : (9223372036854775807 < 8 + t278.size + 1) = False := eq_false (Nat.not_lt.2 (by have h_ := c4; (try simp only [ByteArray.size_append] at h_); exact h_))
      have H' := Aside0.mk H
      clear H
      go_enter Tryd.func17, Tryd.ntmps17
      go_wp2_with (first | ((with_reducible refine gate_dst (N := 1) rfl ?_); refine box_event ?hg (N := 1) ?hd (cs := #[.int .i64 a0_0, .slice A0_1 l0_1.length c0_1, .slice A0_2 l0_2.length c0_2]) (t := 33) ?hr ?_; (case hd => rfl); (case hg => rfl); (case hr => first | (go_simp; done) | (go_simp; rfl)); intro gb277 hg w5 hbox hb; have n0_ := Aside0.mk (below_step (by repeat (first | (with_reducible first | exact HB.out | apply below_alloc | apply pw_below_drewN | apply below_drew1) | exact HB.out)) hb); have n1_ := Aside0.mk (hbox); have n2_ := Aside0.mk ((by rw [hg]; exact (below_size (by repeat (first | (with_reducible first | exact HB.out | apply below_alloc | apply pw_below_drewN | apply below_drew1) | exact HB.out))) : w.heap.size ≤ gb277)); have n3_ := Aside0.mk ((by rw [hg]; exact (below_size (by repeat (first | (with_reducible first | exact HB.out | apply below_alloc | apply pw_below_drewN | apply below_drew1) | exact HB.out))) : w.heap.size ≤ gb277)); clear HB; have HB := n0_; have BK277 := n1_; have GW277 := n2_; have GE277 := n3_; clear n0_ n1_ n2_ n3_; clear hb hbox hg; have hcz6_0 : w5.cell? ⟨gb277, 0, none⟩ = some (.int .i64 a0_0) := (blk_cell BK277.out 0).trans rfl; have hcz6_1 : w5.cell? ⟨gb277, 1, none⟩ = some (.slice A0_1 l0_1.length c0_1) := (blk_cell BK277.out 1).trans rfl; have hcz6_2 : w5.cell? ⟨gb277, 2, none⟩ = some (.slice A0_2 l0_2.length c0_2) := (blk_cell BK277.out 2).trans rfl; have hfz6_0 := blk_frozen BK277.out 0; have hfz6_1 := blk_frozen BK277.out 1; have hfz6_2 := blk_frozen BK277.out 2) | ((with_reducible refine gate_callee (f := 38) rfl ?_); refine goesL_ (some 11) rfl rfl Tryd.func38 (by kernel_rfl) rfl #[.int .i64 a0_0] rfl (by (try simp only [List.map_toArray, List.map_cons, List.map_nil]); first | done | rfl | (simp only [List.length_drop, List.length_take]; rfl)) ?_; (with_reducible refine (impl_decimal.calls a0_0 t278 _ ?tab_ A2.out).mono ?_); (case tab_ => exact (Go.Joins.tab_stays (show Tryd.prog.globalNamed "internal/strconv.uint64pow10" = some 0 by kernel_rfl) ht_ (by repeat (first | (with_reducible first | exact HB.out | apply below_alloc | apply pw_below_drewN | apply below_drew1 | refine below_set ?_ GE277.out | refine below_set ?_ GE280.out | refine below_set ?_ GE287.out) | exact HB.out | exact Below.refl _ _)) (Nat.le_refl _))); rintro e w7 ⟨rfl, hb⟩; refine ⟨_, rfl, ?_⟩; have n0_ := Aside0.mk (blk_below (g := gb277) (o := .cells #[.int .i64 a0_0, .slice A0_1 l0_1.length c0_1, .slice A0_2 l0_2.length c0_2] 33 (0, 0)) (by (with_reducible repeat (first | refine blk_drewN ?_ _ | refine blk_drew ?_ | refine blk_alloc ?_ _)); exact BK277.out) hb); have n1_ := Aside0.mk (below_step (by repeat (first | (with_reducible first | exact HB.out | apply below_alloc | apply pw_below_drewN | apply below_drew1 | refine below_set ?_ GE277.out) | exact HB.out)) hb); clear BK277; clear HB; have BK277 := n0_; have HB := n1_; clear n0_ n1_; (try clear hb); (try clear hb2); (try clear hk); (try clear hi); have hcz8_0 : w7.cell? ⟨gb277, 0, none⟩ = some (.int .i64 a0_0) := (blk_cell BK277.out 0).trans rfl; have hcz8_1 : w7.cell? ⟨gb277, 1, none⟩ = some (.slice A0_1 l0_1.length c0_1) := (blk_cell BK277.out 1).trans rfl; have hcz8_2 : w7.cell? ⟨gb277, 2, none⟩ = some (.slice A0_2 l0_2.length c0_2) := (blk_cell BK277.out 2).trans rfl; have hfz8_0 := blk_frozen BK277.out 0; have hfz8_1 := blk_frozen BK277.out 1; have hfz8_2 := blk_frozen BK277.out 2))
      go_loopg [3, 17] k (fun kq v3 v17 w' => ∃ (x3_1 : ByteArray) (x17_1 : Int), v3 = .string x3_1 ∧ v17 = .int .i64 x17_1 ∧ Aside0 (impl_configText.l0 kq x3_1 l0_1 (l0_1.length : Int) x17_1 a0_0 l0_1 l0_2 = some r) ∧ Aside0 (kq ≤ k) ∧ Aside0 (w'.heap[gb277]? = some (.cells #[.int .i64 a0_0, (.slice A0_1 l0_1.length c0_1), (.slice A0_2 l0_2.length c0_2)] 33 (0, 0))) ∧ Aside0 (Below w.heap.size w w'))
      case atStart => exact ⟨(((⟨#[118, 101, 114, 115, 105, 111, 110, 32]⟩ : ByteArray) ++ t278) ++ (⟨#[10]⟩ : ByteArray)), (0), (by first | rfl | (simp; done) | (simp [*]; done)), (by first | rfl | (simp; done) | (simp [*]; done)), H', ⟨Nat.le_refl _⟩, ⟨by (with_reducible repeat (first | refine blk_drewN ?_ _ | refine blk_drew ?_ | refine blk_alloc ?_ _)); exact BK277.out⟩, ⟨by repeat (first | (with_reducible first | exact HB.out | apply below_alloc | apply pw_below_drewN | apply below_drew1 | refine below_set ?_ GE277.out) | exact HB.out)⟩⟩
      case round =>
        clear H'
        try clear c1
        try clear p2
        try clear c3
        try clear c3b0
        try clear c3b1
        try clear c3b2
        try clear c4
        try clear c4b0
        try clear c4b1
        try clear c4b2
        try clear hcz6_0
        try clear hcz6_1
        try clear hcz6_2
        try clear hcz8_0
        try clear hcz8_1
        try clear hcz8_2
        try clear hfz6_0
        try clear hfz6_1
        try clear hfz6_2
        try clear hfz8_0
        try clear hfz8_1
        try clear hfz8_2
        obtain ⟨x3_1, x17_1, rfl, rfl, HA, HK1, BK277, HB⟩ := hrel
        cases gk with
        | zero => exact absurd HA.out (by simp [impl_configText.l0])
        | succ k1 =>
          have H := HA.out
          clear HA
          simp only [impl_configText.l0] at H
          by_cases c9 : x17_1 < (l0_1.length : Int)
          · rw [if_pos c9] at H
            have c9b0 : decide (x17_1 < (l0_1.length : Int)) = true := decide_eq_true c9
            clear c9
            by_cases c10 : 0 ≤ x17_1
            · rw [if_pos c10] at H
              have c10b0 : decide (0 ≤ x17_1) = true := decide_eq_true c10
              clear c10
              by_cases c11 : x17_1 < (l0_1.length : Int)
              · rw [if_pos c11] at H
                have c11b0 : decide (x17_1 < (l0_1.length : Int)) = true := decide_eq_true c11
                clear c11
                replace H := Option.bind_eq_some_iff.mp H
                obtain ⟨t281, A120, H⟩ := H
                replace H : ((impl_decimal.f ((rd_T56 l0_1 x17_1).f0)).bind fun t282 => (if 8 + t282.size ≤ 9223372036854775807 then (if ((⟨#[98, 97, 99, 107, 101, 110, 100, 32]⟩ : ByteArray) ++ t282).size + 1 ≤ 9223372036854775807 then ((impl_addressText.f ((rd_T56 l0_1 x17_1).f1)).bind fun t283 => (if (((⟨#[98, 97, 99, 107, 101, 110, 100, 32]⟩ : ByteArray) ++ t282) ++ (⟨#[32]⟩ : ByteArray)).size + t283.size ≤ 9223372036854775807 then (if ((((⟨#[98, 97, 99, 107, 101, 110, 100, 32]⟩ : ByteArray) ++ t282) ++ (⟨#[32]⟩ : ByteArray)) ++ t283).size + 1 ≤ 9223372036854775807 then ((impl_decimal.f ((rd_T56 l0_1 x17_1).f2)).bind fun t284 => (if (((((⟨#[98, 97, 99, 107, 101, 110, 100, 32]⟩ : ByteArray) ++ t282) ++ (⟨#[32]⟩ : ByteArray)) ++ t283) ++ (⟨#[32]⟩ : ByteArray)).size + t284.size ≤ 9223372036854775807 then (if ((((((⟨#[98, 97, 99, 107, 101, 110, 100, 32]⟩ : ByteArray) ++ t282) ++ (⟨#[32]⟩ : ByteArray)) ++ t283) ++ (⟨#[32]⟩ : ByteArray)) ++ t284).size + 1 ≤ 9223372036854775807 then (if (((((((⟨#[98, 97, 99, 107, 101, 110, 100, 32]⟩ : ByteArray) ++ t282) ++ (⟨#[32]⟩ : ByteArray)) ++ t283) ++ (⟨#[32]⟩ : ByteArray)) ++ t284) ++ (⟨#[32]⟩ : ByteArray)).size + t281.size ≤ 9223372036854775807 then (if ((((((((⟨#[98, 97, 99, 107, 101, 110, 100, 32]⟩ : ByteArray) ++ t282) ++ (⟨#[32]⟩ : ByteArray)) ++ t283) ++ (⟨#[32]⟩ : ByteArray)) ++ t284) ++ (⟨#[32]⟩ : ByteArray)) ++ t281).size + 1 ≤ 9223372036854775807 then ((impl_chosen.f ((rd_T56 l0_1 x17_1).f4) (⟨#[117, 112]⟩ : ByteArray) (⟨#[100, 111, 119, 110]⟩ : ByteArray)).bind fun t285 => (if (((((((((⟨#[98, 97, 99, 107, 101, 110, 100, 32]⟩ : ByteArray) ++ t282) ++ (⟨#[32]⟩ : ByteArray)) ++ t283) ++ (⟨#[32]⟩ : ByteArray)) ++ t284) ++ (⟨#[32]⟩ : ByteArray)) ++ t281) ++ (⟨#[32]⟩ : ByteArray)).size + t285.size ≤ 9223372036854775807 then (if ((((((((((⟨#[98, 97, 99, 107, 101, 110, 100, 32]⟩ : ByteArray) ++ t282) ++ (⟨#[32]⟩ : ByteArray)) ++ t283) ++ (⟨#[32]⟩ : ByteArray)) ++ t284) ++ (⟨#[32]⟩ : ByteArray)) ++ t281) ++ (⟨#[32]⟩ : ByteArray)) ++ t285).size + 1 ≤ 9223372036854775807 then (if x3_1.size + (((((((((((⟨#[98, 97, 99, 107, 101, 110, 100, 32]⟩ : ByteArray) ++ t282) ++ (⟨#[32]⟩ : ByteArray)) ++ t283) ++ (⟨#[32]⟩ : ByteArray)) ++ t284) ++ (⟨#[32]⟩ : ByteArray)) ++ t281) ++ (⟨#[32]⟩ : ByteArray)) ++ t285) ++ (⟨#[10]⟩ : ByteArray)).size ≤ 9223372036854775807 then (impl_configText.l0 k1 (x3_1 ++ (((((((((((⟨#[98, 97, 99, 107, 101, 110, 100, 32]⟩ : ByteArray) ++ t282) ++ (⟨#[32]⟩ : ByteArray)) ++ t283) ++ (⟨#[32]⟩ : ByteArray)) ++ t284) ++ (⟨#[32]⟩ : ByteArray)) ++ t281) ++ (⟨#[32]⟩ : ByteArray)) ++ t285) ++ (⟨#[10]⟩ : ByteArray))) l0_1 (l0_1.length : Int) (wrap64 (x17_1 + 1)) a0_0 l0_1 l0_2) else (none)) else (none)) else (none))) else (none)) else (none)) else (none)) else (none))) else (none)) else (none))) else (none)) else (none))) = some r := H
                have A12 := Aside0.mk A120
                clear A120
                replace H := Option.bind_eq_some_iff.mp H
                obtain ⟨t282, A130, H⟩ := H
                replace H : (if 8 + t282.size ≤ 9223372036854775807 then (if ((⟨#[98, 97, 99, 107, 101, 110, 100, 32]⟩ : ByteArray) ++ t282).size + 1 ≤ 9223372036854775807 then ((impl_addressText.f ((rd_T56 l0_1 x17_1).f1)).bind fun t283 => (if (((⟨#[98, 97, 99, 107, 101, 110, 100, 32]⟩ : ByteArray) ++ t282) ++ (⟨#[32]⟩ : ByteArray)).size + t283.size ≤ 9223372036854775807 then (if ((((⟨#[98, 97, 99, 107, 101, 110, 100, 32]⟩ : ByteArray) ++ t282) ++ (⟨#[32]⟩ : ByteArray)) ++ t283).size + 1 ≤ 9223372036854775807 then ((impl_decimal.f ((rd_T56 l0_1 x17_1).f2)).bind fun t284 => (if (((((⟨#[98, 97, 99, 107, 101, 110, 100, 32]⟩ : ByteArray) ++ t282) ++ (⟨#[32]⟩ : ByteArray)) ++ t283) ++ (⟨#[32]⟩ : ByteArray)).size + t284.size ≤ 9223372036854775807 then (if ((((((⟨#[98, 97, 99, 107, 101, 110, 100, 32]⟩ : ByteArray) ++ t282) ++ (⟨#[32]⟩ : ByteArray)) ++ t283) ++ (⟨#[32]⟩ : ByteArray)) ++ t284).size + 1 ≤ 9223372036854775807 then (if (((((((⟨#[98, 97, 99, 107, 101, 110, 100, 32]⟩ : ByteArray) ++ t282) ++ (⟨#[32]⟩ : ByteArray)) ++ t283) ++ (⟨#[32]⟩ : ByteArray)) ++ t284) ++ (⟨#[32]⟩ : ByteArray)).size + t281.size ≤ 9223372036854775807 then (if ((((((((⟨#[98, 97, 99, 107, 101, 110, 100, 32]⟩ : ByteArray) ++ t282) ++ (⟨#[32]⟩ : ByteArray)) ++ t283) ++ (⟨#[32]⟩ : ByteArray)) ++ t284) ++ (⟨#[32]⟩ : ByteArray)) ++ t281).size + 1 ≤ 9223372036854775807 then ((impl_chosen.f ((rd_T56 l0_1 x17_1).f4) (⟨#[117, 112]⟩ : ByteArray) (⟨#[100, 111, 119, 110]⟩ : ByteArray)).bind fun t285 => (if (((((((((⟨#[98, 97, 99, 107, 101, 110, 100, 32]⟩ : ByteArray) ++ t282) ++ (⟨#[32]⟩ : ByteArray)) ++ t283) ++ (⟨#[32]⟩ : ByteArray)) ++ t284) ++ (⟨#[32]⟩ : ByteArray)) ++ t281) ++ (⟨#[32]⟩ : ByteArray)).size + t285.size ≤ 9223372036854775807 then (if ((((((((((⟨#[98, 97, 99, 107, 101, 110, 100, 32]⟩ : ByteArray) ++ t282) ++ (⟨#[32]⟩ : ByteArray)) ++ t283) ++ (⟨#[32]⟩ : ByteArray)) ++ t284) ++ (⟨#[32]⟩ : ByteArray)) ++ t281) ++ (⟨#[32]⟩ : ByteArray)) ++ t285).size + 1 ≤ 9223372036854775807 then (if x3_1.size + (((((((((((⟨#[98, 97, 99, 107, 101, 110, 100, 32]⟩ : ByteArray) ++ t282) ++ (⟨#[32]⟩ : ByteArray)) ++ t283) ++ (⟨#[32]⟩ : ByteArray)) ++ t284) ++ (⟨#[32]⟩ : ByteArray)) ++ t281) ++ (⟨#[32]⟩ : ByteArray)) ++ t285) ++ (⟨#[10]⟩ : ByteArray)).size ≤ 9223372036854775807 then (impl_configText.l0 k1 (x3_1 ++ (((((((((((⟨#[98, 97, 99, 107, 101, 110, 100, 32]⟩ : ByteArray) ++ t282) ++ (⟨#[32]⟩ : ByteArray)) ++ t283) ++ (⟨#[32]⟩ : ByteArray)) ++ t284) ++ (⟨#[32]⟩ : ByteArray)) ++ t281) ++ (⟨#[32]⟩ : ByteArray)) ++ t285) ++ (⟨#[10]⟩ : ByteArray))) l0_1 (l0_1.length : Int) (wrap64 (x17_1 + 1)) a0_0 l0_1 l0_2) else (none)) else (none)) else (none))) else (none)) else (none)) else (none)) else (none))) else (none)) else (none))) else (none)) else (none)) = some r := H
                have A13 := Aside0.mk A130
                clear A130
                by_cases c14 : 8 + t282.size ≤ 9223372036854775807
                · rw [if_pos c14] at H
                  have c14b0 := eq_true c14
                  have c14b1 : decide (8 + t282.size ≤ 9223372036854775807) = true := decide_eq_true c14
                  try have c14b2 : (9223372036854775807 < 8 + t282.size) = False := eq_false (Nat.not_lt.2 c14)
                  by_cases c15 : ((⟨#[98, 97, 99, 107, 101, 110, 100, 32]⟩ : ByteArray) ++ t282).size + 1 ≤ 9223372036854775807
                  · rw [if_pos c15] at H
                    have c15b0 := eq_true c15
                    have c15b1 : decide (((⟨#[98, 97, 99, 107, 101, 110, 100, 32]⟩ : ByteArray) ++ t282).size + 1 ≤ 9223372036854775807) = true := decide_eq_true c15
                    try have c15b2 : (9223372036854775807 < ((⟨#[98, 97, 99, 107, 101, 110, 100, 32]⟩ : ByteArray) ++ t282).size + 1) = False := eq_false (Nat.not_lt.2 c15)
                    have c15x : (9223372036854775807 < 8 + t282.size + 1) = False := eq_false (Nat.not_lt.2 (by have h_ := c15; (try simp only [ByteArray.size_append] at h_); exact h_))
                    replace H := Option.bind_eq_some_iff.mp H
                    obtain ⟨t283, A160, H⟩ := H
                    replace H : (if (((⟨#[98, 97, 99, 107, 101, 110, 100, 32]⟩ : ByteArray) ++ t282) ++ (⟨#[32]⟩ : ByteArray)).size + t283.size ≤ 9223372036854775807 then (if ((((⟨#[98, 97, 99, 107, 101, 110, 100, 32]⟩ : ByteArray) ++ t282) ++ (⟨#[32]⟩ : ByteArray)) ++ t283).size + 1 ≤ 9223372036854775807 then ((impl_decimal.f ((rd_T56 l0_1 x17_1).f2)).bind fun t284 => (if (((((⟨#[98, 97, 99, 107, 101, 110, 100, 32]⟩ : ByteArray) ++ t282) ++ (⟨#[32]⟩ : ByteArray)) ++ t283) ++ (⟨#[32]⟩ : ByteArray)).size + t284.size ≤ 9223372036854775807 then (if ((((((⟨#[98, 97, 99, 107, 101, 110, 100, 32]⟩ : ByteArray) ++ t282) ++ (⟨#[32]⟩ : ByteArray)) ++ t283) ++ (⟨#[32]⟩ : ByteArray)) ++ t284).size + 1 ≤ 9223372036854775807 then (if (((((((⟨#[98, 97, 99, 107, 101, 110, 100, 32]⟩ : ByteArray) ++ t282) ++ (⟨#[32]⟩ : ByteArray)) ++ t283) ++ (⟨#[32]⟩ : ByteArray)) ++ t284) ++ (⟨#[32]⟩ : ByteArray)).size + t281.size ≤ 9223372036854775807 then (if ((((((((⟨#[98, 97, 99, 107, 101, 110, 100, 32]⟩ : ByteArray) ++ t282) ++ (⟨#[32]⟩ : ByteArray)) ++ t283) ++ (⟨#[32]⟩ : ByteArray)) ++ t284) ++ (⟨#[32]⟩ : ByteArray)) ++ t281).size + 1 ≤ 9223372036854775807 then ((impl_chosen.f ((rd_T56 l0_1 x17_1).f4) (⟨#[117, 112]⟩ : ByteArray) (⟨#[100, 111, 119, 110]⟩ : ByteArray)).bind fun t285 => (if (((((((((⟨#[98, 97, 99, 107, 101, 110, 100, 32]⟩ : ByteArray) ++ t282) ++ (⟨#[32]⟩ : ByteArray)) ++ t283) ++ (⟨#[32]⟩ : ByteArray)) ++ t284) ++ (⟨#[32]⟩ : ByteArray)) ++ t281) ++ (⟨#[32]⟩ : ByteArray)).size + t285.size ≤ 9223372036854775807 then (if ((((((((((⟨#[98, 97, 99, 107, 101, 110, 100, 32]⟩ : ByteArray) ++ t282) ++ (⟨#[32]⟩ : ByteArray)) ++ t283) ++ (⟨#[32]⟩ : ByteArray)) ++ t284) ++ (⟨#[32]⟩ : ByteArray)) ++ t281) ++ (⟨#[32]⟩ : ByteArray)) ++ t285).size + 1 ≤ 9223372036854775807 then (if x3_1.size + (((((((((((⟨#[98, 97, 99, 107, 101, 110, 100, 32]⟩ : ByteArray) ++ t282) ++ (⟨#[32]⟩ : ByteArray)) ++ t283) ++ (⟨#[32]⟩ : ByteArray)) ++ t284) ++ (⟨#[32]⟩ : ByteArray)) ++ t281) ++ (⟨#[32]⟩ : ByteArray)) ++ t285) ++ (⟨#[10]⟩ : ByteArray)).size ≤ 9223372036854775807 then (impl_configText.l0 k1 (x3_1 ++ (((((((((((⟨#[98, 97, 99, 107, 101, 110, 100, 32]⟩ : ByteArray) ++ t282) ++ (⟨#[32]⟩ : ByteArray)) ++ t283) ++ (⟨#[32]⟩ : ByteArray)) ++ t284) ++ (⟨#[32]⟩ : ByteArray)) ++ t281) ++ (⟨#[32]⟩ : ByteArray)) ++ t285) ++ (⟨#[10]⟩ : ByteArray))) l0_1 (l0_1.length : Int) (wrap64 (x17_1 + 1)) a0_0 l0_1 l0_2) else (none)) else (none)) else (none))) else (none)) else (none)) else (none)) else (none))) else (none)) else (none)) = some r := H
                    have A16 := Aside0.mk A160
                    clear A160
                    by_cases c17 : (((⟨#[98, 97, 99, 107, 101, 110, 100, 32]⟩ : ByteArray) ++ t282) ++ (⟨#[32]⟩ : ByteArray)).size + t283.size ≤ 9223372036854775807
                    · rw [if_pos c17] at H
                      have c17b0 := eq_true c17
                      have c17b1 : decide ((((⟨#[98, 97, 99, 107, 101, 110, 100, 32]⟩ : ByteArray) ++ t282) ++ (⟨#[32]⟩ : ByteArray)).size + t283.size ≤ 9223372036854775807) = true := decide_eq_true c17
                      try have c17b2 : (9223372036854775807 < (((⟨#[98, 97, 99, 107, 101, 110, 100, 32]⟩ : ByteArray) ++ t282) ++ (⟨#[32]⟩ : ByteArray)).size + t283.size) = False := eq_false (Nat.not_lt.2 c17)
                      have c17x : (9223372036854775807 < 8 + t282.size + 1 + t283.size) = False := eq_false (Nat.not_lt.2 (by have h_ := c17; (try simp only [ByteArray.size_append] at h_); exact h_))
                      by_cases c18 : ((((⟨#[98, 97, 99, 107, 101, 110, 100, 32]⟩ : ByteArray) ++ t282) ++ (⟨#[32]⟩ : ByteArray)) ++ t283).size + 1 ≤ 9223372036854775807
                      · rw [if_pos c18] at H
                        have c18b0 := eq_true c18
                        have c18b1 : decide (((((⟨#[98, 97, 99, 107, 101, 110, 100, 32]⟩ : ByteArray) ++ t282) ++ (⟨#[32]⟩ : ByteArray)) ++ t283).size + 1 ≤ 9223372036854775807) = true := decide_eq_true c18
                        try have c18b2 : (9223372036854775807 < ((((⟨#[98, 97, 99, 107, 101, 110, 100, 32]⟩ : ByteArray) ++ t282) ++ (⟨#[32]⟩ : ByteArray)) ++ t283).size + 1) = False := eq_false (Nat.not_lt.2 c18)
                        have c18x : (9223372036854775807 < 8 + t282.size + 1 + t283.size + 1) = False := eq_false (Nat.not_lt.2 (by have h_ := c18; (try simp only [ByteArray.size_append] at h_); exact h_))
                        replace H := Option.bind_eq_some_iff.mp H
                        obtain ⟨t284, A190, H⟩ := H
                        replace H : (if (((((⟨#[98, 97, 99, 107, 101, 110, 100, 32]⟩ : ByteArray) ++ t282) ++ (⟨#[32]⟩ : ByteArray)) ++ t283) ++ (⟨#[32]⟩ : ByteArray)).size + t284.size ≤ 9223372036854775807 then (if ((((((⟨#[98, 97, 99, 107, 101, 110, 100, 32]⟩ : ByteArray) ++ t282) ++ (⟨#[32]⟩ : ByteArray)) ++ t283) ++ (⟨#[32]⟩ : ByteArray)) ++ t284).size + 1 ≤ 9223372036854775807 then (if (((((((⟨#[98, 97, 99, 107, 101, 110, 100, 32]⟩ : ByteArray) ++ t282) ++ (⟨#[32]⟩ : ByteArray)) ++ t283) ++ (⟨#[32]⟩ : ByteArray)) ++ t284) ++ (⟨#[32]⟩ : ByteArray)).size + t281.size ≤ 9223372036854775807 then (if ((((((((⟨#[98, 97, 99, 107, 101, 110, 100, 32]⟩ : ByteArray) ++ t282) ++ (⟨#[32]⟩ : ByteArray)) ++ t283) ++ (⟨#[32]⟩ : ByteArray)) ++ t284) ++ (⟨#[32]⟩ : ByteArray)) ++ t281).size + 1 ≤ 9223372036854775807 then ((impl_chosen.f ((rd_T56 l0_1 x17_1).f4) (⟨#[117, 112]⟩ : ByteArray) (⟨#[100, 111, 119, 110]⟩ : ByteArray)).bind fun t285 => (if (((((((((⟨#[98, 97, 99, 107, 101, 110, 100, 32]⟩ : ByteArray) ++ t282) ++ (⟨#[32]⟩ : ByteArray)) ++ t283) ++ (⟨#[32]⟩ : ByteArray)) ++ t284) ++ (⟨#[32]⟩ : ByteArray)) ++ t281) ++ (⟨#[32]⟩ : ByteArray)).size + t285.size ≤ 9223372036854775807 then (if ((((((((((⟨#[98, 97, 99, 107, 101, 110, 100, 32]⟩ : ByteArray) ++ t282) ++ (⟨#[32]⟩ : ByteArray)) ++ t283) ++ (⟨#[32]⟩ : ByteArray)) ++ t284) ++ (⟨#[32]⟩ : ByteArray)) ++ t281) ++ (⟨#[32]⟩ : ByteArray)) ++ t285).size + 1 ≤ 9223372036854775807 then (if x3_1.size + (((((((((((⟨#[98, 97, 99, 107, 101, 110, 100, 32]⟩ : ByteArray) ++ t282) ++ (⟨#[32]⟩ : ByteArray)) ++ t283) ++ (⟨#[32]⟩ : ByteArray)) ++ t284) ++ (⟨#[32]⟩ : ByteArray)) ++ t281) ++ (⟨#[32]⟩ : ByteArray)) ++ t285) ++ (⟨#[10]⟩ : ByteArray)).size ≤ 9223372036854775807 then (impl_configText.l0 k1 (x3_1 ++ (((((((((((⟨#[98, 97, 99, 107, 101, 110, 100, 32]⟩ : ByteArray) ++ t282) ++ (⟨#[32]⟩ : ByteArray)) ++ t283) ++ (⟨#[32]⟩ : ByteArray)) ++ t284) ++ (⟨#[32]⟩ : ByteArray)) ++ t281) ++ (⟨#[32]⟩ : ByteArray)) ++ t285) ++ (⟨#[10]⟩ : ByteArray))) l0_1 (l0_1.length : Int) (wrap64 (x17_1 + 1)) a0_0 l0_1 l0_2) else (none)) else (none)) else (none))) else (none)) else (none)) else (none)) else (none)) = some r := H
                        have A19 := Aside0.mk A190
                        clear A190
                        by_cases c20 : (((((⟨#[98, 97, 99, 107, 101, 110, 100, 32]⟩ : ByteArray) ++ t282) ++ (⟨#[32]⟩ : ByteArray)) ++ t283) ++ (⟨#[32]⟩ : ByteArray)).size + t284.size ≤ 9223372036854775807
                        · rw [if_pos c20] at H
                          have c20b0 := eq_true c20
                          have c20b1 : decide ((((((⟨#[98, 97, 99, 107, 101, 110, 100, 32]⟩ : ByteArray) ++ t282) ++ (⟨#[32]⟩ : ByteArray)) ++ t283) ++ (⟨#[32]⟩ : ByteArray)).size + t284.size ≤ 9223372036854775807) = true := decide_eq_true c20
                          try have c20b2 : (9223372036854775807 < (((((⟨#[98, 97, 99, 107, 101, 110, 100, 32]⟩ : ByteArray) ++ t282) ++ (⟨#[32]⟩ : ByteArray)) ++ t283) ++ (⟨#[32]⟩ : ByteArray)).size + t284.size) = False := eq_false (Nat.not_lt.2 c20)
                          have c20x : (9223372036854775807 < 8 + t282.size + 1 + t283.size + 1 + t284.size) = False := eq_false (Nat.not_lt.2 (by have h_ := c20; (try simp only [ByteArray.size_append] at h_); exact h_))
                          by_cases c21 : ((((((⟨#[98, 97, 99, 107, 101, 110, 100, 32]⟩ : ByteArray) ++ t282) ++ (⟨#[32]⟩ : ByteArray)) ++ t283) ++ (⟨#[32]⟩ : ByteArray)) ++ t284).size + 1 ≤ 9223372036854775807
                          · rw [if_pos c21] at H
                            have c21b0 := eq_true c21
                            have c21b1 : decide (((((((⟨#[98, 97, 99, 107, 101, 110, 100, 32]⟩ : ByteArray) ++ t282) ++ (⟨#[32]⟩ : ByteArray)) ++ t283) ++ (⟨#[32]⟩ : ByteArray)) ++ t284).size + 1 ≤ 9223372036854775807) = true := decide_eq_true c21
                            try have c21b2 : (9223372036854775807 < ((((((⟨#[98, 97, 99, 107, 101, 110, 100, 32]⟩ : ByteArray) ++ t282) ++ (⟨#[32]⟩ : ByteArray)) ++ t283) ++ (⟨#[32]⟩ : ByteArray)) ++ t284).size + 1) = False := eq_false (Nat.not_lt.2 c21)
                            have c21x : (9223372036854775807 < 8 + t282.size + 1 + t283.size + 1 + t284.size + 1) = False := eq_false (Nat.not_lt.2 (by have h_ := c21; (try simp only [ByteArray.size_append] at h_); exact h_))
                            by_cases c22 : (((((((⟨#[98, 97, 99, 107, 101, 110, 100, 32]⟩ : ByteArray) ++ t282) ++ (⟨#[32]⟩ : ByteArray)) ++ t283) ++ (⟨#[32]⟩ : ByteArray)) ++ t284) ++ (⟨#[32]⟩ : ByteArray)).size + t281.size ≤ 9223372036854775807
                            · rw [if_pos c22] at H
                              have c22b0 := eq_true c22
                              have c22b1 : decide ((((((((⟨#[98, 97, 99, 107, 101, 110, 100, 32]⟩ : ByteArray) ++ t282) ++ (⟨#[32]⟩ : ByteArray)) ++ t283) ++ (⟨#[32]⟩ : ByteArray)) ++ t284) ++ (⟨#[32]⟩ : ByteArray)).size + t281.size ≤ 9223372036854775807) = true := decide_eq_true c22
                              try have c22b2 : (9223372036854775807 < (((((((⟨#[98, 97, 99, 107, 101, 110, 100, 32]⟩ : ByteArray) ++ t282) ++ (⟨#[32]⟩ : ByteArray)) ++ t283) ++ (⟨#[32]⟩ : ByteArray)) ++ t284) ++ (⟨#[32]⟩ : ByteArray)).size + t281.size) = False := eq_false (Nat.not_lt.2 c22)
                              have c22x : (9223372036854775807 < 8 + t282.size + 1 + t283.size + 1 + t284.size + 1 + t281.size) = False := eq_false (Nat.not_lt.2 (by have h_ := c22; (try simp only [ByteArray.size_append] at h_); exact h_))
                              by_cases c23 : ((((((((⟨#[98, 97, 99, 107, 101, 110, 100, 32]⟩ : ByteArray) ++ t282) ++ (⟨#[32]⟩ : ByteArray)) ++ t283) ++ (⟨#[32]⟩ : ByteArray)) ++ t284) ++ (⟨#[32]⟩ : ByteArray)) ++ t281).size + 1 ≤ 9223372036854775807
                              · rw [if_pos c23] at H
                                have c23b0 := eq_true c23
                                have c23b1 : decide (((((((((⟨#[98, 97, 99, 107, 101, 110, 100, 32]⟩ : ByteArray) ++ t282) ++ (⟨#[32]⟩ : ByteArray)) ++ t283) ++ (⟨#[32]⟩ : ByteArray)) ++ t284) ++ (⟨#[32]⟩ : ByteArray)) ++ t281).size + 1 ≤ 9223372036854775807) = true := decide_eq_true c23
                                try have c23b2 : (9223372036854775807 < ((((((((⟨#[98, 97, 99, 107, 101, 110, 100, 32]⟩ : ByteArray) ++ t282) ++ (⟨#[32]⟩ : ByteArray)) ++ t283) ++ (⟨#[32]⟩ : ByteArray)) ++ t284) ++ (⟨#[32]⟩ : ByteArray)) ++ t281).size + 1) = False := eq_false (Nat.not_lt.2 c23)
                                have c23x : (9223372036854775807 < 8 + t282.size + 1 + t283.size + 1 + t284.size + 1 + t281.size + 1) = False := eq_false (Nat.not_lt.2 (by have h_ := c23; (try simp only [ByteArray.size_append] at h_); exact h_))
                                replace H := Option.bind_eq_some_iff.mp H
                                obtain ⟨t285, A240, H⟩ := H
                                replace H : (if (((((((((⟨#[98, 97, 99, 107, 101, 110, 100, 32]⟩ : ByteArray) ++ t282) ++ (⟨#[32]⟩ : ByteArray)) ++ t283) ++ (⟨#[32]⟩ : ByteArray)) ++ t284) ++ (⟨#[32]⟩ : ByteArray)) ++ t281) ++ (⟨#[32]⟩ : ByteArray)).size + t285.size ≤ 9223372036854775807 then (if ((((((((((⟨#[98, 97, 99, 107, 101, 110, 100, 32]⟩ : ByteArray) ++ t282) ++ (⟨#[32]⟩ : ByteArray)) ++ t283) ++ (⟨#[32]⟩ : ByteArray)) ++ t284) ++ (⟨#[32]⟩ : ByteArray)) ++ t281) ++ (⟨#[32]⟩ : ByteArray)) ++ t285).size + 1 ≤ 9223372036854775807 then (if x3_1.size + (((((((((((⟨#[98, 97, 99, 107, 101, 110, 100, 32]⟩ : ByteArray) ++ t282) ++ (⟨#[32]⟩ : ByteArray)) ++ t283) ++ (⟨#[32]⟩ : ByteArray)) ++ t284) ++ (⟨#[32]⟩ : ByteArray)) ++ t281) ++ (⟨#[32]⟩ : ByteArray)) ++ t285) ++ (⟨#[10]⟩ : ByteArray)).size ≤ 9223372036854775807 then (impl_configText.l0 k1 (x3_1 ++ (((((((((((⟨#[98, 97, 99, 107, 101, 110, 100, 32]⟩ : ByteArray) ++ t282) ++ (⟨#[32]⟩ : ByteArray)) ++ t283) ++ (⟨#[32]⟩ : ByteArray)) ++ t284) ++ (⟨#[32]⟩ : ByteArray)) ++ t281) ++ (⟨#[32]⟩ : ByteArray)) ++ t285) ++ (⟨#[10]⟩ : ByteArray))) l0_1 (l0_1.length : Int) (wrap64 (x17_1 + 1)) a0_0 l0_1 l0_2) else (none)) else (none)) else (none)) = some r := H
                                have A24 := Aside0.mk A240
                                clear A240
                                by_cases c25 : (((((((((⟨#[98, 97, 99, 107, 101, 110, 100, 32]⟩ : ByteArray) ++ t282) ++ (⟨#[32]⟩ : ByteArray)) ++ t283) ++ (⟨#[32]⟩ : ByteArray)) ++ t284) ++ (⟨#[32]⟩ : ByteArray)) ++ t281) ++ (⟨#[32]⟩ : ByteArray)).size + t285.size ≤ 9223372036854775807
                                · rw [if_pos c25] at H
                                  have c25b0 := eq_true c25
                                  have c25b1 : decide ((((((((((⟨#[98, 97, 99, 107, 101, 110, 100, 32]⟩ : ByteArray) ++ t282) ++ (⟨#[32]⟩ : ByteArray)) ++ t283) ++ (⟨#[32]⟩ : ByteArray)) ++ t284) ++ (⟨#[32]⟩ : ByteArray)) ++ t281) ++ (⟨#[32]⟩ : ByteArray)).size + t285.size ≤ 9223372036854775807) = true := decide_eq_true c25
                                  try have c25b2 : (9223372036854775807 < (((((((((⟨#[98, 97, 99, 107, 101, 110, 100, 32]⟩ : ByteArray) ++ t282) ++ (⟨#[32]⟩ : ByteArray)) ++ t283) ++ (⟨#[32]⟩ : ByteArray)) ++ t284) ++ (⟨#[32]⟩ : ByteArray)) ++ t281) ++ (⟨#[32]⟩ : ByteArray)).size + t285.size) = False := eq_false (Nat.not_lt.2 c25)
                                  have c25x : (9223372036854775807 < 8 + t282.size + 1 + t283.size + 1 + t284.size + 1 + t281.size + 1 + t285.size) = False := eq_false (Nat.not_lt.2 (by have h_ := c25; (try simp only [ByteArray.size_append] at h_); exact h_))
                                  by_cases c26 : ((((((((((⟨#[98, 97, 99, 107, 101, 110, 100, 32]⟩ : ByteArray) ++ t282) ++ (⟨#[32]⟩ : ByteArray)) ++ t283) ++ (⟨#[32]⟩ : ByteArray)) ++ t284) ++ (⟨#[32]⟩ : ByteArray)) ++ t281) ++ (⟨#[32]⟩ : ByteArray)) ++ t285).size + 1 ≤ 9223372036854775807
                                  · rw [if_pos c26] at H
                                    have c26b0 := eq_true c26
                                    have c26b1 : decide (((((((((((⟨#[98, 97, 99, 107, 101, 110, 100, 32]⟩ : ByteArray) ++ t282) ++ (⟨#[32]⟩ : ByteArray)) ++ t283) ++ (⟨#[32]⟩ : ByteArray)) ++ t284) ++ (⟨#[32]⟩ : ByteArray)) ++ t281) ++ (⟨#[32]⟩ : ByteArray)) ++ t285).size + 1 ≤ 9223372036854775807) = true := decide_eq_true c26
                                    try have c26b2 : (9223372036854775807 < ((((((((((⟨#[98, 97, 99, 107, 101, 110, 100, 32]⟩ : ByteArray) ++ t282) ++ (⟨#[32]⟩ : ByteArray)) ++ t283) ++ (⟨#[32]⟩ : ByteArray)) ++ t284) ++ (⟨#[32]⟩ : ByteArray)) ++ t281) ++ (⟨#[32]⟩ : ByteArray)) ++ t285).size + 1) = False := eq_false (Nat.not_lt.2 c26)
                                    have c26x : (9223372036854775807 < 8 + t282.size + 1 + t283.size + 1 + t284.size + 1 + t281.size + 1 + t285.size + 1) = False := eq_false (Nat.not_lt.2 (by have h_ := c26; (try simp only [ByteArray.size_append] at h_); exact h_))
                                    by_cases c27 : x3_1.size + (((((((((((⟨#[98, 97, 99, 107, 101, 110, 100, 32]⟩ : ByteArray) ++ t282) ++ (⟨#[32]⟩ : ByteArray)) ++ t283) ++ (⟨#[32]⟩ : ByteArray)) ++ t284) ++ (⟨#[32]⟩ : ByteArray)) ++ t281) ++ (⟨#[32]⟩ : ByteArray)) ++ t285) ++ (⟨#[10]⟩ : ByteArray)).size ≤ 9223372036854775807
                                    · rw [if_pos c27] at H
                                      have c27b0 := eq_true c27
                                      have c27b1 : decide (x3_1.size + (((((((((((⟨#[98, 97, 99, 107, 101, 110, 100, 32]⟩ : ByteArray) ++ t282) ++ (⟨#[32]⟩ : ByteArray)) ++ t283) ++ (⟨#[32]⟩ : ByteArray)) ++ t284) ++ (⟨#[32]⟩ : ByteArray)) ++ t281) ++ (⟨#[32]⟩ : ByteArray)) ++ t285) ++ (⟨#[10]⟩ : ByteArray)).size ≤ 9223372036854775807) = true := decide_eq_true c27
                                      try have c27b2 : (9223372036854775807 < x3_1.size + (((((((((((⟨#[98, 97, 99, 107, 101, 110, 100, 32]⟩ : ByteArray) ++ t282) ++ (⟨#[32]⟩ : ByteArray)) ++ t283) ++ (⟨#[32]⟩ : ByteArray)) ++ t284) ++ (⟨#[32]⟩ : ByteArray)) ++ t281) ++ (⟨#[32]⟩ : ByteArray)) ++ t285) ++ (⟨#[10]⟩ : ByteArray)).size) = False := eq_false (Nat.not_lt.2 c27)
                                      have c27x : (9223372036854775807 < x3_1.size + (8 + t282.size + 1 + t283.size + 1 + t284.size + 1 + t281.size + 1 + t285.size + 1)) = False := eq_false (Nat.not_lt.2 (by have h_ := c27; (try simp only [ByteArray.size_append] at h_); exact h_))
                                      have H' := Aside0.mk H
                                      clear H
                                      have p279 : 0 ≤ (x17_1 : Int) := of_decide_eq_true (by first | (with_reducible assumption) | assumption)
                                      have q279 : x17_1 < (l0_1.length : Int) := of_decide_eq_true (by first | (with_reducible assumption) | assumption)
                                      obtain ⟨ad279, e279, hx279_0, hx279_1, hx279_2, hx279_3, hx279_4⟩ := at_T56 HR0_1.out x17_1 p279 q279
                                      cases e279
                                      replace hx279_0 := (HB.out.cell (World.block_lt_of_cell? w _ hx279_0)).trans hx279_0
                                      replace hx279_1 := (HB.out.cell (World.block_lt_of_cell? w _ hx279_1)).trans hx279_1
                                      replace hx279_2 := (HB.out.cell (World.block_lt_of_cell? w _ hx279_2)).trans hx279_2
                                      replace hx279_3 := (HB.out.cell (World.block_lt_of_cell? w _ hx279_3)).trans hx279_3
                                      replace hx279_4 := (HB.out.cell (World.block_lt_of_cell? w _ hx279_4)).trans hx279_4
                                      replace p279 := eq_true p279
                                      replace q279 := eq_true q279
                                      have hidx_ := Ct.stage_index A12.out
                                      try go_wp2_with (first | ((with_reducible refine gate_dst (N := 5) rfl ?_); refine box_event ?hg (N := 5) ?hd (cs := #[.int .i64 0, .int .i64 0, .int .i64 0, .int .i64 0, .bool false]) (t := 56) ?hr ?_; (case hd => rfl); (case hg => rfl); (case hr => first | (go_simp; done) | (go_simp; rfl)); intro gb280 hg w28 hbox hb; have n0_ := Aside0.mk (blk_below (g := gb277) (o := .cells #[.int .i64 a0_0, .slice (some ad279) l0_1.length c0_1, .slice A0_2 l0_2.length c0_2] 33 (0, 0)) (by (with_reducible repeat (first | refine blk_drewN ?_ _ | refine blk_drew ?_ | refine blk_alloc ?_ _)); exact BK277.out) hb); have n1_ := Aside0.mk (below_step (by repeat (first | (with_reducible first | exact HB.out | apply below_alloc | apply pw_below_drewN | apply below_drew1 | refine below_set ?_ GE277.out) | exact HB.out)) hb); have n2_ := Aside0.mk (hbox); have n3_ := Aside0.mk ((by rw [hg]; exact (below_size (by repeat (first | (with_reducible first | exact HB.out | apply below_alloc | apply pw_below_drewN | apply below_drew1 | refine below_set ?_ GE277.out) | exact HB.out))) : w.heap.size ≤ gb280)); have n4_ := Aside0.mk ((by rw [hg]; exact (below_size (by repeat (first | (with_reducible first | exact HB.out | apply below_alloc | apply pw_below_drewN | apply below_drew1 | refine below_set ?_ GE277.out) | exact HB.out))) : w.heap.size ≤ gb280)); have n5_ := Aside0.mk ((by rw [hg]; exact Nat.ne_of_lt (blk_lt (g := gb277) (o := .cells #[.int .i64 a0_0, .slice (some ad279) l0_1.length c0_1, .slice A0_2 l0_2.length c0_2] 33 (0, 0)) (by (with_reducible repeat (first | refine blk_drewN ?_ _ | refine blk_drew ?_ | refine blk_alloc ?_ _)); exact BK277.out)) : gb277 ≠ gb280)); have n6_ := Aside0.mk ((by rw [hg]; exact Nat.ne_of_gt (blk_lt (g := gb277) (o := .cells #[.int .i64 a0_0, .slice (some ad279) l0_1.length c0_1, .slice A0_2 l0_2.length c0_2] 33 (0, 0)) (by (with_reducible repeat (first | refine blk_drewN ?_ _ | refine blk_drew ?_ | refine blk_alloc ?_ _)); exact BK277.out)) : gb280 ≠ gb277)); clear BK277; clear HB; have BK277 := n0_; have HB := n1_; have BK280 := n2_; have GW280 := n3_; have GE280 := n4_; have NB277_280 := n5_; have NB280_277 := n6_; clear n0_ n1_ n2_ n3_ n4_ n5_ n6_; clear hb hbox hg; have hnb29 := NB280_277.out; have hnc29 := NB277_280.out; have hcz30_0 : w28.cell? ⟨gb280, 0, none⟩ = some (.int .i64 0) := (blk_cell BK280.out 0).trans rfl; have hcz30_1 : w28.cell? ⟨gb280, 1, none⟩ = some (.int .i64 0) := (blk_cell BK280.out 1).trans rfl; have hcz30_2 : w28.cell? ⟨gb280, 2, none⟩ = some (.int .i64 0) := (blk_cell BK280.out 2).trans rfl; have hcz30_3 : w28.cell? ⟨gb280, 3, none⟩ = some (.int .i64 0) := (blk_cell BK280.out 3).trans rfl; have hcz30_4 : w28.cell? ⟨gb280, 4, none⟩ = some (.bool false) := (blk_cell BK280.out 4).trans rfl; have hfz30_0 := blk_frozen BK280.out 0; have hfz30_1 := blk_frozen BK280.out 1; have hfz30_2 := blk_frozen BK280.out 2; have hfz30_3 := blk_frozen BK280.out 3; have hfz30_4 := blk_frozen BK280.out 4) | ((with_reducible refine gate_callee (f := 40) rfl ?_); refine goesL_ (some 24) rfl rfl Tryd.func40 (by kernel_rfl) rfl #[.bool ((rd_T56 l0_1 x17_1).f4), .string (⟨#[]⟩ : ByteArray), .string (⟨#[]⟩ : ByteArray)] rfl (by (try simp only [List.map_toArray, List.map_cons, List.map_nil]); first | done | rfl | (simp only [List.length_drop, List.length_take]; rfl)) ?_; (with_reducible refine (impl_chosen.calls ((rd_T56 l0_1 x17_1).f4) (⟨#[]⟩ : ByteArray) (⟨#[]⟩ : ByteArray) t281 _ A12.out).mono ?_); rintro e w' ⟨rfl, ⟨nd, rfl⟩⟩; refine ⟨_, rfl, ?_⟩))
                                      have n0_ : Aside0 ((((((w28.setCell ⟨gb280, 0, none⟩ (.int .i64 ((rd_T56 l0_1 x17_1).f0))).setCell ⟨gb280, 1, none⟩ (.int .i64 ((rd_T56 l0_1 x17_1).f1))).setCell ⟨gb280, 2, none⟩ (.int .i64 ((rd_T56 l0_1 x17_1).f2))).setCell ⟨gb280, 3, none⟩ (.int .i64 ((rd_T56 l0_1 x17_1).f3))).setCell ⟨gb280, 4, none⟩ (.bool ((rd_T56 l0_1 x17_1).f4))).heap[gb277]? = some (.cells #[.int .i64 a0_0, .slice (some ad279) l0_1.length c0_1, .slice A0_2 l0_2.length c0_2] 33 (0, 0))) := ⟨by (with_reducible repeat (first | refine blk_drewN ?_ _ | refine blk_drew ?_ | refine blk_alloc ?_ _)); refine blk_far ?_ NB277_280.out _; (with_reducible repeat (first | refine blk_drewN ?_ _ | refine blk_drew ?_ | refine blk_alloc ?_ _)); refine blk_far ?_ NB277_280.out _; (with_reducible repeat (first | refine blk_drewN ?_ _ | refine blk_drew ?_ | refine blk_alloc ?_ _)); refine blk_far ?_ NB277_280.out _; (with_reducible repeat (first | refine blk_drewN ?_ _ | refine blk_drew ?_ | refine blk_alloc ?_ _)); refine blk_far ?_ NB277_280.out _; (with_reducible repeat (first | refine blk_drewN ?_ _ | refine blk_drew ?_ | refine blk_alloc ?_ _)); refine blk_far ?_ NB277_280.out _; (with_reducible repeat (first | refine blk_drewN ?_ _ | refine blk_drew ?_ | refine blk_alloc ?_ _)); exact BK277.out⟩
                                      have n1_ : Aside0 ((((((w28.setCell ⟨gb280, 0, none⟩ (.int .i64 ((rd_T56 l0_1 x17_1).f0))).setCell ⟨gb280, 1, none⟩ (.int .i64 ((rd_T56 l0_1 x17_1).f1))).setCell ⟨gb280, 2, none⟩ (.int .i64 ((rd_T56 l0_1 x17_1).f2))).setCell ⟨gb280, 3, none⟩ (.int .i64 ((rd_T56 l0_1 x17_1).f3))).setCell ⟨gb280, 4, none⟩ (.bool ((rd_T56 l0_1 x17_1).f4))).heap[gb280]? = some (.cells #[.int .i64 ((rd_T56 l0_1 x17_1).f0), .int .i64 ((rd_T56 l0_1 x17_1).f1), .int .i64 ((rd_T56 l0_1 x17_1).f2), .int .i64 ((rd_T56 l0_1 x17_1).f3), .bool ((rd_T56 l0_1 x17_1).f4)] 56 (0, 0))) := ⟨by (with_reducible repeat (first | refine blk_drewN ?_ _ | refine blk_drew ?_ | refine blk_alloc ?_ _)); refine blk_put (cs := #[.int .i64 ((rd_T56 l0_1 x17_1).f0), .int .i64 ((rd_T56 l0_1 x17_1).f1), .int .i64 ((rd_T56 l0_1 x17_1).f2), .int .i64 ((rd_T56 l0_1 x17_1).f3), .bool false]) ?_ 4 _ rfl; (with_reducible repeat (first | refine blk_drewN ?_ _ | refine blk_drew ?_ | refine blk_alloc ?_ _)); refine blk_put (cs := #[.int .i64 ((rd_T56 l0_1 x17_1).f0), .int .i64 ((rd_T56 l0_1 x17_1).f1), .int .i64 ((rd_T56 l0_1 x17_1).f2), .int .i64 0, .bool false]) ?_ 3 _ rfl; (with_reducible repeat (first | refine blk_drewN ?_ _ | refine blk_drew ?_ | refine blk_alloc ?_ _)); refine blk_put (cs := #[.int .i64 ((rd_T56 l0_1 x17_1).f0), .int .i64 ((rd_T56 l0_1 x17_1).f1), .int .i64 0, .int .i64 0, .bool false]) ?_ 2 _ rfl; (with_reducible repeat (first | refine blk_drewN ?_ _ | refine blk_drew ?_ | refine blk_alloc ?_ _)); refine blk_put (cs := #[.int .i64 ((rd_T56 l0_1 x17_1).f0), .int .i64 0, .int .i64 0, .int .i64 0, .bool false]) ?_ 1 _ rfl; (with_reducible repeat (first | refine blk_drewN ?_ _ | refine blk_drew ?_ | refine blk_alloc ?_ _)); refine blk_put (cs := #[.int .i64 0, .int .i64 0, .int .i64 0, .int .i64 0, .bool false]) ?_ 0 _ rfl; (with_reducible repeat (first | refine blk_drewN ?_ _ | refine blk_drew ?_ | refine blk_alloc ?_ _)); exact BK280.out⟩
                                      have n2_ : Aside0 (Below w.heap.size w (((((w28.setCell ⟨gb280, 0, none⟩ (.int .i64 ((rd_T56 l0_1 x17_1).f0))).setCell ⟨gb280, 1, none⟩ (.int .i64 ((rd_T56 l0_1 x17_1).f1))).setCell ⟨gb280, 2, none⟩ (.int .i64 ((rd_T56 l0_1 x17_1).f2))).setCell ⟨gb280, 3, none⟩ (.int .i64 ((rd_T56 l0_1 x17_1).f3))).setCell ⟨gb280, 4, none⟩ (.bool ((rd_T56 l0_1 x17_1).f4)))) := ⟨by repeat (first | (with_reducible first | exact HB.out | apply below_alloc | apply pw_below_drewN | apply below_drew1 | refine below_set ?_ GE277.out | refine below_set ?_ GE280.out) | exact HB.out)⟩
                                      (try clear BK277)
                                      (try clear BK280)
                                      (try clear HB)
                                      generalize (((((w28.setCell ⟨gb280, 0, none⟩ (.int .i64 ((rd_T56 l0_1 x17_1).f0))).setCell ⟨gb280, 1, none⟩ (.int .i64 ((rd_T56 l0_1 x17_1).f1))).setCell ⟨gb280, 2, none⟩ (.int .i64 ((rd_T56 l0_1 x17_1).f2))).setCell ⟨gb280, 3, none⟩ (.int .i64 ((rd_T56 l0_1 x17_1).f3))).setCell ⟨gb280, 4, none⟩ (.bool ((rd_T56 l0_1 x17_1).f4))) = w31 at n0_ n1_ n2_ ⊢
                                      have BK277 := n0_
                                      have BK280 := n1_
                                      have HB := n2_
                                      clear n0_ n1_ n2_
                                      (try (rw [drewN_self w31]; generalize hq_ : World.drewN w31 _ = w31; have n0_ : Aside0 (w31.heap[gb277]? = some (.cells #[.int .i64 a0_0, .slice (some ad279) l0_1.length c0_1, .slice A0_2 l0_2.length c0_2] 33 (0, 0))) := ⟨by rw [← hq_]; exact (by (with_reducible repeat (first | refine blk_drewN ?_ _ | refine blk_drew ?_ | refine blk_alloc ?_ _)); exact BK277.out)⟩; have n1_ : Aside0 (w31.heap[gb280]? = some (.cells #[.int .i64 ((rd_T56 l0_1 x17_1).f0), .int .i64 ((rd_T56 l0_1 x17_1).f1), .int .i64 ((rd_T56 l0_1 x17_1).f2), .int .i64 ((rd_T56 l0_1 x17_1).f3), .bool ((rd_T56 l0_1 x17_1).f4)] 56 (0, 0))) := ⟨by rw [← hq_]; exact (by (with_reducible repeat (first | refine blk_drewN ?_ _ | refine blk_drew ?_ | refine blk_alloc ?_ _)); exact BK280.out)⟩; have n2_ : Aside0 (Below w.heap.size w w31) := ⟨by rw [← hq_]; exact (by repeat (first | (with_reducible first | exact HB.out | apply below_alloc | apply pw_below_drewN | apply below_drew1 | refine below_set ?_ GE277.out | refine below_set ?_ GE280.out) | exact HB.out))⟩; clear BK277 BK280 HB hq_; have BK277 := n0_; have BK280 := n1_; have HB := n2_; clear n0_ n1_ n2_))
                                      have n0_ := Aside0.mk (blk_drew BK277.out)
                                      have n1_ := Aside0.mk (blk_drew BK280.out)
                                      have n2_ := Aside0.mk (below_drew1 HB.out)
                                      clear BK277
                                      clear BK280
                                      clear HB
                                      have BK277 := n0_
                                      have BK280 := n1_
                                      have HB := n2_
                                      clear n0_ n1_ n2_
                                      refine start_ (n := 26) (S := fun w' => w'.cell? ⟨gb280, 0, none⟩ = some (.int .i64 ((rd_T56 l0_1 x17_1).f0)) ∧ w'.cell? ⟨gb280, 1, none⟩ = some (.int .i64 ((rd_T56 l0_1 x17_1).f1)) ∧ w'.cell? ⟨gb280, 2, none⟩ = some (.int .i64 ((rd_T56 l0_1 x17_1).f2)) ∧ w'.cell? ⟨gb280, 3, none⟩ = some (.int .i64 ((rd_T56 l0_1 x17_1).f3)) ∧ w'.cell? ⟨gb280, 4, none⟩ = some (.bool ((rd_T56 l0_1 x17_1).f4))) (ds := []) #[false, false, false, false, false, false, false, false, false, false, false, false, false, false, false, false, false, false, false, false, false, false, false, false, false, false] (by kernel_rfl) rfl rfl ⟨(blk_cell BK280.out 0).trans rfl, (blk_cell BK280.out 1).trans rfl, (blk_cell BK280.out 2).trans rfl, (blk_cell BK280.out 3).trans rfl, (blk_cell BK280.out 4).trans rfl⟩ (fun hHeld => ?_); refine with_tabW impl_configText.tab6 impl_configText.bits6 (fun HT_ HW_ => ?_)
                                      generalize w31.drew = w32 at BK277 BK280 HB hHeld ⊢
                                      refine pure_ (i := 0) (N := some 25) (v := ?_) (a' := ?_) #[true, false, false, false, false, false, false, false, false, false, false, false, false, false, false, false, false, false, false, false, false, false, false, false, false, false] rfl rfl (any_of HT_.out (by kernel_rfl)) (fun _ _ _ h => h) (Or.inl ⟨by rfl, ?_⟩) ?_ ?_
                                      rotate_left
                                      · intro w'
                                        first | (go_simp; with_reducible rfl) | (go_simp; (try unfold Instr.field); go_simp; (try simp only [asAgg]); go_simp; with_reducible rfl)
                                      rotate_left
                                      · simp only [Act.put, List.setIfInBounds_toArray, List.set_cons_zero, List.set_cons_succ, i64_w, i32_w]
                                        rfl
                                      refine pure_ (i := 1) (N := some 26) (v := ?_) (a' := ?_) #[true, true, false, false, false, false, false, false, false, false, false, false, false, false, false, false, false, false, false, false, false, false, false, false, false, false] rfl rfl (any_of HT_.out (by kernel_rfl)) (fun _ _ _ h => h) (Or.inl ⟨by rfl, ?_⟩) ?_ ?_
                                      rotate_left
                                      · intro w'
                                        first | (go_simp; with_reducible rfl) | (go_simp; (try unfold Instr.field); go_simp; (try simp only [asAgg]); go_simp; with_reducible rfl)
                                      rotate_left
                                      · simp only [Act.put, List.setIfInBounds_toArray, List.set_cons_zero, List.set_cons_succ, i64_w, i32_w]
                                        rfl
                                      refine pure_ (i := 6) (N := some 31) (v := ?_) (a' := ?_) #[true, true, false, false, false, false, true, false, false, false, false, false, false, false, false, false, false, false, false, false, false, false, false, false, false, false] rfl rfl (any_of HT_.out (by kernel_rfl)) (fun _ _ _ h => h) (Or.inl ⟨by rfl, ?_⟩) ?_ ?_
                                      rotate_left
                                      · intro w'
                                        first | (go_simp; with_reducible rfl) | (go_simp; (try unfold Instr.field); go_simp; (try simp only [asAgg]); go_simp; with_reducible rfl)
                                      rotate_left
                                      · simp only [Act.put, List.setIfInBounds_toArray, List.set_cons_zero, List.set_cons_succ, i64_w, i32_w]
                                        rfl
                                      refine pure_ (i := 11) (N := some 36) (v := ?_) (a' := ?_) #[true, true, false, false, false, false, true, false, false, false, false, true, false, false, false, false, false, false, false, false, false, false, false, false, false, false] rfl rfl (any_of HT_.out (by kernel_rfl)) (fun _ _ _ h => h) (Or.inl ⟨by rfl, ?_⟩) ?_ ?_
                                      rotate_left
                                      · intro w'
                                        first | (go_simp; with_reducible rfl) | (go_simp; (try unfold Instr.field); go_simp; (try simp only [asAgg]); go_simp; with_reducible rfl)
                                      rotate_left
                                      · simp only [Act.put, List.setIfInBounds_toArray, List.set_cons_zero, List.set_cons_succ, i64_w, i32_w]
                                        rfl
                                      refine pure_ (i := 16) (N := some 41) (v := ?_) (a' := ?_) #[true, true, false, false, false, false, true, false, false, false, false, true, false, false, false, false, true, false, false, false, false, false, false, false, false, false] rfl rfl (any_of HT_.out (by kernel_rfl)) (fun _ _ _ h => h) (Or.inl ⟨by rfl, ?_⟩) ?_ ?_
                                      rotate_left
                                      · intro w'
                                        first | (go_simp; with_reducible rfl) | (go_simp; (try unfold Instr.field); go_simp; (try simp only [asAgg]); go_simp; with_reducible rfl)
                                      rotate_left
                                      · simp only [Act.put, List.setIfInBounds_toArray, List.set_cons_zero, List.set_cons_succ, i64_w, i32_w]
                                        rfl
                                      refine pure_ (i := 19) (N := some 44) (v := ?_) (a' := ?_) #[true, true, false, false, false, false, true, false, false, false, false, true, false, false, false, false, true, false, false, true, false, false, false, false, false, false] rfl rfl (any_of HT_.out (by kernel_rfl)) (fun _ _ _ h => h) (Or.inl ⟨by rfl, ?_⟩) ?_ ?_
                                      rotate_left
                                      · intro w'
                                        first | (go_simp; with_reducible rfl) | (go_simp; (try unfold Instr.field); go_simp; (try simp only [asAgg]); go_simp; with_reducible rfl)
                                      rotate_left
                                      · simp only [Act.put, List.setIfInBounds_toArray, List.set_cons_zero, List.set_cons_succ, i64_w, i32_w]
                                        rfl
                                      refine take_ (i := 2) (N := some 27) (v := ?_) (a' := ?_) #[true, true, true, false, false, false, true, false, false, false, false, true, false, false, false, false, true, false, false, true, false, false, false, false, false, false] rfl rfl (take_ofW HT_.out HW_.out (by kernel_rfl)) (fun _ _ _ h => h) (Or.inl ⟨by rfl, ?_⟩) hHeld ?_ ?_
                                      rotate_left
                                      · rintro w' ⟨s0, s1, s2, s3, s4⟩
                                        go_simp
                                        with_reducible rfl
                                      rotate_left
                                      · simp only [Act.put, List.setIfInBounds_toArray, List.set_cons_zero, List.set_cons_succ, i64_w, i32_w]
                                        rfl
                                      refine take_ (i := 7) (N := some 32) (v := ?_) (a' := ?_) #[true, true, true, false, false, false, true, true, false, false, false, true, false, false, false, false, true, false, false, true, false, false, false, false, false, false] rfl rfl (take_ofW HT_.out HW_.out (by kernel_rfl)) (fun _ _ _ h => h) (Or.inl ⟨by rfl, ?_⟩) hHeld ?_ ?_
                                      rotate_left
                                      · rintro w' ⟨s0, s1, s2, s3, s4⟩
                                        go_simp
                                        with_reducible rfl
                                      rotate_left
                                      · simp only [Act.put, List.setIfInBounds_toArray, List.set_cons_zero, List.set_cons_succ, i64_w, i32_w]
                                        rfl
                                      refine take_ (i := 12) (N := some 37) (v := ?_) (a' := ?_) #[true, true, true, false, false, false, true, true, false, false, false, true, true, false, false, false, true, false, false, true, false, false, false, false, false, false] rfl rfl (take_ofW HT_.out HW_.out (by kernel_rfl)) (fun _ _ _ h => h) (Or.inl ⟨by rfl, ?_⟩) hHeld ?_ ?_
                                      rotate_left
                                      · rintro w' ⟨s0, s1, s2, s3, s4⟩
                                        go_simp
                                        with_reducible rfl
                                      rotate_left
                                      · simp only [Act.put, List.setIfInBounds_toArray, List.set_cons_zero, List.set_cons_succ, i64_w, i32_w]
                                        rfl
                                      refine take_ (i := 20) (N := some 45) (v := ?_) (a' := ?_) #[true, true, true, false, false, false, true, true, false, false, false, true, true, false, false, false, true, false, false, true, true, false, false, false, false, false] rfl rfl (take_ofW HT_.out HW_.out (by kernel_rfl)) (fun _ _ _ h => h) (Or.inl ⟨by rfl, ?_⟩) hHeld ?_ ?_
                                      rotate_left
                                      · rintro w' ⟨s0, s1, s2, s3, s4⟩
                                        go_simp
                                        with_reducible rfl
                                      rotate_left
                                      · simp only [Act.put, List.setIfInBounds_toArray, List.set_cons_zero, List.set_cons_succ, i64_w, i32_w]
                                        rfl
                                      refine one_ (i := 3) (N := some 28) #[true, true, true, true, false, false, true, true, false, false, false, true, true, false, false, false, true, false, false, true, true, false, false, false, false, false] rfl rfl (one_of HT_.out (by kernel_rfl)) (by decide) (fun K hK => ?_)
                                      refine goes_ Tryd.func38 (by kernel_rfl) rfl #[.int .i64 ((rd_T56 l0_1 x17_1).f0)] (by rfl) rfl rfl (by (try simp only [List.map_toArray, List.map_cons, List.map_nil]); first | done | rfl | (simp only [List.length_drop, List.length_take]; rfl)) ?_
                                      with_reducible refine (impl_decimal.calls ((rd_T56 l0_1 x17_1).f0) t282 _ ?tab_ A13.out).mono ?_
                                      (case tab_ => exact (Go.Joins.tab_stays (show Tryd.prog.globalNamed "internal/strconv.uint64pow10" = some 0 by kernel_rfl) ht_ (by repeat (first | (with_reducible first | exact HB.out | apply below_alloc | apply pw_below_drewN | apply below_drew1 | refine below_set ?_ GE277.out | refine below_set ?_ GE280.out | refine below_set ?_ GE287.out) | exact HB.out | exact Below.refl _ _)) (Nat.le_refl _)))
                                      rintro e w33 ⟨rfl, hb⟩
                                      refine ⟨_, rfl, ?_⟩
                                      have n0_ := Aside0.mk (blk_below (g := gb277) (o := .cells #[.int .i64 a0_0, .slice (some ad279) l0_1.length c0_1, .slice A0_2 l0_2.length c0_2] 33 (0, 0)) (by (with_reducible repeat (first | refine blk_drewN ?_ _ | refine blk_drew ?_ | refine blk_alloc ?_ _)); exact BK277.out) hb)
                                      have n1_ := Aside0.mk (blk_below (g := gb280) (o := .cells #[.int .i64 ((rd_T56 l0_1 x17_1).f0), .int .i64 ((rd_T56 l0_1 x17_1).f1), .int .i64 ((rd_T56 l0_1 x17_1).f2), .int .i64 ((rd_T56 l0_1 x17_1).f3), .bool ((rd_T56 l0_1 x17_1).f4)] 56 (0, 0)) (by (with_reducible repeat (first | refine blk_drewN ?_ _ | refine blk_drew ?_ | refine blk_alloc ?_ _)); exact BK280.out) hb)
                                      have n2_ := Aside0.mk (below_step (by repeat (first | (with_reducible first | exact HB.out | apply below_alloc | apply pw_below_drewN | apply below_drew1 | refine below_set ?_ GE277.out | refine below_set ?_ GE280.out) | exact HB.out)) hb)
                                      clear BK277
                                      clear BK280
                                      clear HB
                                      have BK277 := n0_
                                      have BK280 := n1_
                                      have HB := n2_
                                      clear n0_ n1_ n2_
                                      (try clear hb)
                                      (try clear hb2)
                                      (try clear hk)
                                      (try clear hi)
                                      refine hK.out _ _ ⟨(blk_cell BK280.out 0).trans rfl, (blk_cell BK280.out 1).trans rfl, (blk_cell BK280.out 2).trans rfl, (blk_cell BK280.out 3).trans rfl, (blk_cell BK280.out 4).trans rfl⟩ (fun hHeld => ?_)
                                      clear hK K
                                      refine norm_ (a' := ?_) ?_ ?_
                                      rotate_left
                                      · show Act.put _ (some 28) _ = _
                                        simp only [Act.put, List.setIfInBounds_toArray, List.set_cons_zero, List.set_cons_succ, i64_w, i32_w]
                                        rfl
                                      refine pure_ (i := 4) (N := some 29) (v := ?_) (a' := ?_) #[true, true, true, true, true, false, true, true, false, false, false, true, true, false, false, false, true, false, false, true, true, false, false, false, false, false] rfl rfl (any_of HT_.out (by kernel_rfl)) (fun _ _ _ h => h) (Or.inl ⟨by rfl, ?_⟩) ?_ ?_
                                      rotate_left
                                      · intro w'
                                        first | (go_simp; with_reducible rfl) | (go_simp; (try unfold Instr.field); go_simp; (try simp only [asAgg]); go_simp; with_reducible rfl)
                                      rotate_left
                                      · simp only [Act.put, List.setIfInBounds_toArray, List.set_cons_zero, List.set_cons_succ, i64_w, i32_w]
                                        rfl
                                      refine pure_ (i := 5) (N := some 30) (v := ?_) (a' := ?_) #[true, true, true, true, true, true, true, true, false, false, false, true, true, false, false, false, true, false, false, true, true, false, false, false, false, false] rfl rfl (any_of HT_.out (by kernel_rfl)) (fun _ _ _ h => h) (Or.inl ⟨by rfl, ?_⟩) ?_ ?_
                                      rotate_left
                                      · intro w'
                                        first | (go_simp; with_reducible rfl) | (go_simp; (try unfold Instr.field); go_simp; (try simp only [asAgg]); go_simp; with_reducible rfl)
                                      rotate_left
                                      · simp only [Act.put, List.setIfInBounds_toArray, List.set_cons_zero, List.set_cons_succ, i64_w, i32_w]
                                        rfl
                                      refine one_ (i := 8) (N := some 33) #[true, true, true, true, true, true, true, true, true, false, false, true, true, false, false, false, true, false, false, true, true, false, false, false, false, false] rfl rfl (one_of HT_.out (by kernel_rfl)) (by decide) (fun K hK => ?_)
                                      refine goes_ Tryd.func39 (by kernel_rfl) rfl #[.int .i64 ((rd_T56 l0_1 x17_1).f1)] (by rfl) rfl rfl (by (try simp only [List.map_toArray, List.map_cons, List.map_nil]); first | done | rfl | (simp only [List.length_drop, List.length_take]; rfl)) ?_
                                      with_reducible refine (impl_addressText.calls ((rd_T56 l0_1 x17_1).f1) t283 _ ?tab_ A16.out).mono ?_
                                      (case tab_ => exact (Go.Joins.tab_stays (show Tryd.prog.globalNamed "internal/strconv.uint64pow10" = some 0 by kernel_rfl) ht_ (by repeat (first | (with_reducible first | exact HB.out | apply below_alloc | apply pw_below_drewN | apply below_drew1 | refine below_set ?_ GE277.out | refine below_set ?_ GE280.out | refine below_set ?_ GE287.out) | exact HB.out | exact Below.refl _ _)) (Nat.le_refl _)))
                                      rintro e w34 ⟨rfl, hb⟩
                                      refine ⟨_, rfl, ?_⟩
                                      have n0_ := Aside0.mk (blk_below (g := gb277) (o := .cells #[.int .i64 a0_0, .slice (some ad279) l0_1.length c0_1, .slice A0_2 l0_2.length c0_2] 33 (0, 0)) (by (with_reducible repeat (first | refine blk_drewN ?_ _ | refine blk_drew ?_ | refine blk_alloc ?_ _)); exact BK277.out) hb)
                                      have n1_ := Aside0.mk (blk_below (g := gb280) (o := .cells #[.int .i64 ((rd_T56 l0_1 x17_1).f0), .int .i64 ((rd_T56 l0_1 x17_1).f1), .int .i64 ((rd_T56 l0_1 x17_1).f2), .int .i64 ((rd_T56 l0_1 x17_1).f3), .bool ((rd_T56 l0_1 x17_1).f4)] 56 (0, 0)) (by (with_reducible repeat (first | refine blk_drewN ?_ _ | refine blk_drew ?_ | refine blk_alloc ?_ _)); exact BK280.out) hb)
                                      have n2_ := Aside0.mk (below_step (by repeat (first | (with_reducible first | exact HB.out | apply below_alloc | apply pw_below_drewN | apply below_drew1 | refine below_set ?_ GE277.out | refine below_set ?_ GE280.out) | exact HB.out)) hb)
                                      clear BK277
                                      clear BK280
                                      clear HB
                                      have BK277 := n0_
                                      have BK280 := n1_
                                      have HB := n2_
                                      clear n0_ n1_ n2_
                                      (try clear hb)
                                      (try clear hb2)
                                      (try clear hk)
                                      (try clear hi)
                                      refine hK.out _ _ ⟨(blk_cell BK280.out 0).trans rfl, (blk_cell BK280.out 1).trans rfl, (blk_cell BK280.out 2).trans rfl, (blk_cell BK280.out 3).trans rfl, (blk_cell BK280.out 4).trans rfl⟩ (fun hHeld => ?_)
                                      clear hK K
                                      refine norm_ (a' := ?_) ?_ ?_
                                      rotate_left
                                      · show Act.put _ (some 33) _ = _
                                        simp only [Act.put, List.setIfInBounds_toArray, List.set_cons_zero, List.set_cons_succ, i64_w, i32_w]
                                        rfl
                                      refine pure_ (i := 9) (N := some 34) (v := ?_) (a' := ?_) #[true, true, true, true, true, true, true, true, true, true, false, true, true, false, false, false, true, false, false, true, true, false, false, false, false, false] rfl rfl (any_of HT_.out (by kernel_rfl)) (fun _ _ _ h => h) (Or.inl ⟨by rfl, ?_⟩) ?_ ?_
                                      rotate_left
                                      · intro w'
                                        first | (go_simp; with_reducible rfl) | (go_simp; (try unfold Instr.field); go_simp; (try simp only [asAgg]); go_simp; with_reducible rfl)
                                      rotate_left
                                      · simp only [Act.put, List.setIfInBounds_toArray, List.set_cons_zero, List.set_cons_succ, i64_w, i32_w]
                                        rfl
                                      refine pure_ (i := 10) (N := some 35) (v := ?_) (a' := ?_) #[true, true, true, true, true, true, true, true, true, true, true, true, true, false, false, false, true, false, false, true, true, false, false, false, false, false] rfl rfl (any_of HT_.out (by kernel_rfl)) (fun _ _ _ h => h) (Or.inl ⟨by rfl, ?_⟩) ?_ ?_
                                      rotate_left
                                      · intro w'
                                        first | (go_simp; with_reducible rfl) | (go_simp; (try unfold Instr.field); go_simp; (try simp only [asAgg]); go_simp; with_reducible rfl)
                                      rotate_left
                                      · simp only [Act.put, List.setIfInBounds_toArray, List.set_cons_zero, List.set_cons_succ, i64_w, i32_w]
                                        rfl
                                      refine one_ (i := 13) (N := some 38) #[true, true, true, true, true, true, true, true, true, true, true, true, true, true, false, false, true, false, false, true, true, false, false, false, false, false] rfl rfl (one_of HT_.out (by kernel_rfl)) (by decide) (fun K hK => ?_)
                                      refine goes_ Tryd.func38 (by kernel_rfl) rfl #[.int .i64 ((rd_T56 l0_1 x17_1).f2)] (by rfl) rfl rfl (by (try simp only [List.map_toArray, List.map_cons, List.map_nil]); first | done | rfl | (simp only [List.length_drop, List.length_take]; rfl)) ?_
                                      with_reducible refine (impl_decimal.calls ((rd_T56 l0_1 x17_1).f2) t284 _ ?tab_ A19.out).mono ?_
                                      (case tab_ => exact (Go.Joins.tab_stays (show Tryd.prog.globalNamed "internal/strconv.uint64pow10" = some 0 by kernel_rfl) ht_ (by repeat (first | (with_reducible first | exact HB.out | apply below_alloc | apply pw_below_drewN | apply below_drew1 | refine below_set ?_ GE277.out | refine below_set ?_ GE280.out | refine below_set ?_ GE287.out) | exact HB.out | exact Below.refl _ _)) (Nat.le_refl _)))
                                      rintro e w35 ⟨rfl, hb⟩
                                      refine ⟨_, rfl, ?_⟩
                                      have n0_ := Aside0.mk (blk_below (g := gb277) (o := .cells #[.int .i64 a0_0, .slice (some ad279) l0_1.length c0_1, .slice A0_2 l0_2.length c0_2] 33 (0, 0)) (by (with_reducible repeat (first | refine blk_drewN ?_ _ | refine blk_drew ?_ | refine blk_alloc ?_ _)); exact BK277.out) hb)
                                      have n1_ := Aside0.mk (blk_below (g := gb280) (o := .cells #[.int .i64 ((rd_T56 l0_1 x17_1).f0), .int .i64 ((rd_T56 l0_1 x17_1).f1), .int .i64 ((rd_T56 l0_1 x17_1).f2), .int .i64 ((rd_T56 l0_1 x17_1).f3), .bool ((rd_T56 l0_1 x17_1).f4)] 56 (0, 0)) (by (with_reducible repeat (first | refine blk_drewN ?_ _ | refine blk_drew ?_ | refine blk_alloc ?_ _)); exact BK280.out) hb)
                                      have n2_ := Aside0.mk (below_step (by repeat (first | (with_reducible first | exact HB.out | apply below_alloc | apply pw_below_drewN | apply below_drew1 | refine below_set ?_ GE277.out | refine below_set ?_ GE280.out) | exact HB.out)) hb)
                                      clear BK277
                                      clear BK280
                                      clear HB
                                      have BK277 := n0_
                                      have BK280 := n1_
                                      have HB := n2_
                                      clear n0_ n1_ n2_
                                      (try clear hb)
                                      (try clear hb2)
                                      (try clear hk)
                                      (try clear hi)
                                      refine hK.out _ _ ⟨(blk_cell BK280.out 0).trans rfl, (blk_cell BK280.out 1).trans rfl, (blk_cell BK280.out 2).trans rfl, (blk_cell BK280.out 3).trans rfl, (blk_cell BK280.out 4).trans rfl⟩ (fun hHeld => ?_)
                                      clear hK K
                                      refine norm_ (a' := ?_) ?_ ?_
                                      rotate_left
                                      · show Act.put _ (some 38) _ = _
                                        simp only [Act.put, List.setIfInBounds_toArray, List.set_cons_zero, List.set_cons_succ, i64_w, i32_w]
                                        rfl
                                      refine pure_ (i := 14) (N := some 39) (v := ?_) (a' := ?_) #[true, true, true, true, true, true, true, true, true, true, true, true, true, true, true, false, true, false, false, true, true, false, false, false, false, false] rfl rfl (any_of HT_.out (by kernel_rfl)) (fun _ _ _ h => h) (Or.inl ⟨by rfl, ?_⟩) ?_ ?_
                                      rotate_left
                                      · intro w'
                                        first | (go_simp; with_reducible rfl) | (go_simp; (try unfold Instr.field); go_simp; (try simp only [asAgg]); go_simp; with_reducible rfl)
                                      rotate_left
                                      · simp only [Act.put, List.setIfInBounds_toArray, List.set_cons_zero, List.set_cons_succ, i64_w, i32_w]
                                        rfl
                                      refine pure_ (i := 15) (N := some 40) (v := ?_) (a' := ?_) #[true, true, true, true, true, true, true, true, true, true, true, true, true, true, true, true, true, false, false, true, true, false, false, false, false, false] rfl rfl (any_of HT_.out (by kernel_rfl)) (fun _ _ _ h => h) (Or.inl ⟨by rfl, ?_⟩) ?_ ?_
                                      rotate_left
                                      · intro w'
                                        first | (go_simp; with_reducible rfl) | (go_simp; (try unfold Instr.field); go_simp; (try simp only [asAgg]); go_simp; with_reducible rfl)
                                      rotate_left
                                      · simp only [Act.put, List.setIfInBounds_toArray, List.set_cons_zero, List.set_cons_succ, i64_w, i32_w]
                                        rfl
                                      refine pure_ (i := 17) (N := some 42) (v := ?_) (a' := ?_) #[true, true, true, true, true, true, true, true, true, true, true, true, true, true, true, true, true, true, false, true, true, false, false, false, false, false] rfl rfl (any_of HT_.out (by kernel_rfl)) (fun _ _ _ h => h) (Or.inl ⟨by rfl, ?_⟩) ?_ ?_
                                      rotate_left
                                      · intro w'
                                        first | (go_simp; with_reducible rfl) | (go_simp; (try unfold Instr.field); go_simp; (try simp only [asAgg]); go_simp; with_reducible rfl)
                                      rotate_left
                                      · simp only [Act.put, List.setIfInBounds_toArray, List.set_cons_zero, List.set_cons_succ, i64_w, i32_w]
                                        rfl
                                      refine pure_ (i := 18) (N := some 43) (v := ?_) (a' := ?_) #[true, true, true, true, true, true, true, true, true, true, true, true, true, true, true, true, true, true, true, true, true, false, false, false, false, false] rfl rfl (any_of HT_.out (by kernel_rfl)) (fun _ _ _ h => h) (Or.inl ⟨by rfl, ?_⟩) ?_ ?_
                                      rotate_left
                                      · intro w'
                                        first | (go_simp; with_reducible rfl) | (go_simp; (try unfold Instr.field); go_simp; (try simp only [asAgg]); go_simp; with_reducible rfl)
                                      rotate_left
                                      · simp only [Act.put, List.setIfInBounds_toArray, List.set_cons_zero, List.set_cons_succ, i64_w, i32_w]
                                        rfl
                                      refine one_ (i := 21) (N := some 46) #[true, true, true, true, true, true, true, true, true, true, true, true, true, true, true, true, true, true, true, true, true, true, false, false, false, false] rfl rfl (one_of HT_.out (by kernel_rfl)) (by decide) (fun K hK => ?_)
                                      refine goes_ Tryd.func40 (by kernel_rfl) rfl #[.bool ((rd_T56 l0_1 x17_1).f4), .string (⟨#[117, 112]⟩ : ByteArray), .string (⟨#[100, 111, 119, 110]⟩ : ByteArray)] (by rfl) rfl rfl (by (try simp only [List.map_toArray, List.map_cons, List.map_nil]); first | done | rfl | (simp only [List.length_drop, List.length_take]; rfl)) ?_
                                      with_reducible refine (impl_chosen.calls ((rd_T56 l0_1 x17_1).f4) (⟨#[117, 112]⟩ : ByteArray) (⟨#[100, 111, 119, 110]⟩ : ByteArray) t285 _ A24.out).mono ?_
                                      rintro e w' ⟨rfl, ⟨nd, rfl⟩⟩
                                      refine ⟨_, rfl, ?_⟩
                                      refine hK.out _ _ ⟨(blk_cell BK280.out 0).trans rfl, (blk_cell BK280.out 1).trans rfl, (blk_cell BK280.out 2).trans rfl, (blk_cell BK280.out 3).trans rfl, (blk_cell BK280.out 4).trans rfl⟩ (fun hHeld => ?_)
                                      clear hK K
                                      refine norm_ (a' := ?_) ?_ ?_
                                      rotate_left
                                      · show Act.put _ (some 46) _ = _
                                        simp only [Act.put, List.setIfInBounds_toArray, List.set_cons_zero, List.set_cons_succ, i64_w, i32_w]
                                        rfl
                                      refine pure_ (i := 22) (N := some 47) (v := ?_) (a' := ?_) #[true, true, true, true, true, true, true, true, true, true, true, true, true, true, true, true, true, true, true, true, true, true, true, false, false, false] rfl rfl (any_of HT_.out (by kernel_rfl)) (fun _ _ _ h => h) (Or.inl ⟨by rfl, ?_⟩) ?_ ?_
                                      rotate_left
                                      · intro w'
                                        first | (go_simp; with_reducible rfl) | (go_simp; (try unfold Instr.field); go_simp; (try simp only [asAgg]); go_simp; with_reducible rfl)
                                      rotate_left
                                      · simp only [Act.put, List.setIfInBounds_toArray, List.set_cons_zero, List.set_cons_succ, i64_w, i32_w]
                                        rfl
                                      refine pure_ (i := 23) (N := some 48) (v := ?_) (a' := ?_) #[true, true, true, true, true, true, true, true, true, true, true, true, true, true, true, true, true, true, true, true, true, true, true, true, false, false] rfl rfl (any_of HT_.out (by kernel_rfl)) (fun _ _ _ h => h) (Or.inl ⟨by rfl, ?_⟩) ?_ ?_
                                      rotate_left
                                      · intro w'
                                        first | (go_simp; with_reducible rfl) | (go_simp; (try unfold Instr.field); go_simp; (try simp only [asAgg]); go_simp; with_reducible rfl)
                                      rotate_left
                                      · simp only [Act.put, List.setIfInBounds_toArray, List.set_cons_zero, List.set_cons_succ, i64_w, i32_w]
                                        rfl
                                      refine pure_ (i := 24) (N := some 49) (v := ?_) (a' := ?_) #[true, true, true, true, true, true, true, true, true, true, true, true, true, true, true, true, true, true, true, true, true, true, true, true, true, false] rfl rfl (any_of HT_.out (by kernel_rfl)) (fun _ _ _ h => h) (Or.inl ⟨by rfl, ?_⟩) ?_ ?_
                                      rotate_left
                                      · intro w'
                                        first | (go_simp; with_reducible rfl) | (go_simp; (try unfold Instr.field); go_simp; (try simp only [asAgg]); go_simp; with_reducible rfl)
                                      rotate_left
                                      · simp only [Act.put, List.setIfInBounds_toArray, List.set_cons_zero, List.set_cons_succ, i64_w, i32_w]
                                        rfl
                                      refine pure_ (i := 25) (N := some 3) (v := ?_) (a' := ?_) #[true, true, true, true, true, true, true, true, true, true, true, true, true, true, true, true, true, true, true, true, true, true, true, true, true, true] rfl rfl (any_of HT_.out (by kernel_rfl)) (fun _ _ _ h => h) (Or.inl ⟨by rfl, ?_⟩) ?_ ?_
                                      rotate_left
                                      · intro w'
                                        first | (go_simp; with_reducible rfl) | (go_simp; (try unfold Instr.field); go_simp; (try simp only [asAgg]); go_simp; with_reducible rfl)
                                      rotate_left
                                      · simp only [Act.put, List.setIfInBounds_toArray, List.set_cons_zero, List.set_cons_succ, i64_w, i32_w]
                                        rfl
                                      refine done_ (done_of HT_.out (by kernel_rfl)) ?_
                                      try go_wp2
                                      go_roundg k1
                                      case measure => have := HK1.out; omega
                                      case rel => exact ⟨(x3_1 ++ (((((((((((⟨#[98, 97, 99, 107, 101, 110, 100, 32]⟩ : ByteArray) ++ t282) ++ (⟨#[32]⟩ : ByteArray)) ++ t283) ++ (⟨#[32]⟩ : ByteArray)) ++ t284) ++ (⟨#[32]⟩ : ByteArray)) ++ t281) ++ (⟨#[32]⟩ : ByteArray)) ++ t285) ++ (⟨#[10]⟩ : ByteArray))), (wrap64 (x17_1 + 1)), (by first | rfl | (simp; done) | (simp [*]; done)), (by first | rfl | (simp; done) | (simp [*]; done)), H', ⟨by have := HK1.out; omega⟩, ⟨by (with_reducible repeat (first | refine blk_drewN ?_ _ | refine blk_drew ?_ | refine blk_alloc ?_ _)); exact BK277.out⟩, ⟨by repeat (first | (with_reducible first | exact HB.out | apply below_alloc | apply pw_below_drewN | apply below_drew1 | refine below_set ?_ GE277.out | refine below_set ?_ GE280.out) | exact HB.out)⟩⟩
                                    · rw [if_neg c27] at H
                                      exact absurd H (by simp)
                                  · rw [if_neg c26] at H
                                    exact absurd H (by simp)
                                · rw [if_neg c25] at H
                                  exact absurd H (by simp)
                              · rw [if_neg c23] at H
                                exact absurd H (by simp)
                            · rw [if_neg c22] at H
                              exact absurd H (by simp)
                          · rw [if_neg c21] at H
                            exact absurd H (by simp)
                        · rw [if_neg c20] at H
                          exact absurd H (by simp)
                      · rw [if_neg c18] at H
                        exact absurd H (by simp)
                    · rw [if_neg c17] at H
                      exact absurd H (by simp)
                  · rw [if_neg c15] at H
                    exact absurd H (by simp)
                · rw [if_neg c14] at H
                  exact absurd H (by simp)
              · rw [if_neg c11] at H
                exact absurd H (by simp)
            · rw [if_neg c10] at H
              exact absurd H (by simp)
          · rw [if_neg c9] at H
            have c9b0 : decide (x17_1 < (l0_1.length : Int)) = false := decide_eq_false c9
            clear c9
            have H' := Aside0.mk H
            clear H
            have hcz36_0 : wr.cell? ⟨gb277, 0, none⟩ = some (.int .i64 a0_0) := (blk_cell BK277.out 0).trans rfl
            have hcz36_1 : wr.cell? ⟨gb277, 1, none⟩ = some (.slice A0_1 l0_1.length c0_1) := (blk_cell BK277.out 1).trans rfl
            have hcz36_2 : wr.cell? ⟨gb277, 2, none⟩ = some (.slice A0_2 l0_2.length c0_2) := (blk_cell BK277.out 2).trans rfl
            have hfz36_0 := blk_frozen BK277.out 0
            have hfz36_1 := blk_frozen BK277.out 1
            have hfz36_2 := blk_frozen BK277.out 2
            go_wp2
            go_loopg [3, 54] k1 (fun kq v3 v54 w' => ∃ (x3_2 : ByteArray) (x54_2 : Int), v3 = .string x3_2 ∧ v54 = .int .i64 x54_2 ∧ Aside0 (impl_configText.l1 kq x3_2 l0_2 (l0_2.length : Int) x54_2 = some r) ∧ Aside0 (kq ≤ k1) ∧ Aside0 (w'.heap[gb277]? = some (.cells #[.int .i64 a0_0, (.slice A0_1 l0_1.length c0_1), (.slice A0_2 l0_2.length c0_2)] 33 (0, 0))) ∧ Aside0 (Below w.heap.size w w'))
            case atStart => exact ⟨(x3_1), (0), (by first | rfl | (simp; done) | (simp [*]; done)), (by first | rfl | (simp; done) | (simp [*]; done)), H', ⟨Nat.le_refl _⟩, ⟨by (with_reducible repeat (first | refine blk_drewN ?_ _ | refine blk_drew ?_ | refine blk_alloc ?_ _)); exact BK277.out⟩, ⟨by repeat (first | (with_reducible first | exact HB.out | apply below_alloc | apply pw_below_drewN | apply below_drew1 | refine below_set ?_ GE277.out) | exact HB.out)⟩⟩
            case round =>
              clear H'
              try clear c1
              try clear c2
              try clear p2
              try clear q2
              try clear hx2
              try clear c3
              try clear c3b0
              try clear c3b1
              try clear c3b2
              try clear c4
              try clear c4b0
              try clear c4b1
              try clear c4b2
              try clear p6
              try clear c9
              try clear c9b0
              try clear c10
              try clear c10b0
              try clear c11
              try clear c11b0
              try clear c14
              try clear c14b0
              try clear c14b1
              try clear c14b2
              try clear c15
              try clear c15b0
              try clear c15b1
              try clear c15b2
              try clear c17
              try clear c17b0
              try clear c17b1
              try clear c17b2
              try clear c18
              try clear c18b0
              try clear c18b1
              try clear c18b2
              try clear c20
              try clear c20b0
              try clear c20b1
              try clear c20b2
              try clear c21
              try clear c21b0
              try clear c21b1
              try clear c21b2
              try clear c22
              try clear c22b0
              try clear c22b1
              try clear c22b2
              try clear c23
              try clear c23b0
              try clear c23b1
              try clear c23b2
              try clear c25
              try clear c25b0
              try clear c25b1
              try clear c25b2
              try clear c26
              try clear c26b0
              try clear c26b1
              try clear c26b2
              try clear c27
              try clear c27b0
              try clear c27b1
              try clear c27b2
              try clear p27
              try clear q27
              try clear hx27
              try clear c29
              try clear hcz30_0
              try clear hcz30_1
              try clear hcz30_2
              try clear hcz30_3
              try clear hcz30_4
              try clear hcz36_0
              try clear hcz36_1
              try clear hcz36_2
              try clear hcz6_0
              try clear hcz6_1
              try clear hcz6_2
              try clear hcz8_0
              try clear hcz8_1
              try clear hcz8_2
              try clear hfz30_0
              try clear hfz30_1
              try clear hfz30_2
              try clear hfz30_3
              try clear hfz30_4
              try clear hfz36_0
              try clear hfz36_1
              try clear hfz36_2
              try clear hfz6_0
              try clear hfz6_1
              try clear hfz6_2
              try clear hfz8_0
              try clear hfz8_1
              try clear hfz8_2
              try clear hx279_0
              try clear hx279_1
              try clear hx279_2
              try clear hx279_3
              try clear hx279_4
              try clear p2
              try clear p279
              try clear q279
              obtain ⟨x3_2, x54_2, rfl, rfl, HA, HK2, BK277, HB⟩ := hrel
              cases gk with
              | zero => exact absurd HA.out (by simp [impl_configText.l1])
              | succ k2 =>
                have H := HA.out
                clear HA
                simp only [impl_configText.l1] at H
                by_cases c37 : x54_2 < (l0_2.length : Int)
                · rw [if_pos c37] at H
                  have c37b0 : decide (x54_2 < (l0_2.length : Int)) = true := decide_eq_true c37
                  clear c37
                  by_cases c38 : 0 ≤ x54_2
                  · rw [if_pos c38] at H
                    have c38b0 : decide (0 ≤ x54_2) = true := decide_eq_true c38
                    clear c38
                    by_cases c39 : x54_2 < (l0_2.length : Int)
                    · rw [if_pos c39] at H
                      have c39b0 : decide (x54_2 < (l0_2.length : Int)) = true := decide_eq_true c39
                      clear c39
                      replace H := Option.bind_eq_some_iff.mp H
                      obtain ⟨t288, A400, H⟩ := H
                      replace H : (if 4 + t288.size ≤ 9223372036854775807 then (if ((⟨#[118, 105, 112, 32]⟩ : ByteArray) ++ t288).size + 1 ≤ 9223372036854775807 then ((some (([(rd_T61 l0_2 x54_2).f1, (rd_T61 l0_2 x54_2).f2] : List Int) : List Int)).bind fun y289 => (if y289.length + ((rd_T61 l0_2 x54_2).f3).length < 17592186044416 then ((impl_decimals.f (⟨#[32]⟩ : ByteArray) (y289 ++ ((rd_T61 l0_2 x54_2).f3))).bind fun t295 => (if (((⟨#[118, 105, 112, 32]⟩ : ByteArray) ++ t288) ++ (⟨#[32]⟩ : ByteArray)).size + t295.size ≤ 9223372036854775807 then (if ((((⟨#[118, 105, 112, 32]⟩ : ByteArray) ++ t288) ++ (⟨#[32]⟩ : ByteArray)) ++ t295).size + 1 ≤ 9223372036854775807 then (if x3_2.size + (((((⟨#[118, 105, 112, 32]⟩ : ByteArray) ++ t288) ++ (⟨#[32]⟩ : ByteArray)) ++ t295) ++ (⟨#[10]⟩ : ByteArray)).size ≤ 9223372036854775807 then (impl_configText.l1 k2 (x3_2 ++ (((((⟨#[118, 105, 112, 32]⟩ : ByteArray) ++ t288) ++ (⟨#[32]⟩ : ByteArray)) ++ t295) ++ (⟨#[10]⟩ : ByteArray))) l0_2 (l0_2.length : Int) (wrap64 (x54_2 + 1))) else (none)) else (none)) else (none))) else (none))) else (none)) else (none)) = some r := H
                      have A40 := Aside0.mk A400
                      clear A400
                      by_cases c41 : 4 + t288.size ≤ 9223372036854775807
                      · rw [if_pos c41] at H
                        have c41b0 := eq_true c41
                        have c41b1 : decide (4 + t288.size ≤ 9223372036854775807) = true := decide_eq_true c41
                        try have c41b2 : (9223372036854775807 < 4 + t288.size) = False := eq_false (Nat.not_lt.2 c41)
                        by_cases c42 : ((⟨#[118, 105, 112, 32]⟩ : ByteArray) ++ t288).size + 1 ≤ 9223372036854775807
                        · rw [if_pos c42] at H
                          have c42b0 := eq_true c42
                          have c42b1 : decide (((⟨#[118, 105, 112, 32]⟩ : ByteArray) ++ t288).size + 1 ≤ 9223372036854775807) = true := decide_eq_true c42
                          try have c42b2 : (9223372036854775807 < ((⟨#[118, 105, 112, 32]⟩ : ByteArray) ++ t288).size + 1) = False := eq_false (Nat.not_lt.2 c42)
                          have c42x : (9223372036854775807 < 4 + t288.size + 1) = False := eq_false (Nat.not_lt.2 (by have h_ := c42; (try simp only [ByteArray.size_append] at h_); exact h_))
                          obtain ⟨y289, hy289⟩ : ∃ y_ : List Int, y_ = (([(rd_T61 l0_2 x54_2).f1, (rd_T61 l0_2 x54_2).f2] : List Int)) := ⟨_, rfl⟩
                          replace H : (if y289.length + ((rd_T61 l0_2 x54_2).f3).length < 17592186044416 then ((impl_decimals.f (⟨#[32]⟩ : ByteArray) (y289 ++ ((rd_T61 l0_2 x54_2).f3))).bind fun t295 => (if (((⟨#[118, 105, 112, 32]⟩ : ByteArray) ++ t288) ++ (⟨#[32]⟩ : ByteArray)).size + t295.size ≤ 9223372036854775807 then (if ((((⟨#[118, 105, 112, 32]⟩ : ByteArray) ++ t288) ++ (⟨#[32]⟩ : ByteArray)) ++ t295).size + 1 ≤ 9223372036854775807 then (if x3_2.size + (((((⟨#[118, 105, 112, 32]⟩ : ByteArray) ++ t288) ++ (⟨#[32]⟩ : ByteArray)) ++ t295) ++ (⟨#[10]⟩ : ByteArray)).size ≤ 9223372036854775807 then (impl_configText.l1 k2 (x3_2 ++ (((((⟨#[118, 105, 112, 32]⟩ : ByteArray) ++ t288) ++ (⟨#[32]⟩ : ByteArray)) ++ t295) ++ (⟨#[10]⟩ : ByteArray))) l0_2 (l0_2.length : Int) (wrap64 (x54_2 + 1))) else (none)) else (none)) else (none))) else (none)) = some r := by first | (rw [hy289]; with_reducible exact H) | (have H2_ := (Option.bind_some _ _).symm.trans H; rw [hy289]; with_reducible exact H2_) | (have H2_ := (Option.bind_some _ _).symm.trans H; with_reducible exact H2_) | with_reducible exact H | (rw [hy289]; exact H) | exact H
                          have Ny289 := Aside0.mk hy289
                          clear hy289
                          by_cases c43 : y289.length + ((rd_T61 l0_2 x54_2).f3).length < 17592186044416
                          · rw [if_pos c43] at H
                            have LMc43 := Aside0.mk c43
                            clear c43
                            obtain ⟨y292, hy292⟩ : ∃ y_ : List Int, y_ = (y289 ++ ((rd_T61 l0_2 x54_2).f3)) := ⟨_, rfl⟩
                            replace H : ((impl_decimals.f (⟨#[32]⟩ : ByteArray) y292).bind fun t295 => (if (((⟨#[118, 105, 112, 32]⟩ : ByteArray) ++ t288) ++ (⟨#[32]⟩ : ByteArray)).size + t295.size ≤ 9223372036854775807 then (if ((((⟨#[118, 105, 112, 32]⟩ : ByteArray) ++ t288) ++ (⟨#[32]⟩ : ByteArray)) ++ t295).size + 1 ≤ 9223372036854775807 then (if x3_2.size + (((((⟨#[118, 105, 112, 32]⟩ : ByteArray) ++ t288) ++ (⟨#[32]⟩ : ByteArray)) ++ t295) ++ (⟨#[10]⟩ : ByteArray)).size ≤ 9223372036854775807 then (impl_configText.l1 k2 (x3_2 ++ (((((⟨#[118, 105, 112, 32]⟩ : ByteArray) ++ t288) ++ (⟨#[32]⟩ : ByteArray)) ++ t295) ++ (⟨#[10]⟩ : ByteArray))) l0_2 (l0_2.length : Int) (wrap64 (x54_2 + 1))) else (none)) else (none)) else (none))) = some r := by first | (rw [hy292]; with_reducible exact H) | (have H2_ := (Option.bind_some _ _).symm.trans H; rw [hy292]; with_reducible exact H2_) | (have H2_ := (Option.bind_some _ _).symm.trans H; with_reducible exact H2_) | with_reducible exact H | (rw [hy292]; exact H) | exact H
                            have Ny292 := Aside0.mk hy292
                            clear hy292
                            replace H := Option.bind_eq_some_iff.mp H
                            obtain ⟨t295, A440, H⟩ := H
                            replace H : (if (((⟨#[118, 105, 112, 32]⟩ : ByteArray) ++ t288) ++ (⟨#[32]⟩ : ByteArray)).size + t295.size ≤ 9223372036854775807 then (if ((((⟨#[118, 105, 112, 32]⟩ : ByteArray) ++ t288) ++ (⟨#[32]⟩ : ByteArray)) ++ t295).size + 1 ≤ 9223372036854775807 then (if x3_2.size + (((((⟨#[118, 105, 112, 32]⟩ : ByteArray) ++ t288) ++ (⟨#[32]⟩ : ByteArray)) ++ t295) ++ (⟨#[10]⟩ : ByteArray)).size ≤ 9223372036854775807 then (impl_configText.l1 k2 (x3_2 ++ (((((⟨#[118, 105, 112, 32]⟩ : ByteArray) ++ t288) ++ (⟨#[32]⟩ : ByteArray)) ++ t295) ++ (⟨#[10]⟩ : ByteArray))) l0_2 (l0_2.length : Int) (wrap64 (x54_2 + 1))) else (none)) else (none)) else (none)) = some r := H
                            have A44 := Aside0.mk A440
                            clear A440
                            by_cases c45 : (((⟨#[118, 105, 112, 32]⟩ : ByteArray) ++ t288) ++ (⟨#[32]⟩ : ByteArray)).size + t295.size ≤ 9223372036854775807
                            · rw [if_pos c45] at H
                              have c45b0 := eq_true c45
                              have c45b1 : decide ((((⟨#[118, 105, 112, 32]⟩ : ByteArray) ++ t288) ++ (⟨#[32]⟩ : ByteArray)).size + t295.size ≤ 9223372036854775807) = true := decide_eq_true c45
                              try have c45b2 : (9223372036854775807 < (((⟨#[118, 105, 112, 32]⟩ : ByteArray) ++ t288) ++ (⟨#[32]⟩ : ByteArray)).size + t295.size) = False := eq_false (Nat.not_lt.2 c45)
                              have c45x : (9223372036854775807 < 4 + t288.size + 1 + t295.size) = False := eq_false (Nat.not_lt.2 (by have h_ := c45; (try simp only [ByteArray.size_append] at h_); exact h_))
                              by_cases c46 : ((((⟨#[118, 105, 112, 32]⟩ : ByteArray) ++ t288) ++ (⟨#[32]⟩ : ByteArray)) ++ t295).size + 1 ≤ 9223372036854775807
                              · rw [if_pos c46] at H
                                have c46b0 := eq_true c46
                                have c46b1 : decide (((((⟨#[118, 105, 112, 32]⟩ : ByteArray) ++ t288) ++ (⟨#[32]⟩ : ByteArray)) ++ t295).size + 1 ≤ 9223372036854775807) = true := decide_eq_true c46
                                try have c46b2 : (9223372036854775807 < ((((⟨#[118, 105, 112, 32]⟩ : ByteArray) ++ t288) ++ (⟨#[32]⟩ : ByteArray)) ++ t295).size + 1) = False := eq_false (Nat.not_lt.2 c46)
                                have c46x : (9223372036854775807 < 4 + t288.size + 1 + t295.size + 1) = False := eq_false (Nat.not_lt.2 (by have h_ := c46; (try simp only [ByteArray.size_append] at h_); exact h_))
                                by_cases c47 : x3_2.size + (((((⟨#[118, 105, 112, 32]⟩ : ByteArray) ++ t288) ++ (⟨#[32]⟩ : ByteArray)) ++ t295) ++ (⟨#[10]⟩ : ByteArray)).size ≤ 9223372036854775807
                                · rw [if_pos c47] at H
                                  have c47b0 := eq_true c47
                                  have c47b1 : decide (x3_2.size + (((((⟨#[118, 105, 112, 32]⟩ : ByteArray) ++ t288) ++ (⟨#[32]⟩ : ByteArray)) ++ t295) ++ (⟨#[10]⟩ : ByteArray)).size ≤ 9223372036854775807) = true := decide_eq_true c47
                                  try have c47b2 : (9223372036854775807 < x3_2.size + (((((⟨#[118, 105, 112, 32]⟩ : ByteArray) ++ t288) ++ (⟨#[32]⟩ : ByteArray)) ++ t295) ++ (⟨#[10]⟩ : ByteArray)).size) = False := eq_false (Nat.not_lt.2 c47)
                                  have c47x : (9223372036854775807 < x3_2.size + (4 + t288.size + 1 + t295.size + 1)) = False := eq_false (Nat.not_lt.2 (by have h_ := c47; (try simp only [ByteArray.size_append] at h_); exact h_))
                                  have H' := Aside0.mk H
                                  clear H
                                  have p286 : 0 ≤ (x54_2 : Int) := of_decide_eq_true (by first | (with_reducible assumption) | assumption)
                                  have q286 : x54_2 < (l0_2.length : Int) := of_decide_eq_true (by first | (with_reducible assumption) | assumption)
                                  obtain ⟨ad286, A286_3, c286_3, e286, hx286_0, hx286_1, hx286_2, hx286_3, hl286_3, hi286_3⟩ := at_T61 HR0_2.out x54_2 p286 q286
                                  cases e286
                                  replace hx286_0 := (HB.out.cell (World.block_lt_of_cell? w _ hx286_0)).trans hx286_0
                                  replace hx286_1 := (HB.out.cell (World.block_lt_of_cell? w _ hx286_1)).trans hx286_1
                                  replace hx286_2 := (HB.out.cell (World.block_lt_of_cell? w _ hx286_2)).trans hx286_2
                                  replace hx286_3 := (HB.out.cell (World.block_lt_of_cell? w _ hx286_3)).trans hx286_3
                                  have HR286_3 := Aside0.mk hi286_3
                                  have HC286_3 := Aside0.mk hl286_3
                                  clear hi286_3 hl286_3
                                  replace p286 := eq_true p286
                                  replace q286 := eq_true q286
                                  try go_wp2_with (first | ((with_reducible refine gate_dst (N := 8) rfl ?_); refine box_event ?hg (N := 8) ?hd (cs := #[.int .i64 0, .int .i64 0, .int .i64 0, .slice none 0 0]) (t := 61) ?hr ?_; (case hd => rfl); (case hg => rfl); (case hr => first | (go_simp; done) | (go_simp; rfl)); intro gb287 hg w48 hbox hb; have n0_ := Aside0.mk (blk_below (g := gb277) (o := .cells #[.int .i64 a0_0, .slice A0_1 l0_1.length c0_1, .slice (some ad286) l0_2.length c0_2] 33 (0, 0)) (by (with_reducible repeat (first | refine blk_drewN ?_ _ | refine blk_drew ?_ | refine blk_alloc ?_ _)); exact BK277.out) hb); have n1_ := Aside0.mk (below_step (by repeat (first | (with_reducible first | exact HB.out | apply below_alloc | apply pw_below_drewN | apply below_drew1 | refine below_set ?_ GE277.out) | exact HB.out)) hb); have n2_ := Aside0.mk (hbox); have n3_ := Aside0.mk ((by rw [hg]; exact (below_size (by repeat (first | (with_reducible first | exact HB.out | apply below_alloc | apply pw_below_drewN | apply below_drew1 | refine below_set ?_ GE277.out) | exact HB.out))) : w.heap.size ≤ gb287)); have n4_ := Aside0.mk ((by rw [hg]; exact (below_size (by repeat (first | (with_reducible first | exact HB.out | apply below_alloc | apply pw_below_drewN | apply below_drew1 | refine below_set ?_ GE277.out) | exact HB.out))) : w.heap.size ≤ gb287)); have n5_ := Aside0.mk ((by rw [hg]; exact Nat.ne_of_lt (blk_lt (g := gb277) (o := .cells #[.int .i64 a0_0, .slice A0_1 l0_1.length c0_1, .slice (some ad286) l0_2.length c0_2] 33 (0, 0)) (by (with_reducible repeat (first | refine blk_drewN ?_ _ | refine blk_drew ?_ | refine blk_alloc ?_ _)); exact BK277.out)) : gb277 ≠ gb287)); have n6_ := Aside0.mk ((by rw [hg]; exact Nat.ne_of_gt (blk_lt (g := gb277) (o := .cells #[.int .i64 a0_0, .slice A0_1 l0_1.length c0_1, .slice (some ad286) l0_2.length c0_2] 33 (0, 0)) (by (with_reducible repeat (first | refine blk_drewN ?_ _ | refine blk_drew ?_ | refine blk_alloc ?_ _)); exact BK277.out)) : gb287 ≠ gb277)); clear BK277; clear HB; have BK277 := n0_; have HB := n1_; have BK287 := n2_; have GW287 := n3_; have GE287 := n4_; have NB277_287 := n5_; have NB287_277 := n6_; clear n0_ n1_ n2_ n3_ n4_ n5_ n6_; clear hb hbox hg; have hnb49 := NB287_277.out; have hnc49 := NB277_287.out; have hcz50_0 : w48.cell? ⟨gb287, 0, none⟩ = some (.int .i64 0) := (blk_cell BK287.out 0).trans rfl; have hcz50_1 : w48.cell? ⟨gb287, 1, none⟩ = some (.int .i64 0) := (blk_cell BK287.out 1).trans rfl; have hcz50_2 : w48.cell? ⟨gb287, 2, none⟩ = some (.int .i64 0) := (blk_cell BK287.out 2).trans rfl; have hcz50_3 : w48.cell? ⟨gb287, 3, none⟩ = some (.slice none 0 0) := (blk_cell BK287.out 3).trans rfl; have hfz50_0 := blk_frozen BK287.out 0; have hfz50_1 := blk_frozen BK287.out 1; have hfz50_2 := blk_frozen BK287.out 2; have hfz50_3 := blk_frozen BK287.out 3))
                                  have n0_ : Aside0 (((((w48.setCell ⟨gb287, 0, none⟩ (.int .i64 ((rd_T61 l0_2 x54_2).f0))).setCell ⟨gb287, 1, none⟩ (.int .i64 ((rd_T61 l0_2 x54_2).f1))).setCell ⟨gb287, 2, none⟩ (.int .i64 ((rd_T61 l0_2 x54_2).f2))).setCell ⟨gb287, 3, none⟩ (.slice A286_3 ((rd_T61 l0_2 x54_2).f3).length c286_3)).heap[gb277]? = some (.cells #[.int .i64 a0_0, .slice A0_1 l0_1.length c0_1, .slice (some ad286) l0_2.length c0_2] 33 (0, 0))) := ⟨by (with_reducible repeat (first | refine blk_drewN ?_ _ | refine blk_drew ?_ | refine blk_alloc ?_ _)); refine blk_far ?_ NB277_287.out _; (with_reducible repeat (first | refine blk_drewN ?_ _ | refine blk_drew ?_ | refine blk_alloc ?_ _)); refine blk_far ?_ NB277_287.out _; (with_reducible repeat (first | refine blk_drewN ?_ _ | refine blk_drew ?_ | refine blk_alloc ?_ _)); refine blk_far ?_ NB277_287.out _; (with_reducible repeat (first | refine blk_drewN ?_ _ | refine blk_drew ?_ | refine blk_alloc ?_ _)); refine blk_far ?_ NB277_287.out _; (with_reducible repeat (first | refine blk_drewN ?_ _ | refine blk_drew ?_ | refine blk_alloc ?_ _)); exact BK277.out⟩
                                  have n1_ : Aside0 (((((w48.setCell ⟨gb287, 0, none⟩ (.int .i64 ((rd_T61 l0_2 x54_2).f0))).setCell ⟨gb287, 1, none⟩ (.int .i64 ((rd_T61 l0_2 x54_2).f1))).setCell ⟨gb287, 2, none⟩ (.int .i64 ((rd_T61 l0_2 x54_2).f2))).setCell ⟨gb287, 3, none⟩ (.slice A286_3 ((rd_T61 l0_2 x54_2).f3).length c286_3)).heap[gb287]? = some (.cells #[.int .i64 ((rd_T61 l0_2 x54_2).f0), .int .i64 ((rd_T61 l0_2 x54_2).f1), .int .i64 ((rd_T61 l0_2 x54_2).f2), .slice A286_3 ((rd_T61 l0_2 x54_2).f3).length c286_3] 61 (0, 0))) := ⟨by (with_reducible repeat (first | refine blk_drewN ?_ _ | refine blk_drew ?_ | refine blk_alloc ?_ _)); refine blk_put (cs := #[.int .i64 ((rd_T61 l0_2 x54_2).f0), .int .i64 ((rd_T61 l0_2 x54_2).f1), .int .i64 ((rd_T61 l0_2 x54_2).f2), .slice none 0 0]) ?_ 3 _ rfl; (with_reducible repeat (first | refine blk_drewN ?_ _ | refine blk_drew ?_ | refine blk_alloc ?_ _)); refine blk_put (cs := #[.int .i64 ((rd_T61 l0_2 x54_2).f0), .int .i64 ((rd_T61 l0_2 x54_2).f1), .int .i64 0, .slice none 0 0]) ?_ 2 _ rfl; (with_reducible repeat (first | refine blk_drewN ?_ _ | refine blk_drew ?_ | refine blk_alloc ?_ _)); refine blk_put (cs := #[.int .i64 ((rd_T61 l0_2 x54_2).f0), .int .i64 0, .int .i64 0, .slice none 0 0]) ?_ 1 _ rfl; (with_reducible repeat (first | refine blk_drewN ?_ _ | refine blk_drew ?_ | refine blk_alloc ?_ _)); refine blk_put (cs := #[.int .i64 0, .int .i64 0, .int .i64 0, .slice none 0 0]) ?_ 0 _ rfl; (with_reducible repeat (first | refine blk_drewN ?_ _ | refine blk_drew ?_ | refine blk_alloc ?_ _)); exact BK287.out⟩
                                  have n2_ : Aside0 (Below w.heap.size w ((((w48.setCell ⟨gb287, 0, none⟩ (.int .i64 ((rd_T61 l0_2 x54_2).f0))).setCell ⟨gb287, 1, none⟩ (.int .i64 ((rd_T61 l0_2 x54_2).f1))).setCell ⟨gb287, 2, none⟩ (.int .i64 ((rd_T61 l0_2 x54_2).f2))).setCell ⟨gb287, 3, none⟩ (.slice A286_3 ((rd_T61 l0_2 x54_2).f3).length c286_3))) := ⟨by repeat (first | (with_reducible first | exact HB.out | apply below_alloc | apply pw_below_drewN | apply below_drew1 | refine below_set ?_ GE277.out | refine below_set ?_ GE287.out) | exact HB.out)⟩
                                  (try clear BK277)
                                  (try clear BK287)
                                  (try clear HB)
                                  generalize ((((w48.setCell ⟨gb287, 0, none⟩ (.int .i64 ((rd_T61 l0_2 x54_2).f0))).setCell ⟨gb287, 1, none⟩ (.int .i64 ((rd_T61 l0_2 x54_2).f1))).setCell ⟨gb287, 2, none⟩ (.int .i64 ((rd_T61 l0_2 x54_2).f2))).setCell ⟨gb287, 3, none⟩ (.slice A286_3 ((rd_T61 l0_2 x54_2).f3).length c286_3)) = w51 at n0_ n1_ n2_ ⊢
                                  have BK277 := n0_
                                  have BK287 := n1_
                                  have HB := n2_
                                  clear n0_ n1_ n2_
                                  have n0_ := Aside0.mk (blk_drew BK277.out)
                                  have n1_ := Aside0.mk (blk_drew BK287.out)
                                  have n2_ := Aside0.mk (below_drew1 HB.out)
                                  clear BK277
                                  clear BK287
                                  clear HB
                                  have BK277 := n0_
                                  have BK287 := n1_
                                  have HB := n2_
                                  clear n0_ n1_ n2_
                                  refine start_ (n := 19) (S := fun w' => w'.cell? ⟨gb287, 0, none⟩ = some (.int .i64 ((rd_T61 l0_2 x54_2).f0)) ∧ w'.cell? ⟨gb287, 1, none⟩ = some (.int .i64 ((rd_T61 l0_2 x54_2).f1)) ∧ w'.cell? ⟨gb287, 2, none⟩ = some (.int .i64 ((rd_T61 l0_2 x54_2).f2)) ∧ w'.cell? ⟨gb287, 3, none⟩ = some (.slice A286_3 ((rd_T61 l0_2 x54_2).f3).length c286_3)) (ds := []) #[false, false, false, false, false, false, false, false, false, false, false, false, false, false, false, false, false, false, false] (by kernel_rfl) rfl rfl ⟨(blk_cell BK287.out 0).trans rfl, (blk_cell BK287.out 1).trans rfl, (blk_cell BK287.out 2).trans rfl, (blk_cell BK287.out 3).trans rfl⟩ (fun hHeld => ?_); refine with_tabW impl_configText.tab11 impl_configText.bits11 (fun HT_ HW_ => ?_)
                                  generalize w51.drew = w52 at BK277 BK287 HB hHeld ⊢
                                  refine pure_ (i := 0) (N := some 58) (v := ?_) (a' := ?_) #[true, false, false, false, false, false, false, false, false, false, false, false, false, false, false, false, false, false, false] rfl rfl (any_of HT_.out (by kernel_rfl)) (fun _ _ _ h => h) (Or.inl ⟨by rfl, ?_⟩) ?_ ?_
                                  rotate_left
                                  · intro w'
                                    first | (go_simp; with_reducible rfl) | (go_simp; (try unfold Instr.field); go_simp; (try simp only [asAgg]); go_simp; with_reducible rfl)
                                  rotate_left
                                  · simp only [Act.put, List.setIfInBounds_toArray, List.set_cons_zero, List.set_cons_succ, i64_w, i32_w]
                                    rfl
                                  refine pure_ (i := 1) (N := some 59) (v := ?_) (a' := ?_) #[true, true, false, false, false, false, false, false, false, false, false, false, false, false, false, false, false, false, false] rfl rfl (any_of HT_.out (by kernel_rfl)) (fun _ _ _ h => h) (Or.inl ⟨by rfl, ?_⟩) ?_ ?_
                                  rotate_left
                                  · intro w'
                                    first | (go_simp; with_reducible rfl) | (go_simp; (try unfold Instr.field); go_simp; (try simp only [asAgg]); go_simp; with_reducible rfl)
                                  rotate_left
                                  · simp only [Act.put, List.setIfInBounds_toArray, List.set_cons_zero, List.set_cons_succ, i64_w, i32_w]
                                    rfl
                                  refine pure_ (i := 6) (N := some 64) (v := ?_) (a' := ?_) #[true, true, false, false, false, false, true, false, false, false, false, false, false, false, false, false, false, false, false] rfl rfl (any_of HT_.out (by kernel_rfl)) (fun _ _ _ h => h) (Or.inl ⟨by rfl, ?_⟩) ?_ ?_
                                  rotate_left
                                  · intro w'
                                    first | (go_simp; with_reducible rfl) | (go_simp; (try unfold Instr.field); go_simp; (try simp only [asAgg]); go_simp; with_reducible rfl)
                                  rotate_left
                                  · simp only [Act.put, List.setIfInBounds_toArray, List.set_cons_zero, List.set_cons_succ, i64_w, i32_w]
                                    rfl
                                  refine pure_ (i := 8) (N := some 66) (v := ?_) (a' := ?_) #[true, true, false, false, false, false, true, false, true, false, false, false, false, false, false, false, false, false, false] rfl rfl (any_of HT_.out (by kernel_rfl)) (fun _ _ _ h => h) (Or.inl ⟨by rfl, ?_⟩) ?_ ?_
                                  rotate_left
                                  · intro w'
                                    first | (go_simp; with_reducible rfl) | (go_simp; (try unfold Instr.field); go_simp; (try simp only [asAgg]); go_simp; with_reducible rfl)
                                  rotate_left
                                  · simp only [Act.put, List.setIfInBounds_toArray, List.set_cons_zero, List.set_cons_succ, i64_w, i32_w]
                                    rfl
                                  refine pure_ (i := 11) (N := some 69) (v := ?_) (a' := ?_) #[true, true, false, false, false, false, true, false, true, false, false, true, false, false, false, false, false, false, false] rfl rfl (any_of HT_.out (by kernel_rfl)) (fun _ _ _ h => h) (Or.inl ⟨by rfl, ?_⟩) ?_ ?_
                                  rotate_left
                                  · intro w'
                                    first | (go_simp; with_reducible rfl) | (go_simp; (try unfold Instr.field); go_simp; (try simp only [asAgg]); go_simp; with_reducible rfl)
                                  rotate_left
                                  · simp only [Act.put, List.setIfInBounds_toArray, List.set_cons_zero, List.set_cons_succ, i64_w, i32_w]
                                    rfl
                                  refine take_ (i := 2) (N := some 60) (v := ?_) (a' := ?_) #[true, true, true, false, false, false, true, false, true, false, false, true, false, false, false, false, false, false, false] rfl rfl (take_ofW HT_.out HW_.out (by kernel_rfl)) (fun _ _ _ h => h) (Or.inl ⟨by rfl, ?_⟩) hHeld ?_ ?_
                                  rotate_left
                                  · rintro w' ⟨s0, s1, s2, s3⟩
                                    go_simp
                                    with_reducible rfl
                                  rotate_left
                                  · simp only [Act.put, List.setIfInBounds_toArray, List.set_cons_zero, List.set_cons_succ, i64_w, i32_w]
                                    rfl
                                  refine take_ (i := 7) (N := some 65) (v := ?_) (a' := ?_) #[true, true, true, false, false, false, true, true, true, false, false, true, false, false, false, false, false, false, false] rfl rfl (take_ofW HT_.out HW_.out (by kernel_rfl)) (fun _ _ _ h => h) (Or.inl ⟨by rfl, ?_⟩) hHeld ?_ ?_
                                  rotate_left
                                  · rintro w' ⟨s0, s1, s2, s3⟩
                                    go_simp
                                    with_reducible rfl
                                  rotate_left
                                  · simp only [Act.put, List.setIfInBounds_toArray, List.set_cons_zero, List.set_cons_succ, i64_w, i32_w]
                                    rfl
                                  refine take_ (i := 9) (N := some 67) (v := ?_) (a' := ?_) #[true, true, true, false, false, false, true, true, true, true, false, true, false, false, false, false, false, false, false] rfl rfl (take_ofW HT_.out HW_.out (by kernel_rfl)) (fun _ _ _ h => h) (Or.inl ⟨by rfl, ?_⟩) hHeld ?_ ?_
                                  rotate_left
                                  · rintro w' ⟨s0, s1, s2, s3⟩
                                    go_simp
                                    with_reducible rfl
                                  rotate_left
                                  · simp only [Act.put, List.setIfInBounds_toArray, List.set_cons_zero, List.set_cons_succ, i64_w, i32_w]
                                    rfl
                                  refine take_ (i := 12) (N := some 70) (v := ?_) (a' := ?_) #[true, true, true, false, false, false, true, true, true, true, false, true, true, false, false, false, false, false, false] rfl rfl (take_ofW HT_.out HW_.out (by kernel_rfl)) (fun _ _ _ h => h) (Or.inl ⟨by rfl, ?_⟩) hHeld ?_ ?_
                                  rotate_left
                                  · rintro w' ⟨s0, s1, s2, s3⟩
                                    go_simp
                                    with_reducible rfl
                                  rotate_left
                                  · simp only [Act.put, List.setIfInBounds_toArray, List.set_cons_zero, List.set_cons_succ, i64_w, i32_w]
                                    rfl
                                  refine join_ (σ := Value) 6 #[true, true, true, true, true, true, true, true, true, true, true, true, true, false, false, false, false, false, false] (fun s_ => [(61, .string t288), (68, s_), (62, .string ((⟨#[118, 105, 112, 32]⟩ : ByteArray) ++ t288)), (63, .string (((⟨#[118, 105, 112, 32]⟩ : ByteArray) ++ t288) ++ (⟨#[32]⟩ : ByteArray)))]) (fun s_ w' => (w'.cell? ⟨gb287, 0, none⟩ = some (.int .i64 ((rd_T61 l0_2 x54_2).f0)) ∧ w'.cell? ⟨gb287, 1, none⟩ = some (.int .i64 ((rd_T61 l0_2 x54_2).f1)) ∧ w'.cell? ⟨gb287, 2, none⟩ = some (.int .i64 ((rd_T61 l0_2 x54_2).f2)) ∧ w'.cell? ⟨gb287, 3, none⟩ = some (.slice A286_3 ((rd_T61 l0_2 x54_2).f3).length c286_3)) ∧ (Kd.R (Kd.int .i64) 2 w' w.heap.size (fun _ => True) s_ y289) ∧ (w'.heap[gb277]? = some (.cells #[.int .i64 a0_0, .slice A0_1 l0_1.length c0_1, .slice (some ad286) l0_2.length c0_2] 33 (0, 0))) ∧ (w'.heap[gb287]? = some (.cells #[.int .i64 ((rd_T61 l0_2 x54_2).f0), .int .i64 ((rd_T61 l0_2 x54_2).f1), .int .i64 ((rd_T61 l0_2 x54_2).f2), .slice A286_3 ((rd_T61 l0_2 x54_2).f3).length c286_3] 61 (0, 0))) ∧ (Below w.heap.size w w')) ?_ ?_
                                  rotate_left
                                  · intro hCont
                                    refine two_ (i := 3) (j := 10) (Ni := some 61) (Nj := some 68) #[true, true, true, true, false, false, true, true, true, true, false, true, true, false, false, false, false, false, false] #[true, true, true, false, false, false, true, true, true, true, true, true, true, false, false, false, false, false, false] rfl rfl rfl rfl (two_of HT_.out (by kernel_rfl)) (by decide) (by decide) (fun K hK => ?_) (fun K hK => ?_)
                                    · skip
                                      refine goes_ Tryd.func39 (by kernel_rfl) rfl #[.int .i64 ((rd_T61 l0_2 x54_2).f0)] (by rfl) rfl rfl (by (try simp only [List.map_toArray, List.map_cons, List.map_nil]); first | done | rfl | (simp only [List.length_drop, List.length_take]; rfl)) ?_
                                      with_reducible refine (impl_addressText.calls ((rd_T61 l0_2 x54_2).f0) t288 _ ?tab_ A40.out).mono ?_
                                      (case tab_ => exact (Go.Joins.tab_stays (show Tryd.prog.globalNamed "internal/strconv.uint64pow10" = some 0 by kernel_rfl) ht_ (by repeat (first | (with_reducible first | exact HB.out | apply below_alloc | apply pw_below_drewN | apply below_drew1 | refine below_set ?_ GE277.out | refine below_set ?_ GE280.out | refine below_set ?_ GE287.out) | exact HB.out | exact Below.refl _ _)) (Nat.le_refl _)))
                                      rintro e w53 ⟨rfl, hb⟩
                                      refine ⟨_, rfl, ?_⟩
                                      have n0_ := Aside0.mk (blk_below (g := gb277) (o := .cells #[.int .i64 a0_0, .slice A0_1 l0_1.length c0_1, .slice (some ad286) l0_2.length c0_2] 33 (0, 0)) (by (with_reducible repeat (first | refine blk_drewN ?_ _ | refine blk_drew ?_ | refine blk_alloc ?_ _)); exact BK277.out) hb)
                                      have n1_ := Aside0.mk (blk_below (g := gb287) (o := .cells #[.int .i64 ((rd_T61 l0_2 x54_2).f0), .int .i64 ((rd_T61 l0_2 x54_2).f1), .int .i64 ((rd_T61 l0_2 x54_2).f2), .slice A286_3 ((rd_T61 l0_2 x54_2).f3).length c286_3] 61 (0, 0)) (by (with_reducible repeat (first | refine blk_drewN ?_ _ | refine blk_drew ?_ | refine blk_alloc ?_ _)); exact BK287.out) hb)
                                      have n2_ := Aside0.mk (below_step (by repeat (first | (with_reducible first | exact HB.out | apply below_alloc | apply pw_below_drewN | apply below_drew1 | refine below_set ?_ GE277.out | refine below_set ?_ GE287.out) | exact HB.out)) hb)
                                      clear BK277
                                      clear BK287
                                      clear HB
                                      have BK277 := n0_
                                      have BK287 := n1_
                                      have HB := n2_
                                      clear n0_ n1_ n2_
                                      (try clear hb)
                                      (try clear hb2)
                                      (try clear hk)
                                      (try clear hi)
                                      refine hK.out _ _ ⟨(blk_cell BK287.out 0).trans rfl, (blk_cell BK287.out 1).trans rfl, (blk_cell BK287.out 2).trans rfl, (blk_cell BK287.out 3).trans rfl⟩ (fun hHeld => ?_)
                                      clear hK K
                                      refine norm_ (a' := ?_) ?_ ?_
                                      rotate_left
                                      · show Act.put _ (some 61) _ = _
                                        simp only [Act.put, List.setIfInBounds_toArray, List.set_cons_zero, List.set_cons_succ, i64_w, i32_w]
                                        rfl
                                      refine pure_ (i := 4) (N := some 62) (v := ?_) (a' := ?_) #[true, true, true, true, true, false, true, true, true, true, false, true, true, false, false, false, false, false, false] rfl rfl (any_of HT_.out (by kernel_rfl)) (fun _ _ _ h => h) (Or.inl ⟨by rfl, ?_⟩) ?_ ?_
                                      rotate_left
                                      · intro w'
                                        first | (go_simp; with_reducible rfl) | (go_simp; (try unfold Instr.field); go_simp; (try simp only [asAgg]); go_simp; with_reducible rfl)
                                      rotate_left
                                      · simp only [Act.put, List.setIfInBounds_toArray, List.set_cons_zero, List.set_cons_succ, i64_w, i32_w]
                                        rfl
                                      refine pure_ (i := 5) (N := some 63) (v := ?_) (a' := ?_) #[true, true, true, true, true, true, true, true, true, true, false, true, true, false, false, false, false, false, false] rfl rfl (any_of HT_.out (by kernel_rfl)) (fun _ _ _ h => h) (Or.inl ⟨by rfl, ?_⟩) ?_ ?_
                                      rotate_left
                                      · intro w'
                                        first | (go_simp; with_reducible rfl) | (go_simp; (try unfold Instr.field); go_simp; (try simp only [asAgg]); go_simp; with_reducible rfl)
                                      rotate_left
                                      · simp only [Act.put, List.setIfInBounds_toArray, List.set_cons_zero, List.set_cons_succ, i64_w, i32_w]
                                        rfl
                                      refine one_ (i := 10) (N := some 68) #[true, true, true, true, true, true, true, true, true, true, true, true, true, false, false, false, false, false, false] rfl rfl (one_of HT_.out (by kernel_rfl)) (by decide) (fun K hK => ?_)
                                      refine Kd.R_lit_step (Kd.int .i64) _ 2 ?hg (N := 68) ?hd (xs := ([(rd_T61 l0_2 x54_2).f1, (rd_T61 l0_2 x54_2).f2] : List Int)) (inner := [.int .i64 ((rd_T61 l0_2 x54_2).f1), .int .i64 ((rd_T61 l0_2 x54_2).f2)]) (ok := fun _ => True) (okp := fun _ => True) ?hr ?hp (fun _ hk => hk) trivial (Below.refl _ _) (Nat.le_refl _) (by simp) ?_; (case hd => rfl); (case hg => rfl); (case hr => first | (go_simp; done) | (go_simp; rfl)); (case hp => exact (Reps.one (show Kd.M (Kd.int .i64) _ _ _ ((rd_T61 l0_2 x54_2).f1) [.int .i64 ((rd_T61 l0_2 x54_2).f1)] from rfl) (Reps.one (show Kd.M (Kd.int .i64) _ _ _ ((rd_T61 l0_2 x54_2).f2) [.int .i64 ((rd_T61 l0_2 x54_2).f2)] from rfl) (Reps.none _ _))))
                                      intro v290 w54 ho55 hb hg_ hnew_
                                      clear hg_ hnew_
                                      (first | rw [← Ny289.out] at ho55 | (simp only [Int.reduceToNat] at ho55; rw [← Ny289.out] at ho55))
                                      have n0_ := Aside0.mk (Kd.R_lower ho55 (below_size (by repeat (first | (with_reducible first | exact HB.out | apply below_alloc | apply pw_below_drewN | apply below_drew1 | refine below_set ?_ GE277.out | refine below_set ?_ GE287.out) | exact HB.out))))
                                      have n1_ := Aside0.mk (blk_below (g := gb277) (o := .cells #[.int .i64 a0_0, .slice A0_1 l0_1.length c0_1, .slice (some ad286) l0_2.length c0_2] 33 (0, 0)) (by (with_reducible repeat (first | refine blk_drewN ?_ _ | refine blk_drew ?_ | refine blk_alloc ?_ _)); exact BK277.out) hb)
                                      have n2_ := Aside0.mk (blk_below (g := gb287) (o := .cells #[.int .i64 ((rd_T61 l0_2 x54_2).f0), .int .i64 ((rd_T61 l0_2 x54_2).f1), .int .i64 ((rd_T61 l0_2 x54_2).f2), .slice A286_3 ((rd_T61 l0_2 x54_2).f3).length c286_3] 61 (0, 0)) (by (with_reducible repeat (first | refine blk_drewN ?_ _ | refine blk_drew ?_ | refine blk_alloc ?_ _)); exact BK287.out) hb)
                                      have n3_ := Aside0.mk (below_step (by repeat (first | (with_reducible first | exact HB.out | apply below_alloc | apply pw_below_drewN | apply below_drew1 | refine below_set ?_ GE277.out | refine below_set ?_ GE287.out) | exact HB.out)) hb)
                                      clear BK277
                                      clear BK287
                                      clear HB
                                      have HO291 := n0_
                                      have BK277 := n1_
                                      have BK287 := n2_
                                      have HB := n3_
                                      clear n0_ n1_ n2_ n3_
                                      clear hb ho55
                                      refine hK.out _ _ ⟨(blk_cell BK287.out 0).trans rfl, (blk_cell BK287.out 1).trans rfl, (blk_cell BK287.out 2).trans rfl, (blk_cell BK287.out 3).trans rfl⟩ (fun hHeld => ?_)
                                      clear hK K
                                      refine norm_ (a' := ?_) ?_ ?_
                                      rotate_left
                                      · show Act.put _ (some 68) _ = _
                                        simp only [Act.put, List.setIfInBounds_toArray, List.set_cons_zero, List.set_cons_succ, i64_w, i32_w]
                                        rfl
                                      exact norm_ (by simp only [putAll, Act.put, List.setIfInBounds_toArray, List.set_cons_zero, List.set_cons_succ]) (hCont (v290) _ ⟨hHeld, (by (with_reducible repeat (first | apply Kd.R_alloc | apply Kd.R_drewN | apply Kd.R_drew)); exact HO291.out), (by (with_reducible repeat (first | refine blk_drewN ?_ _ | refine blk_drew ?_ | refine blk_alloc ?_ _)); exact BK277.out), (by (with_reducible repeat (first | refine blk_drewN ?_ _ | refine blk_drew ?_ | refine blk_alloc ?_ _)); exact BK287.out), (by repeat (first | (with_reducible first | exact HB.out | apply below_alloc | apply pw_below_drewN | apply below_drew1 | refine below_set ?_ GE277.out | refine below_set ?_ GE287.out) | exact HB.out))⟩)
                                    · skip
                                      refine Kd.R_lit_step (Kd.int .i64) _ 2 ?hg (N := 68) ?hd (xs := ([(rd_T61 l0_2 x54_2).f1, (rd_T61 l0_2 x54_2).f2] : List Int)) (inner := [.int .i64 ((rd_T61 l0_2 x54_2).f1), .int .i64 ((rd_T61 l0_2 x54_2).f2)]) (ok := fun _ => True) (okp := fun _ => True) ?hr ?hp (fun _ hk => hk) trivial (Below.refl _ _) (Nat.le_refl _) (by simp) ?_; (case hd => rfl); (case hg => rfl); (case hr => first | (go_simp; done) | (go_simp; rfl)); (case hp => exact (Reps.one (show Kd.M (Kd.int .i64) _ _ _ ((rd_T61 l0_2 x54_2).f1) [.int .i64 ((rd_T61 l0_2 x54_2).f1)] from rfl) (Reps.one (show Kd.M (Kd.int .i64) _ _ _ ((rd_T61 l0_2 x54_2).f2) [.int .i64 ((rd_T61 l0_2 x54_2).f2)] from rfl) (Reps.none _ _))))
                                      intro v290 w53 ho54 hb hg_ hnew_
                                      clear hg_ hnew_
                                      (first | rw [← Ny289.out] at ho54 | (simp only [Int.reduceToNat] at ho54; rw [← Ny289.out] at ho54))
                                      have n0_ := Aside0.mk (Kd.R_lower ho54 (below_size (by repeat (first | (with_reducible first | exact HB.out | apply below_alloc | apply pw_below_drewN | apply below_drew1 | refine below_set ?_ GE277.out | refine below_set ?_ GE287.out) | exact HB.out))))
                                      have n1_ := Aside0.mk (blk_below (g := gb277) (o := .cells #[.int .i64 a0_0, .slice A0_1 l0_1.length c0_1, .slice (some ad286) l0_2.length c0_2] 33 (0, 0)) (by (with_reducible repeat (first | refine blk_drewN ?_ _ | refine blk_drew ?_ | refine blk_alloc ?_ _)); exact BK277.out) hb)
                                      have n2_ := Aside0.mk (blk_below (g := gb287) (o := .cells #[.int .i64 ((rd_T61 l0_2 x54_2).f0), .int .i64 ((rd_T61 l0_2 x54_2).f1), .int .i64 ((rd_T61 l0_2 x54_2).f2), .slice A286_3 ((rd_T61 l0_2 x54_2).f3).length c286_3] 61 (0, 0)) (by (with_reducible repeat (first | refine blk_drewN ?_ _ | refine blk_drew ?_ | refine blk_alloc ?_ _)); exact BK287.out) hb)
                                      have n3_ := Aside0.mk (below_step (by repeat (first | (with_reducible first | exact HB.out | apply below_alloc | apply pw_below_drewN | apply below_drew1 | refine below_set ?_ GE277.out | refine below_set ?_ GE287.out) | exact HB.out)) hb)
                                      clear BK277
                                      clear BK287
                                      clear HB
                                      have HO291 := n0_
                                      have BK277 := n1_
                                      have BK287 := n2_
                                      have HB := n3_
                                      clear n0_ n1_ n2_ n3_
                                      clear hb ho54
                                      refine hK.out _ _ ⟨(blk_cell BK287.out 0).trans rfl, (blk_cell BK287.out 1).trans rfl, (blk_cell BK287.out 2).trans rfl, (blk_cell BK287.out 3).trans rfl⟩ (fun hHeld => ?_)
                                      clear hK K
                                      refine norm_ (a' := ?_) ?_ ?_
                                      rotate_left
                                      · show Act.put _ (some 68) _ = _
                                        simp only [Act.put, List.setIfInBounds_toArray, List.set_cons_zero, List.set_cons_succ, i64_w, i32_w]
                                        rfl
                                      refine one_ (i := 3) (N := some 61) #[true, true, true, true, false, false, true, true, true, true, true, true, true, false, false, false, false, false, false] rfl rfl (one_of HT_.out (by kernel_rfl)) (by decide) (fun K hK => ?_)
                                      refine goes_ Tryd.func39 (by kernel_rfl) rfl #[.int .i64 ((rd_T61 l0_2 x54_2).f0)] (by rfl) rfl rfl (by (try simp only [List.map_toArray, List.map_cons, List.map_nil]); first | done | rfl | (simp only [List.length_drop, List.length_take]; rfl)) ?_
                                      with_reducible refine (impl_addressText.calls ((rd_T61 l0_2 x54_2).f0) t288 _ ?tab_ A40.out).mono ?_
                                      (case tab_ => exact (Go.Joins.tab_stays (show Tryd.prog.globalNamed "internal/strconv.uint64pow10" = some 0 by kernel_rfl) ht_ (by repeat (first | (with_reducible first | exact HB.out | apply below_alloc | apply pw_below_drewN | apply below_drew1 | refine below_set ?_ GE277.out | refine below_set ?_ GE280.out | refine below_set ?_ GE287.out) | exact HB.out | exact Below.refl _ _)) (Nat.le_refl _)))
                                      rintro e w55 ⟨rfl, hb⟩
                                      refine ⟨_, rfl, ?_⟩
                                      have n0_ := Aside0.mk (Kd.R_below (by (with_reducible repeat (first | apply Kd.R_alloc | apply Kd.R_drewN | apply Kd.R_drew)); exact HO291.out) hb)
                                      have n1_ := Aside0.mk (blk_below (g := gb277) (o := .cells #[.int .i64 a0_0, .slice A0_1 l0_1.length c0_1, .slice (some ad286) l0_2.length c0_2] 33 (0, 0)) (by (with_reducible repeat (first | refine blk_drewN ?_ _ | refine blk_drew ?_ | refine blk_alloc ?_ _)); exact BK277.out) hb)
                                      have n2_ := Aside0.mk (blk_below (g := gb287) (o := .cells #[.int .i64 ((rd_T61 l0_2 x54_2).f0), .int .i64 ((rd_T61 l0_2 x54_2).f1), .int .i64 ((rd_T61 l0_2 x54_2).f2), .slice A286_3 ((rd_T61 l0_2 x54_2).f3).length c286_3] 61 (0, 0)) (by (with_reducible repeat (first | refine blk_drewN ?_ _ | refine blk_drew ?_ | refine blk_alloc ?_ _)); exact BK287.out) hb)
                                      have n3_ := Aside0.mk (below_step (by repeat (first | (with_reducible first | exact HB.out | apply below_alloc | apply pw_below_drewN | apply below_drew1 | refine below_set ?_ GE277.out | refine below_set ?_ GE287.out) | exact HB.out)) hb)
                                      clear HO291
                                      clear BK277
                                      clear BK287
                                      clear HB
                                      have HO291 := n0_
                                      have BK277 := n1_
                                      have BK287 := n2_
                                      have HB := n3_
                                      clear n0_ n1_ n2_ n3_
                                      (try clear hb)
                                      (try clear hb2)
                                      (try clear hk)
                                      (try clear hi)
                                      refine hK.out _ _ ⟨(blk_cell BK287.out 0).trans rfl, (blk_cell BK287.out 1).trans rfl, (blk_cell BK287.out 2).trans rfl, (blk_cell BK287.out 3).trans rfl⟩ (fun hHeld => ?_)
                                      clear hK K
                                      refine norm_ (a' := ?_) ?_ ?_
                                      rotate_left
                                      · show Act.put _ (some 61) _ = _
                                        simp only [Act.put, List.setIfInBounds_toArray, List.set_cons_zero, List.set_cons_succ, i64_w, i32_w]
                                        rfl
                                      refine pure_ (i := 4) (N := some 62) (v := ?_) (a' := ?_) #[true, true, true, true, true, false, true, true, true, true, true, true, true, false, false, false, false, false, false] rfl rfl (any_of HT_.out (by kernel_rfl)) (fun _ _ _ h => h) (Or.inl ⟨by rfl, ?_⟩) ?_ ?_
                                      rotate_left
                                      · intro w'
                                        first | (go_simp; with_reducible rfl) | (go_simp; (try unfold Instr.field); go_simp; (try simp only [asAgg]); go_simp; with_reducible rfl)
                                      rotate_left
                                      · simp only [Act.put, List.setIfInBounds_toArray, List.set_cons_zero, List.set_cons_succ, i64_w, i32_w]
                                        rfl
                                      refine pure_ (i := 5) (N := some 63) (v := ?_) (a' := ?_) #[true, true, true, true, true, true, true, true, true, true, true, true, true, false, false, false, false, false, false] rfl rfl (any_of HT_.out (by kernel_rfl)) (fun _ _ _ h => h) (Or.inl ⟨by rfl, ?_⟩) ?_ ?_
                                      rotate_left
                                      · intro w'
                                        first | (go_simp; with_reducible rfl) | (go_simp; (try unfold Instr.field); go_simp; (try simp only [asAgg]); go_simp; with_reducible rfl)
                                      rotate_left
                                      · simp only [Act.put, List.setIfInBounds_toArray, List.set_cons_zero, List.set_cons_succ, i64_w, i32_w]
                                        rfl
                                      exact norm_ (by simp only [putAll, Act.put, List.setIfInBounds_toArray, List.set_cons_zero, List.set_cons_succ]) (hCont (v290) _ ⟨hHeld, (by (with_reducible repeat (first | apply Kd.R_alloc | apply Kd.R_drewN | apply Kd.R_drew)); exact HO291.out), (by (with_reducible repeat (first | refine blk_drewN ?_ _ | refine blk_drew ?_ | refine blk_alloc ?_ _)); exact BK277.out), (by (with_reducible repeat (first | refine blk_drewN ?_ _ | refine blk_drew ?_ | refine blk_alloc ?_ _)); exact BK287.out), (by repeat (first | (with_reducible first | exact HB.out | apply below_alloc | apply pw_below_drewN | apply below_drew1 | refine below_set ?_ GE277.out | refine below_set ?_ GE287.out) | exact HB.out))⟩)
                                  rintro v290 w56 ⟨hS_, h0_, h1_, h2_, h3_⟩
                                  have n0_ : Aside0 (Kd.R (Kd.int .i64) 2 w56 w.heap.size (fun _ => True) v290 y289) := ⟨h0_⟩
                                  have n1_ : Aside0 (w56.heap[gb277]? = some (.cells #[.int .i64 a0_0, .slice A0_1 l0_1.length c0_1, .slice (some ad286) l0_2.length c0_2] 33 (0, 0))) := ⟨h1_⟩
                                  have n2_ : Aside0 (w56.heap[gb287]? = some (.cells #[.int .i64 ((rd_T61 l0_2 x54_2).f0), .int .i64 ((rd_T61 l0_2 x54_2).f1), .int .i64 ((rd_T61 l0_2 x54_2).f2), .slice A286_3 ((rd_T61 l0_2 x54_2).f3).length c286_3] 61 (0, 0))) := ⟨h2_⟩
                                  have n3_ : Aside0 (Below w.heap.size w w56) := ⟨h3_⟩
                                  clear BK277
                                  clear BK287
                                  clear HB
                                  clear h0_ h1_ h2_ h3_
                                  have HO291 := n0_
                                  have BK277 := n1_
                                  have BK287 := n2_
                                  have HB := n3_
                                  clear n0_ n1_ n2_ n3_
                                  have hHeld : w56.cell? ⟨gb287, 0, none⟩ = some (.int .i64 ((rd_T61 l0_2 x54_2).f0)) ∧ w56.cell? ⟨gb287, 1, none⟩ = some (.int .i64 ((rd_T61 l0_2 x54_2).f1)) ∧ w56.cell? ⟨gb287, 2, none⟩ = some (.int .i64 ((rd_T61 l0_2 x54_2).f2)) ∧ w56.cell? ⟨gb287, 3, none⟩ = some (.slice A286_3 ((rd_T61 l0_2 x54_2).f3).length c286_3) := hS_
                                  refine norm_ (a' := ?_) ?_ ?_
                                  rotate_left
                                  · simp only [putAll, Act.put, List.setIfInBounds_toArray, List.set_cons_zero, List.set_cons_succ]
                                    rfl
                                  refine one_ (i := 13) (N := some 71) #[true, true, true, true, true, true, true, true, true, true, true, true, true, true, false, false, false, false, false] rfl rfl (one_of HT_.out (by kernel_rfl)) (by decide) (fun K hK => ?_)
                                  refine Kd.R_append_rows_step (Kd.int .i64) (w0 := w) w.heap.size (by rfl) (.tmp 68) (.tmp 70) 50 2 (.int .i64 0) 8 rfl Tryd.underlying50 info2 rfl (by decide) (by omega) v290 y289 ((rd_T61 l0_2 x54_2).f3) _ _ _ (fun _ => True) (fun _ => False) rfl rfl ?aO ?aR (fun _ _ h => h) (fun _ h => h.elim) ?aF ?aB ?aS ?aL ?_
                                  (case aR => repeat (first | exact (Kd.C_below HR286_3.out HB.out) | (with_reducible refine Kd.C_alloc ?_ _) | (with_reducible refine Kd.C_drewN ?_ _) | (with_reducible refine Kd.C_drew ?_)))
                                  (case aB => exact (by repeat (first | (with_reducible first | exact HB.out | apply below_alloc | apply pw_below_drewN | apply below_drew1 | refine below_set ?_ GE277.out | refine below_set ?_ GE287.out) | exact HB.out)))
                                  (case aF => exact (fun _ _ => trivial))
                                  (case aO => exact (by (with_reducible repeat (first | apply Kd.R_alloc | apply Kd.R_drewN | apply Kd.R_drew)); exact HO291.out))
                                  (case aS => exact (below_size (by repeat (first | (with_reducible first | exact HB.out | apply below_alloc | apply pw_below_drewN | apply below_drew1 | refine below_set ?_ GE277.out | refine below_set ?_ GE287.out) | exact HB.out))))
                                  (case aL => have := LMc43.out; omega)
                                  intro v293 w57 ho hb hg hat
                                  rw [← Ny292.out] at ho
                                  have n0_ := Aside0.mk (blk_grown (g := gb277) (o := .cells #[.int .i64 a0_0, .slice A0_1 l0_1.length c0_1, .slice (some ad286) l0_2.length c0_2] 33 (0, 0)) (by (with_reducible repeat (first | refine blk_drewN ?_ _ | refine blk_drew ?_ | refine blk_alloc ?_ _)); exact BK277.out) hg (Kd.R_ne HO291.out BK277.out (by decide)))
                                  have n1_ := Aside0.mk (blk_grown (g := gb287) (o := .cells #[.int .i64 ((rd_T61 l0_2 x54_2).f0), .int .i64 ((rd_T61 l0_2 x54_2).f1), .int .i64 ((rd_T61 l0_2 x54_2).f2), .slice A286_3 ((rd_T61 l0_2 x54_2).f3).length c286_3] 61 (0, 0)) (by (with_reducible repeat (first | refine blk_drewN ?_ _ | refine blk_drew ?_ | refine blk_alloc ?_ _)); exact BK287.out) hg (Kd.R_ne HO291.out BK287.out (by decide)))
                                  have n2_ := Aside0.mk (hb)
                                  have n3_ := Aside0.mk (ho)
                                  clear BK277
                                  clear BK287
                                  clear HB
                                  clear HO291
                                  have BK277 := n0_
                                  have BK287 := n1_
                                  have HB := n2_
                                  have HO294 := n3_
                                  clear n0_ n1_ n2_ n3_
                                  clear ho hb hg hat
                                  obtain ⟨Ao58, co58, eo58⟩ := Kd.R_slice HO294.out
                                  (first | subst eo58 | (injection eo58 with f1_ f2_ f3_; have f4_ := f1_.symm; have f5_ := f3_.symm; clear f1_ f2_ f3_; subst f4_; subst f5_))
                                  refine hK.out _ _ ⟨(blk_cell BK287.out 0).trans rfl, (blk_cell BK287.out 1).trans rfl, (blk_cell BK287.out 2).trans rfl, (blk_cell BK287.out 3).trans rfl⟩ (fun hHeld => ?_)
                                  clear hK K
                                  refine norm_ (a' := ?_) ?_ ?_
                                  rotate_left
                                  · show Act.put _ (some 71) _ = _
                                    simp only [Act.put, List.setIfInBounds_toArray, List.set_cons_zero, List.set_cons_succ, i64_w, i32_w]
                                    rfl
                                  refine one_ (i := 14) (N := some 72) #[true, true, true, true, true, true, true, true, true, true, true, true, true, true, true, false, false, false, false] rfl rfl (one_of HT_.out (by kernel_rfl)) (by decide) (fun K hK => ?_)
                                  refine goes_ Tryd.func41 (by kernel_rfl) rfl #[.string (⟨#[32]⟩ : ByteArray), .slice Ao58 y292.length co58] (by rfl) rfl rfl (by (try simp only [List.map_toArray, List.map_cons, List.map_nil]); first | done | rfl | (simp only [List.length_drop, List.length_take]; rfl)) ?_
                                  with_reducible refine (impl_decimals.calls (⟨#[32]⟩ : ByteArray) _ _ y292 t295 _ ?side1 ?side2 ?tab_ A44.out).mono ?_
                                  (case tab_ => exact (Go.Joins.tab_stays (show Tryd.prog.globalNamed "internal/strconv.uint64pow10" = some 0 by kernel_rfl) ht_ (by repeat (first | (with_reducible first | exact HB.out | apply below_alloc | apply pw_below_drewN | apply below_drew1 | refine below_set ?_ GE277.out | refine below_set ?_ GE280.out | refine below_set ?_ GE287.out) | exact HB.out | exact Below.refl _ _)) (Nat.le_refl _)))
                                  (case side1 => repeat (first | exact (Kd.R_reads' HO294.out).2.2 | (with_reducible refine Kd.C_alloc ?_ _) | (with_reducible refine Kd.C_drewN ?_ _) | (with_reducible refine Kd.C_drew ?_)))
                                  (case side2 => exact (Kd.R_reads' HO294.out).2.1)
                                  rintro e w59 ⟨rfl, hb⟩
                                  refine ⟨_, rfl, ?_⟩
                                  have n0_ := Aside0.mk (Kd.R_below (by (with_reducible repeat (first | apply Kd.R_alloc | apply Kd.R_drewN | apply Kd.R_drew)); exact HO294.out) hb)
                                  have n1_ := Aside0.mk (blk_below (g := gb277) (o := .cells #[.int .i64 a0_0, .slice A0_1 l0_1.length c0_1, .slice (some ad286) l0_2.length c0_2] 33 (0, 0)) (by (with_reducible repeat (first | refine blk_drewN ?_ _ | refine blk_drew ?_ | refine blk_alloc ?_ _)); exact BK277.out) hb)
                                  have n2_ := Aside0.mk (blk_below (g := gb287) (o := .cells #[.int .i64 ((rd_T61 l0_2 x54_2).f0), .int .i64 ((rd_T61 l0_2 x54_2).f1), .int .i64 ((rd_T61 l0_2 x54_2).f2), .slice A286_3 ((rd_T61 l0_2 x54_2).f3).length c286_3] 61 (0, 0)) (by (with_reducible repeat (first | refine blk_drewN ?_ _ | refine blk_drew ?_ | refine blk_alloc ?_ _)); exact BK287.out) hb)
                                  have n3_ := Aside0.mk (below_step (by repeat (first | (with_reducible first | exact HB.out | apply below_alloc | apply pw_below_drewN | apply below_drew1 | refine below_set ?_ GE277.out | refine below_set ?_ GE287.out) | exact HB.out)) hb)
                                  clear HO294
                                  clear BK277
                                  clear BK287
                                  clear HB
                                  have HO294 := n0_
                                  have BK277 := n1_
                                  have BK287 := n2_
                                  have HB := n3_
                                  clear n0_ n1_ n2_ n3_
                                  (try clear hb)
                                  (try clear hb2)
                                  (try clear hk)
                                  (try clear hi)
                                  refine hK.out _ _ ⟨(blk_cell BK287.out 0).trans rfl, (blk_cell BK287.out 1).trans rfl, (blk_cell BK287.out 2).trans rfl, (blk_cell BK287.out 3).trans rfl⟩ (fun hHeld => ?_)
                                  clear hK K
                                  refine norm_ (a' := ?_) ?_ ?_
                                  rotate_left
                                  · show Act.put _ (some 72) _ = _
                                    simp only [Act.put, List.setIfInBounds_toArray, List.set_cons_zero, List.set_cons_succ, i64_w, i32_w]
                                    rfl
                                  refine pure_ (i := 15) (N := some 73) (v := ?_) (a' := ?_) #[true, true, true, true, true, true, true, true, true, true, true, true, true, true, true, true, false, false, false] rfl rfl (any_of HT_.out (by kernel_rfl)) (fun _ _ _ h => h) (Or.inl ⟨by rfl, ?_⟩) ?_ ?_
                                  rotate_left
                                  · intro w'
                                    first | (go_simp; with_reducible rfl) | (go_simp; (try unfold Instr.field); go_simp; (try simp only [asAgg]); go_simp; with_reducible rfl)
                                  rotate_left
                                  · simp only [Act.put, List.setIfInBounds_toArray, List.set_cons_zero, List.set_cons_succ, i64_w, i32_w]
                                    rfl
                                  refine pure_ (i := 16) (N := some 74) (v := ?_) (a' := ?_) #[true, true, true, true, true, true, true, true, true, true, true, true, true, true, true, true, true, false, false] rfl rfl (any_of HT_.out (by kernel_rfl)) (fun _ _ _ h => h) (Or.inl ⟨by rfl, ?_⟩) ?_ ?_
                                  rotate_left
                                  · intro w'
                                    first | (go_simp; with_reducible rfl) | (go_simp; (try unfold Instr.field); go_simp; (try simp only [asAgg]); go_simp; with_reducible rfl)
                                  rotate_left
                                  · simp only [Act.put, List.setIfInBounds_toArray, List.set_cons_zero, List.set_cons_succ, i64_w, i32_w]
                                    rfl
                                  refine pure_ (i := 17) (N := some 75) (v := ?_) (a' := ?_) #[true, true, true, true, true, true, true, true, true, true, true, true, true, true, true, true, true, true, false] rfl rfl (any_of HT_.out (by kernel_rfl)) (fun _ _ _ h => h) (Or.inl ⟨by rfl, ?_⟩) ?_ ?_
                                  rotate_left
                                  · intro w'
                                    first | (go_simp; with_reducible rfl) | (go_simp; (try unfold Instr.field); go_simp; (try simp only [asAgg]); go_simp; with_reducible rfl)
                                  rotate_left
                                  · simp only [Act.put, List.setIfInBounds_toArray, List.set_cons_zero, List.set_cons_succ, i64_w, i32_w]
                                    rfl
                                  refine pure_ (i := 18) (N := some 3) (v := ?_) (a' := ?_) #[true, true, true, true, true, true, true, true, true, true, true, true, true, true, true, true, true, true, true] rfl rfl (any_of HT_.out (by kernel_rfl)) (fun _ _ _ h => h) (Or.inl ⟨by rfl, ?_⟩) ?_ ?_
                                  rotate_left
                                  · intro w'
                                    first | (go_simp; with_reducible rfl) | (go_simp; (try unfold Instr.field); go_simp; (try simp only [asAgg]); go_simp; with_reducible rfl)
                                  rotate_left
                                  · simp only [Act.put, List.setIfInBounds_toArray, List.set_cons_zero, List.set_cons_succ, i64_w, i32_w]
                                    rfl
                                  refine done_ (done_of HT_.out (by kernel_rfl)) ?_
                                  try go_wp2
                                  go_roundg k2
                                  case measure => have := HK1.out; have := HK2.out; omega
                                  case rel => exact ⟨(x3_2 ++ (((((⟨#[118, 105, 112, 32]⟩ : ByteArray) ++ t288) ++ (⟨#[32]⟩ : ByteArray)) ++ t295) ++ (⟨#[10]⟩ : ByteArray))), (wrap64 (x54_2 + 1)), (by first | rfl | (simp; done) | (simp [*]; done)), (by first | rfl | (simp; done) | (simp [*]; done)), H', ⟨by have := HK1.out; have := HK2.out; omega⟩, ⟨by (with_reducible repeat (first | refine blk_drewN ?_ _ | refine blk_drew ?_ | refine blk_alloc ?_ _)); exact BK277.out⟩, ⟨by repeat (first | (with_reducible first | exact HB.out | apply below_alloc | apply pw_below_drewN | apply below_drew1 | refine below_set ?_ GE277.out | refine below_set ?_ GE287.out) | exact HB.out)⟩⟩
                                · rw [if_neg c47] at H
                                  exact absurd H (by simp)
                              · rw [if_neg c46] at H
                                exact absurd H (by simp)
                            · rw [if_neg c45] at H
                              exact absurd H (by simp)
                          · rw [if_neg c43] at H
                            exact absurd H (by simp)
                        · rw [if_neg c42] at H
                          exact absurd H (by simp)
                      · rw [if_neg c41] at H
                        exact absurd H (by simp)
                    · rw [if_neg c39] at H
                      exact absurd H (by simp)
                  · rw [if_neg c38] at H
                    exact absurd H (by simp)
                · rw [if_neg c37] at H
                  have c37b0 : decide (x54_2 < (l0_2.length : Int)) = false := decide_eq_false c37
                  clear c37
                  obtain rfl := Option.some.inj H
                  go_wp2
                  go_ret
                  exact ⟨by first | rfl | (simp [errW_none, errW_some] <;> rfl) | (simp [*, errW_none, errW_some] <;> rfl), by repeat (first | (with_reducible first | exact HB.out | apply below_alloc | apply pw_below_drewN | apply below_drew1 | refine below_set ?_ GE277.out) | exact HB.out)⟩
    · rw [if_neg c4] at H
      exact absurd H (by simp)
  · rw [if_neg c3] at H
    exact absurd H (by simp)

end Go.Proofs.YtfmlhpoaipeoeaaDoor.QFnExactConfigText
