-- MADE BY PROGRAM (qprint.py): walks of the functions that the law FnExactConfigText reaches. Lean checks it.
import Derived.Test.YtfmlhpoaipeoeaaDoorQFnExactConfigTextx0
import Derived.Test.YtfmlhpoaipeoeaaDoorQFnExactConfigTextx4
import Derived.Test.YtfmlhpoaipeoeaaDoorIx
import Derived.StillTailTactics
import Derived.Test.YtfmlhpoaipeoeaaDoorShelf
import Derived.Lib.ItoaLen
import Derived.Lib.AppendIntMem
import Derived.Lib.SmallJoins
import Derived.Lib.LaidTab
namespace Go.Proofs.YtfmlhpoaipeoeaaDoor.QFnExactConfigText
open Go.RowKit Go.Proofs.YtfmlhpoaipeoeaaDoorW.PrintWords Go.Proofs.YtfmlhpoaipeoeaaDoorW.PrintLast Go.Proofs.YtfmlhpoaipeoeaaDoorW.PrintMore
attribute [local go_sem] max2_int min2_int max_two min_two max_three min_three max_four min_four   -- for this text's walks alone
set_option linter.unusedVariables false
set_option linter.unusedSimpArgs false

/-! ### cmp_Compare_int64: function 56 -/
def cmp_Compare_int64.f (a0 : Int) (a1 : Int) : Option (Int) := (cmp_isNaN_int64.f a0).bind fun t240 => ((cmp_isNaN_int64.f a1).bind fun t241 => (if t240 = true then (if t241 = true then (some 0) else (some (-1))) else (if t241 = true then (some 1) else (if a0 < a1 then (some (-1)) else (if a0 > a1 then (some 1) else (some 0))))))
set_option maxHeartbeats 8000000 in
set_option maxRecDepth 100000 in
theorem cmp_Compare_int64.calls (a0 : Int) (a1 : Int) (r : Int) (w : World) (h : cmp_Compare_int64.f a0 a1 = some r) :
    Calls Tryd.prog 56 #[.int .i64 a0, .int .i64 a1] w fun e w' => e = .returned (.int .i64 r) ∧ Drawn0 w w' := by
  have H : ((cmp_isNaN_int64.f a0).bind fun t240 => ((cmp_isNaN_int64.f a1).bind fun t241 => (if t240 = true then (if t241 = true then (some 0) else (some (-1))) else (if t241 = true then (some 1) else (if a0 < a1 then (some (-1)) else (if a0 > a1 then (some 1) else (some 0))))))) = some r := h
  clear h
  replace H := Option.bind_eq_some_iff.mp H
  obtain ⟨t240, A30, H⟩ := H
  replace H : ((cmp_isNaN_int64.f a1).bind fun t241 => (if t240 = true then (if t241 = true then (some 0) else (some (-1))) else (if t241 = true then (some 1) else (if a0 < a1 then (some (-1)) else (if a0 > a1 then (some 1) else (some 0)))))) = some r := H
  have A3 := Aside0.mk A30
  clear A30
  replace H := Option.bind_eq_some_iff.mp H
  obtain ⟨t241, A40, H⟩ := H
  replace H : (if t240 = true then (if t241 = true then (some 0) else (some (-1))) else (if t241 = true then (some 1) else (if a0 < a1 then (some (-1)) else (if a0 > a1 then (some 1) else (some 0))))) = some r := H
  have A4 := Aside0.mk A40
  clear A40
  by_cases c5 : t240 = true
  · subst c5
    have H1 : (if t241 = true then (some 0) else (some (-1))) = some r := by rw [if_pos rfl] at H; exact H
    clear H
    have H := H1
    clear H1
    by_cases c6 : t241 = true
    · subst c6
      have H1 : (some 0) = some r := by rw [if_pos rfl] at H; exact H
      clear H
      have H := H1
      clear H1
      obtain rfl := Option.some.inj H
      go_enter Tryd.func56, Tryd.ntmps56
      go_wp2_with (first | ((with_reducible refine gate_callee (f := 62) rfl ?_); refine goesL_ (some 8) rfl rfl Tryd.func62 (by kernel_rfl) rfl #[.int .i64 a0] rfl (by (try simp only [List.map_toArray, List.map_cons, List.map_nil]); first | done | rfl | (simp only [List.length_drop, List.length_take]; rfl)) ?_; (with_reducible refine (cmp_isNaN_int64.calls a0 true _ A3.out).mono ?_); rintro e w' ⟨rfl, ⟨nd, rfl⟩⟩; refine ⟨_, rfl, ?_⟩) | ((with_reducible refine gate_callee (f := 62) rfl ?_); refine goesL_ (some 10) rfl rfl Tryd.func62 (by kernel_rfl) rfl #[.int .i64 a1] rfl (by (try simp only [List.map_toArray, List.map_cons, List.map_nil]); first | done | rfl | (simp only [List.length_drop, List.length_take]; rfl)) ?_; (with_reducible refine (cmp_isNaN_int64.calls a1 true _ A4.out).mono ?_); rintro e w' ⟨rfl, ⟨nd, rfl⟩⟩; refine ⟨_, rfl, ?_⟩))
      go_ret
      exact ⟨by first | rfl | (simp; done) | (simp [*]; done), by repeat (first | exact Drawn0.refl _ | apply Drawn0.step)⟩
    · replace c6 := Bool.eq_false_iff.mpr c6
      subst c6
      have H1 : (some (-1)) = some r := by rw [if_neg (show ¬ (false = true) by decide)] at H; exact H
      clear H
      have H := H1
      clear H1
      obtain rfl := Option.some.inj H
      go_enter Tryd.func56, Tryd.ntmps56
      go_wp2_with (first | ((with_reducible refine gate_callee (f := 62) rfl ?_); refine goesL_ (some 8) rfl rfl Tryd.func62 (by kernel_rfl) rfl #[.int .i64 a0] rfl (by (try simp only [List.map_toArray, List.map_cons, List.map_nil]); first | done | rfl | (simp only [List.length_drop, List.length_take]; rfl)) ?_; (with_reducible refine (cmp_isNaN_int64.calls a0 true _ A3.out).mono ?_); rintro e w' ⟨rfl, ⟨nd, rfl⟩⟩; refine ⟨_, rfl, ?_⟩) | ((with_reducible refine gate_callee (f := 62) rfl ?_); refine goesL_ (some 10) rfl rfl Tryd.func62 (by kernel_rfl) rfl #[.int .i64 a1] rfl (by (try simp only [List.map_toArray, List.map_cons, List.map_nil]); first | done | rfl | (simp only [List.length_drop, List.length_take]; rfl)) ?_; (with_reducible refine (cmp_isNaN_int64.calls a1 false _ A4.out).mono ?_); rintro e w' ⟨rfl, ⟨nd, rfl⟩⟩; refine ⟨_, rfl, ?_⟩))
      go_ret
      exact ⟨by first | rfl | (simp; done) | (simp [*]; done), by repeat (first | exact Drawn0.refl _ | apply Drawn0.step)⟩
  · replace c5 := Bool.eq_false_iff.mpr c5
    subst c5
    have H1 : (if t241 = true then (some 1) else (if a0 < a1 then (some (-1)) else (if a0 > a1 then (some 1) else (some 0)))) = some r := by rw [if_neg (show ¬ (false = true) by decide)] at H; exact H
    clear H
    have H := H1
    clear H1
    by_cases c7 : t241 = true
    · subst c7
      have H1 : (some 1) = some r := by rw [if_pos rfl] at H; exact H
      clear H
      have H := H1
      clear H1
      obtain rfl := Option.some.inj H
      go_enter Tryd.func56, Tryd.ntmps56
      go_wp2_with (first | ((with_reducible refine gate_callee (f := 62) rfl ?_); refine goesL_ (some 8) rfl rfl Tryd.func62 (by kernel_rfl) rfl #[.int .i64 a0] rfl (by (try simp only [List.map_toArray, List.map_cons, List.map_nil]); first | done | rfl | (simp only [List.length_drop, List.length_take]; rfl)) ?_; (with_reducible refine (cmp_isNaN_int64.calls a0 false _ A3.out).mono ?_); rintro e w' ⟨rfl, ⟨nd, rfl⟩⟩; refine ⟨_, rfl, ?_⟩) | ((with_reducible refine gate_callee (f := 62) rfl ?_); refine goesL_ (some 10) rfl rfl Tryd.func62 (by kernel_rfl) rfl #[.int .i64 a1] rfl (by (try simp only [List.map_toArray, List.map_cons, List.map_nil]); first | done | rfl | (simp only [List.length_drop, List.length_take]; rfl)) ?_; (with_reducible refine (cmp_isNaN_int64.calls a1 true _ A4.out).mono ?_); rintro e w' ⟨rfl, ⟨nd, rfl⟩⟩; refine ⟨_, rfl, ?_⟩))
      go_ret
      exact ⟨by first | rfl | (simp; done) | (simp [*]; done), by repeat (first | exact Drawn0.refl _ | apply Drawn0.step)⟩
    · replace c7 := Bool.eq_false_iff.mpr c7
      subst c7
      have H1 : (if a0 < a1 then (some (-1)) else (if a0 > a1 then (some 1) else (some 0))) = some r := by rw [if_neg (show ¬ (false = true) by decide)] at H; exact H
      clear H
      have H := H1
      clear H1
      by_cases c8 : a0 < a1
      · rw [if_pos c8] at H
        have c8b0 : decide (a0 < a1) = true := decide_eq_true c8
        clear c8
        obtain rfl := Option.some.inj H
        go_enter Tryd.func56, Tryd.ntmps56
        go_wp2_with (first | ((with_reducible refine gate_callee (f := 62) rfl ?_); refine goesL_ (some 8) rfl rfl Tryd.func62 (by kernel_rfl) rfl #[.int .i64 a0] rfl (by (try simp only [List.map_toArray, List.map_cons, List.map_nil]); first | done | rfl | (simp only [List.length_drop, List.length_take]; rfl)) ?_; (with_reducible refine (cmp_isNaN_int64.calls a0 false _ A3.out).mono ?_); rintro e w' ⟨rfl, ⟨nd, rfl⟩⟩; refine ⟨_, rfl, ?_⟩) | ((with_reducible refine gate_callee (f := 62) rfl ?_); refine goesL_ (some 10) rfl rfl Tryd.func62 (by kernel_rfl) rfl #[.int .i64 a1] rfl (by (try simp only [List.map_toArray, List.map_cons, List.map_nil]); first | done | rfl | (simp only [List.length_drop, List.length_take]; rfl)) ?_; (with_reducible refine (cmp_isNaN_int64.calls a1 false _ A4.out).mono ?_); rintro e w' ⟨rfl, ⟨nd, rfl⟩⟩; refine ⟨_, rfl, ?_⟩))
        go_ret
        exact ⟨by first | rfl | (simp; done) | (simp [*]; done), by repeat (first | exact Drawn0.refl _ | apply Drawn0.step)⟩
      · rw [if_neg c8] at H
        have c8b0 : decide (a0 < a1) = false := decide_eq_false c8
        clear c8
        by_cases c9 : a0 > a1
        · rw [if_pos c9] at H
          have c9b0 : decide (a1 < a0) = true := decide_eq_true c9
          clear c9
          obtain rfl := Option.some.inj H
          go_enter Tryd.func56, Tryd.ntmps56
          go_wp2_with (first | ((with_reducible refine gate_callee (f := 62) rfl ?_); refine goesL_ (some 8) rfl rfl Tryd.func62 (by kernel_rfl) rfl #[.int .i64 a0] rfl (by (try simp only [List.map_toArray, List.map_cons, List.map_nil]); first | done | rfl | (simp only [List.length_drop, List.length_take]; rfl)) ?_; (with_reducible refine (cmp_isNaN_int64.calls a0 false _ A3.out).mono ?_); rintro e w' ⟨rfl, ⟨nd, rfl⟩⟩; refine ⟨_, rfl, ?_⟩) | ((with_reducible refine gate_callee (f := 62) rfl ?_); refine goesL_ (some 10) rfl rfl Tryd.func62 (by kernel_rfl) rfl #[.int .i64 a1] rfl (by (try simp only [List.map_toArray, List.map_cons, List.map_nil]); first | done | rfl | (simp only [List.length_drop, List.length_take]; rfl)) ?_; (with_reducible refine (cmp_isNaN_int64.calls a1 false _ A4.out).mono ?_); rintro e w' ⟨rfl, ⟨nd, rfl⟩⟩; refine ⟨_, rfl, ?_⟩))
          go_ret
          exact ⟨by first | rfl | (simp; done) | (simp [*]; done), by repeat (first | exact Drawn0.refl _ | apply Drawn0.step)⟩
        · rw [if_neg c9] at H
          have c9b0 : decide (a1 < a0) = false := decide_eq_false c9
          clear c9
          obtain rfl := Option.some.inj H
          go_enter Tryd.func56, Tryd.ntmps56
          go_wp2_with (first | ((with_reducible refine gate_callee (f := 62) rfl ?_); refine goesL_ (some 8) rfl rfl Tryd.func62 (by kernel_rfl) rfl #[.int .i64 a0] rfl (by (try simp only [List.map_toArray, List.map_cons, List.map_nil]); first | done | rfl | (simp only [List.length_drop, List.length_take]; rfl)) ?_; (with_reducible refine (cmp_isNaN_int64.calls a0 false _ A3.out).mono ?_); rintro e w' ⟨rfl, ⟨nd, rfl⟩⟩; refine ⟨_, rfl, ?_⟩) | ((with_reducible refine gate_callee (f := 62) rfl ?_); refine goesL_ (some 10) rfl rfl Tryd.func62 (by kernel_rfl) rfl #[.int .i64 a1] rfl (by (try simp only [List.map_toArray, List.map_cons, List.map_nil]); first | done | rfl | (simp only [List.length_drop, List.length_take]; rfl)) ?_; (with_reducible refine (cmp_isNaN_int64.calls a1 false _ A4.out).mono ?_); rintro e w' ⟨rfl, ⟨nd, rfl⟩⟩; refine ⟨_, rfl, ?_⟩))
          go_ret
          exact ⟨by first | rfl | (simp; done) | (simp [*]; done), by repeat (first | exact Drawn0.refl _ | apply Drawn0.step)⟩

/-! ### impl_compareVip: function 34 -/
def impl_compareVip.f (k : Nat) (a0_0 : Int) (a0_1 : Int) (a0_2 : Int) (l0_3 : List Int) (a1_0 : Int) (a1_1 : Int) (a1_2 : Int) (l1_3 : List Int) : Option (Int) := (cmp_Compare_int64.f a0_0 a1_0).bind fun t244 => ((cmp_Compare_int64.f a0_1 a1_1).bind fun t245 => ((cmp_Compare_int64.f a0_2 a1_2).bind fun t246 => ((cmp_Or_int.f k (([t244, t245, t246] : List Int))).bind fun t250 => (some t250))))
theorem impl_compareVip.mono : ∀ a0 a1 a2 a3 a4 a5 a6 a7 k, LeO (impl_compareVip.f k a0 a1 a2 a3 a4 a5 a6 a7) (impl_compareVip.f (k + 1) a0 a1 a2 a3 a4 a5 a6 a7) := by
  intro a0 a1 a2 a3 a4 a5 a6 a7 k
  unfold impl_compareVip.f
  repeat' first
      | (with_reducible exact cmp_Or_int.mono _ _)
      | (with_reducible exact LeO.refl _)
      | (with_reducible exact LeO.none _)
      | (with_reducible refine LeO.ite ?_ ?_)
      | (with_reducible refine LeO.bind ?_ (fun _ => ?_))
      | exact cmp_Or_int.mono _ _
      | exact LeO.none _
      | refine LeO.ite ?_ ?_
      | refine LeO.bind ?_ (fun _ => ?_)
def impl_compareVip.T1 : Bool × List (List Nat × List Nat) := (true, [([], []), ([0], [0]), ([], []), ([2], [2]), ([1, 3], [1, 3]), ([], []), ([5], [5]), ([], []), ([7], [7]), ([6, 8, 4], [6, 8]), ([], []), ([10], [10]), ([], []), ([12], [12]), ([11, 13, 9], [11, 13]), ([4, 9, 14], [4, 9, 14]), ([15, 14], [15]), ([16, 16, 0, 1, 2, 3, 4, 5, 6, 7, 8, 9, 10, 11, 12, 13, 14, 15, 16], [16])])
def impl_compareVip.B1 : List Nat := [0, 1, 0, 4, 15, 0, 32, 0, 128, 511, 0, 1024, 0, 4096, 16383, 32767, 65535, 131071]
theorem impl_compareVip.tab1 : rtab .any (opsOf Tryd.f34 1) = impl_compareVip.T1 := by kernel_rfl
theorem impl_compareVip.bits1 : waitsOk impl_compareVip.T1.2 impl_compareVip.B1 = true := by kernel_rfl
set_option maxHeartbeats 8000000 in
set_option maxRecDepth 100000 in
theorem impl_compareVip.calls (k : Nat) (a0_0 : Int) (a0_1 : Int) (a0_2 : Int) (A0_3 : Option Addr) (c0_3 : Nat) (l0_3 : List Int) (a1_0 : Int) (a1_1 : Int) (a1_2 : Int) (A1_3 : Option Addr) (c1_3 : Nat) (l1_3 : List Int) (r : Int) (w : World) (hr0_3 : Kd.C (Kd.int .i64) w A0_3 l0_3.length l0_3) (hc0_3 : l0_3.length ≤ c0_3) (hr1_3 : Kd.C (Kd.int .i64) w A1_3 l1_3.length l1_3) (hc1_3 : l1_3.length ≤ c1_3) (h : impl_compareVip.f k a0_0 a0_1 a0_2 l0_3 a1_0 a1_1 a1_2 l1_3 = some r) :
    Calls Tryd.prog 34 #[.agg #[.int .i64 a0_0, .int .i64 a0_1, .int .i64 a0_2, .slice A0_3 l0_3.length c0_3], .agg #[.int .i64 a1_0, .int .i64 a1_1, .int .i64 a1_2, .slice A1_3 l1_3.length c1_3]] w fun e w' => e = .returned (.int .i64 r) ∧ Below w.heap.size w w' := by
  have hu61 := Tryd.underlying61
  have HR0_3 := Aside0.mk hr0_3
  have HC0_3 := Aside0.mk hc0_3
  clear hr0_3 hc0_3
  have HR1_3 := Aside0.mk hr1_3
  have HC1_3 := Aside0.mk hc1_3
  clear hr1_3 hc1_3
  have HB := Aside0.mk (Below.refl w.heap.size w)
  have H : ((cmp_Compare_int64.f a0_0 a1_0).bind fun t244 => ((cmp_Compare_int64.f a0_1 a1_1).bind fun t245 => ((cmp_Compare_int64.f a0_2 a1_2).bind fun t246 => ((cmp_Or_int.f k (([t244, t245, t246] : List Int))).bind fun t250 => (some t250))))) = some r := h
  clear h
  replace H := Option.bind_eq_some_iff.mp H
  obtain ⟨t244, A30, H⟩ := H
  replace H : ((cmp_Compare_int64.f a0_1 a1_1).bind fun t245 => ((cmp_Compare_int64.f a0_2 a1_2).bind fun t246 => ((cmp_Or_int.f k (([t244, t245, t246] : List Int))).bind fun t250 => (some t250)))) = some r := H
  have A3 := Aside0.mk A30
  clear A30
  replace H := Option.bind_eq_some_iff.mp H
  obtain ⟨t245, A40, H⟩ := H
  replace H : ((cmp_Compare_int64.f a0_2 a1_2).bind fun t246 => ((cmp_Or_int.f k (([t244, t245, t246] : List Int))).bind fun t250 => (some t250))) = some r := H
  have A4 := Aside0.mk A40
  clear A40
  replace H := Option.bind_eq_some_iff.mp H
  obtain ⟨t246, A50, H⟩ := H
  replace H : ((cmp_Or_int.f k (([t244, t245, t246] : List Int))).bind fun t250 => (some t250)) = some r := H
  have A5 := Aside0.mk A50
  clear A50
  obtain ⟨y247, hy247⟩ : ∃ y_ : List Int, y_ = (([t244, t245, t246] : List Int)) := ⟨_, rfl⟩
  replace H : ((cmp_Or_int.f k y247).bind fun t250 => (some t250)) = some r := by first | (rw [hy247]; with_reducible exact H) | (have H2_ := (Option.bind_some _ _).symm.trans H; rw [hy247]; with_reducible exact H2_) | (have H2_ := (Option.bind_some _ _).symm.trans H; with_reducible exact H2_) | with_reducible exact H | (rw [hy247]; exact H) | exact H
  have Ny247 := Aside0.mk hy247
  clear hy247
  replace H := Option.bind_eq_some_iff.mp H
  obtain ⟨t250, A60, H⟩ := H
  replace H : (some t250) = some r := H
  have A6 := Aside0.mk A60
  clear A60
  obtain rfl := Option.some.inj H
  go_enter Tryd.func34, Tryd.ntmps34
  try go_wp2_with (first | ((with_reducible refine gate_dst (N := 2) rfl ?_); refine box_event ?hg (N := 2) ?hd (cs := #[.int .i64 a0_0, .int .i64 a0_1, .int .i64 a0_2, .slice A0_3 l0_3.length c0_3]) (t := 61) ?hr ?_; (case hd => rfl); (case hg => rfl); (case hr => first | (go_simp; done) | (go_simp; rfl)); intro gb242 hg w7 hbox hb; have n0_ := Aside0.mk (below_step (by repeat (first | (with_reducible first | exact HB.out | apply below_alloc | apply pw_below_drewN | apply below_drew1) | exact HB.out)) hb); have n1_ := Aside0.mk (hbox); have n2_ := Aside0.mk ((by rw [hg]; exact (below_size (by repeat (first | (with_reducible first | exact HB.out | apply below_alloc | apply pw_below_drewN | apply below_drew1) | exact HB.out))) : w.heap.size ≤ gb242)); have n3_ := Aside0.mk ((by rw [hg]; exact (below_size (by repeat (first | (with_reducible first | exact HB.out | apply below_alloc | apply pw_below_drewN | apply below_drew1) | exact HB.out))) : w.heap.size ≤ gb242)); clear HB; have HB := n0_; have BK242 := n1_; have GW242 := n2_; have GE242 := n3_; clear n0_ n1_ n2_ n3_; clear hb hbox hg) | ((with_reducible refine gate_dst (N := 3) rfl ?_); refine box_event ?hg (N := 3) ?hd (cs := #[.int .i64 a1_0, .int .i64 a1_1, .int .i64 a1_2, .slice A1_3 l1_3.length c1_3]) (t := 61) ?hr ?_; (case hd => rfl); (case hg => rfl); (case hr => first | (go_simp; done) | (go_simp; rfl)); intro gb243 hg w8 hbox hb; have n0_ := Aside0.mk (blk_below (g := gb242) (o := .cells #[.int .i64 a0_0, .int .i64 a0_1, .int .i64 a0_2, .slice A0_3 l0_3.length c0_3] 61 (0, 0)) (by (with_reducible repeat (first | refine blk_drewN ?_ _ | refine blk_drew ?_ | refine blk_alloc ?_ _)); exact BK242.out) hb); have n1_ := Aside0.mk (below_step (by repeat (first | (with_reducible first | exact HB.out | apply below_alloc | apply pw_below_drewN | apply below_drew1 | refine below_set ?_ GE242.out) | exact HB.out)) hb); have n2_ := Aside0.mk (hbox); have n3_ := Aside0.mk ((by rw [hg]; exact (below_size (by repeat (first | (with_reducible first | exact HB.out | apply below_alloc | apply pw_below_drewN | apply below_drew1 | refine below_set ?_ GE242.out) | exact HB.out))) : w.heap.size ≤ gb243)); have n4_ := Aside0.mk ((by rw [hg]; exact (below_size (by repeat (first | (with_reducible first | exact HB.out | apply below_alloc | apply pw_below_drewN | apply below_drew1 | refine below_set ?_ GE242.out) | exact HB.out))) : w.heap.size ≤ gb243)); have n5_ := Aside0.mk ((by rw [hg]; exact Nat.ne_of_lt (blk_lt (g := gb242) (o := .cells #[.int .i64 a0_0, .int .i64 a0_1, .int .i64 a0_2, .slice A0_3 l0_3.length c0_3] 61 (0, 0)) (by (with_reducible repeat (first | refine blk_drewN ?_ _ | refine blk_drew ?_ | refine blk_alloc ?_ _)); exact BK242.out)) : gb242 ≠ gb243)); have n6_ := Aside0.mk ((by rw [hg]; exact Nat.ne_of_gt (blk_lt (g := gb242) (o := .cells #[.int .i64 a0_0, .int .i64 a0_1, .int .i64 a0_2, .slice A0_3 l0_3.length c0_3] 61 (0, 0)) (by (with_reducible repeat (first | refine blk_drewN ?_ _ | refine blk_drew ?_ | refine blk_alloc ?_ _)); exact BK242.out)) : gb243 ≠ gb242)); clear BK242; clear HB; have BK242 := n0_; have HB := n1_; have BK243 := n2_; have GW243 := n3_; have GE243 := n4_; have NB242_243 := n5_; have NB243_242 := n6_; clear n0_ n1_ n2_ n3_ n4_ n5_ n6_; clear hb hbox hg))
  have n0_ := Aside0.mk (blk_drew BK242.out)
  have n1_ := Aside0.mk (blk_drew BK243.out)
  have n2_ := Aside0.mk (below_drew1 HB.out)
  clear BK242
  clear BK243
  clear HB
  have BK242 := n0_
  have BK243 := n1_
  have HB := n2_
  clear n0_ n1_ n2_
  refine start_ (n := 18) (S := fun w' => w'.cell? ⟨gb242, 0, none⟩ = some (.int .i64 a0_0) ∧ w'.cell? ⟨gb242, 1, none⟩ = some (.int .i64 a0_1) ∧ w'.cell? ⟨gb242, 2, none⟩ = some (.int .i64 a0_2) ∧ w'.cell? ⟨gb242, 3, none⟩ = some (.slice A0_3 l0_3.length c0_3) ∧ w'.cell? ⟨gb243, 0, none⟩ = some (.int .i64 a1_0) ∧ w'.cell? ⟨gb243, 1, none⟩ = some (.int .i64 a1_1) ∧ w'.cell? ⟨gb243, 2, none⟩ = some (.int .i64 a1_2) ∧ w'.cell? ⟨gb243, 3, none⟩ = some (.slice A1_3 l1_3.length c1_3)) (ds := []) #[false, false, false, false, false, false, false, false, false, false, false, false, false, false, false, false, false, false] (by kernel_rfl) rfl rfl ⟨(blk_cell BK242.out 0).trans rfl, (blk_cell BK242.out 1).trans rfl, (blk_cell BK242.out 2).trans rfl, (blk_cell BK242.out 3).trans rfl, (blk_cell BK243.out 0).trans rfl, (blk_cell BK243.out 1).trans rfl, (blk_cell BK243.out 2).trans rfl, (blk_cell BK243.out 3).trans rfl⟩ (fun hHeld => ?_); refine with_tabW impl_compareVip.tab1 impl_compareVip.bits1 (fun HT_ HW_ => ?_)
  generalize w8.drew = w9 at BK242 BK243 HB hHeld ⊢
  refine pure_ (i := 0) (N := some 5) (v := ?_) (a' := ?_) #[true, false, false, false, false, false, false, false, false, false, false, false, false, false, false, false, false, false] rfl rfl (any_of HT_.out (by kernel_rfl)) (fun _ _ _ h => h) (Or.inl ⟨by rfl, ?_⟩) ?_ ?_
  rotate_left
  · intro w'
    first | (go_simp; with_reducible rfl) | (go_simp; (try unfold Instr.field); go_simp; (try simp only [asAgg]); go_simp; with_reducible rfl)
  rotate_left
  · simp only [Act.put, List.setIfInBounds_toArray, List.set_cons_zero, List.set_cons_succ, i64_w, i32_w]
    rfl
  refine pure_ (i := 2) (N := some 7) (v := ?_) (a' := ?_) #[true, false, true, false, false, false, false, false, false, false, false, false, false, false, false, false, false, false] rfl rfl (any_of HT_.out (by kernel_rfl)) (fun _ _ _ h => h) (Or.inl ⟨by rfl, ?_⟩) ?_ ?_
  rotate_left
  · intro w'
    first | (go_simp; with_reducible rfl) | (go_simp; (try unfold Instr.field); go_simp; (try simp only [asAgg]); go_simp; with_reducible rfl)
  rotate_left
  · simp only [Act.put, List.setIfInBounds_toArray, List.set_cons_zero, List.set_cons_succ, i64_w, i32_w]
    rfl
  refine pure_ (i := 5) (N := some 10) (v := ?_) (a' := ?_) #[true, false, true, false, false, true, false, false, false, false, false, false, false, false, false, false, false, false] rfl rfl (any_of HT_.out (by kernel_rfl)) (fun _ _ _ h => h) (Or.inl ⟨by rfl, ?_⟩) ?_ ?_
  rotate_left
  · intro w'
    first | (go_simp; with_reducible rfl) | (go_simp; (try unfold Instr.field); go_simp; (try simp only [asAgg]); go_simp; with_reducible rfl)
  rotate_left
  · simp only [Act.put, List.setIfInBounds_toArray, List.set_cons_zero, List.set_cons_succ, i64_w, i32_w]
    rfl
  refine pure_ (i := 7) (N := some 12) (v := ?_) (a' := ?_) #[true, false, true, false, false, true, false, true, false, false, false, false, false, false, false, false, false, false] rfl rfl (any_of HT_.out (by kernel_rfl)) (fun _ _ _ h => h) (Or.inl ⟨by rfl, ?_⟩) ?_ ?_
  rotate_left
  · intro w'
    first | (go_simp; with_reducible rfl) | (go_simp; (try unfold Instr.field); go_simp; (try simp only [asAgg]); go_simp; with_reducible rfl)
  rotate_left
  · simp only [Act.put, List.setIfInBounds_toArray, List.set_cons_zero, List.set_cons_succ, i64_w, i32_w]
    rfl
  refine pure_ (i := 10) (N := some 15) (v := ?_) (a' := ?_) #[true, false, true, false, false, true, false, true, false, false, true, false, false, false, false, false, false, false] rfl rfl (any_of HT_.out (by kernel_rfl)) (fun _ _ _ h => h) (Or.inl ⟨by rfl, ?_⟩) ?_ ?_
  rotate_left
  · intro w'
    first | (go_simp; with_reducible rfl) | (go_simp; (try unfold Instr.field); go_simp; (try simp only [asAgg]); go_simp; with_reducible rfl)
  rotate_left
  · simp only [Act.put, List.setIfInBounds_toArray, List.set_cons_zero, List.set_cons_succ, i64_w, i32_w]
    rfl
  refine pure_ (i := 12) (N := some 17) (v := ?_) (a' := ?_) #[true, false, true, false, false, true, false, true, false, false, true, false, true, false, false, false, false, false] rfl rfl (any_of HT_.out (by kernel_rfl)) (fun _ _ _ h => h) (Or.inl ⟨by rfl, ?_⟩) ?_ ?_
  rotate_left
  · intro w'
    first | (go_simp; with_reducible rfl) | (go_simp; (try unfold Instr.field); go_simp; (try simp only [asAgg]); go_simp; with_reducible rfl)
  rotate_left
  · simp only [Act.put, List.setIfInBounds_toArray, List.set_cons_zero, List.set_cons_succ, i64_w, i32_w]
    rfl
  refine take_ (i := 1) (N := some 6) (v := ?_) (a' := ?_) #[true, true, true, false, false, true, false, true, false, false, true, false, true, false, false, false, false, false] rfl rfl (take_ofW HT_.out HW_.out (by kernel_rfl)) (fun _ _ _ h => h) (Or.inl ⟨by rfl, ?_⟩) hHeld ?_ ?_
  rotate_left
  · rintro w' ⟨s0, s1, s2, s3, s4, s5, s6, s7⟩
    go_simp
    with_reducible rfl
  rotate_left
  · simp only [Act.put, List.setIfInBounds_toArray, List.set_cons_zero, List.set_cons_succ, i64_w, i32_w]
    rfl
  refine take_ (i := 3) (N := some 8) (v := ?_) (a' := ?_) #[true, true, true, true, false, true, false, true, false, false, true, false, true, false, false, false, false, false] rfl rfl (take_ofW HT_.out HW_.out (by kernel_rfl)) (fun _ _ _ h => h) (Or.inl ⟨by rfl, ?_⟩) hHeld ?_ ?_
  rotate_left
  · rintro w' ⟨s0, s1, s2, s3, s4, s5, s6, s7⟩
    go_simp
    with_reducible rfl
  rotate_left
  · simp only [Act.put, List.setIfInBounds_toArray, List.set_cons_zero, List.set_cons_succ, i64_w, i32_w]
    rfl
  refine take_ (i := 6) (N := some 11) (v := ?_) (a' := ?_) #[true, true, true, true, false, true, true, true, false, false, true, false, true, false, false, false, false, false] rfl rfl (take_ofW HT_.out HW_.out (by kernel_rfl)) (fun _ _ _ h => h) (Or.inl ⟨by rfl, ?_⟩) hHeld ?_ ?_
  rotate_left
  · rintro w' ⟨s0, s1, s2, s3, s4, s5, s6, s7⟩
    go_simp
    with_reducible rfl
  rotate_left
  · simp only [Act.put, List.setIfInBounds_toArray, List.set_cons_zero, List.set_cons_succ, i64_w, i32_w]
    rfl
  refine take_ (i := 8) (N := some 13) (v := ?_) (a' := ?_) #[true, true, true, true, false, true, true, true, true, false, true, false, true, false, false, false, false, false] rfl rfl (take_ofW HT_.out HW_.out (by kernel_rfl)) (fun _ _ _ h => h) (Or.inl ⟨by rfl, ?_⟩) hHeld ?_ ?_
  rotate_left
  · rintro w' ⟨s0, s1, s2, s3, s4, s5, s6, s7⟩
    go_simp
    with_reducible rfl
  rotate_left
  · simp only [Act.put, List.setIfInBounds_toArray, List.set_cons_zero, List.set_cons_succ, i64_w, i32_w]
    rfl
  refine take_ (i := 11) (N := some 16) (v := ?_) (a' := ?_) #[true, true, true, true, false, true, true, true, true, false, true, true, true, false, false, false, false, false] rfl rfl (take_ofW HT_.out HW_.out (by kernel_rfl)) (fun _ _ _ h => h) (Or.inl ⟨by rfl, ?_⟩) hHeld ?_ ?_
  rotate_left
  · rintro w' ⟨s0, s1, s2, s3, s4, s5, s6, s7⟩
    go_simp
    with_reducible rfl
  rotate_left
  · simp only [Act.put, List.setIfInBounds_toArray, List.set_cons_zero, List.set_cons_succ, i64_w, i32_w]
    rfl
  refine take_ (i := 13) (N := some 18) (v := ?_) (a' := ?_) #[true, true, true, true, false, true, true, true, true, false, true, true, true, true, false, false, false, false] rfl rfl (take_ofW HT_.out HW_.out (by kernel_rfl)) (fun _ _ _ h => h) (Or.inl ⟨by rfl, ?_⟩) hHeld ?_ ?_
  rotate_left
  · rintro w' ⟨s0, s1, s2, s3, s4, s5, s6, s7⟩
    go_simp
    with_reducible rfl
  rotate_left
  · simp only [Act.put, List.setIfInBounds_toArray, List.set_cons_zero, List.set_cons_succ, i64_w, i32_w]
    rfl
  refine one_ (i := 4) (N := some 9) #[true, true, true, true, true, true, true, true, true, false, true, true, true, true, false, false, false, false] rfl rfl (one_of HT_.out (by kernel_rfl)) (by decide) (fun K hK => ?_)
  refine goes_ Tryd.func56 (by kernel_rfl) rfl #[.int .i64 a0_0, .int .i64 a1_0] (by rfl) rfl rfl (by (try simp only [List.map_toArray, List.map_cons, List.map_nil]); first | done | rfl | (simp only [List.length_drop, List.length_take]; rfl)) ?_
  with_reducible refine (cmp_Compare_int64.calls a0_0 a1_0 t244 _ A3.out).mono ?_
  rintro e w' ⟨rfl, ⟨nd, rfl⟩⟩
  refine ⟨_, rfl, ?_⟩
  refine hK.out _ _ ⟨(blk_cell BK242.out 0).trans rfl, (blk_cell BK242.out 1).trans rfl, (blk_cell BK242.out 2).trans rfl, (blk_cell BK242.out 3).trans rfl, (blk_cell BK243.out 0).trans rfl, (blk_cell BK243.out 1).trans rfl, (blk_cell BK243.out 2).trans rfl, (blk_cell BK243.out 3).trans rfl⟩ (fun hHeld => ?_)
  clear hK K
  refine norm_ (a' := ?_) ?_ ?_
  rotate_left
  · show Act.put _ (some 9) _ = _
    simp only [Act.put, List.setIfInBounds_toArray, List.set_cons_zero, List.set_cons_succ, i64_w, i32_w]
    rfl
  refine one_ (i := 9) (N := some 14) #[true, true, true, true, true, true, true, true, true, true, true, true, true, true, false, false, false, false] rfl rfl (one_of HT_.out (by kernel_rfl)) (by decide) (fun K hK => ?_)
  refine goes_ Tryd.func56 (by kernel_rfl) rfl #[.int .i64 a0_1, .int .i64 a1_1] (by rfl) rfl rfl (by (try simp only [List.map_toArray, List.map_cons, List.map_nil]); first | done | rfl | (simp only [List.length_drop, List.length_take]; rfl)) ?_
  with_reducible refine (cmp_Compare_int64.calls a0_1 a1_1 t245 _ A4.out).mono ?_
  rintro e w' ⟨rfl, ⟨nd, rfl⟩⟩
  refine ⟨_, rfl, ?_⟩
  refine hK.out _ _ ⟨(blk_cell BK242.out 0).trans rfl, (blk_cell BK242.out 1).trans rfl, (blk_cell BK242.out 2).trans rfl, (blk_cell BK242.out 3).trans rfl, (blk_cell BK243.out 0).trans rfl, (blk_cell BK243.out 1).trans rfl, (blk_cell BK243.out 2).trans rfl, (blk_cell BK243.out 3).trans rfl⟩ (fun hHeld => ?_)
  clear hK K
  refine norm_ (a' := ?_) ?_ ?_
  rotate_left
  · show Act.put _ (some 14) _ = _
    simp only [Act.put, List.setIfInBounds_toArray, List.set_cons_zero, List.set_cons_succ, i64_w, i32_w]
    rfl
  refine one_ (i := 14) (N := some 19) #[true, true, true, true, true, true, true, true, true, true, true, true, true, true, true, false, false, false] rfl rfl (one_of HT_.out (by kernel_rfl)) (by decide) (fun K hK => ?_)
  refine goes_ Tryd.func56 (by kernel_rfl) rfl #[.int .i64 a0_2, .int .i64 a1_2] (by rfl) rfl rfl (by (try simp only [List.map_toArray, List.map_cons, List.map_nil]); first | done | rfl | (simp only [List.length_drop, List.length_take]; rfl)) ?_
  with_reducible refine (cmp_Compare_int64.calls a0_2 a1_2 t246 _ A5.out).mono ?_
  rintro e w' ⟨rfl, ⟨nd, rfl⟩⟩
  refine ⟨_, rfl, ?_⟩
  refine hK.out _ _ ⟨(blk_cell BK242.out 0).trans rfl, (blk_cell BK242.out 1).trans rfl, (blk_cell BK242.out 2).trans rfl, (blk_cell BK242.out 3).trans rfl, (blk_cell BK243.out 0).trans rfl, (blk_cell BK243.out 1).trans rfl, (blk_cell BK243.out 2).trans rfl, (blk_cell BK243.out 3).trans rfl⟩ (fun hHeld => ?_)
  clear hK K
  refine norm_ (a' := ?_) ?_ ?_
  rotate_left
  · show Act.put _ (some 19) _ = _
    simp only [Act.put, List.setIfInBounds_toArray, List.set_cons_zero, List.set_cons_succ, i64_w, i32_w]
    rfl
  refine one_ (i := 15) (N := some 20) #[true, true, true, true, true, true, true, true, true, true, true, true, true, true, true, true, false, false] rfl rfl (one_of HT_.out (by kernel_rfl)) (by decide) (fun K hK => ?_)
  refine Kd.R_lit_step (Kd.int .i64) _ 3 ?hg (N := 20) ?hd (xs := ([t244, t245, t246] : List Int)) (inner := [.int .i64 t244, .int .i64 t245, .int .i64 t246]) (ok := fun _ => True) (okp := fun _ => True) ?hr ?hp (fun _ hk => hk) trivial (Below.refl _ _) (Nat.le_refl _) (by simp) ?_; (case hd => rfl); (case hg => rfl); (case hr => first | (go_simp; done) | (go_simp; rfl)); (case hp => exact (Reps.one (show Kd.M (Kd.int .i64) _ _ _ t244 [.int .i64 t244] from rfl) (Reps.one (show Kd.M (Kd.int .i64) _ _ _ t245 [.int .i64 t245] from rfl) (Reps.one (show Kd.M (Kd.int .i64) _ _ _ t246 [.int .i64 t246] from rfl) (Reps.none _ _)))))
  intro v248 w10 ho11 hb hg_ hnew_
  clear hg_ hnew_
  (first | rw [← Ny247.out] at ho11 | (simp only [Int.reduceToNat] at ho11; rw [← Ny247.out] at ho11))
  have n0_ := Aside0.mk (Kd.R_lower ho11 (below_size (by repeat (first | (with_reducible first | exact HB.out | apply below_alloc | apply pw_below_drewN | apply below_drew1 | refine below_set ?_ GE242.out | refine below_set ?_ GE243.out) | exact HB.out))))
  have n1_ := Aside0.mk (blk_below (g := gb242) (o := .cells #[.int .i64 a0_0, .int .i64 a0_1, .int .i64 a0_2, .slice A0_3 l0_3.length c0_3] 61 (0, 0)) (by (with_reducible repeat (first | refine blk_drewN ?_ _ | refine blk_drew ?_ | refine blk_alloc ?_ _)); exact BK242.out) hb)
  have n2_ := Aside0.mk (blk_below (g := gb243) (o := .cells #[.int .i64 a1_0, .int .i64 a1_1, .int .i64 a1_2, .slice A1_3 l1_3.length c1_3] 61 (0, 0)) (by (with_reducible repeat (first | refine blk_drewN ?_ _ | refine blk_drew ?_ | refine blk_alloc ?_ _)); exact BK243.out) hb)
  have n3_ := Aside0.mk (below_step (by repeat (first | (with_reducible first | exact HB.out | apply below_alloc | apply pw_below_drewN | apply below_drew1 | refine below_set ?_ GE242.out | refine below_set ?_ GE243.out) | exact HB.out)) hb)
  clear BK242
  clear BK243
  clear HB
  have HO249 := n0_
  have BK242 := n1_
  have BK243 := n2_
  have HB := n3_
  clear n0_ n1_ n2_ n3_
  clear hb ho11
  obtain ⟨Ao12, co12, eo12⟩ := Kd.R_slice HO249.out
  (first | subst eo12 | (injection eo12 with f1_ f2_ f3_; have f4_ := f1_.symm; have f5_ := f3_.symm; clear f1_ f2_ f3_; subst f4_; subst f5_))
  refine hK.out _ _ ⟨(blk_cell BK242.out 0).trans rfl, (blk_cell BK242.out 1).trans rfl, (blk_cell BK242.out 2).trans rfl, (blk_cell BK242.out 3).trans rfl, (blk_cell BK243.out 0).trans rfl, (blk_cell BK243.out 1).trans rfl, (blk_cell BK243.out 2).trans rfl, (blk_cell BK243.out 3).trans rfl⟩ (fun hHeld => ?_)
  clear hK K
  refine norm_ (a' := ?_) ?_ ?_
  rotate_left
  · show Act.put _ (some 20) _ = _
    simp only [Act.put, List.setIfInBounds_toArray, List.set_cons_zero, List.set_cons_succ, i64_w, i32_w]
    rfl
  refine one_ (i := 16) (N := some 21) #[true, true, true, true, true, true, true, true, true, true, true, true, true, true, true, true, true, false] rfl rfl (one_of HT_.out (by kernel_rfl)) (by decide) (fun K hK => ?_)
  refine goes_ Tryd.func55 (by kernel_rfl) rfl #[.slice Ao12 y247.length co12] (by rfl) rfl rfl (by (try simp only [List.map_toArray, List.map_cons, List.map_nil]); first | done | rfl | (simp only [List.length_drop, List.length_take]; rfl)) ?_
  with_reducible refine (cmp_Or_int.calls k _ _ y247 t250 _ ?side1 ?side2 A6.out).mono ?_
  (case side1 => repeat (first | exact (Kd.R_reads' HO249.out).2.2 | (with_reducible refine Kd.C_alloc ?_ _) | (with_reducible refine Kd.C_drewN ?_ _) | (with_reducible refine Kd.C_drew ?_)))
  (case side2 => exact (Kd.R_reads' HO249.out).2.1)
  rintro e w' ⟨rfl, ⟨nd, rfl⟩⟩
  refine ⟨_, rfl, ?_⟩
  refine hK.out _ _ ⟨(blk_cell BK242.out 0).trans rfl, (blk_cell BK242.out 1).trans rfl, (blk_cell BK242.out 2).trans rfl, (blk_cell BK242.out 3).trans rfl, (blk_cell BK243.out 0).trans rfl, (blk_cell BK243.out 1).trans rfl, (blk_cell BK243.out 2).trans rfl, (blk_cell BK243.out 3).trans rfl⟩ (fun hHeld => ?_)
  clear hK K
  refine norm_ (a' := ?_) ?_ ?_
  rotate_left
  · show Act.put _ (some 21) _ = _
    simp only [Act.put, List.setIfInBounds_toArray, List.set_cons_zero, List.set_cons_succ, i64_w, i32_w]
    rfl
  refine pure_ (i := 17) (N := some 4) (v := ?_) (a' := ?_) #[true, true, true, true, true, true, true, true, true, true, true, true, true, true, true, true, true, true] rfl rfl (any_of HT_.out (by kernel_rfl)) (fun _ _ _ h => h) (Or.inl ⟨by rfl, ?_⟩) ?_ ?_
  rotate_left
  · intro w'
    first | (go_simp; with_reducible rfl) | (go_simp; (try unfold Instr.field); go_simp; (try simp only [asAgg]); go_simp; with_reducible rfl)
  rotate_left
  · simp only [Act.put, List.setIfInBounds_toArray, List.set_cons_zero, List.set_cons_succ, i64_w, i32_w]
    rfl
  refine done_ (done_of HT_.out (by kernel_rfl)) ?_
  try go_wp2
  go_ret
  exact ⟨by first | rfl | (simp [errW_none, errW_some] <;> rfl) | (simp [*, errW_none, errW_some] <;> rfl), by repeat (first | (with_reducible first | exact HB.out | apply below_alloc | apply pw_below_drewN | apply below_drew1 | refine below_set ?_ GE242.out | refine below_set ?_ GE243.out) | exact HB.out)⟩

-- NOT PRINTED: function 57 (slices_IndexFunc_int64_int64)

-- NOT PRINTED: function 35 (slices_ContainsFunc_int64_int64)

/-! ### impl_ConfigFault: function 16 -/
set_option maxHeartbeats 2000000 in
/-- slices.IndexFunc over such a slice, whatever the function value, if it says p of each element and turns nothing that lay. -/
theorem Cf.bk.ix_calls (p : S56 → Bool) (g : Nat) (lb : Array Value) (eg : ∀ args w, (callFunc g args).run Tryd.prog w = .ok (.enter g args) w) (A0 : Option Addr) (c0 : Nat) (l0 : List (S56)) (w : World) (hr0 : Kd.C k56 w A0 l0.length l0) (hc0 : l0.length ≤ c0)
    (hp : ∀ (W : World) (x : S56), Below w.heap.size w W → Calls Tryd.prog g (#[.agg #[.int .i64 x.f0, .int .i64 x.f1, .int .i64 x.f2, .int .i64 x.f3, .bool x.f4]] ++ lb) W fun e w' => e = .returned (.bool (p x)) ∧ Below w.heap.size w w') :
    Calls Tryd.prog 58 #[.slice A0 l0.length c0, .func (.func g) #[] lb] w fun e w' => e = .returned (.int .i64 (Go.Proofs.YtfmlhpoaipeoeaaDoor.Ix.ixFrom p l0 0)) ∧ Below w.heap.size w w' := by
  have hbig : l0.length ≤ 9223372036854775807 := by have := hr0.2.1; have hs : (k56).sz = 5 := rfl; (try simp only [maxLen] at this); (try rw [hs] at this); omega
  go_enter Tryd.func58, Tryd.ntmps58
  go_wp2
  go_loopg [5, 8] l0.length (fun gg _ s8 wr => ∃ kk : Nat, kk ≤ l0.length ∧ l0.length - kk ≤ gg ∧ s8 = .int .i64 kk ∧ Aside (Below w.heap.size w wr) ∧ Aside (∀ j, j < kk → p (l0.getD j z56) = false))
  case atStart => exact ⟨0, Nat.zero_le _, by omega, rfl, Below.refl _ w, fun j hj => absurd hj (Nat.not_lt_zero _)⟩
  case round =>
    obtain ⟨kk, hkk, hg, rfl, BW, AA⟩ := hrel
    by_cases hlt : kk < l0.length
    · have hltz : (kk : Int) < (l0.length : Int) := by omega
      obtain ⟨ad, eA, hx_0, hx_1, hx_2, hx_3, hx_4⟩ := at_T56 (Kd.C_below hr0 BW.out) (kk : Int) (by omega) hltz
      cases eA
      have hcall := hp wr (rd_T56 l0 (kk : Int)) BW.out
      have hy : l0.getD kk z56 = rd_T56 l0 (kk : Int) := rfl
      generalize rd_T56 l0 (kk : Int) = y at hx_0 hx_1 hx_2 hx_3 hx_4 hcall hy
      have B : Aside (l0.getD kk z56 = y) := hy
      clear hy hp
      simp only [Int.toNat_natCast] at hx_0 hx_1 hx_2 hx_3 hx_4
      cases hq : p y with
      | true =>
        rw [hq] at hcall
        go_wp2_with (go_at_fn g; refine hcall.mono ?_; rintro e w' ⟨rfl, hb'⟩)
        go_ret
        refine ⟨?_, hb'⟩
        rw [Go.Proofs.YtfmlhpoaipeoeaaDoor.Ix.ixFrom_hit p z56 l0 0 kk hlt (by rw [B.out]; exact hq) AA.out]
        simp
      | false =>
        rw [hq] at hcall
        go_wp2_with (go_at_fn g; refine hcall.mono ?_; rintro e w' ⟨rfl, hb'⟩)
        go_roundg (l0.length - (kk + 1))
        case measure => omega
        case rel =>
          refine ⟨kk + 1, by omega, by omega, by go_num, hb', (show Aside _ from fun j hj => ?_)⟩
          by_cases e : j = kk
          · subst e
            rw [B.out]; exact hq
          · exact AA.out j (by omega)
    · have hltz : ¬ (kk : Int) < (l0.length : Int) := by omega
      have : kk = l0.length := by omega
      subst this
      go_wp2
      go_ret
      refine ⟨?_, BW.out⟩
      rw [Go.Proofs.YtfmlhpoaipeoeaaDoor.Ix.ixFrom_miss p z56 l0 0 AA.out]
      rfl
set_option maxHeartbeats 2000000 in
/-- slices.IndexFunc over such a slice, whatever the function value, if it says p of each element and turns nothing that lay. -/
theorem Cf.nm.ix_calls (p : Int → Bool) (g : Nat) (lb : Array Value) (eg : ∀ args w, (callFunc g args).run Tryd.prog w = .ok (.enter g args) w) (A0 : Option Addr) (c0 : Nat) (l0 : List Int) (w : World) (hr0 : Kd.C (Kd.int .i64) w A0 l0.length l0) (hc0 : l0.length ≤ c0)
    (hp : ∀ (W : World) (x : Int), Below w.heap.size w W → Calls Tryd.prog g (#[.int .i64 x] ++ lb) W fun e w' => e = .returned (.bool (p x)) ∧ Below w.heap.size w w') :
    Calls Tryd.prog 57 #[.slice A0 l0.length c0, .func (.func g) #[] lb] w fun e w' => e = .returned (.int .i64 (Go.Proofs.YtfmlhpoaipeoeaaDoor.Ix.ixFrom p l0 0)) ∧ Below w.heap.size w w' := by
  have hbig : l0.length ≤ 9223372036854775807 := by have := hr0.2.1; have hs : (Kd.int .i64).sz = 1 := rfl; (try simp only [maxLen] at this); (try rw [hs] at this); omega
  go_enter Tryd.func57, Tryd.ntmps57
  go_wp2
  go_loopg [5, 8] l0.length (fun gg _ s8 wr => ∃ kk : Nat, kk ≤ l0.length ∧ l0.length - kk ≤ gg ∧ s8 = .int .i64 kk ∧ Aside (Below w.heap.size w wr) ∧ Aside (∀ j, j < kk → p (l0.getD j 0) = false))
  case atStart => exact ⟨0, Nat.zero_le _, by omega, rfl, Below.refl _ w, fun j hj => absurd hj (Nat.not_lt_zero _)⟩
  case round =>
    obtain ⟨kk, hkk, hg, rfl, BW, AA⟩ := hrel
    by_cases hlt : kk < l0.length
    · have hltz : (kk : Int) < (l0.length : Int) := by omega
      obtain ⟨ad, eA, hx_0⟩ := Kd.at_int (Kd.C_below hr0 BW.out) (kk : Int) (by omega) hltz
      cases eA
      have hcall := hp wr (rd l0 (kk : Int)) BW.out
      have hy : l0.getD kk 0 = rd l0 (kk : Int) := rfl
      generalize rd l0 (kk : Int) = y at hx_0 hcall hy
      have B : Aside (l0.getD kk 0 = y) := hy
      clear hy hp
      simp only [Int.toNat_natCast] at hx_0
      cases hq : p y with
      | true =>
        rw [hq] at hcall
        go_wp2_with (go_at_fn g; refine hcall.mono ?_; rintro e w' ⟨rfl, hb'⟩)
        go_ret
        refine ⟨?_, hb'⟩
        rw [Go.Proofs.YtfmlhpoaipeoeaaDoor.Ix.ixFrom_hit p 0 l0 0 kk hlt (by rw [B.out]; exact hq) AA.out]
        simp
      | false =>
        rw [hq] at hcall
        go_wp2_with (go_at_fn g; refine hcall.mono ?_; rintro e w' ⟨rfl, hb'⟩)
        go_roundg (l0.length - (kk + 1))
        case measure => omega
        case rel =>
          refine ⟨kk + 1, by omega, by omega, by go_num, hb', (show Aside _ from fun j hj => ?_)⟩
          by_cases e : j = kk
          · subst e
            rw [B.out]; exact hq
          · exact AA.out j (by omega)
    · have hltz : ¬ (kk : Int) < (l0.length : Int) := by omega
      have : kk = l0.length := by omega
      subst this
      go_wp2
      go_ret
      refine ⟨?_, BW.out⟩
      rw [Go.Proofs.YtfmlhpoaipeoeaaDoor.Ix.ixFrom_miss p 0 l0 0 AA.out]
      rfl
set_option maxHeartbeats 2000000 in
/-- slices.ContainsFunc over such a slice. -/
theorem Cf.nm.has_calls (p : Int → Bool) (g : Nat) (lb : Array Value) (eg : ∀ args w, (callFunc g args).run Tryd.prog w = .ok (.enter g args) w) (A0 : Option Addr) (c0 : Nat) (l0 : List Int) (w : World) (hr0 : Kd.C (Kd.int .i64) w A0 l0.length l0) (hc0 : l0.length ≤ c0)
    (hp : ∀ (W : World) (x : Int), Below w.heap.size w W → Calls Tryd.prog g (#[.int .i64 x] ++ lb) W fun e w' => e = .returned (.bool (p x)) ∧ Below w.heap.size w w') :
    Calls Tryd.prog 35 #[.slice A0 l0.length c0, .func (.func g) #[] lb] w fun e w' => e = .returned (.bool (l0.any p)) ∧ Below w.heap.size w w' := by
  rw [← Go.Proofs.YtfmlhpoaipeoeaaDoor.Ix.ixFrom_ge p l0 0 (by omega)]
  have hcon := Cf.nm.ix_calls p g lb eg A0 c0 l0 w hr0 hc0 hp
  clear hp
  go_enter Tryd.func35, Tryd.ntmps35
  go_wp2_with (go_at_call 57; refine hcon.mono ?_; rintro e w' ⟨rfl, hb'⟩)
  go_ret
  exact ⟨rfl, hb'⟩
set_option maxHeartbeats 2000000 in
/-- backend's closure: is a backend of the name that lies in a box? -/
theorem Cf.clo (q : Nat) (n : Int) (w : World) (hq : w.cell? ⟨q, 0, none⟩ = some (.int .i64 n)) (x : S56) (hql : q < w.heap.size) :
    Calls Tryd.prog 59 #[.agg #[.int .i64 x.f0, .int .i64 x.f1, .int .i64 x.f2, .int .i64 x.f3, .bool x.f4], .pointer (some ⟨q, 0, none⟩)] w fun e w' => e = .returned (.bool (Cf.named n x)) ∧ Below w.heap.size w w' := by
  have hu36 := Tryd.underlying56
  have hB1 : Below w.heap.size w (w.alloc (.cells #[.int .i64 x.f0, .int .i64 x.f1, .int .i64 x.f2, .int .i64 x.f3, .bool x.f4] 56)) := (Below.refl _ w).alloc (Nat.le_refl _) _
  have hq1 := (hB1.cell (p := ⟨q, 0, none⟩) hql).trans hq
  go_enter Tryd.func59, Tryd.ntmps59
  go_wp2
  go_ret
  exact ⟨rfl, hB1⟩
set_option maxHeartbeats 2000000 in
/-- The place of a backend of a name. -/
theorem impl_backend.cf (g : Nat) (A1 : Option Addr) (c1 : Nat) (l1 : List S56) (A2 : Option Addr) (n2 c2 : Nat) (v name : Int) (w : World) (hb : w.heap[g]? = some (.cells #[.int .i64 v, .slice A1 l1.length c1, .slice A2 n2 c2] 33 (0, 0))) (hr1 : Kd.C k56 w A1 l1.length l1) (hc1 : l1.length ≤ c1) :
    Calls Tryd.prog 37 #[.pointer (some ⟨g, 0, none⟩), .int .i64 name] w fun e w' => e = .returned (.int .i64 (Cf.place l1 name)) ∧ Below w.heap.size w w' := by
  obtain ⟨w1, hw1⟩ : ∃ W, W = w.alloc (.cells #[.int .i64 name] 2) := ⟨_, rfl⟩
  have hB1 : Below w.heap.size w w1 := by rw [hw1]; exact (Below.refl _ w).alloc (Nat.le_refl _) _
  have hs1 : w1.heap.size = w.heap.size + 1 := by rw [hw1]; simp
  have hq1 : w1.cell? ⟨w.heap.size, 0, none⟩ = some (.int .i64 name) := by rw [hw1]; exact blk_cell (blk_new w _) 0
  have hz1 : w.cell? ⟨g, 1, none⟩ = some (.slice A1 l1.length c1) := blk_cell hb 1
  have hz1' : (w.alloc (.cells #[.int .i64 name] 2)).cell? ⟨g, 1, none⟩ = some (.slice A1 l1.length c1) := by rw [← hw1]; exact blk_cell (blk_below hb hB1) 1
  have hcall := Cf.bk.ix_calls (Cf.named name) 59 #[.pointer (some ⟨w.heap.size, 0, none⟩)] (enters_of Tryd.func59 (by kernel_rfl) rfl) A1 c1 l1 w1 (Kd.C_below hr1 hB1) hc1 (fun W x hW => show Calls Tryd.prog 59 #[.agg #[.int .i64 x.f0, .int .i64 x.f1, .int .i64 x.f2, .int .i64 x.f3, .bool x.f4], .pointer (some ⟨w.heap.size, 0, none⟩)] W _ from (Cf.clo w.heap.size name W ((hW.cell (p := ⟨w.heap.size, 0, none⟩) (by show w.heap.size < w1.heap.size; omega)).trans hq1) x (by have := hW.size; omega)).mono fun e w' hh => ⟨hh.1, Cf.up hW hh.2⟩)
  rw [hw1] at hcall
  go_enter Tryd.func37, Tryd.ntmps37
  go_wp2_with (go_at_call 58; refine hcall.mono ?_; rintro e w2 ⟨rfl, hb2⟩; rw [← hw1] at hb2)
  go_ret
  exact ⟨rfl, Cf.up hB1 hb2⟩
set_option maxHeartbeats 2000000 in
/-- ConfigFault's closure: is there no backend of a name? -/
theorem Cf.clo2 (g : Nat) (A1 : Option Addr) (c1 : Nat) (l1 : List S56) (A2 : Option Addr) (n2 c2 : Nat) (v name : Int) (w : World) (hb : w.heap[g]? = some (.cells #[.int .i64 v, .slice A1 l1.length c1, .slice A2 n2 c2] 33 (0, 0))) (hr1 : Kd.C k56 w A1 l1.length l1) (hc1 : l1.length ≤ c1) :
    Calls Tryd.prog 36 #[.int .i64 name, .pointer (some ⟨g, 0, none⟩)] w fun e w' => e = .returned (.bool (Cf.gone l1 name)) ∧ Below w.heap.size w w' := by
  have hcall := fun (W : World) (hW : Below w.heap.size w W) => impl_backend.cf g A1 c1 l1 A2 n2 c2 v name W (blk_below hb hW) (Kd.C_below hr1 hW) hc1
  have hcall0 := hcall w (Below.refl _ _)
  clear hcall
  unfold Cf.gone
  go_enter Tryd.func36, Tryd.ntmps36
  go_wp2_with (go_at_call 37; refine hcall0.mono ?_; rintro e w2 ⟨rfl, hb2⟩)
  go_ret
  exact ⟨rfl, hb2⟩
/-- Is one of the names no backend's? -/
theorem Cf.hasgone (g : Nat) (A1 : Option Addr) (c1 : Nat) (l1 : List S56) (A2 : Option Addr) (n2 c2 : Nat) (v : Int) (A3 : Option Addr) (c3 : Nat) (l3 : List Int) (w : World) (hb : w.heap[g]? = some (.cells #[.int .i64 v, .slice A1 l1.length c1, .slice A2 n2 c2] 33 (0, 0))) (hr1 : Kd.C k56 w A1 l1.length l1) (hc1 : l1.length ≤ c1) (hr3 : Kd.C (Kd.int .i64) w A3 l3.length l3) (hc3 : l3.length ≤ c3) :
    Calls Tryd.prog 35 #[.slice A3 l3.length c3, .func (.func 36) #[] #[.pointer (some ⟨g, 0, none⟩)]] w fun e w' => e = .returned (.bool (l3.any (Cf.gone l1))) ∧ Below w.heap.size w w' :=
  Cf.nm.has_calls (Cf.gone l1) 36 #[.pointer (some ⟨g, 0, none⟩)] (enters_of Tryd.func36 (by kernel_rfl) rfl) A3 c3 l3 w hr3 hc3 (fun W x hW => show Calls Tryd.prog 36 #[.int .i64 x, .pointer (some ⟨g, 0, none⟩)] W _ from (Cf.clo2 g A1 c1 l1 A2 n2 c2 v x W (blk_below hb hW) (Kd.C_below hr1 hW) hc1).mono fun e w' hh => ⟨hh.1, Cf.up hW hh.2⟩)
theorem Cf.bind_s {α β : Type} (x : α) (f : α → Option β) : (some x).bind f = f x := rfl
theorem Cf.w64 {n : Int} (h0 : -9223372036854775808 ≤ n) (h1 : n ≤ 9223372036854775807) : wrap64 n = n := by unfold wrap64; omega
theorem Cf.in_is (a lo hi : Int) : impl_in.f a lo hi = some (Cf.inB a lo hi) := by
  unfold impl_in.f Cf.inB
  by_cases h : a ≥ lo
  · rw [if_pos h]; simp [h]
  · rw [if_neg h]; simp [h]
theorem Cf.iaddr_is (a : Int) : impl_isAddress.f a = some (Cf.inB a 0 4294967295) := by unfold impl_isAddress.f; rw [Cf.in_is]; rfl
theorem Cf.iport_is (a : Int) : impl_isPort.f a = some (Cf.inB a 0 65535) := by unfold impl_isPort.f; rw [Cf.in_is]; rfl
theorem Cf.iproto_is (a : Int) : impl_isProto.f a = some (Cf.prB a) := by
  unfold impl_isProto.f Cf.prB
  by_cases h : a = 6
  · rw [if_pos h]; simp [h]
  · rw [if_neg h]; simp [h]; rfl
theorem Cf.ibackend_is (x : S56) : impl_isBackend.f x.f0 x.f1 x.f2 x.f3 x.f4 = some (Cf.isb x) := by
  unfold impl_isBackend.f impl_isName.f Cf.isb
  simp only [Cf.iaddr_is, Cf.in_is, Option.bind_some]
  cases Cf.inB x.f0 1 999 <;> cases Cf.inB x.f1 0 4294967295 <;> cases Cf.inB x.f2 0 9 <;> rfl
theorem Cf.Compare_is (a b : Int) : cmp_Compare_int64.f a b = some (if a < b then -1 else if a > b then 1 else 0) := by
  unfold cmp_Compare_int64.f cmp_isNaN_int64.f
  rw [Cf.bind_s, Cf.bind_s, bne_self_eq_false, bne_self_eq_false, if_neg (by decide), if_neg (by decide)]
  by_cases h : a < b
  · rw [if_pos h, if_pos h]
  · rw [if_neg h, if_neg h]
    by_cases h2 : a > b
    · rw [if_pos h2, if_pos h2]
    · rw [if_neg h2, if_neg h2]
theorem Cf.Or_is (a b c : Int) : cmp_Or_int.f 4 [a, b, c] = some (if a = 0 then (if b = 0 then c else b) else a) := by
  have w0 : wrap64 ((0 : Int) + 1) = 1 := Cf.w64 (by omega) (by omega)
  have w1 : wrap64 ((1 : Int) + 1) = 2 := Cf.w64 (by omega) (by omega)
  have w2 : wrap64 ((2 : Int) + 1) = 3 := Cf.w64 (by omega) (by omega)
  have r0 : rd [a, b, c] 0 = a := rfl
  have r1 : rd [a, b, c] 1 = b := rfl
  have r2 : rd [a, b, c] 2 = c := rfl
  unfold cmp_Or_int.f
  rw [cmp_Or_int.l0.eq_2, if_pos (by simp), if_pos (by omega), if_pos (by simp), r0, w0]
  by_cases h0 : a = 0
  · rw [if_pos h0, if_pos h0, cmp_Or_int.l0.eq_2, if_pos (by simp), if_pos (by omega), if_pos (by simp), r1, w1]
    by_cases h1 : b = 0
    · rw [if_pos h1, if_pos h1, cmp_Or_int.l0.eq_2, if_pos (by simp), if_pos (by omega), if_pos (by simp), r2, w2]
      by_cases h2 : c = 0
      · rw [if_pos h2, cmp_Or_int.l0.eq_2, if_neg (by simp), h2]
      · rw [if_neg h2]
    · rw [if_neg h1, if_neg h1]
  · rw [if_neg h0, if_neg h0]
def Cf.cmp (a b : Int) : Int := if a < b then -1 else if a > b then 1 else 0
def Cf.cmpV (x y : S61) : Int := if Cf.cmp x.f0 y.f0 = 0 then (if Cf.cmp x.f1 y.f1 = 0 then Cf.cmp x.f2 y.f2 else Cf.cmp x.f1 y.f1) else Cf.cmp x.f0 y.f0
theorem Cf.compare_is (x y : S61) : impl_compareVip.f 4 x.f0 x.f1 x.f2 x.f3 y.f0 y.f1 y.f2 y.f3 = some (Cf.cmpV x y) := by
  unfold impl_compareVip.f
  rw [Cf.Compare_is, Cf.bind_s, Cf.Compare_is, Cf.bind_s, Cf.Compare_is, Cf.bind_s, Cf.Or_is, Cf.bind_s]; rfl
theorem Cf.cmp_beh (x y : S61) : decide (0 ≤ Cf.cmpV x y) = !Cf.beh x y := by
  unfold Cf.cmpV Cf.beh Cf.cmp
  rcases Int.lt_trichotomy x.f0 y.f0 with h | h | h
  · rw [if_pos h, if_neg (by omega), if_neg (by omega), decide_eq_true h]; rfl
  · rw [if_neg (show ¬ x.f0 < y.f0 by omega), if_neg (show ¬ x.f0 > y.f0 by omega), if_pos rfl, if_pos h]
    rcases Int.lt_trichotomy x.f1 y.f1 with h | h | h
    · rw [if_pos h, if_neg (by omega), if_neg (by omega), decide_eq_true h]; rfl
    · rw [if_neg (show ¬ x.f1 < y.f1 by omega), if_neg (show ¬ x.f1 > y.f1 by omega), if_pos rfl, if_pos h]
      rcases Int.lt_trichotomy x.f2 y.f2 with h | h | h
      · rw [if_pos h, decide_eq_true h]; rfl
      · rw [if_neg (show ¬ x.f2 < y.f2 by omega), if_neg (show ¬ x.f2 > y.f2 by omega), decide_eq_false (show ¬ x.f2 < y.f2 by omega)]; rfl
      · rw [if_neg (show ¬ x.f2 < y.f2 by omega), if_pos h, decide_eq_false (show ¬ x.f2 < y.f2 by omega)]; rfl
    · rw [if_neg (show ¬ x.f1 < y.f1 by omega), if_pos h, if_neg (by omega), if_neg (by omega), decide_eq_false (show ¬ x.f1 < y.f1 by omega)]; rfl
  · rw [if_neg (show ¬ x.f0 < y.f0 by omega), if_pos h, if_neg (by omega), if_neg (by omega), decide_eq_false (show ¬ x.f0 < y.f0 by omega)]; rfl
theorem Cf.iin (a lo hi : Int) (w : World) : Calls Tryd.prog 29 #[.int .i64 a, .int .i64 lo, .int .i64 hi] w fun e w' => e = .returned (.bool (Cf.inB a lo hi)) ∧ Below w.heap.size w w' := (impl_in.calls a lo hi _ w (Cf.in_is a lo hi)).mono (fun _ _ h => ⟨h.1, h.2.below⟩)
theorem Cf.iaddr (a : Int) (w : World) : Calls Tryd.prog 31 #[.int .i64 a] w fun e w' => e = .returned (.bool (Cf.inB a 0 4294967295)) ∧ Below w.heap.size w w' := (impl_isAddress.calls a _ w (Cf.iaddr_is a)).mono (fun _ _ h => ⟨h.1, h.2.below⟩)
theorem Cf.iport (a : Int) (w : World) : Calls Tryd.prog 32 #[.int .i64 a] w fun e w' => e = .returned (.bool (Cf.inB a 0 65535)) ∧ Below w.heap.size w w' := (impl_isPort.calls a _ w (Cf.iport_is a)).mono (fun _ _ h => ⟨h.1, h.2.below⟩)
theorem Cf.iproto (a : Int) (w : World) : Calls Tryd.prog 33 #[.int .i64 a] w fun e w' => e = .returned (.bool (Cf.prB a)) ∧ Below w.heap.size w w' := (impl_isProto.calls a _ w (Cf.iproto_is a)).mono (fun _ _ h => ⟨h.1, h.2.below⟩)
/-! the codes of a vip, case by case -/
theorem Cf.vc_3 {l1 : List S56} {l2 : List S61} {i : Nat} {x : S61} (hx : l2.getD i z61 = x) (h : Cf.vok x = false) : Cf.vcode l1 l2 i = 3 := by unfold Cf.vcode; rw [hx, if_pos h]
theorem Cf.vc_1 {l1 : List S56} {l2 : List S61} {i : Nat} {x : S61} (hx : l2.getD i z61 = x) (h : Cf.vok x = true) (h1 : (decide (0 < i) && !Cf.beh (l2.getD (i - 1) z61) x) = true) : Cf.vcode l1 l2 i = 1 := by unfold Cf.vcode; rw [hx, if_neg (by rw [h]; simp), if_pos h1]
theorem Cf.vc_4 {l1 : List S56} {l2 : List S61} {i : Nat} {x : S61} (hx : l2.getD i z61 = x) (h : Cf.vok x = true) (h1 : (decide (0 < i) && !Cf.beh (l2.getD (i - 1) z61) x) = false) (h2 : x.f3.any (Cf.gone l1) = true) : Cf.vcode l1 l2 i = 4 := by unfold Cf.vcode; rw [hx, if_neg (by rw [h]; simp), if_neg (by rw [h1]; simp), if_pos h2]
theorem Cf.vc_r {l1 : List S56} {l2 : List S61} {i : Nat} {x : S61} (hx : l2.getD i z61 = x) (h : Cf.vok x = true) (h1 : (decide (0 < i) && !Cf.beh (l2.getD (i - 1) z61) x) = false) (h2 : x.f3.any (Cf.gone l1) = false) : Cf.vcode l1 l2 i = if (List.range x.f3.length).any (Cf.falls x.f3) = true then 1 else 0 := by unfold Cf.vcode; rw [hx, if_neg (by rw [h]; simp), if_neg (by rw [h1]; simp), if_neg (by rw [h2]; simp)]
set_option maxHeartbeats 16000000 in
set_option maxRecDepth 100000 in
/-- What is not right of a configuration: the program's. -/
theorem impl_ConfigFault.cf (A1 : Option Addr) (c1 : Nat) (l1 : List S56) (A2 : Option Addr) (c2 : Nat) (l2 : List S61) (v : Int) (w : World) (hr1 : Kd.C k56 w A1 l1.length l1) (hc1 : l1.length ≤ c1) (hr2 : Kd.C k61 w A2 l2.length l2) :
    Calls Tryd.prog 16 #[.agg #[.int .i64 v, .slice A1 l1.length c1, .slice A2 l2.length c2]] w fun e w' => e = .returned (.int .i64 (Cf.code v l1 l2)) ∧ Below w.heap.size w w' := by
  have hu36 := Tryd.underlying56
  have hu31 := Tryd.underlying33
  have hu64 := Tryd.underlying61
  obtain ⟨r, hr⟩ : ∃ r, r = Cf.code v l1 l2 := ⟨_, rfl⟩
  rw [← hr]
  have hbig1 : l1.length ≤ 9223372036854775807 := by have := hr1.2.1; have hs : (k56).sz = 5 := rfl; (try simp only [maxLen] at this); (try rw [hs] at this); omega
  have hbig2 : l2.length ≤ 9223372036854775807 := by have := hr2.2.1; have hs : (k61).sz = 4 := rfl; (try simp only [maxLen] at this); (try rw [hs] at this); omega
  obtain ⟨w1, hw1⟩ : ∃ W, W = w.alloc (.cells #[.int .i64 v, .slice A1 l1.length c1, .slice A2 l2.length c2] 33) := ⟨_, rfl⟩
  have hB1 : Below w.heap.size w w1 := by rw [hw1]; exact (Below.refl _ w).alloc (Nat.le_refl _) _
  have D1 : Aside0 (w1.heap[w.heap.size]? = some (.cells #[.int .i64 v, .slice A1 l1.length c1, .slice A2 l2.length c2] 33 (0, 0))) := ⟨by rw [hw1]; exact blk_new w _⟩
  have D2 : Aside0 (Kd.C k56 w1 A1 l1.length l1) := ⟨Kd.C_below hr1 hB1⟩
  have D3 : Aside0 (Kd.C k61 w1 A2 l2.length l2) := ⟨Kd.C_below hr2 hB1⟩
  have DB : Aside0 (Below w.heap.size w w1) := ⟨hB1⟩
  clear hr1 hr2 hB1
  have h0 := Cf.iin v 0 1000000
  go_enter Tryd.func16, Tryd.ntmps16
  cases e0 : Cf.inB v 0 1000000 with
  | false =>
    simp only [e0] at h0
    go_wp2_with (go_at_call 29; refine (h0 _).mono ?_; rintro e w2 ⟨rfl, hb2⟩; rw [← hw1] at hb2)
    go_ret
    exact ⟨by rw [hr]; unfold Cf.code; rw [e0]; rfl, Cf.up DB.out hb2⟩
  | true =>
    simp only [e0] at h0
    by_cases hm : (l1.length : Int) > 8
    · have hm0 : decide ((8 : Int) < (l1.length : Int)) = true := decide_eq_true hm
      go_wp2_with (go_at_call 29; refine (h0 _).mono ?_; rintro e w2 ⟨rfl, hb2⟩; rw [← hw1] at hb2; have z1 := blk_cell (blk_below D1.out hb2) 1)
      go_ret
      exact ⟨by rw [hr]; unfold Cf.code; rw [e0, if_neg (by simp), if_pos (by rw [decide_eq_true hm]; rfl)]; rfl, Cf.up DB.out hb2⟩
    have hm0 : decide ((8 : Int) < (l1.length : Int)) = false := decide_eq_false hm
    by_cases hm2 : (l2.length : Int) > 4
    · have hm20 : decide ((4 : Int) < (l2.length : Int)) = true := decide_eq_true hm2
      go_wp2_with (go_at_call 29; refine (h0 _).mono ?_; rintro e w2 ⟨rfl, hb2⟩; rw [← hw1] at hb2; have z1 := blk_cell (blk_below D1.out hb2) 1; have z2 := blk_cell (blk_below D1.out hb2) 2)
      go_ret
      exact ⟨by rw [hr]; unfold Cf.code; rw [e0, if_neg (by simp), if_pos (by rw [decide_eq_true hm2]; simp)]; rfl, Cf.up DB.out hb2⟩
    have hm20 : decide ((4 : Int) < (l2.length : Int)) = false := decide_eq_false hm2
    have HR := Aside0.mk (Cf.code_b hr e0 hm hm2)
    clear hr
    go_wp2_with (go_at_call 29; refine (h0 _).mono ?_; rintro e w2 ⟨rfl, hb2⟩; rw [← hw1] at hb2; have z1 := blk_cell (blk_below D1.out hb2) 1; have z2 := blk_cell (blk_below D1.out hb2) 2)
    go_loopg [3, 4, 27] l1.length (fun gg _ _ s27 wr => ∃ kk : Nat, kk ≤ l1.length ∧ l1.length - kk ≤ gg ∧ s27 = .int .i64 kk ∧ Aside (Below w1.heap.size w1 wr) ∧ Aside (∀ j, j < kk → Cf.bcode l1 j = 0))
    case atStart => exact ⟨0, Nat.zero_le _, by omega, rfl, hb2, fun j hj => absurd hj (Nat.not_lt_zero _)⟩
    case round =>
      clear z1 z2 hb2 h0 hw1
      obtain ⟨kk, hkk, hg_, rfl, BW, AA⟩ := hrel
      by_cases hlt : kk < l1.length
      · have hltz : (kk : Int) < (l1.length : Int) := by omega
        obtain ⟨ad, eA, hx_0, hx_1, hx_2, hx_3, hx_4⟩ := at_T56 (Kd.C_below D2.out BW.out) (kk : Int) (by omega) hltz
        cases eA
        have hy : l1.getD kk z56 = rd_T56 l1 (kk : Int) := rfl
        generalize rd_T56 l1 (kk : Int) = y at hx_0 hx_1 hx_2 hx_3 hx_4 hy
        have B : Aside (l1.getD kk z56 = y) := hy
        clear hy
        simp only [Int.toNat_natCast] at hx_0 hx_1 hx_2 hx_3 hx_4
        obtain ⟨wb, hwb⟩ : ∃ W, W = wr.alloc (.cells #[.int .i64 y.f0, .int .i64 y.f1, .int .i64 y.f2, .int .i64 y.f3, .bool y.f4] 56) := ⟨_, rfl⟩
        have HWB := Aside0.mk (show Below wr.heap.size wr wb by rw [hwb]; exact (Below.refl _ wr).alloc (Nat.le_refl _) _)
        have HBK := Aside0.mk (show wb.heap[wr.heap.size]? = some (.cells #[.int .i64 y.f0, .int .i64 y.f1, .int .i64 y.f2, .int .i64 y.f3, .bool y.f4] 56 (0, 0)) by rw [hwb]; exact blk_new wr _)
        have hc := fun (W : World) => impl_isBackend.calls y.f0 y.f1 y.f2 y.f3 y.f4 _ W (Cf.ibackend_is y)
        cases hq : Cf.isb y with
        | false =>
          simp only [hq] at hc
          go_wp2_with (go_at_call 30; refine (hc _).mono ?_; rintro e w3 ⟨rfl, hb3⟩; rw [← hwb] at hb3)
          go_ret
          exact ⟨by rw [Cf.code_hit (v := v) HR.out kk hlt (by rw [Cf.bcode_3 (by rw [B.out]; exact hq)]; simp) AA.out, Cf.bcode_3 (by rw [B.out]; exact hq)]; rfl, Cf.up DB.out (Cf.up BW.out (Cf.up HWB.out hb3))⟩
        | true =>
          simp only [hq] at hc
          by_cases hk0 : 0 < kk
          · have hg0 : decide ((0 : Int) < (kk : Int)) = true := decide_eq_true (by omega)
            obtain ⟨j, hj⟩ : ∃ j, j = kk - 1 := ⟨_, rfl⟩
            have hwj : IntKind.i64.wrap ((kk : Int) - 1) = (j : Int) := by rw [IntKind.wrap_i64]; omega
            have hjl : (j : Int) < (l1.length : Int) := by omega
            have C : Aside (l1.getD (kk - 1) z56 = rd_T56 l1 (j : Int)) := (by rw [← hj]; rfl)
            clear hj
            cases hle : decide (y.f0 ≤ (rd_T56 l1 (j : Int)).f0) with
            | true =>
              go_wp2_with (go_at_call 30; refine (hc _).mono ?_; rintro e w3 ⟨rfl, hb3⟩; rw [← hwb] at hb3; have hb3' := hb3; replace hb3 := Cf.up HWB.out hb3; have z1 := blk_cell (blk_below D1.out (Cf.up BW.out hb3)) 1; have zb := blk_cell (blk_below HBK.out hb3') 0; obtain ⟨ad2, eA2, px_0, px_1, px_2, px_3, px_4⟩ := at_T56 (Kd.C_below D2.out (Cf.up BW.out hb3)) (j : Int) (by omega) hjl; cases eA2; simp only [Int.toNat_natCast] at px_0)
              go_quiet (fail)
              go_wp2
              go_ret
              have hbc : Cf.bcode l1 kk = 1 := Cf.bcode_1 (by rw [B.out]; exact hq) hk0 (by rw [B.out, C.out]; exact hle)
              exact ⟨by rw [Cf.code_hit (v := v) HR.out kk hlt (by rw [hbc]; simp) AA.out, hbc]; rfl, Cf.up DB.out (pw_below_drewN (Cf.up BW.out hb3) _)⟩
            | false =>
              go_wp2_with (go_at_call 30; refine (hc _).mono ?_; rintro e w3 ⟨rfl, hb3⟩; rw [← hwb] at hb3; have hb3' := hb3; replace hb3 := Cf.up HWB.out hb3; have z1 := blk_cell (blk_below D1.out (Cf.up BW.out hb3)) 1; have zb := blk_cell (blk_below HBK.out hb3') 0; obtain ⟨ad2, eA2, px_0, px_1, px_2, px_3, px_4⟩ := at_T56 (Kd.C_below D2.out (Cf.up BW.out hb3)) (j : Int) (by omega) hjl; cases eA2; simp only [Int.toNat_natCast] at px_0)
              go_quiet (fail)
              go_wp2
              have hbc : Cf.bcode l1 kk = 0 := Cf.bcode_0 (by rw [B.out]; exact hq) (by rw [B.out, C.out, hle]; simp)
              go_roundg (l1.length - (kk + 1))
              case measure => omega
              case rel =>
                refine ⟨kk + 1, by omega, by omega, by go_num, pw_below_drewN (Cf.up BW.out hb3) _, (show Aside _ from fun j hj => ?_)⟩
                by_cases e : j = kk
                · subst e; exact hbc
                · exact AA.out j (by omega)
          · have hg0 : decide ((0 : Int) < (kk : Int)) = false := decide_eq_false (by omega)
            go_wp2_with (go_at_call 30; refine (hc _).mono ?_; rintro e w3 ⟨rfl, hb3⟩; rw [← hwb] at hb3; replace hb3 := Cf.up HWB.out hb3)
            go_quiet (fail)
            go_wp2
            have hbc : Cf.bcode l1 kk = 0 := Cf.bcode_0 (by rw [B.out]; exact hq) (by rw [decide_eq_false hk0]; rfl)
            go_roundg (l1.length - (kk + 1))
            case measure => omega
            case rel =>
              refine ⟨kk + 1, by omega, by omega, by go_num, pw_below_drewN (Cf.up BW.out hb3) _, (show Aside _ from fun j hj => ?_)⟩
              by_cases e : j = kk
              · subst e; exact hbc
              · exact AA.out j (by omega)
      · have hltz : ¬ (kk : Int) < (l1.length : Int) := by omega
        have : kk = l1.length := by omega
        subst this
        have HV := Aside0.mk (Cf.code_v HR.out AA.out)
        have BW0 : Aside0 (Below w1.heap.size w1 wr) := ⟨BW.out⟩
        have z2 := blk_cell (blk_below D1.out BW.out) 2
        clear AA BW hg_ hkk hlt HR
        go_wp2
        go_loopg [5, 6, 7, 53] l2.length (fun gg _ _ _ s53 wr => ∃ kk : Nat, kk ≤ l2.length ∧ l2.length - kk ≤ gg ∧ s53 = .int .i64 kk ∧ Aside (Below w1.heap.size w1 wr) ∧ Aside (∀ j, j < kk → Cf.vcode l1 l2 j = 0))
        case atStart => exact ⟨0, Nat.zero_le _, by omega, rfl, BW0.out, fun j hj => absurd hj (Nat.not_lt_zero _)⟩
        case round =>
          clear z2 BW0
          obtain ⟨kk, hkk, hg_, rfl, BW, AA⟩ := hrel
          by_cases hlt : kk < l2.length
          · have hltz : (kk : Int) < (l2.length : Int) := by omega
            obtain ⟨ad, A3, c3, eA, hx_0, hx_1, hx_2, hx_3, hl3, hC3⟩ := at_T61 (Kd.C_below D3.out BW.out) (kk : Int) (by omega) hltz
            cases eA
            have hy : l2.getD kk z61 = rd_T61 l2 (kk : Int) := rfl
            generalize rd_T61 l2 (kk : Int) = x at hx_0 hx_1 hx_2 hx_3 hl3 hC3 hy
            have B : Aside (l2.getD kk z61 = x) := hy
            clear hy
            simp only [Int.toNat_natCast] at hx_0 hx_1 hx_2 hx_3
            have hn3 : x.f3.length ≤ 9223372036854775807 := by have := hC3.2.1; have hs : (Kd.int .i64).sz = 1 := rfl; (try simp only [maxLen] at this); (try rw [hs] at this); omega
            obtain ⟨wv, hwv⟩ : ∃ W, W = wr.alloc (.cells #[.int .i64 x.f0, .int .i64 x.f1, .int .i64 x.f2, .slice A3 x.f3.length c3] 61) := ⟨_, rfl⟩
            have HWV : Below wr.heap.size wr wv := by rw [hwv]; exact (Below.refl _ wr).alloc (Nat.le_refl _) _
            have BV := Aside0.mk (Cf.up BW.out HWV)
            have HBK := Aside0.mk (show wv.heap[wr.heap.size]? = some (.cells #[.int .i64 x.f0, .int .i64 x.f1, .int .i64 x.f2, .slice A3 x.f3.length c3] 61 (0, 0)) by rw [hwv]; exact blk_new wr _)
            have HC3 := Aside0.mk (Kd.C_below hC3 HWV)
            clear HWV hC3
            have h0 := Cf.iaddr x.f0
            have h1 := Cf.iport x.f1
            have h2 := Cf.iproto x.f2
            cases e0 : Cf.inB x.f0 0 4294967295 with
            | false =>
              simp only [e0] at h0
              go_wp2_with (go_at_call 31; refine (h0 _).mono ?_; rintro e w2 ⟨rfl, hb2⟩; rw [← hwv] at hb2; have q1 := blk_cell (blk_below HBK.out hb2) 1)
              go_ret
              exact ⟨by rw [Cf.vhit HV.out kk hlt (by rw [Cf.vc_3 B.out (by unfold Cf.vok; rw [e0]; rfl)]; simp) AA.out, Cf.vc_3 B.out (by unfold Cf.vok; rw [e0]; rfl)]; rfl, Cf.up DB.out (Cf.up BV.out hb2)⟩
            | true =>
              simp only [e0] at h0
              cases e1 : Cf.inB x.f1 0 65535 with
              | false =>
                simp only [e1] at h1
                go_wp2_with (first | (go_at_call 31; refine (h0 _).mono ?_; rintro e w2 ⟨rfl, hb2⟩; rw [← hwv] at hb2; have q1 := blk_cell (blk_below HBK.out hb2) 1) | (go_at_call 32; refine (h1 _).mono ?_; rintro e w3 ⟨rfl, hb3⟩; replace hb2 := Cf.up hb2 hb3; clear hb3))
                go_ret
                exact ⟨by rw [Cf.vhit HV.out kk hlt (by rw [Cf.vc_3 B.out (by unfold Cf.vok; rw [e0, e1]; rfl)]; simp) AA.out, Cf.vc_3 B.out (by unfold Cf.vok; rw [e0, e1]; rfl)]; rfl, Cf.up DB.out (Cf.up BV.out hb2)⟩
              | true =>
                simp only [e1] at h1
                cases e2 : Cf.prB x.f2 with
                | false =>
                  simp only [e2] at h2
                  go_wp2_with (first | (go_at_call 31; refine (h0 _).mono ?_; rintro e w2 ⟨rfl, hb2⟩; rw [← hwv] at hb2; have q1 := blk_cell (blk_below HBK.out hb2) 1) | (go_at_call 32; refine (h1 _).mono ?_; rintro e w3 ⟨rfl, hb3⟩; replace hb2 := Cf.up hb2 hb3; clear hb3; clear q1; have q2 := blk_cell (blk_below HBK.out hb2) 2) | (go_at_call 33; refine (h2 _).mono ?_; rintro e w4 ⟨rfl, hb4⟩; replace hb2 := Cf.up hb2 hb4; clear hb4 q2))
                  go_ret
                  exact ⟨by rw [Cf.vhit HV.out kk hlt (by rw [Cf.vc_3 B.out (by unfold Cf.vok; rw [e0, e1, e2]; rfl)]; simp) AA.out, Cf.vc_3 B.out (by unfold Cf.vok; rw [e0, e1, e2]; rfl)]; rfl, Cf.up DB.out (Cf.up BV.out hb2)⟩
                | true =>
                  simp only [e2] at h2
                  have hok : Cf.vok x = true := by unfold Cf.vok; rw [e0, e1, e2]; rfl
                  go_wp2_with (first | (go_at_call 31; refine (h0 _).mono ?_; rintro e w2 ⟨rfl, hb2⟩; rw [← hwv] at hb2; have q1 := blk_cell (blk_below HBK.out hb2) 1) | (go_at_call 32; refine (h1 _).mono ?_; rintro e w3 ⟨rfl, hb3⟩; replace hb2 := Cf.up hb2 hb3; clear hb3; clear q1; have q2 := blk_cell (blk_below HBK.out hb2) 2) | (go_at_call 33; refine (h2 _).mono ?_; rintro e w4 ⟨rfl, hb4⟩; replace hb2 := Cf.up hb2 hb4; clear hb4 q2))
                  clear h0 h1 h2
                  by_cases hk0 : 0 < kk
                  · have hg0 : decide ((0 : Int) < (kk : Int)) = true := decide_eq_true (by omega)
                    obtain ⟨j, hj⟩ : ∃ j, j = kk - 1 := ⟨_, rfl⟩
                    have hwj : IntKind.i64.wrap ((kk : Int) - 1) = (j : Int) := by rw [IntKind.wrap_i64]; omega
                    have hjl : (j : Int) < (l2.length : Int) := by omega
                    have hjl0 : (0 : Int) ≤ (j : Int) := by omega
                    obtain ⟨ad2, A5, c5, eB, px_0, px_1, px_2, px_3, pl3, pC3⟩ := at_T61 (Kd.C_below D3.out (Cf.up BV.out hb2)) (j : Int) (by omega) hjl
                    cases eB
                    have C0 : l2.getD (kk - 1) z61 = rd_T61 l2 (j : Int) := (by rw [← hj]; rfl)
                    generalize rd_T61 l2 (j : Int) = y at px_0 px_1 px_2 px_3 pl3 pC3 C0
                    have C : Aside (l2.getD (kk - 1) z61 = y) := C0
                    clear C0 hj
                    simp only [Int.toNat_natCast] at px_0 px_1 px_2 px_3
                    have hz2' := blk_cell (blk_below D1.out (Cf.up BV.out hb2)) 2
                    have bv := blk_below HBK.out hb2
                    have v0 := blk_cell bv 0
                    have v1 := blk_cell bv 1
                    have v2 := blk_cell bv 2
                    have v3 := blk_cell bv 3
                    clear bv
                    have hcmp := fun (W : World) (hW : Below w4.heap.size w4 W) => impl_compareVip.calls 4 y.f0 y.f1 y.f2 A5 c5 y.f3 x.f0 x.f1 x.f2 A3 c3 x.f3 _ W (Kd.C_below pC3 hW) pl3 (Kd.C_below (Kd.C_below HC3.out hb2) hW) hl3 (Cf.compare_is y x)
                    have hcb := Cf.cmp_beh y x
                    cases hbh : Cf.beh y x with
                    | false =>
                      rw [hbh] at hcb
                      have hcb' : decide (0 ≤ Cf.cmpV y x) = true := hcb
                      clear hcb
                      go_still_tail 10, (by kernel_rfl)
                      change wpList _ _ _ _ _ w4.drew
                      have hd : Below w4.heap.size w4 w4.drew := below_drew1 (Below.refl _ _)
                      generalize w4.drew = wd at hd
                      go_wp2_with (go_at_call 34; refine (hcmp _ hd).mono ?_; rintro e w5 ⟨rfl, hb5⟩; replace hb2 := Cf.up (Cf.up hb2 hd) hb5)
                      go_ret
                      have H1 : (decide (0 < kk) && !Cf.beh (l2.getD (kk - 1) z61) x) = true := by rw [decide_eq_true hk0, C.out, hbh]; rfl
                      exact ⟨by rw [Cf.vhit HV.out kk hlt (by rw [Cf.vc_1 B.out hok H1]; simp) AA.out, Cf.vc_1 B.out hok H1]; rfl, Cf.up DB.out (Cf.up BV.out hb2)⟩
                    | true =>
                      rw [hbh] at hcb
                      have hcb' : decide (0 ≤ Cf.cmpV y x) = false := hcb
                      clear hcb
                      have H1 := Aside0.mk (show (decide (0 < kk) && !Cf.beh (l2.getD (kk - 1) z61) x) = false by rw [decide_eq_true hk0, C.out, hbh]; rfl)
                      go_still_tail 10, (by kernel_rfl)
                      change wpList _ _ _ _ _ w4.drew
                      have hd : Below w4.heap.size w4 w4.drew := below_drew1 (Below.refl _ _)
                      generalize w4.drew = wd at hd
                      go_wp2_with (go_at_call 34; refine (hcmp _ hd).mono ?_; rintro e w5 ⟨rfl, hb5⟩; replace hb2 := Cf.up (Cf.up hb2 hd) hb5; clear hb5 hd hcmp px_0 px_1 px_2 px_3 pl3 pC3 hz2' v0 v1 v2 v3; have q3 := blk_cell (blk_below HBK.out hb2) 3)
                      clear q3
                      have z3 := blk_cell (blk_below HBK.out hb2) 3
                      have hcall := Cf.hasgone w.heap.size A1 c1 l1 (some ad) l2.length c2 v A3 c3 x.f3 w5 (blk_below D1.out (Cf.up BV.out hb2)) (Kd.C_below D2.out (Cf.up BV.out hb2)) hc1 (Kd.C_below HC3.out hb2) hl3
                      cases hh : x.f3.any (Cf.gone l1) with
                      | true =>
                        rw [hh] at hcall
                        go_wp2_with (go_at_call 35; refine hcall.mono ?_; rintro e w6 ⟨rfl, hb6⟩; replace hb2 := Cf.up hb2 hb6)
                        go_ret
                        exact ⟨by rw [Cf.vhit HV.out kk hlt (by rw [Cf.vc_4 B.out hok H1.out hh]; simp) AA.out, Cf.vc_4 B.out hok H1.out hh]; rfl, Cf.up DB.out (Cf.up BV.out hb2)⟩
                      | false =>
                        rw [hh] at hcall
                        go_wp2_with (go_at_call 35; refine hcall.mono ?_; rintro e w6 ⟨rfl, hb6⟩; replace hb2 := Cf.up hb2 hb6; clear hb6)
                        have HVC := Aside0.mk (Cf.vc_r B.out hok H1.out hh)
                        go_loopg [7] x.f3.length (fun gg s7 wr2 => ∃ k2 : Nat, k2 ≤ x.f3.length + 1 ∧ 1 ≤ k2 ∧ x.f3.length - k2 ≤ gg ∧ s7 = .int .i64 k2 ∧ Aside (Below wv.heap.size wv wr2) ∧ Aside (∀ j, j < k2 → j < x.f3.length → Cf.falls x.f3 j = false))
                        case atStart => exact ⟨1, by omega, by omega, by omega, rfl, hb2, fun j hj _ => (show Cf.falls x.f3 j = false from by (obtain rfl : j = 0 := by omega); simp [Cf.falls])⟩
                        case round =>
                          clear z3 hb2 hcall
                          obtain ⟨k2, hk2, hk1, hg2, rfl, B2, A2_⟩ := hrel
                          have z3 := blk_cell (blk_below HBK.out B2.out) 3
                          by_cases hlt2 : k2 < x.f3.length
                          · have hltz2 : (k2 : Int) < (x.f3.length : Int) := by omega
                            obtain ⟨an, eN, hn⟩ := Kd.at_int (Kd.C_below HC3.out B2.out) (k2 : Int) (by omega) hltz2
                            cases eN
                            obtain ⟨j, hj⟩ : ∃ j, j = k2 - 1 := ⟨_, rfl⟩
                            have hwj : IntKind.i64.wrap ((k2 : Int) - 1) = (j : Int) := by rw [IntKind.wrap_i64]; omega
                            have hjl : (j : Int) < (x.f3.length : Int) := by omega
                            obtain ⟨an2, eN2, hn2⟩ := Kd.at_int (Kd.C_below HC3.out B2.out) (j : Int) (by omega) hjl
                            cases eN2
                            have HQ : Aside (Cf.falls x.f3 k2 = decide (rd x.f3 (k2 : Int) ≤ rd x.f3 (j : Int))) := (by
                              show Cf.falls x.f3 k2 = _
                              unfold Cf.falls
                              rw [decide_eq_true hk1, ← hj]; rfl)
                            clear hj
                            simp only [Int.toNat_natCast] at hn hn2
                            cases hq : decide (rd x.f3 (k2 : Int) ≤ rd x.f3 (j : Int)) with
                            | true =>
                              go_wp2
                              go_quiet (fail)
                              go_wp2
                              go_ret
                              have hvc : Cf.vcode l1 l2 kk = 1 := by rw [HVC.out, if_pos (Cf.range_hit (Cf.falls x.f3) x.f3.length k2 hlt2 (HQ.out.trans hq))]
                              exact ⟨by rw [Cf.vhit HV.out kk hlt (by rw [hvc]; simp) AA.out, hvc]; rfl, Cf.up DB.out (Cf.up BV.out (pw_below_drewN B2.out _))⟩
                            | false =>
                              go_wp2
                              go_quiet (fail)
                              go_wp2
                              go_roundg (x.f3.length - (k2 + 1))
                              case measure => omega
                              case rel =>
                                refine ⟨k2 + 1, by omega, by omega, by omega, by go_num, pw_below_drewN B2.out _, (show Aside _ from fun j hj hl => ?_)⟩
                                by_cases e : j = k2
                                · subst e
                                  exact HQ.out.trans hq
                                · exact A2_.out j (by omega) hl
                          · have hltz2 : ¬ (k2 : Int) < (x.f3.length : Int) := by omega
                            have hvc : Cf.vcode l1 l2 kk = 0 := by rw [HVC.out, if_neg (by rw [Cf.range_miss (Cf.falls x.f3) x.f3.length (fun j hj => A2_.out j (by omega) hj)]; simp)]
                            have HVC0 := Aside0.mk hvc
                            clear hvc
                            go_wp2
                            go_roundg (l2.length - (kk + 1))
                            case measure => omega
                            case rel =>
                              refine ⟨kk + 1, by omega, by omega, by go_num, Cf.up BV.out B2.out, (show Aside _ from fun j hj => ?_)⟩
                              by_cases e : j = kk
                              · subst e; exact HVC0.out
                              · exact AA.out j (by omega)
                  · have hg0 : decide ((0 : Int) < (kk : Int)) = false := decide_eq_false (by omega)
                    have H1 := Aside0.mk (show (decide (0 < kk) && !Cf.beh (l2.getD (kk - 1) z61) x) = false by rw [decide_eq_false hk0]; rfl)
                    go_quiet (fail)
                    replace hb2 := pw_below_drewN hb2 nq
                    have z3 := blk_cell (blk_below HBK.out hb2) 3
                    have hcall := Cf.hasgone w.heap.size A1 c1 l1 (some ad) l2.length c2 v A3 c3 x.f3 _ (blk_below D1.out (Cf.up BV.out hb2)) (Kd.C_below D2.out (Cf.up BV.out hb2)) hc1 (Kd.C_below HC3.out hb2) hl3
                    cases hh : x.f3.any (Cf.gone l1) with
                    | true =>
                      rw [hh] at hcall
                      go_wp2_with (go_at_call 35; refine hcall.mono ?_; rintro e w6 ⟨rfl, hb6⟩; replace hb2 := Cf.up hb2 hb6)
                      go_ret
                      exact ⟨by rw [Cf.vhit HV.out kk hlt (by rw [Cf.vc_4 B.out hok H1.out hh]; simp) AA.out, Cf.vc_4 B.out hok H1.out hh]; rfl, Cf.up DB.out (Cf.up BV.out hb2)⟩
                    | false =>
                      rw [hh] at hcall
                      go_wp2_with (go_at_call 35; refine hcall.mono ?_; rintro e w6 ⟨rfl, hb6⟩; replace hb2 := Cf.up hb2 hb6; clear hb6)
                      have HVC := Aside0.mk (Cf.vc_r B.out hok H1.out hh)
                      go_loopg [7] x.f3.length (fun gg s7 wr2 => ∃ k2 : Nat, k2 ≤ x.f3.length + 1 ∧ 1 ≤ k2 ∧ x.f3.length - k2 ≤ gg ∧ s7 = .int .i64 k2 ∧ Aside (Below wv.heap.size wv wr2) ∧ Aside (∀ j, j < k2 → j < x.f3.length → Cf.falls x.f3 j = false))
                      case atStart => exact ⟨1, by omega, by omega, by omega, rfl, hb2, fun j hj _ => (show Cf.falls x.f3 j = false from by (obtain rfl : j = 0 := by omega); simp [Cf.falls])⟩
                      case round =>
                        clear z3 hb2 hcall
                        obtain ⟨k2, hk2, hk1, hg2, rfl, B2, A2_⟩ := hrel
                        have z3 := blk_cell (blk_below HBK.out B2.out) 3
                        by_cases hlt2 : k2 < x.f3.length
                        · have hltz2 : (k2 : Int) < (x.f3.length : Int) := by omega
                          obtain ⟨an, eN, hn⟩ := Kd.at_int (Kd.C_below HC3.out B2.out) (k2 : Int) (by omega) hltz2
                          cases eN
                          obtain ⟨j, hj⟩ : ∃ j, j = k2 - 1 := ⟨_, rfl⟩
                          have hwj : IntKind.i64.wrap ((k2 : Int) - 1) = (j : Int) := by rw [IntKind.wrap_i64]; omega
                          have hjl : (j : Int) < (x.f3.length : Int) := by omega
                          obtain ⟨an2, eN2, hn2⟩ := Kd.at_int (Kd.C_below HC3.out B2.out) (j : Int) (by omega) hjl
                          cases eN2
                          have HQ : Aside (Cf.falls x.f3 k2 = decide (rd x.f3 (k2 : Int) ≤ rd x.f3 (j : Int))) := (by
                            show Cf.falls x.f3 k2 = _
                            unfold Cf.falls
                            rw [decide_eq_true hk1, ← hj]; rfl)
                          clear hj
                          simp only [Int.toNat_natCast] at hn hn2
                          cases hq : decide (rd x.f3 (k2 : Int) ≤ rd x.f3 (j : Int)) with
                          | true =>
                            go_wp2
                            go_quiet (fail)
                            go_wp2
                            go_ret
                            have hvc : Cf.vcode l1 l2 kk = 1 := by rw [HVC.out, if_pos (Cf.range_hit (Cf.falls x.f3) x.f3.length k2 hlt2 (HQ.out.trans hq))]
                            exact ⟨by rw [Cf.vhit HV.out kk hlt (by rw [hvc]; simp) AA.out, hvc]; rfl, Cf.up DB.out (Cf.up BV.out (pw_below_drewN B2.out _))⟩
                          | false =>
                            go_wp2
                            go_quiet (fail)
                            go_wp2
                            go_roundg (x.f3.length - (k2 + 1))
                            case measure => omega
                            case rel =>
                              refine ⟨k2 + 1, by omega, by omega, by omega, by go_num, pw_below_drewN B2.out _, (show Aside _ from fun j hj hl => ?_)⟩
                              by_cases e : j = k2
                              · subst e
                                exact HQ.out.trans hq
                              · exact A2_.out j (by omega) hl
                        · have hltz2 : ¬ (k2 : Int) < (x.f3.length : Int) := by omega
                          have hvc : Cf.vcode l1 l2 kk = 0 := by rw [HVC.out, if_neg (by rw [Cf.range_miss (Cf.falls x.f3) x.f3.length (fun j hj => A2_.out j (by omega) hj)]; simp)]
                          have HVC0 := Aside0.mk hvc
                          clear hvc
                          go_wp2
                          go_roundg (l2.length - (kk + 1))
                          case measure => omega
                          case rel =>
                            refine ⟨kk + 1, by omega, by omega, by go_num, Cf.up BV.out B2.out, (show Aside _ from fun j hj => ?_)⟩
                            by_cases e : j = kk
                            · subst e; exact HVC0.out
                            · exact AA.out j (by omega)
          · have hltz : ¬ (kk : Int) < (l2.length : Int) := by omega
            go_wp2
            go_ret
            exact ⟨by rw [Cf.vmiss HV.out (fun j hj => AA.out j (by omega))]; rfl, Cf.up DB.out BW.out⟩
def impl_ConfigFault.f (a0_0 : Int) (l0_1 : List (S56)) (l0_2 : List (S61)) : Option (Int) := some (Cf.code a0_0 l0_1 l0_2)
theorem impl_ConfigFault.calls (a0_0 : Int) (A0_1 : Option Addr) (c0_1 : Nat) (l0_1 : List (S56)) (A0_2 : Option Addr) (c0_2 : Nat) (l0_2 : List (S61)) (r : Int) (w : World) (hr0_1 : Kd.C k56 w A0_1 l0_1.length l0_1) (hc0_1 : l0_1.length ≤ c0_1) (hr0_2 : Kd.C k61 w A0_2 l0_2.length l0_2) (hc0_2 : l0_2.length ≤ c0_2) (h : impl_ConfigFault.f a0_0 l0_1 l0_2 = some r) :
    Calls Tryd.prog 16 #[.agg #[.int .i64 a0_0, .slice A0_1 l0_1.length c0_1, .slice A0_2 l0_2.length c0_2]] w fun e w' => e = .returned (.int .i64 r) ∧ Below w.heap.size w w' := by
  obtain rfl := Option.some.inj h
  exact impl_ConfigFault.cf A0_1 c0_1 l0_1 A0_2 c0_2 l0_2 a0_0 w hr0_1 hc0_1 hr0_2

/-! ### strconv_small: function 64 -/
-- (its contract is the library's)

/-! ### strconv_log10Pow2: function 68 -/
-- (its contract is the library's)

/-! ### bits_Len64: function 69 -/
-- (its contract is the library's)

/-! ### strconv_bool2_int: function 70 -/
-- (its contract is the library's)

/-! ### strconv_isPowerOfTwo: function 71 -/
-- (its contract is the library's)

/-! ### impl_decimal: function 38 -/
/-! #### numbers in decimal, by hand: over strconv.FormatInt's contract -/
theorem Ct.up {w0 w w' : World} (h : Below w0.heap.size w0 w) (h' : Below w.heap.size w w') : Below w0.heap.size w0 w' := h.trans (h'.mono h.size)
/-- A number in decimal. -/
def Ct.tx (n : Int) : ByteArray := ⟨(Lib.itoa n).toArray⟩
theorem Ct.sz (a b : ByteArray) : (a ++ b).size = a.size + b.size := ByteArray.size_append
theorem Ct.tx_size (n : Int) (h0 : 0 ≤ n) (h1 : n ≤ 4294967295) : (Ct.tx n).size ≤ 21 := by
  have := Lib.itoa_length_le n (by omega) (by omega)
  show (Lib.itoa n).toArray.size ≤ 21
  simpa using this
set_option maxHeartbeats 2000000 in
theorem Ct.decimal (n : Int) (h0 : 0 ≤ n) (h1 : n ≤ 4294967295) (w : World) (ht : Lib.TabIs Tryd.prog w "internal/strconv.uint64pow10" .u64 Lib.pow10Tab) :
    Calls Tryd.prog 38 #[.int .i64 n] w fun e w' => e = .returned (.string (Ct.tx n)) ∧ Below w.heap.size w w' := by
  go_enter Tryd.func38, Tryd.ntmps38
  go_wp2_with (go_at_call 60; refine (Tryd.strconv_FormatInt_10 n (by omega) (by omega) _ ht).mono ?_; rintro e w' ⟨rfl, k, os, rfl⟩)
  go_ret
  exact ⟨rfl, Lib.below_grow _ _ (Nat.le_refl _) _ _⟩
def impl_decimal.f (a0 : Int) : Option (ByteArray) := if 0 ≤ a0 ∧ a0 ≤ 4294967295 then some (Ct.tx a0) else none
theorem impl_decimal.calls (a0 : Int) (r : ByteArray) (w : World) (ht_ : Lib.TabIs Tryd.prog w "internal/strconv.uint64pow10" .u64 Lib.pow10Tab) (h : impl_decimal.f a0 = some r) :
    Calls Tryd.prog 38 #[.int .i64 a0] w fun e w' => e = .returned (.string r) ∧ Below w.heap.size w w' := by
  unfold impl_decimal.f at h
  split at h
  · rename_i hc
    obtain rfl := Option.some.inj h
    exact Ct.decimal a0 hc.1 hc.2 w ht_
  · cases h

/-! ### impl_decimals: function 41 -/
/-! #### numbers with a text between them -/
/-- The first m numbers in decimal, with a text between them. -/
def Ct.dj (sep : ByteArray) (l : List Int) : Nat → ByteArray
  | 0 => ⟨#[]⟩
  | 1 => (⟨#[]⟩ : ByteArray) ++ Ct.tx (l.getD 0 0)
  | m + 2 => (Ct.dj sep l (m + 1) ++ sep) ++ Ct.tx (l.getD (m + 1) 0)
theorem Ct.dj_size (sep : ByteArray) (l : List Int) (hs : sep.size ≤ 1) (hv : ∀ x ∈ l, 0 ≤ x ∧ x ≤ 4294967295) : ∀ m, m ≤ l.length → (Ct.dj sep l m).size ≤ 22 * m
  | 0, _ => Nat.zero_le _
  | 1, h => by
    have e : l.getD 0 0 = l[0] := by simp [List.getD, show 0 < l.length by omega]
    have := hv _ (List.getElem_mem (show 0 < l.length by omega))
    have := Ct.tx_size (l.getD 0 0) (by rw [e]; omega) (by rw [e]; omega)
    rw [Ct.dj, Ct.sz]
    have : (⟨#[]⟩ : ByteArray).size = 0 := rfl
    omega
  | m + 2, h => by
    have e : l.getD (m + 1) 0 = l[m + 1] := by simp [List.getD, show m + 1 < l.length by omega]
    have := hv _ (List.getElem_mem (show m + 1 < l.length by omega))
    have := Ct.tx_size (l.getD (m + 1) 0) (by rw [e]; omega) (by rw [e]; omega)
    have := Ct.dj_size sep l hs hv (m + 1) (by omega)
    rw [Ct.dj, Ct.sz, Ct.sz]
    omega
set_option maxHeartbeats 4000000 in
theorem impl_decimals.cf (sep : ByteArray) (A : Option Addr) (c : Nat) (l : List Int) (w : World) (hs : sep.size ≤ 1) (hl : l.length ≤ 1000000) (hv : ∀ x ∈ l, 0 ≤ x ∧ x ≤ 4294967295) (hr : Kd.C (Kd.int .i64) w A l.length l) (ht : Lib.TabIs Tryd.prog w "internal/strconv.uint64pow10" .u64 Lib.pow10Tab) :
    Calls Tryd.prog 41 #[.string sep, .slice A l.length c] w fun e w' => e = .returned (.string (Ct.dj sep l l.length)) ∧ Below w.heap.size w w' := by
  go_enter Tryd.func41, Tryd.ntmps41
  go_wp2
  go_loopg [5, 6, 7, 10] l.length (fun gg s5 _ _ s10 wr => ∃ kk : Nat, kk ≤ l.length ∧ l.length - kk ≤ gg ∧ s5 = .string (Ct.dj sep l kk) ∧ s10 = .int .i64 kk ∧ Aside (Below w.heap.size w wr))
  case atStart => exact ⟨0, Nat.zero_le _, by omega, rfl, rfl, Below.refl _ w⟩
  case round =>
    obtain ⟨kk, hkk, hg, rfl, rfl, BW⟩ := hrel
    by_cases hlt : kk < l.length
    · have hltz : (kk : Int) < (l.length : Int) := by omega
      have hrw := Kd.C_below hr BW.out
      obtain ⟨ad, eA, hx⟩ := Kd.at_int hrw (kk : Int) (by omega) hltz
      cases eA
      simp only [Int.toNat_natCast] at hx
      have hg0 : rd l (kk : Int) = l.getD kk 0 := by simp [rd]
      have hmem : l.getD kk 0 ∈ l := by
        have e : l.getD kk 0 = l[kk] := by simp [List.getD, hlt]
        rw [e]; exact List.getElem_mem hlt
      have hx0 := hv _ hmem
      have hsz := Ct.dj_size sep l hs hv kk hkk
      have htw := Go.Joins.tab_stays (show Tryd.prog.globalNamed "internal/strconv.uint64pow10" = some 0 by kernel_rfl) ht BW.out (Nat.le_refl _)
      have hcall := Ct.decimal (l.getD kk 0) hx0.1 hx0.2 wr htw
      have htx := Ct.tx_size (l.getD kk 0) hx0.1 hx0.2
      rw [hg0] at hx
      have hst : ∀ out, out = Ct.dj sep l kk → ∀ t, t = Ct.tx (l.getD kk 0) → Ct.dj sep l (kk + 1) = (if kk = 0 then out else out ++ sep) ++ t := by
        rintro out rfl t rfl
        match kk with
        | 0 => rfl
        | m + 1 => rfl
      generalize Ct.dj sep l kk = out at hsz hst
      generalize l.getD kk 0 = x at hx hcall htx hst
      generalize Ct.tx x = t at hcall htx hst
      have HST := Aside0.mk (hst out rfl t rfl)
      clear hst hmem hx0 hg0 htw hrw hv
      by_cases hk0 : 0 < kk
      · have hg1 : decide ((0 : Int) < (kk : Int)) = true := decide_eq_true (by omega)
        go_wp2_with (go_at_call 38; refine hcall.mono ?_; rintro e w' ⟨rfl, hb'⟩)
        go_roundg (l.length - (kk + 1))
        case measure => omega
        case rel =>
          refine ⟨kk + 1, by omega, by omega, ?_, by go_num, Ct.up BW.out hb'⟩
          rw [HST.out, if_neg (by omega)]
      · have hg1 : decide ((0 : Int) < (kk : Int)) = false := decide_eq_false (by omega)
        go_wp2_with (go_at_call 38; refine hcall.mono ?_; rintro e w' ⟨rfl, hb'⟩)
        go_roundg (l.length - (kk + 1))
        case measure => omega
        case rel =>
          refine ⟨kk + 1, by omega, by omega, ?_, by go_num, Ct.up BW.out hb'⟩
          rw [HST.out, if_pos (by omega)]
    · have hltz : ¬ (kk : Int) < (l.length : Int) := by omega
      have : kk = l.length := by omega
      subst this
      go_wp2
      go_ret
      exact ⟨rfl, BW.out⟩
def impl_decimals.f (a0 : ByteArray) (l1 : List Int) : Option (ByteArray) := if a0.size ≤ 1 ∧ l1.length ≤ 1000000 ∧ (∀ x ∈ l1, 0 ≤ x ∧ x ≤ 4294967295) then some (Ct.dj a0 l1 l1.length) else none
theorem impl_decimals.calls (a0 : ByteArray) (A1 : Option Addr) (c1 : Nat) (l1 : List Int) (r : ByteArray) (w : World) (hr1 : Kd.C (Kd.int .i64) w A1 l1.length l1) (hc1 : l1.length ≤ c1) (ht_ : Lib.TabIs Tryd.prog w "internal/strconv.uint64pow10" .u64 Lib.pow10Tab) (h : impl_decimals.f a0 l1 = some r) :
    Calls Tryd.prog 41 #[.string a0, .slice A1 l1.length c1] w fun e w' => e = .returned (.string r) ∧ Below w.heap.size w w' := by
  unfold impl_decimals.f at h
  split at h
  · rename_i hc
    obtain rfl := Option.some.inj h
    exact impl_decimals.cf a0 A1 c1 l1 w hc.1 hc.2.1 hc.2.2 hr1 ht_
  · cases h

/-! ### impl_addressText: function 39 -/
def impl_addressText.f (a0 : Int) : Option (ByteArray) := (impl_decimals.f (⟨#[46]⟩ : ByteArray) (([a0 / 16777216, Go.bits .and .i64 (a0 / 65536) 255, Go.bits .and .i64 (a0 / 256) 255, Go.bits .and .i64 a0 255] : List Int))).bind fun t276 => (some t276)
set_option maxHeartbeats 8000000 in
set_option maxRecDepth 100000 in
theorem impl_addressText.calls (a0 : Int) (r : ByteArray) (w : World) (ht_ : Lib.TabIs Tryd.prog w "internal/strconv.uint64pow10" .u64 Lib.pow10Tab) (h : impl_addressText.f a0 = some r) :
    Calls Tryd.prog 39 #[.int .i64 a0] w fun e w' => e = .returned (.string r) ∧ Below w.heap.size w w' := by
  have HB := Aside0.mk (Below.refl w.heap.size w)
  have H : ((impl_decimals.f (⟨#[46]⟩ : ByteArray) (([a0 / 16777216, Go.bits .and .i64 (a0 / 65536) 255, Go.bits .and .i64 (a0 / 256) 255, Go.bits .and .i64 a0 255] : List Int))).bind fun t276 => (some t276)) = some r := h
  clear h
  obtain ⟨y273, hy273⟩ : ∃ y_ : List Int, y_ = (([a0 / 16777216, Go.bits .and .i64 (a0 / 65536) 255, Go.bits .and .i64 (a0 / 256) 255, Go.bits .and .i64 a0 255] : List Int)) := ⟨_, rfl⟩
  replace H : ((impl_decimals.f (⟨#[46]⟩ : ByteArray) y273).bind fun t276 => (some t276)) = some r := by first | (rw [hy273]; with_reducible exact H) | (have H2_ := (Option.bind_some _ _).symm.trans H; rw [hy273]; with_reducible exact H2_) | (have H2_ := (Option.bind_some _ _).symm.trans H; with_reducible exact H2_) | with_reducible exact H | (rw [hy273]; exact H) | exact H
  have Ny273 := Aside0.mk hy273
  clear hy273
  replace H := Option.bind_eq_some_iff.mp H
  obtain ⟨t276, A20, H⟩ := H
  replace H : (some t276) = some r := H
  have A2 := Aside0.mk A20
  clear A20
  obtain rfl := Option.some.inj H
  go_enter Tryd.func39, Tryd.ntmps39
  go_wp2_with (first | ((with_reducible refine gate_dst (N := 13) rfl ?_); refine Kd.R_lit (Kd.int .i64) _ 2 ?hg (N := 13) ?hd (xs := ([a0 / 16777216, Go.bits .and .i64 (a0 / 65536) 255, Go.bits .and .i64 (a0 / 256) 255, Go.bits .and .i64 a0 255] : List Int)) (inner := [.int .i64 (a0 / 16777216), .int .i64 (Go.bits .and .i64 (a0 / 65536) 255), .int .i64 (Go.bits .and .i64 (a0 / 256) 255), .int .i64 (Go.bits .and .i64 a0 255)]) (ok := fun _ => True) (okp := fun _ => True) ?hr ?hp (fun _ hk => hk) trivial (Below.refl _ _) (Nat.le_refl _) (by simp) ?_; (case hd => rfl); (case hg => rfl); (case hr => first | (go_simp; done) | (go_simp; rfl)); (case hp => exact (Reps.one (show Kd.M (Kd.int .i64) _ _ _ (a0 / 16777216) [.int .i64 (a0 / 16777216)] from rfl) (Reps.one (show Kd.M (Kd.int .i64) _ _ _ (Go.bits .and .i64 (a0 / 65536) 255) [.int .i64 (Go.bits .and .i64 (a0 / 65536) 255)] from rfl) (Reps.one (show Kd.M (Kd.int .i64) _ _ _ (Go.bits .and .i64 (a0 / 256) 255) [.int .i64 (Go.bits .and .i64 (a0 / 256) 255)] from rfl) (Reps.one (show Kd.M (Kd.int .i64) _ _ _ (Go.bits .and .i64 a0 255) [.int .i64 (Go.bits .and .i64 a0 255)] from rfl) (Reps.none _ _)))))); intro v274 w3 ho4 hb hg_ hnew_; clear hg_ hnew_; (first | rw [← Ny273.out] at ho4 | (simp only [Int.reduceToNat] at ho4; rw [← Ny273.out] at ho4)); have n0_ := Aside0.mk (Kd.R_lower ho4 (below_size (by repeat (first | (with_reducible first | exact HB.out | apply below_alloc | apply pw_below_drewN | apply below_drew1) | exact HB.out)))); have n1_ := Aside0.mk (below_step (by repeat (first | (with_reducible first | exact HB.out | apply below_alloc | apply pw_below_drewN | apply below_drew1) | exact HB.out)) hb); clear HB; have HO275 := n0_; have HB := n1_; clear n0_ n1_; clear hb ho4; obtain ⟨Ao5, co5, eo5⟩ := Kd.R_slice HO275.out; subst eo5) | ((with_reducible refine gate_callee (f := 41) rfl ?_); refine goesL_ (some 14) rfl rfl Tryd.func41 (by kernel_rfl) rfl #[.string (⟨#[46]⟩ : ByteArray), .slice Ao5 y273.length co5] rfl (by (try simp only [List.map_toArray, List.map_cons, List.map_nil]); first | done | rfl | (simp only [List.length_drop, List.length_take]; rfl)) ?_; (with_reducible refine (impl_decimals.calls (⟨#[46]⟩ : ByteArray) _ _ y273 t276 _ ?side1 ?side2 ?tab_ A2.out).mono ?_); (case tab_ => exact (Go.Joins.tab_stays (show Tryd.prog.globalNamed "internal/strconv.uint64pow10" = some 0 by kernel_rfl) ht_ (by repeat (first | (with_reducible first | exact HB.out | apply below_alloc | apply pw_below_drewN | apply below_drew1) | exact HB.out | exact Below.refl _ _)) (Nat.le_refl _))); (case side1 => repeat (first | exact (Kd.R_reads' HO275.out).2.2 | (with_reducible refine Kd.C_alloc ?_ _) | (with_reducible refine Kd.C_drewN ?_ _) | (with_reducible refine Kd.C_drew ?_))); (case side2 => exact (Kd.R_reads' HO275.out).2.1); rintro e w6 ⟨rfl, hb⟩; refine ⟨_, rfl, ?_⟩; have n0_ := Aside0.mk (Kd.R_below (by (with_reducible repeat (first | apply Kd.R_alloc | apply Kd.R_drewN | apply Kd.R_drew)); exact HO275.out) hb); have n1_ := Aside0.mk (below_step (by repeat (first | (with_reducible first | exact HB.out | apply below_alloc | apply pw_below_drewN | apply below_drew1) | exact HB.out)) hb); clear HO275; clear HB; have HO275 := n0_; have HB := n1_; clear n0_ n1_; (try clear hb); (try clear hb2); (try clear hk); (try clear hi)))
  go_ret
  exact ⟨by first | rfl | (simp [errW_none, errW_some] <;> rfl) | (simp [*, errW_none, errW_some] <;> rfl), by repeat (first | (with_reducible first | exact HB.out | apply below_alloc | apply pw_below_drewN | apply below_drew1) | exact HB.out)⟩

/-! ### impl_chosen: function 40 -/
def impl_chosen.f (a0 : Bool) (a1 : ByteArray) (a2 : ByteArray) : Option (ByteArray) := if a0 = true then (some a1) else (some a2)
set_option maxHeartbeats 8000000 in
set_option maxRecDepth 100000 in
theorem impl_chosen.calls (a0 : Bool) (a1 : ByteArray) (a2 : ByteArray) (r : ByteArray) (w : World) (h : impl_chosen.f a0 a1 a2 = some r) :
    Calls Tryd.prog 40 #[.bool a0, .string a1, .string a2] w fun e w' => e = .returned (.string r) ∧ Drawn0 w w' := by
  have H : (if a0 = true then (some a1) else (some a2)) = some r := h
  clear h
  by_cases c4 : a0 = true
  · subst c4
    have H1 : (some a1) = some r := by rw [if_pos rfl] at H; exact H
    clear H
    have H := H1
    clear H1
    obtain rfl := Option.some.inj H
    go_enter Tryd.func40, Tryd.ntmps40
    go_wp2
    go_ret
    exact ⟨by first | rfl | (simp; done) | (simp [*]; done), by repeat (first | exact Drawn0.refl _ | apply Drawn0.step)⟩
  · replace c4 := Bool.eq_false_iff.mpr c4
    subst c4
    have H1 : (some a2) = some r := by rw [if_neg (show ¬ (false = true) by decide)] at H; exact H
    clear H
    have H := H1
    clear H1
    obtain rfl := Option.some.inj H
    go_enter Tryd.func40, Tryd.ntmps40
    go_wp2
    go_ret
    exact ⟨by first | rfl | (simp; done) | (simp [*]; done), by repeat (first | exact Drawn0.refl _ | apply Drawn0.step)⟩

end Go.Proofs.YtfmlhpoaipeoeaaDoor.QFnExactConfigText
