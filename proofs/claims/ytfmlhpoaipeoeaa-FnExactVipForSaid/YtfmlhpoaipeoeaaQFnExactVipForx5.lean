-- MADE BY PROGRAM (qprint.py): walks of the functions that the law FnExactVipFor reaches. Lean checks it.
import Derived.Test.YtfmlhpoaipeoeaaQFnExactVipForx0
import Derived.Test.YtfmlhpoaipeoeaaQFnExactVipForx4
import Derived.Test.YtfmlhpoaipeoeaaIx
import Derived.StillTailTactics
namespace Go.Proofs.Ytfmlhpoaipeoeaa.QFnExactVipFor
open Go.RowKit Go.Proofs.YtfmlhpoaipeoeaaW.PrintWords Go.Proofs.YtfmlhpoaipeoeaaW.PrintLast Go.Proofs.YtfmlhpoaipeoeaaW.PrintMore
attribute [local go_sem] max2_int min2_int max_two min_two max_three min_three max_four min_four   -- for this text's walks alone
set_option linter.unusedVariables false
set_option linter.unusedSimpArgs false

/-! ### cmp_Compare_int64: function 108 -/
def cmp_Compare_int64.f (a0 : Int) (a1 : Int) : Option (Int) := (cmp_isNaN_int64.f a0).bind fun t223 => ((cmp_isNaN_int64.f a1).bind fun t224 => (if t223 = true then (if t224 = true then (some 0) else (some (-1))) else (if t224 = true then (some 1) else (if a0 < a1 then (some (-1)) else (if a0 > a1 then (some 1) else (some 0))))))
set_option maxHeartbeats 8000000 in
set_option maxRecDepth 100000 in
theorem cmp_Compare_int64.calls (a0 : Int) (a1 : Int) (r : Int) (w : World) (h : cmp_Compare_int64.f a0 a1 = some r) :
    Calls Try.prog 108 #[.int .i64 a0, .int .i64 a1] w fun e w' => e = .returned (.int .i64 r) ∧ Drawn0 w w' := by
  have H : ((cmp_isNaN_int64.f a0).bind fun t223 => ((cmp_isNaN_int64.f a1).bind fun t224 => (if t223 = true then (if t224 = true then (some 0) else (some (-1))) else (if t224 = true then (some 1) else (if a0 < a1 then (some (-1)) else (if a0 > a1 then (some 1) else (some 0))))))) = some r := h
  clear h
  replace H := Option.bind_eq_some_iff.mp H
  obtain ⟨t223, A30, H⟩ := H
  replace H : ((cmp_isNaN_int64.f a1).bind fun t224 => (if t223 = true then (if t224 = true then (some 0) else (some (-1))) else (if t224 = true then (some 1) else (if a0 < a1 then (some (-1)) else (if a0 > a1 then (some 1) else (some 0)))))) = some r := H
  have A3 := Aside0.mk A30
  clear A30
  replace H := Option.bind_eq_some_iff.mp H
  obtain ⟨t224, A40, H⟩ := H
  replace H : (if t223 = true then (if t224 = true then (some 0) else (some (-1))) else (if t224 = true then (some 1) else (if a0 < a1 then (some (-1)) else (if a0 > a1 then (some 1) else (some 0))))) = some r := H
  have A4 := Aside0.mk A40
  clear A40
  by_cases c5 : t223 = true
  · subst c5
    have H1 : (if t224 = true then (some 0) else (some (-1))) = some r := by rw [if_pos rfl] at H; exact H
    clear H
    have H := H1
    clear H1
    by_cases c6 : t224 = true
    · subst c6
      have H1 : (some 0) = some r := by rw [if_pos rfl] at H; exact H
      clear H
      have H := H1
      clear H1
      obtain rfl := Option.some.inj H
      go_enter Try.func108, Try.ntmps108
      go_wp2_with (first | ((with_reducible refine gate_callee (f := 137) rfl ?_); refine goesL_ (some 8) rfl rfl Try.func137 (by kernel_rfl) rfl #[.int .i64 a0] rfl (by (try simp only [List.map_toArray, List.map_cons, List.map_nil]); first | done | rfl | (simp only [List.length_drop, List.length_take]; rfl)) ?_; (with_reducible refine (cmp_isNaN_int64.calls a0 true _ A3.out).mono ?_); rintro e w' ⟨rfl, ⟨nd, rfl⟩⟩; refine ⟨_, rfl, ?_⟩) | ((with_reducible refine gate_callee (f := 137) rfl ?_); refine goesL_ (some 10) rfl rfl Try.func137 (by kernel_rfl) rfl #[.int .i64 a1] rfl (by (try simp only [List.map_toArray, List.map_cons, List.map_nil]); first | done | rfl | (simp only [List.length_drop, List.length_take]; rfl)) ?_; (with_reducible refine (cmp_isNaN_int64.calls a1 true _ A4.out).mono ?_); rintro e w' ⟨rfl, ⟨nd, rfl⟩⟩; refine ⟨_, rfl, ?_⟩))
      go_ret
      exact ⟨by first | rfl | (simp; done) | (simp [*]; done), by repeat (first | exact Drawn0.refl _ | apply Drawn0.step)⟩
    · replace c6 := Bool.eq_false_iff.mpr c6
      subst c6
      have H1 : (some (-1)) = some r := by rw [if_neg (show ¬ (false = true) by decide)] at H; exact H
      clear H
      have H := H1
      clear H1
      obtain rfl := Option.some.inj H
      go_enter Try.func108, Try.ntmps108
      go_wp2_with (first | ((with_reducible refine gate_callee (f := 137) rfl ?_); refine goesL_ (some 8) rfl rfl Try.func137 (by kernel_rfl) rfl #[.int .i64 a0] rfl (by (try simp only [List.map_toArray, List.map_cons, List.map_nil]); first | done | rfl | (simp only [List.length_drop, List.length_take]; rfl)) ?_; (with_reducible refine (cmp_isNaN_int64.calls a0 true _ A3.out).mono ?_); rintro e w' ⟨rfl, ⟨nd, rfl⟩⟩; refine ⟨_, rfl, ?_⟩) | ((with_reducible refine gate_callee (f := 137) rfl ?_); refine goesL_ (some 10) rfl rfl Try.func137 (by kernel_rfl) rfl #[.int .i64 a1] rfl (by (try simp only [List.map_toArray, List.map_cons, List.map_nil]); first | done | rfl | (simp only [List.length_drop, List.length_take]; rfl)) ?_; (with_reducible refine (cmp_isNaN_int64.calls a1 false _ A4.out).mono ?_); rintro e w' ⟨rfl, ⟨nd, rfl⟩⟩; refine ⟨_, rfl, ?_⟩))
      go_ret
      exact ⟨by first | rfl | (simp; done) | (simp [*]; done), by repeat (first | exact Drawn0.refl _ | apply Drawn0.step)⟩
  · replace c5 := Bool.eq_false_iff.mpr c5
    subst c5
    have H1 : (if t224 = true then (some 1) else (if a0 < a1 then (some (-1)) else (if a0 > a1 then (some 1) else (some 0)))) = some r := by rw [if_neg (show ¬ (false = true) by decide)] at H; exact H
    clear H
    have H := H1
    clear H1
    by_cases c7 : t224 = true
    · subst c7
      have H1 : (some 1) = some r := by rw [if_pos rfl] at H; exact H
      clear H
      have H := H1
      clear H1
      obtain rfl := Option.some.inj H
      go_enter Try.func108, Try.ntmps108
      go_wp2_with (first | ((with_reducible refine gate_callee (f := 137) rfl ?_); refine goesL_ (some 8) rfl rfl Try.func137 (by kernel_rfl) rfl #[.int .i64 a0] rfl (by (try simp only [List.map_toArray, List.map_cons, List.map_nil]); first | done | rfl | (simp only [List.length_drop, List.length_take]; rfl)) ?_; (with_reducible refine (cmp_isNaN_int64.calls a0 false _ A3.out).mono ?_); rintro e w' ⟨rfl, ⟨nd, rfl⟩⟩; refine ⟨_, rfl, ?_⟩) | ((with_reducible refine gate_callee (f := 137) rfl ?_); refine goesL_ (some 10) rfl rfl Try.func137 (by kernel_rfl) rfl #[.int .i64 a1] rfl (by (try simp only [List.map_toArray, List.map_cons, List.map_nil]); first | done | rfl | (simp only [List.length_drop, List.length_take]; rfl)) ?_; (with_reducible refine (cmp_isNaN_int64.calls a1 true _ A4.out).mono ?_); rintro e w' ⟨rfl, ⟨nd, rfl⟩⟩; refine ⟨_, rfl, ?_⟩))
      go_ret
      exact ⟨by first | rfl | (simp; done) | (simp [*]; done), by repeat (first | exact Drawn0.refl _ | apply Drawn0.step)⟩
    · replace c7 := Bool.eq_false_iff.mpr c7
      subst c7
      have H1 : (if a0 < a1 then (some (-1)) else (if a0 > a1 then (some 1) else (some 0))) = some r := by rw [if_neg (show ¬ (false = true) by decide)] at H; exact H
      clear H
      have H := H1
      clear H1
      by_cases c8 : a0 < a1
      · rw [if_pos c8] at H
        have c8b0 : decide (a0 < a1) = true := decide_eq_true c8
        clear c8
        obtain rfl := Option.some.inj H
        go_enter Try.func108, Try.ntmps108
        go_wp2_with (first | ((with_reducible refine gate_callee (f := 137) rfl ?_); refine goesL_ (some 8) rfl rfl Try.func137 (by kernel_rfl) rfl #[.int .i64 a0] rfl (by (try simp only [List.map_toArray, List.map_cons, List.map_nil]); first | done | rfl | (simp only [List.length_drop, List.length_take]; rfl)) ?_; (with_reducible refine (cmp_isNaN_int64.calls a0 false _ A3.out).mono ?_); rintro e w' ⟨rfl, ⟨nd, rfl⟩⟩; refine ⟨_, rfl, ?_⟩) | ((with_reducible refine gate_callee (f := 137) rfl ?_); refine goesL_ (some 10) rfl rfl Try.func137 (by kernel_rfl) rfl #[.int .i64 a1] rfl (by (try simp only [List.map_toArray, List.map_cons, List.map_nil]); first | done | rfl | (simp only [List.length_drop, List.length_take]; rfl)) ?_; (with_reducible refine (cmp_isNaN_int64.calls a1 false _ A4.out).mono ?_); rintro e w' ⟨rfl, ⟨nd, rfl⟩⟩; refine ⟨_, rfl, ?_⟩))
        go_ret
        exact ⟨by first | rfl | (simp; done) | (simp [*]; done), by repeat (first | exact Drawn0.refl _ | apply Drawn0.step)⟩
      · rw [if_neg c8] at H
        have c8b0 : decide (a0 < a1) = false := decide_eq_false c8
        clear c8
        by_cases c9 : a0 > a1
        · rw [if_pos c9] at H
          have c9b0 : decide (a1 < a0) = true := decide_eq_true c9
          clear c9
          obtain rfl := Option.some.inj H
          go_enter Try.func108, Try.ntmps108
          go_wp2_with (first | ((with_reducible refine gate_callee (f := 137) rfl ?_); refine goesL_ (some 8) rfl rfl Try.func137 (by kernel_rfl) rfl #[.int .i64 a0] rfl (by (try simp only [List.map_toArray, List.map_cons, List.map_nil]); first | done | rfl | (simp only [List.length_drop, List.length_take]; rfl)) ?_; (with_reducible refine (cmp_isNaN_int64.calls a0 false _ A3.out).mono ?_); rintro e w' ⟨rfl, ⟨nd, rfl⟩⟩; refine ⟨_, rfl, ?_⟩) | ((with_reducible refine gate_callee (f := 137) rfl ?_); refine goesL_ (some 10) rfl rfl Try.func137 (by kernel_rfl) rfl #[.int .i64 a1] rfl (by (try simp only [List.map_toArray, List.map_cons, List.map_nil]); first | done | rfl | (simp only [List.length_drop, List.length_take]; rfl)) ?_; (with_reducible refine (cmp_isNaN_int64.calls a1 false _ A4.out).mono ?_); rintro e w' ⟨rfl, ⟨nd, rfl⟩⟩; refine ⟨_, rfl, ?_⟩))
          go_ret
          exact ⟨by first | rfl | (simp; done) | (simp [*]; done), by repeat (first | exact Drawn0.refl _ | apply Drawn0.step)⟩
        · rw [if_neg c9] at H
          have c9b0 : decide (a1 < a0) = false := decide_eq_false c9
          clear c9
          obtain rfl := Option.some.inj H
          go_enter Try.func108, Try.ntmps108
          go_wp2_with (first | ((with_reducible refine gate_callee (f := 137) rfl ?_); refine goesL_ (some 8) rfl rfl Try.func137 (by kernel_rfl) rfl #[.int .i64 a0] rfl (by (try simp only [List.map_toArray, List.map_cons, List.map_nil]); first | done | rfl | (simp only [List.length_drop, List.length_take]; rfl)) ?_; (with_reducible refine (cmp_isNaN_int64.calls a0 false _ A3.out).mono ?_); rintro e w' ⟨rfl, ⟨nd, rfl⟩⟩; refine ⟨_, rfl, ?_⟩) | ((with_reducible refine gate_callee (f := 137) rfl ?_); refine goesL_ (some 10) rfl rfl Try.func137 (by kernel_rfl) rfl #[.int .i64 a1] rfl (by (try simp only [List.map_toArray, List.map_cons, List.map_nil]); first | done | rfl | (simp only [List.length_drop, List.length_take]; rfl)) ?_; (with_reducible refine (cmp_isNaN_int64.calls a1 false _ A4.out).mono ?_); rintro e w' ⟨rfl, ⟨nd, rfl⟩⟩; refine ⟨_, rfl, ?_⟩))
          go_ret
          exact ⟨by first | rfl | (simp; done) | (simp [*]; done), by repeat (first | exact Drawn0.refl _ | apply Drawn0.step)⟩

/-! ### impl_compareVip: function 58 -/
def impl_compareVip.f (k : Nat) (a0_0 : Int) (a0_1 : Int) (a0_2 : Int) (l0_3 : List Int) (a1_0 : Int) (a1_1 : Int) (a1_2 : Int) (l1_3 : List Int) : Option (Int) := (cmp_Compare_int64.f a0_0 a1_0).bind fun t227 => ((cmp_Compare_int64.f a0_1 a1_1).bind fun t228 => ((cmp_Compare_int64.f a0_2 a1_2).bind fun t229 => ((cmp_Or_int.f k (([t227, t228, t229] : List Int))).bind fun t233 => (some t233))))
theorem impl_compareVip.mono : ∀ a0 a1 a2 a3 a4 a5 a6 a7 k, LeO (impl_compareVip.f k a0 a1 a2 a3 a4 a5 a6 a7) (impl_compareVip.f (k + 1) a0 a1 a2 a3 a4 a5 a6 a7) := by
  intro a0 a1 a2 a3 a4 a5 a6 a7 k
  unfold impl_compareVip.f
  repeat' first
      | (with_reducible exact cmp_Or_int.mono _ _)
      | (with_reducible exact LeO.refl _)
      | (with_reducible exact LeO.none _)
      | (with_reducible refine LeO.ite ?_ ?_)
      | (with_reducible refine LeO.bind ?_ (fun _ => ?_))
      | exact cmp_Or_int.mono _ _
      | exact LeO.none _
      | refine LeO.ite ?_ ?_
      | refine LeO.bind ?_ (fun _ => ?_)
def impl_compareVip.T1 : Bool × List (List Nat × List Nat) := (true, [([], []), ([0], [0]), ([], []), ([2], [2]), ([1, 3], [1, 3]), ([], []), ([5], [5]), ([], []), ([7], [7]), ([6, 8, 4], [6, 8]), ([], []), ([10], [10]), ([], []), ([12], [12]), ([11, 13, 9], [11, 13]), ([4, 9, 14], [4, 9, 14]), ([15, 14], [15]), ([16, 16, 0, 1, 2, 3, 4, 5, 6, 7, 8, 9, 10, 11, 12, 13, 14, 15, 16], [16])])
def impl_compareVip.B1 : List Nat := [0, 1, 0, 4, 15, 0, 32, 0, 128, 511, 0, 1024, 0, 4096, 16383, 32767, 65535, 131071]
theorem impl_compareVip.tab1 : rtab .any (opsOf Try.f58 1) = impl_compareVip.T1 := by kernel_rfl
theorem impl_compareVip.bits1 : waitsOk impl_compareVip.T1.2 impl_compareVip.B1 = true := by kernel_rfl
set_option maxHeartbeats 8000000 in
set_option maxRecDepth 100000 in
theorem impl_compareVip.calls (k : Nat) (a0_0 : Int) (a0_1 : Int) (a0_2 : Int) (A0_3 : Option Addr) (c0_3 : Nat) (l0_3 : List Int) (a1_0 : Int) (a1_1 : Int) (a1_2 : Int) (A1_3 : Option Addr) (c1_3 : Nat) (l1_3 : List Int) (r : Int) (w : World) (hr0_3 : Kd.C (Kd.int .i64) w A0_3 l0_3.length l0_3) (hc0_3 : l0_3.length ≤ c0_3) (hr1_3 : Kd.C (Kd.int .i64) w A1_3 l1_3.length l1_3) (hc1_3 : l1_3.length ≤ c1_3) (h : impl_compareVip.f k a0_0 a0_1 a0_2 l0_3 a1_0 a1_1 a1_2 l1_3 = some r) :
    Calls Try.prog 58 #[.agg #[.int .i64 a0_0, .int .i64 a0_1, .int .i64 a0_2, .slice A0_3 l0_3.length c0_3], .agg #[.int .i64 a1_0, .int .i64 a1_1, .int .i64 a1_2, .slice A1_3 l1_3.length c1_3]] w fun e w' => e = .returned (.int .i64 r) ∧ Below w.heap.size w w' := by
  have hu64 := Try.underlying64
  have HR0_3 := Aside0.mk hr0_3
  have HC0_3 := Aside0.mk hc0_3
  clear hr0_3 hc0_3
  have HR1_3 := Aside0.mk hr1_3
  have HC1_3 := Aside0.mk hc1_3
  clear hr1_3 hc1_3
  have HB := Aside0.mk (Below.refl w.heap.size w)
  have H : ((cmp_Compare_int64.f a0_0 a1_0).bind fun t227 => ((cmp_Compare_int64.f a0_1 a1_1).bind fun t228 => ((cmp_Compare_int64.f a0_2 a1_2).bind fun t229 => ((cmp_Or_int.f k (([t227, t228, t229] : List Int))).bind fun t233 => (some t233))))) = some r := h
  clear h
  replace H := Option.bind_eq_some_iff.mp H
  obtain ⟨t227, A30, H⟩ := H
  replace H : ((cmp_Compare_int64.f a0_1 a1_1).bind fun t228 => ((cmp_Compare_int64.f a0_2 a1_2).bind fun t229 => ((cmp_Or_int.f k (([t227, t228, t229] : List Int))).bind fun t233 => (some t233)))) = some r := H
  have A3 := Aside0.mk A30
  clear A30
  replace H := Option.bind_eq_some_iff.mp H
  obtain ⟨t228, A40, H⟩ := H
  replace H : ((cmp_Compare_int64.f a0_2 a1_2).bind fun t229 => ((cmp_Or_int.f k (([t227, t228, t229] : List Int))).bind fun t233 => (some t233))) = some r := H
  have A4 := Aside0.mk A40
  clear A40
  replace H := Option.bind_eq_some_iff.mp H
  obtain ⟨t229, A50, H⟩ := H
  replace H : ((cmp_Or_int.f k (([t227, t228, t229] : List Int))).bind fun t233 => (some t233)) = some r := H
  have A5 := Aside0.mk A50
  clear A50
  obtain ⟨y230, hy230⟩ : ∃ y_ : List Int, y_ = (([t227, t228, t229] : List Int)) := ⟨_, rfl⟩
  replace H : ((cmp_Or_int.f k y230).bind fun t233 => (some t233)) = some r := by first | (rw [hy230]; with_reducible exact H) | (have H2_ := (Option.bind_some _ _).symm.trans H; rw [hy230]; with_reducible exact H2_) | (have H2_ := (Option.bind_some _ _).symm.trans H; with_reducible exact H2_) | with_reducible exact H | (rw [hy230]; exact H) | exact H
  have Ny230 := Aside0.mk hy230
  clear hy230
  replace H := Option.bind_eq_some_iff.mp H
  obtain ⟨t233, A60, H⟩ := H
  replace H : (some t233) = some r := H
  have A6 := Aside0.mk A60
  clear A60
  obtain rfl := Option.some.inj H
  go_enter Try.func58, Try.ntmps58
  try go_wp2_with (first | ((with_reducible refine gate_dst (N := 2) rfl ?_); refine box_event ?hg (N := 2) ?hd (cs := #[.int .i64 a0_0, .int .i64 a0_1, .int .i64 a0_2, .slice A0_3 l0_3.length c0_3]) (t := 64) ?hr ?_; (case hd => rfl); (case hg => rfl); (case hr => first | (go_simp; done) | (go_simp; rfl)); intro gb225 hg w7 hbox hb; have n0_ := Aside0.mk (below_step (by repeat (first | (with_reducible first | exact HB.out | apply below_alloc | apply pw_below_drewN | apply below_drew1) | exact HB.out)) hb); have n1_ := Aside0.mk (hbox); have n2_ := Aside0.mk ((by rw [hg]; exact (below_size (by repeat (first | (with_reducible first | exact HB.out | apply below_alloc | apply pw_below_drewN | apply below_drew1) | exact HB.out))) : w.heap.size ≤ gb225)); have n3_ := Aside0.mk ((by rw [hg]; exact (below_size (by repeat (first | (with_reducible first | exact HB.out | apply below_alloc | apply pw_below_drewN | apply below_drew1) | exact HB.out))) : w.heap.size ≤ gb225)); clear HB; have HB := n0_; have BK225 := n1_; have GW225 := n2_; have GE225 := n3_; clear n0_ n1_ n2_ n3_; clear hb hbox hg) | ((with_reducible refine gate_dst (N := 3) rfl ?_); refine box_event ?hg (N := 3) ?hd (cs := #[.int .i64 a1_0, .int .i64 a1_1, .int .i64 a1_2, .slice A1_3 l1_3.length c1_3]) (t := 64) ?hr ?_; (case hd => rfl); (case hg => rfl); (case hr => first | (go_simp; done) | (go_simp; rfl)); intro gb226 hg w8 hbox hb; have n0_ := Aside0.mk (blk_below (g := gb225) (o := .cells #[.int .i64 a0_0, .int .i64 a0_1, .int .i64 a0_2, .slice A0_3 l0_3.length c0_3] 64 (0, 0)) (by (with_reducible repeat (first | refine blk_drewN ?_ _ | refine blk_drew ?_ | refine blk_alloc ?_ _)); exact BK225.out) hb); have n1_ := Aside0.mk (below_step (by repeat (first | (with_reducible first | exact HB.out | apply below_alloc | apply pw_below_drewN | apply below_drew1 | refine below_set ?_ GE225.out) | exact HB.out)) hb); have n2_ := Aside0.mk (hbox); have n3_ := Aside0.mk ((by rw [hg]; exact (below_size (by repeat (first | (with_reducible first | exact HB.out | apply below_alloc | apply pw_below_drewN | apply below_drew1 | refine below_set ?_ GE225.out) | exact HB.out))) : w.heap.size ≤ gb226)); have n4_ := Aside0.mk ((by rw [hg]; exact (below_size (by repeat (first | (with_reducible first | exact HB.out | apply below_alloc | apply pw_below_drewN | apply below_drew1 | refine below_set ?_ GE225.out) | exact HB.out))) : w.heap.size ≤ gb226)); have n5_ := Aside0.mk ((by rw [hg]; exact Nat.ne_of_lt (blk_lt (g := gb225) (o := .cells #[.int .i64 a0_0, .int .i64 a0_1, .int .i64 a0_2, .slice A0_3 l0_3.length c0_3] 64 (0, 0)) (by (with_reducible repeat (first | refine blk_drewN ?_ _ | refine blk_drew ?_ | refine blk_alloc ?_ _)); exact BK225.out)) : gb225 ≠ gb226)); have n6_ := Aside0.mk ((by rw [hg]; exact Nat.ne_of_gt (blk_lt (g := gb225) (o := .cells #[.int .i64 a0_0, .int .i64 a0_1, .int .i64 a0_2, .slice A0_3 l0_3.length c0_3] 64 (0, 0)) (by (with_reducible repeat (first | refine blk_drewN ?_ _ | refine blk_drew ?_ | refine blk_alloc ?_ _)); exact BK225.out)) : gb226 ≠ gb225)); clear BK225; clear HB; have BK225 := n0_; have HB := n1_; have BK226 := n2_; have GW226 := n3_; have GE226 := n4_; have NB225_226 := n5_; have NB226_225 := n6_; clear n0_ n1_ n2_ n3_ n4_ n5_ n6_; clear hb hbox hg))
  have n0_ := Aside0.mk (blk_drew BK225.out)
  have n1_ := Aside0.mk (blk_drew BK226.out)
  have n2_ := Aside0.mk (below_drew1 HB.out)
  clear BK225
  clear BK226
  clear HB
  have BK225 := n0_
  have BK226 := n1_
  have HB := n2_
  clear n0_ n1_ n2_
  refine start_ (n := 18) (S := fun w' => w'.cell? ⟨gb225, 0, none⟩ = some (.int .i64 a0_0) ∧ w'.cell? ⟨gb225, 1, none⟩ = some (.int .i64 a0_1) ∧ w'.cell? ⟨gb225, 2, none⟩ = some (.int .i64 a0_2) ∧ w'.cell? ⟨gb225, 3, none⟩ = some (.slice A0_3 l0_3.length c0_3) ∧ w'.cell? ⟨gb226, 0, none⟩ = some (.int .i64 a1_0) ∧ w'.cell? ⟨gb226, 1, none⟩ = some (.int .i64 a1_1) ∧ w'.cell? ⟨gb226, 2, none⟩ = some (.int .i64 a1_2) ∧ w'.cell? ⟨gb226, 3, none⟩ = some (.slice A1_3 l1_3.length c1_3)) (ds := []) #[false, false, false, false, false, false, false, false, false, false, false, false, false, false, false, false, false, false] (by kernel_rfl) rfl rfl ⟨(blk_cell BK225.out 0).trans rfl, (blk_cell BK225.out 1).trans rfl, (blk_cell BK225.out 2).trans rfl, (blk_cell BK225.out 3).trans rfl, (blk_cell BK226.out 0).trans rfl, (blk_cell BK226.out 1).trans rfl, (blk_cell BK226.out 2).trans rfl, (blk_cell BK226.out 3).trans rfl⟩ (fun hHeld => ?_); refine with_tabW impl_compareVip.tab1 impl_compareVip.bits1 (fun HT_ HW_ => ?_)
  generalize w8.drew = w9 at BK225 BK226 HB hHeld ⊢
  refine pure_ (i := 0) (N := some 5) (v := ?_) (a' := ?_) #[true, false, false, false, false, false, false, false, false, false, false, false, false, false, false, false, false, false] rfl rfl (any_of HT_.out (by kernel_rfl)) (fun _ _ _ h => h) (Or.inl ⟨by rfl, ?_⟩) ?_ ?_
  rotate_left
  · intro w'
    first | (go_simp; with_reducible rfl) | (go_simp; (try unfold Instr.field); go_simp; (try simp only [asAgg]); go_simp; with_reducible rfl)
  rotate_left
  · simp only [Act.put, List.setIfInBounds_toArray, List.set_cons_zero, List.set_cons_succ, i64_w, i32_w]
    rfl
  refine pure_ (i := 2) (N := some 7) (v := ?_) (a' := ?_) #[true, false, true, false, false, false, false, false, false, false, false, false, false, false, false, false, false, false] rfl rfl (any_of HT_.out (by kernel_rfl)) (fun _ _ _ h => h) (Or.inl ⟨by rfl, ?_⟩) ?_ ?_
  rotate_left
  · intro w'
    first | (go_simp; with_reducible rfl) | (go_simp; (try unfold Instr.field); go_simp; (try simp only [asAgg]); go_simp; with_reducible rfl)
  rotate_left
  · simp only [Act.put, List.setIfInBounds_toArray, List.set_cons_zero, List.set_cons_succ, i64_w, i32_w]
    rfl
  refine pure_ (i := 5) (N := some 10) (v := ?_) (a' := ?_) #[true, false, true, false, false, true, false, false, false, false, false, false, false, false, false, false, false, false] rfl rfl (any_of HT_.out (by kernel_rfl)) (fun _ _ _ h => h) (Or.inl ⟨by rfl, ?_⟩) ?_ ?_
  rotate_left
  · intro w'
    first | (go_simp; with_reducible rfl) | (go_simp; (try unfold Instr.field); go_simp; (try simp only [asAgg]); go_simp; with_reducible rfl)
  rotate_left
  · simp only [Act.put, List.setIfInBounds_toArray, List.set_cons_zero, List.set_cons_succ, i64_w, i32_w]
    rfl
  refine pure_ (i := 7) (N := some 12) (v := ?_) (a' := ?_) #[true, false, true, false, false, true, false, true, false, false, false, false, false, false, false, false, false, false] rfl rfl (any_of HT_.out (by kernel_rfl)) (fun _ _ _ h => h) (Or.inl ⟨by rfl, ?_⟩) ?_ ?_
  rotate_left
  · intro w'
    first | (go_simp; with_reducible rfl) | (go_simp; (try unfold Instr.field); go_simp; (try simp only [asAgg]); go_simp; with_reducible rfl)
  rotate_left
  · simp only [Act.put, List.setIfInBounds_toArray, List.set_cons_zero, List.set_cons_succ, i64_w, i32_w]
    rfl
  refine pure_ (i := 10) (N := some 15) (v := ?_) (a' := ?_) #[true, false, true, false, false, true, false, true, false, false, true, false, false, false, false, false, false, false] rfl rfl (any_of HT_.out (by kernel_rfl)) (fun _ _ _ h => h) (Or.inl ⟨by rfl, ?_⟩) ?_ ?_
  rotate_left
  · intro w'
    first | (go_simp; with_reducible rfl) | (go_simp; (try unfold Instr.field); go_simp; (try simp only [asAgg]); go_simp; with_reducible rfl)
  rotate_left
  · simp only [Act.put, List.setIfInBounds_toArray, List.set_cons_zero, List.set_cons_succ, i64_w, i32_w]
    rfl
  refine pure_ (i := 12) (N := some 17) (v := ?_) (a' := ?_) #[true, false, true, false, false, true, false, true, false, false, true, false, true, false, false, false, false, false] rfl rfl (any_of HT_.out (by kernel_rfl)) (fun _ _ _ h => h) (Or.inl ⟨by rfl, ?_⟩) ?_ ?_
  rotate_left
  · intro w'
    first | (go_simp; with_reducible rfl) | (go_simp; (try unfold Instr.field); go_simp; (try simp only [asAgg]); go_simp; with_reducible rfl)
  rotate_left
  · simp only [Act.put, List.setIfInBounds_toArray, List.set_cons_zero, List.set_cons_succ, i64_w, i32_w]
    rfl
  refine take_ (i := 1) (N := some 6) (v := ?_) (a' := ?_) #[true, true, true, false, false, true, false, true, false, false, true, false, true, false, false, false, false, false] rfl rfl (take_ofW HT_.out HW_.out (by kernel_rfl)) (fun _ _ _ h => h) (Or.inl ⟨by rfl, ?_⟩) hHeld ?_ ?_
  rotate_left
  · rintro w' ⟨s0, s1, s2, s3, s4, s5, s6, s7⟩
    go_simp
    with_reducible rfl
  rotate_left
  · simp only [Act.put, List.setIfInBounds_toArray, List.set_cons_zero, List.set_cons_succ, i64_w, i32_w]
    rfl
  refine take_ (i := 3) (N := some 8) (v := ?_) (a' := ?_) #[true, true, true, true, false, true, false, true, false, false, true, false, true, false, false, false, false, false] rfl rfl (take_ofW HT_.out HW_.out (by kernel_rfl)) (fun _ _ _ h => h) (Or.inl ⟨by rfl, ?_⟩) hHeld ?_ ?_
  rotate_left
  · rintro w' ⟨s0, s1, s2, s3, s4, s5, s6, s7⟩
    go_simp
    with_reducible rfl
  rotate_left
  · simp only [Act.put, List.setIfInBounds_toArray, List.set_cons_zero, List.set_cons_succ, i64_w, i32_w]
    rfl
  refine take_ (i := 6) (N := some 11) (v := ?_) (a' := ?_) #[true, true, true, true, false, true, true, true, false, false, true, false, true, false, false, false, false, false] rfl rfl (take_ofW HT_.out HW_.out (by kernel_rfl)) (fun _ _ _ h => h) (Or.inl ⟨by rfl, ?_⟩) hHeld ?_ ?_
  rotate_left
  · rintro w' ⟨s0, s1, s2, s3, s4, s5, s6, s7⟩
    go_simp
    with_reducible rfl
  rotate_left
  · simp only [Act.put, List.setIfInBounds_toArray, List.set_cons_zero, List.set_cons_succ, i64_w, i32_w]
    rfl
  refine take_ (i := 8) (N := some 13) (v := ?_) (a' := ?_) #[true, true, true, true, false, true, true, true, true, false, true, false, true, false, false, false, false, false] rfl rfl (take_ofW HT_.out HW_.out (by kernel_rfl)) (fun _ _ _ h => h) (Or.inl ⟨by rfl, ?_⟩) hHeld ?_ ?_
  rotate_left
  · rintro w' ⟨s0, s1, s2, s3, s4, s5, s6, s7⟩
    go_simp
    with_reducible rfl
  rotate_left
  · simp only [Act.put, List.setIfInBounds_toArray, List.set_cons_zero, List.set_cons_succ, i64_w, i32_w]
    rfl
  refine take_ (i := 11) (N := some 16) (v := ?_) (a' := ?_) #[true, true, true, true, false, true, true, true, true, false, true, true, true, false, false, false, false, false] rfl rfl (take_ofW HT_.out HW_.out (by kernel_rfl)) (fun _ _ _ h => h) (Or.inl ⟨by rfl, ?_⟩) hHeld ?_ ?_
  rotate_left
  · rintro w' ⟨s0, s1, s2, s3, s4, s5, s6, s7⟩
    go_simp
    with_reducible rfl
  rotate_left
  · simp only [Act.put, List.setIfInBounds_toArray, List.set_cons_zero, List.set_cons_succ, i64_w, i32_w]
    rfl
  refine take_ (i := 13) (N := some 18) (v := ?_) (a' := ?_) #[true, true, true, true, false, true, true, true, true, false, true, true, true, true, false, false, false, false] rfl rfl (take_ofW HT_.out HW_.out (by kernel_rfl)) (fun _ _ _ h => h) (Or.inl ⟨by rfl, ?_⟩) hHeld ?_ ?_
  rotate_left
  · rintro w' ⟨s0, s1, s2, s3, s4, s5, s6, s7⟩
    go_simp
    with_reducible rfl
  rotate_left
  · simp only [Act.put, List.setIfInBounds_toArray, List.set_cons_zero, List.set_cons_succ, i64_w, i32_w]
    rfl
  refine one_ (i := 4) (N := some 9) #[true, true, true, true, true, true, true, true, true, false, true, true, true, true, false, false, false, false] rfl rfl (one_of HT_.out (by kernel_rfl)) (by decide) (fun K hK => ?_)
  refine goes_ Try.func108 (by kernel_rfl) rfl #[.int .i64 a0_0, .int .i64 a1_0] (by rfl) rfl rfl (by (try simp only [List.map_toArray, List.map_cons, List.map_nil]); first | done | rfl | (simp only [List.length_drop, List.length_take]; rfl)) ?_
  with_reducible refine (cmp_Compare_int64.calls a0_0 a1_0 t227 _ A3.out).mono ?_
  rintro e w' ⟨rfl, ⟨nd, rfl⟩⟩
  refine ⟨_, rfl, ?_⟩
  refine hK.out _ _ ⟨(blk_cell BK225.out 0).trans rfl, (blk_cell BK225.out 1).trans rfl, (blk_cell BK225.out 2).trans rfl, (blk_cell BK225.out 3).trans rfl, (blk_cell BK226.out 0).trans rfl, (blk_cell BK226.out 1).trans rfl, (blk_cell BK226.out 2).trans rfl, (blk_cell BK226.out 3).trans rfl⟩ (fun hHeld => ?_)
  clear hK K
  refine norm_ (a' := ?_) ?_ ?_
  rotate_left
  · show Act.put _ (some 9) _ = _
    simp only [Act.put, List.setIfInBounds_toArray, List.set_cons_zero, List.set_cons_succ, i64_w, i32_w]
    rfl
  refine one_ (i := 9) (N := some 14) #[true, true, true, true, true, true, true, true, true, true, true, true, true, true, false, false, false, false] rfl rfl (one_of HT_.out (by kernel_rfl)) (by decide) (fun K hK => ?_)
  refine goes_ Try.func108 (by kernel_rfl) rfl #[.int .i64 a0_1, .int .i64 a1_1] (by rfl) rfl rfl (by (try simp only [List.map_toArray, List.map_cons, List.map_nil]); first | done | rfl | (simp only [List.length_drop, List.length_take]; rfl)) ?_
  with_reducible refine (cmp_Compare_int64.calls a0_1 a1_1 t228 _ A4.out).mono ?_
  rintro e w' ⟨rfl, ⟨nd, rfl⟩⟩
  refine ⟨_, rfl, ?_⟩
  refine hK.out _ _ ⟨(blk_cell BK225.out 0).trans rfl, (blk_cell BK225.out 1).trans rfl, (blk_cell BK225.out 2).trans rfl, (blk_cell BK225.out 3).trans rfl, (blk_cell BK226.out 0).trans rfl, (blk_cell BK226.out 1).trans rfl, (blk_cell BK226.out 2).trans rfl, (blk_cell BK226.out 3).trans rfl⟩ (fun hHeld => ?_)
  clear hK K
  refine norm_ (a' := ?_) ?_ ?_
  rotate_left
  · show Act.put _ (some 14) _ = _
    simp only [Act.put, List.setIfInBounds_toArray, List.set_cons_zero, List.set_cons_succ, i64_w, i32_w]
    rfl
  refine one_ (i := 14) (N := some 19) #[true, true, true, true, true, true, true, true, true, true, true, true, true, true, true, false, false, false] rfl rfl (one_of HT_.out (by kernel_rfl)) (by decide) (fun K hK => ?_)
  refine goes_ Try.func108 (by kernel_rfl) rfl #[.int .i64 a0_2, .int .i64 a1_2] (by rfl) rfl rfl (by (try simp only [List.map_toArray, List.map_cons, List.map_nil]); first | done | rfl | (simp only [List.length_drop, List.length_take]; rfl)) ?_
  with_reducible refine (cmp_Compare_int64.calls a0_2 a1_2 t229 _ A5.out).mono ?_
  rintro e w' ⟨rfl, ⟨nd, rfl⟩⟩
  refine ⟨_, rfl, ?_⟩
  refine hK.out _ _ ⟨(blk_cell BK225.out 0).trans rfl, (blk_cell BK225.out 1).trans rfl, (blk_cell BK225.out 2).trans rfl, (blk_cell BK225.out 3).trans rfl, (blk_cell BK226.out 0).trans rfl, (blk_cell BK226.out 1).trans rfl, (blk_cell BK226.out 2).trans rfl, (blk_cell BK226.out 3).trans rfl⟩ (fun hHeld => ?_)
  clear hK K
  refine norm_ (a' := ?_) ?_ ?_
  rotate_left
  · show Act.put _ (some 19) _ = _
    simp only [Act.put, List.setIfInBounds_toArray, List.set_cons_zero, List.set_cons_succ, i64_w, i32_w]
    rfl
  refine one_ (i := 15) (N := some 20) #[true, true, true, true, true, true, true, true, true, true, true, true, true, true, true, true, false, false] rfl rfl (one_of HT_.out (by kernel_rfl)) (by decide) (fun K hK => ?_)
  refine Kd.R_lit_step (Kd.int .i64) _ 3 ?hg (N := 20) ?hd (xs := ([t227, t228, t229] : List Int)) (inner := [.int .i64 t227, .int .i64 t228, .int .i64 t229]) (ok := fun _ => True) (okp := fun _ => True) ?hr ?hp (fun _ hk => hk) trivial (Below.refl _ _) (Nat.le_refl _) (by simp) ?_; (case hd => rfl); (case hg => rfl); (case hr => first | (go_simp; done) | (go_simp; rfl)); (case hp => exact (Reps.one (show Kd.M (Kd.int .i64) _ _ _ t227 [.int .i64 t227] from rfl) (Reps.one (show Kd.M (Kd.int .i64) _ _ _ t228 [.int .i64 t228] from rfl) (Reps.one (show Kd.M (Kd.int .i64) _ _ _ t229 [.int .i64 t229] from rfl) (Reps.none _ _)))))
  intro v231 w10 ho11 hb hg_ hnew_
  clear hg_ hnew_
  (first | rw [← Ny230.out] at ho11 | (simp only [Int.reduceToNat] at ho11; rw [← Ny230.out] at ho11))
  have n0_ := Aside0.mk (Kd.R_lower ho11 (below_size (by repeat (first | (with_reducible first | exact HB.out | apply below_alloc | apply pw_below_drewN | apply below_drew1 | refine below_set ?_ GE225.out | refine below_set ?_ GE226.out) | exact HB.out))))
  have n1_ := Aside0.mk (blk_below (g := gb225) (o := .cells #[.int .i64 a0_0, .int .i64 a0_1, .int .i64 a0_2, .slice A0_3 l0_3.length c0_3] 64 (0, 0)) (by (with_reducible repeat (first | refine blk_drewN ?_ _ | refine blk_drew ?_ | refine blk_alloc ?_ _)); exact BK225.out) hb)
  have n2_ := Aside0.mk (blk_below (g := gb226) (o := .cells #[.int .i64 a1_0, .int .i64 a1_1, .int .i64 a1_2, .slice A1_3 l1_3.length c1_3] 64 (0, 0)) (by (with_reducible repeat (first | refine blk_drewN ?_ _ | refine blk_drew ?_ | refine blk_alloc ?_ _)); exact BK226.out) hb)
  have n3_ := Aside0.mk (below_step (by repeat (first | (with_reducible first | exact HB.out | apply below_alloc | apply pw_below_drewN | apply below_drew1 | refine below_set ?_ GE225.out | refine below_set ?_ GE226.out) | exact HB.out)) hb)
  clear BK225
  clear BK226
  clear HB
  have HO232 := n0_
  have BK225 := n1_
  have BK226 := n2_
  have HB := n3_
  clear n0_ n1_ n2_ n3_
  clear hb ho11
  obtain ⟨Ao12, co12, eo12⟩ := Kd.R_slice HO232.out
  (first | subst eo12 | (injection eo12 with f1_ f2_ f3_; have f4_ := f1_.symm; have f5_ := f3_.symm; clear f1_ f2_ f3_; subst f4_; subst f5_))
  refine hK.out _ _ ⟨(blk_cell BK225.out 0).trans rfl, (blk_cell BK225.out 1).trans rfl, (blk_cell BK225.out 2).trans rfl, (blk_cell BK225.out 3).trans rfl, (blk_cell BK226.out 0).trans rfl, (blk_cell BK226.out 1).trans rfl, (blk_cell BK226.out 2).trans rfl, (blk_cell BK226.out 3).trans rfl⟩ (fun hHeld => ?_)
  clear hK K
  refine norm_ (a' := ?_) ?_ ?_
  rotate_left
  · show Act.put _ (some 20) _ = _
    simp only [Act.put, List.setIfInBounds_toArray, List.set_cons_zero, List.set_cons_succ, i64_w, i32_w]
    rfl
  refine one_ (i := 16) (N := some 21) #[true, true, true, true, true, true, true, true, true, true, true, true, true, true, true, true, true, false] rfl rfl (one_of HT_.out (by kernel_rfl)) (by decide) (fun K hK => ?_)
  refine goes_ Try.func107 (by kernel_rfl) rfl #[.slice Ao12 y230.length co12] (by rfl) rfl rfl (by (try simp only [List.map_toArray, List.map_cons, List.map_nil]); first | done | rfl | (simp only [List.length_drop, List.length_take]; rfl)) ?_
  with_reducible refine (cmp_Or_int.calls k _ _ y230 t233 _ ?side1 ?side2 A6.out).mono ?_
  (case side1 => repeat (first | exact (Kd.R_reads' HO232.out).2.2 | (with_reducible refine Kd.C_alloc ?_ _) | (with_reducible refine Kd.C_drewN ?_ _) | (with_reducible refine Kd.C_drew ?_)))
  (case side2 => exact (Kd.R_reads' HO232.out).2.1)
  rintro e w' ⟨rfl, ⟨nd, rfl⟩⟩
  refine ⟨_, rfl, ?_⟩
  refine hK.out _ _ ⟨(blk_cell BK225.out 0).trans rfl, (blk_cell BK225.out 1).trans rfl, (blk_cell BK225.out 2).trans rfl, (blk_cell BK225.out 3).trans rfl, (blk_cell BK226.out 0).trans rfl, (blk_cell BK226.out 1).trans rfl, (blk_cell BK226.out 2).trans rfl, (blk_cell BK226.out 3).trans rfl⟩ (fun hHeld => ?_)
  clear hK K
  refine norm_ (a' := ?_) ?_ ?_
  rotate_left
  · show Act.put _ (some 21) _ = _
    simp only [Act.put, List.setIfInBounds_toArray, List.set_cons_zero, List.set_cons_succ, i64_w, i32_w]
    rfl
  refine pure_ (i := 17) (N := some 4) (v := ?_) (a' := ?_) #[true, true, true, true, true, true, true, true, true, true, true, true, true, true, true, true, true, true] rfl rfl (any_of HT_.out (by kernel_rfl)) (fun _ _ _ h => h) (Or.inl ⟨by rfl, ?_⟩) ?_ ?_
  rotate_left
  · intro w'
    first | (go_simp; with_reducible rfl) | (go_simp; (try unfold Instr.field); go_simp; (try simp only [asAgg]); go_simp; with_reducible rfl)
  rotate_left
  · simp only [Act.put, List.setIfInBounds_toArray, List.set_cons_zero, List.set_cons_succ, i64_w, i32_w]
    rfl
  refine done_ (done_of HT_.out (by kernel_rfl)) ?_
  try go_wp2
  go_ret
  exact ⟨by first | rfl | (simp [errW_none, errW_some] <;> rfl) | (simp [*, errW_none, errW_some] <;> rfl), by repeat (first | (with_reducible first | exact HB.out | apply below_alloc | apply pw_below_drewN | apply below_drew1 | refine below_set ?_ GE225.out | refine below_set ?_ GE226.out) | exact HB.out)⟩

-- NOT PRINTED: function 109 (slices_IndexFunc_int64_int64)

-- NOT PRINTED: function 59 (slices_ContainsFunc_int64_int64)

-- NOT PRINTED: function 15 (impl_ConfigFault)

/-! ### impl_PacketFault: function 115 -/
def impl_PacketFault.j0 : Nat → Bool → Int → Int → Int → Int → Int → List Int → Option (Int)
  | 0, _, _, _, _, _, _, _ => none
  | k + 1, x3, x248000, x248001, x248002, x248003, x248004, x248005 => if x3 = true then (some 3) else (if (x248005.length : Int) > 200 then (some 2) else (some 0))
def impl_PacketFault.f (k : Nat) (a0_0 : Int) (a0_1 : Int) (a0_2 : Int) (a0_3 : Int) (a0_4 : Int) (l0_5 : List Int) : Option (Int) := (impl_isAddress.f a0_0).bind fun t248 => (if t248 = true then ((impl_isAddress.f a0_1).bind fun t249 => (if t249 = true then ((impl_isProto.f a0_2).bind fun t250 => (if t250 = true then ((impl_isPort.f a0_3).bind fun t251 => (if t251 = true then ((impl_isPort.f a0_4).bind fun t252 => (impl_PacketFault.j0 k (!t252) a0_0 a0_1 a0_2 a0_3 a0_4 l0_5)) else (impl_PacketFault.j0 k true a0_0 a0_1 a0_2 a0_3 a0_4 l0_5))) else (impl_PacketFault.j0 k true a0_0 a0_1 a0_2 a0_3 a0_4 l0_5))) else (impl_PacketFault.j0 k true a0_0 a0_1 a0_2 a0_3 a0_4 l0_5))) else (impl_PacketFault.j0 k true a0_0 a0_1 a0_2 a0_3 a0_4 l0_5))
theorem impl_PacketFault.mono_l : ∀ k, (∀ y0 y1 y2 y3 y4 y5 y6, LeO (impl_PacketFault.j0 k y0 y1 y2 y3 y4 y5 y6) (impl_PacketFault.j0 (k + 1) y0 y1 y2 y3 y4 y5 y6))
  | 0 => fun _ _ _ _ _ _ _ r h => by simp [impl_PacketFault.j0] at h
  | k + 1 => by
    have ih0 := impl_PacketFault.mono_l k
    · intro y0 y1 y2 y3 y4 y5 y6
      unfold impl_PacketFault.j0
      repeat' first
      | (with_reducible exact ih0 _ _ _ _ _ _ _)
      | (with_reducible exact LeO.refl _)
      | (with_reducible exact LeO.none _)
      | (with_reducible refine LeO.ite ?_ ?_)
      | (with_reducible refine LeO.bind ?_ (fun _ => ?_))
      | exact ih0 _ _ _ _ _ _ _
      | exact LeO.none _
      | refine LeO.ite ?_ ?_
      | refine LeO.bind ?_ (fun _ => ?_)
theorem impl_PacketFault.mono : ∀ a0 a1 a2 a3 a4 a5 k, LeO (impl_PacketFault.f k a0 a1 a2 a3 a4 a5) (impl_PacketFault.f (k + 1) a0 a1 a2 a3 a4 a5) := by
  intro a0 a1 a2 a3 a4 a5 k
  have ih0 := impl_PacketFault.mono_l k
  unfold impl_PacketFault.f
  repeat' first
      | (with_reducible exact ih0 _ _ _ _ _ _ _)
      | (with_reducible exact LeO.refl _)
      | (with_reducible exact LeO.none _)
      | (with_reducible refine LeO.ite ?_ ?_)
      | (with_reducible refine LeO.bind ?_ (fun _ => ?_))
      | exact ih0 _ _ _ _ _ _ _
      | exact LeO.none _
      | refine LeO.ite ?_ ?_
      | refine LeO.bind ?_ (fun _ => ?_)
set_option maxHeartbeats 8000000 in
set_option maxRecDepth 100000 in
theorem impl_PacketFault.calls (k : Nat) (a0_0 : Int) (a0_1 : Int) (a0_2 : Int) (a0_3 : Int) (a0_4 : Int) (A0_5 : Option Addr) (c0_5 : Nat) (l0_5 : List Int) (r : Int) (w : World) (hr0_5 : Kd.C (Kd.int .u8) w A0_5 l0_5.length l0_5) (hc0_5 : l0_5.length ≤ c0_5) (h : impl_PacketFault.f k a0_0 a0_1 a0_2 a0_3 a0_4 l0_5 = some r) :
    Calls Try.prog 115 #[.agg #[.int .i64 a0_0, .int .i64 a0_1, .int .i64 a0_2, .int .i64 a0_3, .int .i64 a0_4, .slice A0_5 l0_5.length c0_5]] w fun e w' => e = .returned (.int .i64 r) ∧ Below w.heap.size w w' := by
  have hu143 := Try.underlying143
  have HR0_5 := Aside0.mk hr0_5
  have HC0_5 := Aside0.mk hc0_5
  clear hr0_5 hc0_5
  have HB := Aside0.mk (Below.refl w.heap.size w)
  have H : ((impl_isAddress.f a0_0).bind fun t248 => (if t248 = true then ((impl_isAddress.f a0_1).bind fun t249 => (if t249 = true then ((impl_isProto.f a0_2).bind fun t250 => (if t250 = true then ((impl_isPort.f a0_3).bind fun t251 => (if t251 = true then ((impl_isPort.f a0_4).bind fun t252 => (impl_PacketFault.j0 k (!t252) a0_0 a0_1 a0_2 a0_3 a0_4 l0_5)) else (impl_PacketFault.j0 k true a0_0 a0_1 a0_2 a0_3 a0_4 l0_5))) else (impl_PacketFault.j0 k true a0_0 a0_1 a0_2 a0_3 a0_4 l0_5))) else (impl_PacketFault.j0 k true a0_0 a0_1 a0_2 a0_3 a0_4 l0_5))) else (impl_PacketFault.j0 k true a0_0 a0_1 a0_2 a0_3 a0_4 l0_5))) = some r := h
  clear h
  have HC2 := Aside0.mk H
  clear H
  go_enter Try.func115, Try.ntmps115
  go_upto_region 1 with (first | ((with_reducible refine gate_dst (N := 1) rfl ?_); refine box_event ?hg (N := 1) ?hd (cs := #[.int .i64 a0_0, .int .i64 a0_1, .int .i64 a0_2, .int .i64 a0_3, .int .i64 a0_4, .slice A0_5 l0_5.length c0_5]) (t := 143) ?hr ?_; (case hd => rfl); (case hg => rfl); (case hr => first | (go_simp; done) | (go_simp; rfl)); intro gb247 hg w3 hbox hb; have n0_ := Aside0.mk (below_step (by repeat (first | (with_reducible first | exact HB.out | apply below_alloc | apply pw_below_drewN | apply below_drew1) | exact HB.out)) hb); have n1_ := Aside0.mk (hbox); have n2_ := Aside0.mk ((by rw [hg]; exact (below_size (by repeat (first | (with_reducible first | exact HB.out | apply below_alloc | apply pw_below_drewN | apply below_drew1) | exact HB.out))) : w.heap.size ≤ gb247)); have n3_ := Aside0.mk ((by rw [hg]; exact (below_size (by repeat (first | (with_reducible first | exact HB.out | apply below_alloc | apply pw_below_drewN | apply below_drew1) | exact HB.out))) : w.heap.size ≤ gb247)); clear HB; have HB := n0_; have BK247 := n1_; have GW247 := n2_; have GE247 := n3_; clear n0_ n1_ n2_ n3_; clear hb hbox hg))
  (try simp only [Act.put, List.setIfInBounds_toArray, List.set_cons_zero, List.set_cons_succ])
  go_cut [3] (fun v3 wc => ∃ (kq : Nat) (x3_1 : Bool), v3 = .bool x3_1 ∧ Aside0 (impl_PacketFault.j0 kq x3_1 a0_0 a0_1 a0_2 a0_3 a0_4 l0_5 = some r) ∧ Aside0 (kq ≤ k) ∧ Aside0 (wc.heap[gb247]? = some (.cells #[.int .i64 a0_0, .int .i64 a0_1, .int .i64 a0_2, .int .i64 a0_3, .int .i64 a0_4, (.slice A0_5 l0_5.length c0_5)] 143 (0, 0))) ∧ Aside0 (Below w.heap.size w wc))
  case first =>
    have H := HC2.out
    clear HC2
    replace H := Option.bind_eq_some_iff.mp H
    obtain ⟨t248, A40, H⟩ := H
    replace H : (if t248 = true then ((impl_isAddress.f a0_1).bind fun t249 => (if t249 = true then ((impl_isProto.f a0_2).bind fun t250 => (if t250 = true then ((impl_isPort.f a0_3).bind fun t251 => (if t251 = true then ((impl_isPort.f a0_4).bind fun t252 => (impl_PacketFault.j0 k (!t252) a0_0 a0_1 a0_2 a0_3 a0_4 l0_5)) else (impl_PacketFault.j0 k true a0_0 a0_1 a0_2 a0_3 a0_4 l0_5))) else (impl_PacketFault.j0 k true a0_0 a0_1 a0_2 a0_3 a0_4 l0_5))) else (impl_PacketFault.j0 k true a0_0 a0_1 a0_2 a0_3 a0_4 l0_5))) else (impl_PacketFault.j0 k true a0_0 a0_1 a0_2 a0_3 a0_4 l0_5)) = some r := H
    have A4 := Aside0.mk A40
    clear A40
    by_cases c5 : t248 = true
    · subst c5
      have H1 : ((impl_isAddress.f a0_1).bind fun t249 => (if t249 = true then ((impl_isProto.f a0_2).bind fun t250 => (if t250 = true then ((impl_isPort.f a0_3).bind fun t251 => (if t251 = true then ((impl_isPort.f a0_4).bind fun t252 => (impl_PacketFault.j0 k (!t252) a0_0 a0_1 a0_2 a0_3 a0_4 l0_5)) else (impl_PacketFault.j0 k true a0_0 a0_1 a0_2 a0_3 a0_4 l0_5))) else (impl_PacketFault.j0 k true a0_0 a0_1 a0_2 a0_3 a0_4 l0_5))) else (impl_PacketFault.j0 k true a0_0 a0_1 a0_2 a0_3 a0_4 l0_5))) = some r := by rw [if_pos rfl] at H; exact H
      clear H
      have H := H1
      clear H1
      replace H := Option.bind_eq_some_iff.mp H
      obtain ⟨t249, A60, H⟩ := H
      replace H : (if t249 = true then ((impl_isProto.f a0_2).bind fun t250 => (if t250 = true then ((impl_isPort.f a0_3).bind fun t251 => (if t251 = true then ((impl_isPort.f a0_4).bind fun t252 => (impl_PacketFault.j0 k (!t252) a0_0 a0_1 a0_2 a0_3 a0_4 l0_5)) else (impl_PacketFault.j0 k true a0_0 a0_1 a0_2 a0_3 a0_4 l0_5))) else (impl_PacketFault.j0 k true a0_0 a0_1 a0_2 a0_3 a0_4 l0_5))) else (impl_PacketFault.j0 k true a0_0 a0_1 a0_2 a0_3 a0_4 l0_5)) = some r := H
      have A6 := Aside0.mk A60
      clear A60
      by_cases c7 : t249 = true
      · subst c7
        have H1 : ((impl_isProto.f a0_2).bind fun t250 => (if t250 = true then ((impl_isPort.f a0_3).bind fun t251 => (if t251 = true then ((impl_isPort.f a0_4).bind fun t252 => (impl_PacketFault.j0 k (!t252) a0_0 a0_1 a0_2 a0_3 a0_4 l0_5)) else (impl_PacketFault.j0 k true a0_0 a0_1 a0_2 a0_3 a0_4 l0_5))) else (impl_PacketFault.j0 k true a0_0 a0_1 a0_2 a0_3 a0_4 l0_5))) = some r := by rw [if_pos rfl] at H; exact H
        clear H
        have H := H1
        clear H1
        replace H := Option.bind_eq_some_iff.mp H
        obtain ⟨t250, A80, H⟩ := H
        replace H : (if t250 = true then ((impl_isPort.f a0_3).bind fun t251 => (if t251 = true then ((impl_isPort.f a0_4).bind fun t252 => (impl_PacketFault.j0 k (!t252) a0_0 a0_1 a0_2 a0_3 a0_4 l0_5)) else (impl_PacketFault.j0 k true a0_0 a0_1 a0_2 a0_3 a0_4 l0_5))) else (impl_PacketFault.j0 k true a0_0 a0_1 a0_2 a0_3 a0_4 l0_5)) = some r := H
        have A8 := Aside0.mk A80
        clear A80
        by_cases c9 : t250 = true
        · subst c9
          have H1 : ((impl_isPort.f a0_3).bind fun t251 => (if t251 = true then ((impl_isPort.f a0_4).bind fun t252 => (impl_PacketFault.j0 k (!t252) a0_0 a0_1 a0_2 a0_3 a0_4 l0_5)) else (impl_PacketFault.j0 k true a0_0 a0_1 a0_2 a0_3 a0_4 l0_5))) = some r := by rw [if_pos rfl] at H; exact H
          clear H
          have H := H1
          clear H1
          replace H := Option.bind_eq_some_iff.mp H
          obtain ⟨t251, A100, H⟩ := H
          replace H : (if t251 = true then ((impl_isPort.f a0_4).bind fun t252 => (impl_PacketFault.j0 k (!t252) a0_0 a0_1 a0_2 a0_3 a0_4 l0_5)) else (impl_PacketFault.j0 k true a0_0 a0_1 a0_2 a0_3 a0_4 l0_5)) = some r := H
          have A10 := Aside0.mk A100
          clear A100
          by_cases c11 : t251 = true
          · subst c11
            have H1 : ((impl_isPort.f a0_4).bind fun t252 => (impl_PacketFault.j0 k (!t252) a0_0 a0_1 a0_2 a0_3 a0_4 l0_5)) = some r := by rw [if_pos rfl] at H; exact H
            clear H
            have H := H1
            clear H1
            replace H := Option.bind_eq_some_iff.mp H
            obtain ⟨t252, A120, H⟩ := H
            replace H : (impl_PacketFault.j0 k (!t252) a0_0 a0_1 a0_2 a0_3 a0_4 l0_5) = some r := H
            have A12 := Aside0.mk A120
            clear A120
            have H' := Aside0.mk H
            clear H
            have hcz13_0 : w3.cell? ⟨gb247, 0, none⟩ = some (.int .i64 a0_0) := (blk_cell BK247.out 0).trans rfl
            have hcz13_1 : w3.cell? ⟨gb247, 1, none⟩ = some (.int .i64 a0_1) := (blk_cell BK247.out 1).trans rfl
            have hcz13_2 : w3.cell? ⟨gb247, 2, none⟩ = some (.int .i64 a0_2) := (blk_cell BK247.out 2).trans rfl
            have hcz13_3 : w3.cell? ⟨gb247, 3, none⟩ = some (.int .i64 a0_3) := (blk_cell BK247.out 3).trans rfl
            have hcz13_4 : w3.cell? ⟨gb247, 4, none⟩ = some (.int .i64 a0_4) := (blk_cell BK247.out 4).trans rfl
            have hcz13_5 : w3.cell? ⟨gb247, 5, none⟩ = some (.slice A0_5 l0_5.length c0_5) := (blk_cell BK247.out 5).trans rfl
            have hfz13_0 := blk_frozen BK247.out 0
            have hfz13_1 := blk_frozen BK247.out 1
            have hfz13_2 := blk_frozen BK247.out 2
            have hfz13_3 := blk_frozen BK247.out 3
            have hfz13_4 := blk_frozen BK247.out 4
            have hfz13_5 := blk_frozen BK247.out 5
            go_wp2_with (first | ((with_reducible refine gate_callee (f := 55) rfl ?_); refine goesL_ (some 6) rfl rfl Try.func55 (by kernel_rfl) rfl #[.int .i64 a0_0] rfl (by (try simp only [List.map_toArray, List.map_cons, List.map_nil]); first | done | rfl | (simp only [List.length_drop, List.length_take]; rfl)) ?_; (with_reducible refine (impl_isAddress.calls a0_0 true _ A4.out).mono ?_); rintro e w' ⟨rfl, ⟨nd, rfl⟩⟩; refine ⟨_, rfl, ?_⟩) | (go_at_call 55; (with_reducible refine (impl_isAddress.calls a0_1 true _ A6.out).mono ?_); rintro e w' ⟨rfl, ⟨nd, rfl⟩⟩) | (go_at_call 57; (with_reducible refine (impl_isProto.calls a0_2 true _ A8.out).mono ?_); rintro e w' ⟨rfl, ⟨nd, rfl⟩⟩) | (go_at_call 56; (with_reducible refine (impl_isPort.calls a0_3 true _ A10.out).mono ?_); rintro e w' ⟨rfl, ⟨nd, rfl⟩⟩) | (go_at_call 56; (with_reducible refine (impl_isPort.calls a0_4 t252 _ A12.out).mono ?_); rintro e w' ⟨rfl, ⟨nd, rfl⟩⟩))
            go_meet
            case rel => exact ⟨_, (!t252), (by first | rfl | (simp; done) | (simp [*]; done)), H', ⟨by first | omega | exact Nat.le_refl _⟩, ⟨by (with_reducible repeat (first | refine blk_drewN ?_ _ | refine blk_drew ?_ | refine blk_alloc ?_ _)); exact BK247.out⟩, ⟨by repeat (first | (with_reducible first | exact HB.out | apply below_alloc | apply pw_below_drewN | apply below_drew1 | refine below_set ?_ GE247.out) | exact HB.out)⟩⟩
          · replace c11 := Bool.eq_false_iff.mpr c11
            subst c11
            have H1 : (impl_PacketFault.j0 k true a0_0 a0_1 a0_2 a0_3 a0_4 l0_5) = some r := by rw [if_neg (show ¬ (false = true) by decide)] at H; exact H
            clear H
            have H := H1
            clear H1
            have H' := Aside0.mk H
            clear H
            have hcz14_0 : w3.cell? ⟨gb247, 0, none⟩ = some (.int .i64 a0_0) := (blk_cell BK247.out 0).trans rfl
            have hcz14_1 : w3.cell? ⟨gb247, 1, none⟩ = some (.int .i64 a0_1) := (blk_cell BK247.out 1).trans rfl
            have hcz14_2 : w3.cell? ⟨gb247, 2, none⟩ = some (.int .i64 a0_2) := (blk_cell BK247.out 2).trans rfl
            have hcz14_3 : w3.cell? ⟨gb247, 3, none⟩ = some (.int .i64 a0_3) := (blk_cell BK247.out 3).trans rfl
            have hcz14_4 : w3.cell? ⟨gb247, 4, none⟩ = some (.int .i64 a0_4) := (blk_cell BK247.out 4).trans rfl
            have hcz14_5 : w3.cell? ⟨gb247, 5, none⟩ = some (.slice A0_5 l0_5.length c0_5) := (blk_cell BK247.out 5).trans rfl
            have hfz14_0 := blk_frozen BK247.out 0
            have hfz14_1 := blk_frozen BK247.out 1
            have hfz14_2 := blk_frozen BK247.out 2
            have hfz14_3 := blk_frozen BK247.out 3
            have hfz14_4 := blk_frozen BK247.out 4
            have hfz14_5 := blk_frozen BK247.out 5
            go_wp2_with (first | ((with_reducible refine gate_callee (f := 55) rfl ?_); refine goesL_ (some 6) rfl rfl Try.func55 (by kernel_rfl) rfl #[.int .i64 a0_0] rfl (by (try simp only [List.map_toArray, List.map_cons, List.map_nil]); first | done | rfl | (simp only [List.length_drop, List.length_take]; rfl)) ?_; (with_reducible refine (impl_isAddress.calls a0_0 true _ A4.out).mono ?_); rintro e w' ⟨rfl, ⟨nd, rfl⟩⟩; refine ⟨_, rfl, ?_⟩) | (go_at_call 55; (with_reducible refine (impl_isAddress.calls a0_1 true _ A6.out).mono ?_); rintro e w' ⟨rfl, ⟨nd, rfl⟩⟩) | (go_at_call 57; (with_reducible refine (impl_isProto.calls a0_2 true _ A8.out).mono ?_); rintro e w' ⟨rfl, ⟨nd, rfl⟩⟩) | (go_at_call 56; (with_reducible refine (impl_isPort.calls a0_3 false _ A10.out).mono ?_); rintro e w' ⟨rfl, ⟨nd, rfl⟩⟩))
            go_meet
            case rel => exact ⟨_, (true), (by first | rfl | (simp; done) | (simp [*]; done)), H', ⟨by first | omega | exact Nat.le_refl _⟩, ⟨by (with_reducible repeat (first | refine blk_drewN ?_ _ | refine blk_drew ?_ | refine blk_alloc ?_ _)); exact BK247.out⟩, ⟨by repeat (first | (with_reducible first | exact HB.out | apply below_alloc | apply pw_below_drewN | apply below_drew1 | refine below_set ?_ GE247.out) | exact HB.out)⟩⟩
        · replace c9 := Bool.eq_false_iff.mpr c9
          subst c9
          have H1 : (impl_PacketFault.j0 k true a0_0 a0_1 a0_2 a0_3 a0_4 l0_5) = some r := by rw [if_neg (show ¬ (false = true) by decide)] at H; exact H
          clear H
          have H := H1
          clear H1
          have H' := Aside0.mk H
          clear H
          have hcz15_0 : w3.cell? ⟨gb247, 0, none⟩ = some (.int .i64 a0_0) := (blk_cell BK247.out 0).trans rfl
          have hcz15_1 : w3.cell? ⟨gb247, 1, none⟩ = some (.int .i64 a0_1) := (blk_cell BK247.out 1).trans rfl
          have hcz15_2 : w3.cell? ⟨gb247, 2, none⟩ = some (.int .i64 a0_2) := (blk_cell BK247.out 2).trans rfl
          have hcz15_3 : w3.cell? ⟨gb247, 3, none⟩ = some (.int .i64 a0_3) := (blk_cell BK247.out 3).trans rfl
          have hcz15_4 : w3.cell? ⟨gb247, 4, none⟩ = some (.int .i64 a0_4) := (blk_cell BK247.out 4).trans rfl
          have hcz15_5 : w3.cell? ⟨gb247, 5, none⟩ = some (.slice A0_5 l0_5.length c0_5) := (blk_cell BK247.out 5).trans rfl
          have hfz15_0 := blk_frozen BK247.out 0
          have hfz15_1 := blk_frozen BK247.out 1
          have hfz15_2 := blk_frozen BK247.out 2
          have hfz15_3 := blk_frozen BK247.out 3
          have hfz15_4 := blk_frozen BK247.out 4
          have hfz15_5 := blk_frozen BK247.out 5
          go_wp2_with (first | ((with_reducible refine gate_callee (f := 55) rfl ?_); refine goesL_ (some 6) rfl rfl Try.func55 (by kernel_rfl) rfl #[.int .i64 a0_0] rfl (by (try simp only [List.map_toArray, List.map_cons, List.map_nil]); first | done | rfl | (simp only [List.length_drop, List.length_take]; rfl)) ?_; (with_reducible refine (impl_isAddress.calls a0_0 true _ A4.out).mono ?_); rintro e w' ⟨rfl, ⟨nd, rfl⟩⟩; refine ⟨_, rfl, ?_⟩) | (go_at_call 55; (with_reducible refine (impl_isAddress.calls a0_1 true _ A6.out).mono ?_); rintro e w' ⟨rfl, ⟨nd, rfl⟩⟩) | (go_at_call 57; (with_reducible refine (impl_isProto.calls a0_2 false _ A8.out).mono ?_); rintro e w' ⟨rfl, ⟨nd, rfl⟩⟩))
          go_meet
          case rel => exact ⟨_, (true), (by first | rfl | (simp; done) | (simp [*]; done)), H', ⟨by first | omega | exact Nat.le_refl _⟩, ⟨by (with_reducible repeat (first | refine blk_drewN ?_ _ | refine blk_drew ?_ | refine blk_alloc ?_ _)); exact BK247.out⟩, ⟨by repeat (first | (with_reducible first | exact HB.out | apply below_alloc | apply pw_below_drewN | apply below_drew1 | refine below_set ?_ GE247.out) | exact HB.out)⟩⟩
      · replace c7 := Bool.eq_false_iff.mpr c7
        subst c7
        have H1 : (impl_PacketFault.j0 k true a0_0 a0_1 a0_2 a0_3 a0_4 l0_5) = some r := by rw [if_neg (show ¬ (false = true) by decide)] at H; exact H
        clear H
        have H := H1
        clear H1
        have H' := Aside0.mk H
        clear H
        have hcz16_0 : w3.cell? ⟨gb247, 0, none⟩ = some (.int .i64 a0_0) := (blk_cell BK247.out 0).trans rfl
        have hcz16_1 : w3.cell? ⟨gb247, 1, none⟩ = some (.int .i64 a0_1) := (blk_cell BK247.out 1).trans rfl
        have hcz16_2 : w3.cell? ⟨gb247, 2, none⟩ = some (.int .i64 a0_2) := (blk_cell BK247.out 2).trans rfl
        have hcz16_3 : w3.cell? ⟨gb247, 3, none⟩ = some (.int .i64 a0_3) := (blk_cell BK247.out 3).trans rfl
        have hcz16_4 : w3.cell? ⟨gb247, 4, none⟩ = some (.int .i64 a0_4) := (blk_cell BK247.out 4).trans rfl
        have hcz16_5 : w3.cell? ⟨gb247, 5, none⟩ = some (.slice A0_5 l0_5.length c0_5) := (blk_cell BK247.out 5).trans rfl
        have hfz16_0 := blk_frozen BK247.out 0
        have hfz16_1 := blk_frozen BK247.out 1
        have hfz16_2 := blk_frozen BK247.out 2
        have hfz16_3 := blk_frozen BK247.out 3
        have hfz16_4 := blk_frozen BK247.out 4
        have hfz16_5 := blk_frozen BK247.out 5
        go_wp2_with (first | ((with_reducible refine gate_callee (f := 55) rfl ?_); refine goesL_ (some 6) rfl rfl Try.func55 (by kernel_rfl) rfl #[.int .i64 a0_0] rfl (by (try simp only [List.map_toArray, List.map_cons, List.map_nil]); first | done | rfl | (simp only [List.length_drop, List.length_take]; rfl)) ?_; (with_reducible refine (impl_isAddress.calls a0_0 true _ A4.out).mono ?_); rintro e w' ⟨rfl, ⟨nd, rfl⟩⟩; refine ⟨_, rfl, ?_⟩) | (go_at_call 55; (with_reducible refine (impl_isAddress.calls a0_1 false _ A6.out).mono ?_); rintro e w' ⟨rfl, ⟨nd, rfl⟩⟩))
        go_meet
        case rel => exact ⟨_, (true), (by first | rfl | (simp; done) | (simp [*]; done)), H', ⟨by first | omega | exact Nat.le_refl _⟩, ⟨by (with_reducible repeat (first | refine blk_drewN ?_ _ | refine blk_drew ?_ | refine blk_alloc ?_ _)); exact BK247.out⟩, ⟨by repeat (first | (with_reducible first | exact HB.out | apply below_alloc | apply pw_below_drewN | apply below_drew1 | refine below_set ?_ GE247.out) | exact HB.out)⟩⟩
    · replace c5 := Bool.eq_false_iff.mpr c5
      subst c5
      have H1 : (impl_PacketFault.j0 k true a0_0 a0_1 a0_2 a0_3 a0_4 l0_5) = some r := by rw [if_neg (show ¬ (false = true) by decide)] at H; exact H
      clear H
      have H := H1
      clear H1
      have H' := Aside0.mk H
      clear H
      have hcz17_0 : w3.cell? ⟨gb247, 0, none⟩ = some (.int .i64 a0_0) := (blk_cell BK247.out 0).trans rfl
      have hcz17_1 : w3.cell? ⟨gb247, 1, none⟩ = some (.int .i64 a0_1) := (blk_cell BK247.out 1).trans rfl
      have hcz17_2 : w3.cell? ⟨gb247, 2, none⟩ = some (.int .i64 a0_2) := (blk_cell BK247.out 2).trans rfl
      have hcz17_3 : w3.cell? ⟨gb247, 3, none⟩ = some (.int .i64 a0_3) := (blk_cell BK247.out 3).trans rfl
      have hcz17_4 : w3.cell? ⟨gb247, 4, none⟩ = some (.int .i64 a0_4) := (blk_cell BK247.out 4).trans rfl
      have hcz17_5 : w3.cell? ⟨gb247, 5, none⟩ = some (.slice A0_5 l0_5.length c0_5) := (blk_cell BK247.out 5).trans rfl
      have hfz17_0 := blk_frozen BK247.out 0
      have hfz17_1 := blk_frozen BK247.out 1
      have hfz17_2 := blk_frozen BK247.out 2
      have hfz17_3 := blk_frozen BK247.out 3
      have hfz17_4 := blk_frozen BK247.out 4
      have hfz17_5 := blk_frozen BK247.out 5
      go_wp2_with (first | ((with_reducible refine gate_callee (f := 55) rfl ?_); refine goesL_ (some 6) rfl rfl Try.func55 (by kernel_rfl) rfl #[.int .i64 a0_0] rfl (by (try simp only [List.map_toArray, List.map_cons, List.map_nil]); first | done | rfl | (simp only [List.length_drop, List.length_take]; rfl)) ?_; (with_reducible refine (impl_isAddress.calls a0_0 false _ A4.out).mono ?_); rintro e w' ⟨rfl, ⟨nd, rfl⟩⟩; refine ⟨_, rfl, ?_⟩))
      go_meet
      case rel => exact ⟨_, (true), (by first | rfl | (simp; done) | (simp [*]; done)), H', ⟨by first | omega | exact Nat.le_refl _⟩, ⟨by (with_reducible repeat (first | refine blk_drewN ?_ _ | refine blk_drew ?_ | refine blk_alloc ?_ _)); exact BK247.out⟩, ⟨by repeat (first | (with_reducible first | exact HB.out | apply below_alloc | apply pw_below_drewN | apply below_drew1 | refine below_set ?_ GE247.out) | exact HB.out)⟩⟩
  case rest =>
    clear HC2
    try clear c1
    try clear p2
    try clear c5
    try clear c7
    try clear c9
    try clear c11
    try clear hcz13_0
    try clear hcz13_1
    try clear hcz13_2
    try clear hcz13_3
    try clear hcz13_4
    try clear hcz13_5
    try clear hcz14_0
    try clear hcz14_1
    try clear hcz14_2
    try clear hcz14_3
    try clear hcz14_4
    try clear hcz14_5
    try clear hcz15_0
    try clear hcz15_1
    try clear hcz15_2
    try clear hcz15_3
    try clear hcz15_4
    try clear hcz15_5
    try clear hcz16_0
    try clear hcz16_1
    try clear hcz16_2
    try clear hcz16_3
    try clear hcz16_4
    try clear hcz16_5
    try clear hcz17_0
    try clear hcz17_1
    try clear hcz17_2
    try clear hcz17_3
    try clear hcz17_4
    try clear hcz17_5
    try clear hfz13_0
    try clear hfz13_1
    try clear hfz13_2
    try clear hfz13_3
    try clear hfz13_4
    try clear hfz13_5
    try clear hfz14_0
    try clear hfz14_1
    try clear hfz14_2
    try clear hfz14_3
    try clear hfz14_4
    try clear hfz14_5
    try clear hfz15_0
    try clear hfz15_1
    try clear hfz15_2
    try clear hfz15_3
    try clear hfz15_4
    try clear hfz15_5
    try clear hfz16_0
    try clear hfz16_1
    try clear hfz16_2
    try clear hfz16_3
    try clear hfz16_4
    try clear hfz16_5
    try clear hfz17_0
    try clear hfz17_1
    try clear hfz17_2
    try clear hfz17_3
    try clear hfz17_4
    try clear hfz17_5
    obtain ⟨kq, x3_1, rfl, HA, HJ1, BK247, HB⟩ := hcut
    cases kq with
    | zero => exact absurd HA.out (by simp [impl_PacketFault.j0])
    | succ kj1 =>
      have H := HA.out
      clear HA
      simp only [impl_PacketFault.j0] at H
      by_cases c18 : x3_1 = true
      · subst c18
        have H1 : (some 3) = some r := by rw [if_pos rfl] at H; exact H
        clear H
        have H := H1
        clear H1
        obtain rfl := Option.some.inj H
        go_wp2
        go_ret
        exact ⟨by first | rfl | (simp [errW_none, errW_some] <;> rfl) | (simp [*, errW_none, errW_some] <;> rfl), by repeat (first | (with_reducible first | exact HB.out | apply below_alloc | apply pw_below_drewN | apply below_drew1 | refine below_set ?_ GE247.out) | exact HB.out)⟩
      · replace c18 := Bool.eq_false_iff.mpr c18
        subst c18
        have H1 : (if (l0_5.length : Int) > 200 then (some 2) else (some 0)) = some r := by rw [if_neg (show ¬ (false = true) by decide)] at H; exact H
        clear H
        have H := H1
        clear H1
        by_cases c19 : (l0_5.length : Int) > 200
        · rw [if_pos c19] at H
          have c19b0 : decide (200 < (l0_5.length : Int)) = true := decide_eq_true c19
          have c19b1 : decide (200 < l0_5.length) = true := decide_eq_true (by omega)
          clear c19
          obtain rfl := Option.some.inj H
          have hcz20_0 : wc.cell? ⟨gb247, 0, none⟩ = some (.int .i64 a0_0) := (blk_cell BK247.out 0).trans rfl
          have hcz20_1 : wc.cell? ⟨gb247, 1, none⟩ = some (.int .i64 a0_1) := (blk_cell BK247.out 1).trans rfl
          have hcz20_2 : wc.cell? ⟨gb247, 2, none⟩ = some (.int .i64 a0_2) := (blk_cell BK247.out 2).trans rfl
          have hcz20_3 : wc.cell? ⟨gb247, 3, none⟩ = some (.int .i64 a0_3) := (blk_cell BK247.out 3).trans rfl
          have hcz20_4 : wc.cell? ⟨gb247, 4, none⟩ = some (.int .i64 a0_4) := (blk_cell BK247.out 4).trans rfl
          have hcz20_5 : wc.cell? ⟨gb247, 5, none⟩ = some (.slice A0_5 l0_5.length c0_5) := (blk_cell BK247.out 5).trans rfl
          have hfz20_0 := blk_frozen BK247.out 0
          have hfz20_1 := blk_frozen BK247.out 1
          have hfz20_2 := blk_frozen BK247.out 2
          have hfz20_3 := blk_frozen BK247.out 3
          have hfz20_4 := blk_frozen BK247.out 4
          have hfz20_5 := blk_frozen BK247.out 5
          go_wp2
          go_ret
          exact ⟨by first | rfl | (simp [errW_none, errW_some] <;> rfl) | (simp [*, errW_none, errW_some] <;> rfl), by repeat (first | (with_reducible first | exact HB.out | apply below_alloc | apply pw_below_drewN | apply below_drew1 | refine below_set ?_ GE247.out) | exact HB.out)⟩
        · rw [if_neg c19] at H
          have c19b0 : decide (200 < (l0_5.length : Int)) = false := decide_eq_false c19
          have c19b1 : decide (200 < l0_5.length) = false := decide_eq_false (by omega)
          clear c19
          obtain rfl := Option.some.inj H
          have hcz21_0 : wc.cell? ⟨gb247, 0, none⟩ = some (.int .i64 a0_0) := (blk_cell BK247.out 0).trans rfl
          have hcz21_1 : wc.cell? ⟨gb247, 1, none⟩ = some (.int .i64 a0_1) := (blk_cell BK247.out 1).trans rfl
          have hcz21_2 : wc.cell? ⟨gb247, 2, none⟩ = some (.int .i64 a0_2) := (blk_cell BK247.out 2).trans rfl
          have hcz21_3 : wc.cell? ⟨gb247, 3, none⟩ = some (.int .i64 a0_3) := (blk_cell BK247.out 3).trans rfl
          have hcz21_4 : wc.cell? ⟨gb247, 4, none⟩ = some (.int .i64 a0_4) := (blk_cell BK247.out 4).trans rfl
          have hcz21_5 : wc.cell? ⟨gb247, 5, none⟩ = some (.slice A0_5 l0_5.length c0_5) := (blk_cell BK247.out 5).trans rfl
          have hfz21_0 := blk_frozen BK247.out 0
          have hfz21_1 := blk_frozen BK247.out 1
          have hfz21_2 := blk_frozen BK247.out 2
          have hfz21_3 := blk_frozen BK247.out 3
          have hfz21_4 := blk_frozen BK247.out 4
          have hfz21_5 := blk_frozen BK247.out 5
          go_wp2
          go_ret
          exact ⟨by first | rfl | (simp [errW_none, errW_some] <;> rfl) | (simp [*, errW_none, errW_some] <;> rfl), by repeat (first | (with_reducible first | exact HB.out | apply below_alloc | apply pw_below_drewN | apply below_drew1 | refine below_set ?_ GE247.out) | exact HB.out)⟩

/-! ### impl_isFlow: function 68 -/
def impl_isFlow.f (k : Nat) (a0_0 : Int) (a0_1 : Int) (a0_2 : Int) (a0_3 : Int) (a0_4 : Int) : Option (Bool) := (impl_PacketFault.f k a0_0 a0_1 a0_2 a0_3 a0_4 ([] : List Int)).bind fun t254 => (some (t254 == 0))
theorem impl_isFlow.mono : ∀ a0 a1 a2 a3 a4 k, LeO (impl_isFlow.f k a0 a1 a2 a3 a4) (impl_isFlow.f (k + 1) a0 a1 a2 a3 a4) := by
  intro a0 a1 a2 a3 a4 k
  unfold impl_isFlow.f
  repeat' first
      | (with_reducible exact impl_PacketFault.mono _ _ _ _ _ _ _)
      | (with_reducible exact LeO.refl _)
      | (with_reducible exact LeO.none _)
      | (with_reducible refine LeO.ite ?_ ?_)
      | (with_reducible refine LeO.bind ?_ (fun _ => ?_))
      | exact impl_PacketFault.mono _ _ _ _ _ _ _
      | exact LeO.none _
      | refine LeO.ite ?_ ?_
      | refine LeO.bind ?_ (fun _ => ?_)
set_option maxHeartbeats 8000000 in
set_option maxRecDepth 100000 in
theorem impl_isFlow.calls (k : Nat) (a0_0 : Int) (a0_1 : Int) (a0_2 : Int) (a0_3 : Int) (a0_4 : Int) (r : Bool) (w : World) (h : impl_isFlow.f k a0_0 a0_1 a0_2 a0_3 a0_4 = some r) :
    Calls Try.prog 68 #[.agg #[.int .i64 a0_0, .int .i64 a0_1, .int .i64 a0_2, .int .i64 a0_3, .int .i64 a0_4]] w fun e w' => e = .returned (.bool r) ∧ Below w.heap.size w w' := by
  have hu47 := Try.underlying47
  have hu143 := Try.underlying143
  have HB := Aside0.mk (Below.refl w.heap.size w)
  have H : ((impl_PacketFault.f k a0_0 a0_1 a0_2 a0_3 a0_4 ([] : List Int)).bind fun t254 => (some (t254 == 0))) = some r := h
  clear h
  replace H := Option.bind_eq_some_iff.mp H
  obtain ⟨t254, A20, H⟩ := H
  replace H : (some (t254 == 0)) = some r := H
  have A2 := Aside0.mk A20
  clear A20
  obtain rfl := Option.some.inj H
  go_enter Try.func68, Try.ntmps68
  go_wp2_with (first | ((with_reducible refine gate_dst (N := 1) rfl ?_); refine box_event ?hg (N := 1) ?hd (cs := #[.int .i64 a0_0, .int .i64 a0_1, .int .i64 a0_2, .int .i64 a0_3, .int .i64 a0_4]) (t := 47) ?hr ?_; (case hd => rfl); (case hg => rfl); (case hr => first | (go_simp; done) | (go_simp; rfl)); intro gb253 hg w3 hbox hb; have n0_ := Aside0.mk (below_step (by repeat (first | (with_reducible first | exact HB.out | apply below_alloc | apply pw_below_drewN | apply below_drew1) | exact HB.out)) hb); have n1_ := Aside0.mk (hbox); have n2_ := Aside0.mk ((by rw [hg]; exact (below_size (by repeat (first | (with_reducible first | exact HB.out | apply below_alloc | apply pw_below_drewN | apply below_drew1) | exact HB.out))) : w.heap.size ≤ gb253)); have n3_ := Aside0.mk ((by rw [hg]; exact (below_size (by repeat (first | (with_reducible first | exact HB.out | apply below_alloc | apply pw_below_drewN | apply below_drew1) | exact HB.out))) : w.heap.size ≤ gb253)); clear HB; have HB := n0_; have BK253 := n1_; have GW253 := n2_; have GE253 := n3_; clear n0_ n1_ n2_ n3_; clear hb hbox hg; have hcz4_0 : w3.cell? ⟨gb253, 0, none⟩ = some (.int .i64 a0_0) := (blk_cell BK253.out 0).trans rfl; have hcz4_1 : w3.cell? ⟨gb253, 1, none⟩ = some (.int .i64 a0_1) := (blk_cell BK253.out 1).trans rfl; have hcz4_2 : w3.cell? ⟨gb253, 2, none⟩ = some (.int .i64 a0_2) := (blk_cell BK253.out 2).trans rfl; have hcz4_3 : w3.cell? ⟨gb253, 3, none⟩ = some (.int .i64 a0_3) := (blk_cell BK253.out 3).trans rfl; have hcz4_4 : w3.cell? ⟨gb253, 4, none⟩ = some (.int .i64 a0_4) := (blk_cell BK253.out 4).trans rfl; have hfz4_0 := blk_frozen BK253.out 0; have hfz4_1 := blk_frozen BK253.out 1; have hfz4_2 := blk_frozen BK253.out 2; have hfz4_3 := blk_frozen BK253.out 3; have hfz4_4 := blk_frozen BK253.out 4) | ((with_reducible refine gate_callee (f := 115) rfl ?_); refine goesL_ (some 14) rfl rfl Try.func115 (by kernel_rfl) rfl #[.agg #[.int .i64 a0_0, .int .i64 a0_1, .int .i64 a0_2, .int .i64 a0_3, .int .i64 a0_4, .slice none 0 0]] rfl (by (try simp only [List.map_toArray, List.map_cons, List.map_nil]); first | done | rfl | (simp only [List.length_drop, List.length_take]; rfl)) ?_; (refine (impl_PacketFault.calls k a0_0 a0_1 a0_2 a0_3 a0_4 _ _ ([] : List Int) t254 _ ?side1 ?side2 A2.out).mono ?_); (case side1 => exact Kd.C_nil _ _); (case side2 => exact Nat.le_refl _); rintro e w5 ⟨rfl, hb⟩; refine ⟨_, rfl, ?_⟩; have n0_ := Aside0.mk (blk_below (g := gb253) (o := .cells #[.int .i64 a0_0, .int .i64 a0_1, .int .i64 a0_2, .int .i64 a0_3, .int .i64 a0_4] 47 (0, 0)) (by (with_reducible repeat (first | refine blk_drewN ?_ _ | refine blk_drew ?_ | refine blk_alloc ?_ _)); exact BK253.out) hb); have n1_ := Aside0.mk (below_step (by repeat (first | (with_reducible first | exact HB.out | apply below_alloc | apply pw_below_drewN | apply below_drew1 | refine below_set ?_ GE253.out) | exact HB.out)) hb); clear BK253; clear HB; have BK253 := n0_; have HB := n1_; clear n0_ n1_; (try clear hb); (try clear hb2); (try clear hk); (try clear hi)))
  go_ret
  exact ⟨by first | rfl | (simp [errW_none, errW_some] <;> rfl) | (simp [*, errW_none, errW_some] <;> rfl), by repeat (first | (with_reducible first | exact HB.out | apply below_alloc | apply pw_below_drewN | apply below_drew1 | refine below_set ?_ GE253.out) | exact HB.out)⟩

-- NOT PRINTED: function 116 (impl_Vip)

-- NOT PRINTED: function 69 (impl_Config_vip)

/-! ### impl_VipFor: function 22 -/
set_option maxHeartbeats 2000000 in
/-- slices.IndexFunc over such a slice, whatever the function value, if it says p of each element and turns nothing that lay. -/
theorem Cf.bk.ix_calls (p : S36 → Bool) (g : Nat) (lb : Array Value) (eg : ∀ args w, (callFunc g args).run Try.prog w = .ok (.enter g args) w) (A0 : Option Addr) (c0 : Nat) (l0 : List (S36)) (w : World) (hr0 : Kd.C k36 w A0 l0.length l0) (hc0 : l0.length ≤ c0)
    (hp : ∀ (W : World) (x : S36), Below w.heap.size w W → Calls Try.prog g (#[.agg #[.int .i64 x.f0, .int .i64 x.f1, .int .i64 x.f2, .int .i64 x.f3, .bool x.f4]] ++ lb) W fun e w' => e = .returned (.bool (p x)) ∧ Below w.heap.size w w') :
    Calls Try.prog 110 #[.slice A0 l0.length c0, .func (.func g) #[] lb] w fun e w' => e = .returned (.int .i64 (Go.Proofs.Ytfmlhpoaipeoeaa.Ix.ixFrom p l0 0)) ∧ Below w.heap.size w w' := by
  have hbig : l0.length ≤ 9223372036854775807 := by have := hr0.2.1; have hs : (k36).sz = 5 := rfl; (try simp only [maxLen] at this); (try rw [hs] at this); omega
  go_enter Try.func110, Try.ntmps110
  go_wp2
  go_loopg [5, 8] l0.length (fun gg _ s8 wr => ∃ kk : Nat, kk ≤ l0.length ∧ l0.length - kk ≤ gg ∧ s8 = .int .i64 kk ∧ Aside (Below w.heap.size w wr) ∧ Aside (∀ j, j < kk → p (l0.getD j z36) = false))
  case atStart => exact ⟨0, Nat.zero_le _, by omega, rfl, Below.refl _ w, fun j hj => absurd hj (Nat.not_lt_zero _)⟩
  case round =>
    obtain ⟨kk, hkk, hg, rfl, BW, AA⟩ := hrel
    by_cases hlt : kk < l0.length
    · have hltz : (kk : Int) < (l0.length : Int) := by omega
      obtain ⟨ad, eA, hx_0, hx_1, hx_2, hx_3, hx_4⟩ := at_T36 (Kd.C_below hr0 BW.out) (kk : Int) (by omega) hltz
      cases eA
      have hcall := hp wr (rd_T36 l0 (kk : Int)) BW.out
      have hy : l0.getD kk z36 = rd_T36 l0 (kk : Int) := rfl
      generalize rd_T36 l0 (kk : Int) = y at hx_0 hx_1 hx_2 hx_3 hx_4 hcall hy
      have B : Aside (l0.getD kk z36 = y) := hy
      clear hy hp
      simp only [Int.toNat_natCast] at hx_0 hx_1 hx_2 hx_3 hx_4
      cases hq : p y with
      | true =>
        rw [hq] at hcall
        go_wp2_with (go_at_fn g; refine hcall.mono ?_; rintro e w' ⟨rfl, hb'⟩)
        go_ret
        refine ⟨?_, hb'⟩
        rw [Go.Proofs.Ytfmlhpoaipeoeaa.Ix.ixFrom_hit p z36 l0 0 kk hlt (by rw [B.out]; exact hq) AA.out]
        simp
      | false =>
        rw [hq] at hcall
        go_wp2_with (go_at_fn g; refine hcall.mono ?_; rintro e w' ⟨rfl, hb'⟩)
        go_roundg (l0.length - (kk + 1))
        case measure => omega
        case rel =>
          refine ⟨kk + 1, by omega, by omega, by go_num, hb', (show Aside _ from fun j hj => ?_)⟩
          by_cases e : j = kk
          · subst e
            rw [B.out]; exact hq
          · exact AA.out j (by omega)
    · have hltz : ¬ (kk : Int) < (l0.length : Int) := by omega
      have : kk = l0.length := by omega
      subst this
      go_wp2
      go_ret
      refine ⟨?_, BW.out⟩
      rw [Go.Proofs.Ytfmlhpoaipeoeaa.Ix.ixFrom_miss p z36 l0 0 AA.out]
      rfl
set_option maxHeartbeats 2000000 in
/-- slices.IndexFunc over such a slice, whatever the function value, if it says p of each element and turns nothing that lay. -/
theorem Cf.nm.ix_calls (p : Int → Bool) (g : Nat) (lb : Array Value) (eg : ∀ args w, (callFunc g args).run Try.prog w = .ok (.enter g args) w) (A0 : Option Addr) (c0 : Nat) (l0 : List Int) (w : World) (hr0 : Kd.C (Kd.int .i64) w A0 l0.length l0) (hc0 : l0.length ≤ c0)
    (hp : ∀ (W : World) (x : Int), Below w.heap.size w W → Calls Try.prog g (#[.int .i64 x] ++ lb) W fun e w' => e = .returned (.bool (p x)) ∧ Below w.heap.size w w') :
    Calls Try.prog 109 #[.slice A0 l0.length c0, .func (.func g) #[] lb] w fun e w' => e = .returned (.int .i64 (Go.Proofs.Ytfmlhpoaipeoeaa.Ix.ixFrom p l0 0)) ∧ Below w.heap.size w w' := by
  have hbig : l0.length ≤ 9223372036854775807 := by have := hr0.2.1; have hs : (Kd.int .i64).sz = 1 := rfl; (try simp only [maxLen] at this); (try rw [hs] at this); omega
  go_enter Try.func109, Try.ntmps109
  go_wp2
  go_loopg [5, 8] l0.length (fun gg _ s8 wr => ∃ kk : Nat, kk ≤ l0.length ∧ l0.length - kk ≤ gg ∧ s8 = .int .i64 kk ∧ Aside (Below w.heap.size w wr) ∧ Aside (∀ j, j < kk → p (l0.getD j 0) = false))
  case atStart => exact ⟨0, Nat.zero_le _, by omega, rfl, Below.refl _ w, fun j hj => absurd hj (Nat.not_lt_zero _)⟩
  case round =>
    obtain ⟨kk, hkk, hg, rfl, BW, AA⟩ := hrel
    by_cases hlt : kk < l0.length
    · have hltz : (kk : Int) < (l0.length : Int) := by omega
      obtain ⟨ad, eA, hx_0⟩ := Kd.at_int (Kd.C_below hr0 BW.out) (kk : Int) (by omega) hltz
      cases eA
      have hcall := hp wr (rd l0 (kk : Int)) BW.out
      have hy : l0.getD kk 0 = rd l0 (kk : Int) := rfl
      generalize rd l0 (kk : Int) = y at hx_0 hcall hy
      have B : Aside (l0.getD kk 0 = y) := hy
      clear hy hp
      simp only [Int.toNat_natCast] at hx_0
      cases hq : p y with
      | true =>
        rw [hq] at hcall
        go_wp2_with (go_at_fn g; refine hcall.mono ?_; rintro e w' ⟨rfl, hb'⟩)
        go_ret
        refine ⟨?_, hb'⟩
        rw [Go.Proofs.Ytfmlhpoaipeoeaa.Ix.ixFrom_hit p 0 l0 0 kk hlt (by rw [B.out]; exact hq) AA.out]
        simp
      | false =>
        rw [hq] at hcall
        go_wp2_with (go_at_fn g; refine hcall.mono ?_; rintro e w' ⟨rfl, hb'⟩)
        go_roundg (l0.length - (kk + 1))
        case measure => omega
        case rel =>
          refine ⟨kk + 1, by omega, by omega, by go_num, hb', (show Aside _ from fun j hj => ?_)⟩
          by_cases e : j = kk
          · subst e
            rw [B.out]; exact hq
          · exact AA.out j (by omega)
    · have hltz : ¬ (kk : Int) < (l0.length : Int) := by omega
      have : kk = l0.length := by omega
      subst this
      go_wp2
      go_ret
      refine ⟨?_, BW.out⟩
      rw [Go.Proofs.Ytfmlhpoaipeoeaa.Ix.ixFrom_miss p 0 l0 0 AA.out]
      rfl
set_option maxHeartbeats 2000000 in
/-- slices.ContainsFunc over such a slice. -/
theorem Cf.nm.has_calls (p : Int → Bool) (g : Nat) (lb : Array Value) (eg : ∀ args w, (callFunc g args).run Try.prog w = .ok (.enter g args) w) (A0 : Option Addr) (c0 : Nat) (l0 : List Int) (w : World) (hr0 : Kd.C (Kd.int .i64) w A0 l0.length l0) (hc0 : l0.length ≤ c0)
    (hp : ∀ (W : World) (x : Int), Below w.heap.size w W → Calls Try.prog g (#[.int .i64 x] ++ lb) W fun e w' => e = .returned (.bool (p x)) ∧ Below w.heap.size w w') :
    Calls Try.prog 59 #[.slice A0 l0.length c0, .func (.func g) #[] lb] w fun e w' => e = .returned (.bool (l0.any p)) ∧ Below w.heap.size w w' := by
  rw [← Go.Proofs.Ytfmlhpoaipeoeaa.Ix.ixFrom_ge p l0 0 (by omega)]
  have hcon := Cf.nm.ix_calls p g lb eg A0 c0 l0 w hr0 hc0 hp
  clear hp
  go_enter Try.func59, Try.ntmps59
  go_wp2_with (go_at_call 109; refine hcon.mono ?_; rintro e w' ⟨rfl, hb'⟩)
  go_ret
  exact ⟨rfl, hb'⟩
set_option maxHeartbeats 2000000 in
/-- backend's closure: is a backend of the name that lies in a box? -/
theorem Cf.clo (q : Nat) (n : Int) (w : World) (hq : w.cell? ⟨q, 0, none⟩ = some (.int .i64 n)) (x : S36) (hql : q < w.heap.size) :
    Calls Try.prog 111 #[.agg #[.int .i64 x.f0, .int .i64 x.f1, .int .i64 x.f2, .int .i64 x.f3, .bool x.f4], .pointer (some ⟨q, 0, none⟩)] w fun e w' => e = .returned (.bool (Cf.named n x)) ∧ Below w.heap.size w w' := by
  have hu36 := Try.underlying36
  have hB1 : Below w.heap.size w (w.alloc (.cells #[.int .i64 x.f0, .int .i64 x.f1, .int .i64 x.f2, .int .i64 x.f3, .bool x.f4] 36)) := (Below.refl _ w).alloc (Nat.le_refl _) _
  have hq1 := (hB1.cell (p := ⟨q, 0, none⟩) hql).trans hq
  go_enter Try.func111, Try.ntmps111
  go_wp2
  go_ret
  exact ⟨rfl, hB1⟩
set_option maxHeartbeats 2000000 in
/-- The place of a backend of a name. -/
theorem impl_backend.cf (g : Nat) (A1 : Option Addr) (c1 : Nat) (l1 : List S36) (A2 : Option Addr) (n2 c2 : Nat) (v name : Int) (w : World) (hb : w.heap[g]? = some (.cells #[.int .i64 v, .slice A1 l1.length c1, .slice A2 n2 c2] 31 (0, 0))) (hr1 : Kd.C k36 w A1 l1.length l1) (hc1 : l1.length ≤ c1) :
    Calls Try.prog 61 #[.pointer (some ⟨g, 0, none⟩), .int .i64 name] w fun e w' => e = .returned (.int .i64 (Cf.place l1 name)) ∧ Below w.heap.size w w' := by
  obtain ⟨w1, hw1⟩ : ∃ W, W = w.alloc (.cells #[.int .i64 name] 2) := ⟨_, rfl⟩
  have hB1 : Below w.heap.size w w1 := by rw [hw1]; exact (Below.refl _ w).alloc (Nat.le_refl _) _
  have hs1 : w1.heap.size = w.heap.size + 1 := by rw [hw1]; simp
  have hq1 : w1.cell? ⟨w.heap.size, 0, none⟩ = some (.int .i64 name) := by rw [hw1]; exact blk_cell (blk_new w _) 0
  have hz1 : w.cell? ⟨g, 1, none⟩ = some (.slice A1 l1.length c1) := blk_cell hb 1
  have hz1' : (w.alloc (.cells #[.int .i64 name] 2)).cell? ⟨g, 1, none⟩ = some (.slice A1 l1.length c1) := by rw [← hw1]; exact blk_cell (blk_below hb hB1) 1
  have hcall := Cf.bk.ix_calls (Cf.named name) 111 #[.pointer (some ⟨w.heap.size, 0, none⟩)] (enters_of Try.func111 (by kernel_rfl) rfl) A1 c1 l1 w1 (Kd.C_below hr1 hB1) hc1 (fun W x hW => show Calls Try.prog 111 #[.agg #[.int .i64 x.f0, .int .i64 x.f1, .int .i64 x.f2, .int .i64 x.f3, .bool x.f4], .pointer (some ⟨w.heap.size, 0, none⟩)] W _ from (Cf.clo w.heap.size name W ((hW.cell (p := ⟨w.heap.size, 0, none⟩) (by show w.heap.size < w1.heap.size; omega)).trans hq1) x (by have := hW.size; omega)).mono fun e w' hh => ⟨hh.1, Cf.up hW hh.2⟩)
  rw [hw1] at hcall
  go_enter Try.func61, Try.ntmps61
  go_wp2_with (go_at_call 110; refine hcall.mono ?_; rintro e w2 ⟨rfl, hb2⟩; rw [← hw1] at hb2)
  go_ret
  exact ⟨rfl, Cf.up hB1 hb2⟩
set_option maxHeartbeats 2000000 in
/-- ConfigFault's closure: is there no backend of a name? -/
theorem Cf.clo2 (g : Nat) (A1 : Option Addr) (c1 : Nat) (l1 : List S36) (A2 : Option Addr) (n2 c2 : Nat) (v name : Int) (w : World) (hb : w.heap[g]? = some (.cells #[.int .i64 v, .slice A1 l1.length c1, .slice A2 n2 c2] 31 (0, 0))) (hr1 : Kd.C k36 w A1 l1.length l1) (hc1 : l1.length ≤ c1) :
    Calls Try.prog 60 #[.int .i64 name, .pointer (some ⟨g, 0, none⟩)] w fun e w' => e = .returned (.bool (Cf.gone l1 name)) ∧ Below w.heap.size w w' := by
  have hcall := fun (W : World) (hW : Below w.heap.size w W) => impl_backend.cf g A1 c1 l1 A2 n2 c2 v name W (blk_below hb hW) (Kd.C_below hr1 hW) hc1
  have hcall0 := hcall w (Below.refl _ _)
  clear hcall
  unfold Cf.gone
  go_enter Try.func60, Try.ntmps60
  go_wp2_with (go_at_call 61; refine hcall0.mono ?_; rintro e w2 ⟨rfl, hb2⟩)
  go_ret
  exact ⟨rfl, hb2⟩
/-- Is one of the names no backend's? -/
theorem Cf.hasgone (g : Nat) (A1 : Option Addr) (c1 : Nat) (l1 : List S36) (A2 : Option Addr) (n2 c2 : Nat) (v : Int) (A3 : Option Addr) (c3 : Nat) (l3 : List Int) (w : World) (hb : w.heap[g]? = some (.cells #[.int .i64 v, .slice A1 l1.length c1, .slice A2 n2 c2] 31 (0, 0))) (hr1 : Kd.C k36 w A1 l1.length l1) (hc1 : l1.length ≤ c1) (hr3 : Kd.C (Kd.int .i64) w A3 l3.length l3) (hc3 : l3.length ≤ c3) :
    Calls Try.prog 59 #[.slice A3 l3.length c3, .func (.func 60) #[] #[.pointer (some ⟨g, 0, none⟩)]] w fun e w' => e = .returned (.bool (l3.any (Cf.gone l1))) ∧ Below w.heap.size w w' :=
  Cf.nm.has_calls (Cf.gone l1) 60 #[.pointer (some ⟨g, 0, none⟩)] (enters_of Try.func60 (by kernel_rfl) rfl) A3 c3 l3 w hr3 hc3 (fun W x hW => show Calls Try.prog 60 #[.int .i64 x, .pointer (some ⟨g, 0, none⟩)] W _ from (Cf.clo2 g A1 c1 l1 A2 n2 c2 v x W (blk_below hb hW) (Kd.C_below hr1 hW) hc1).mono fun e w' hh => ⟨hh.1, Cf.up hW hh.2⟩)
theorem Cf.bind_s {α β : Type} (x : α) (f : α → Option β) : (some x).bind f = f x := rfl
theorem Cf.w64 {n : Int} (h0 : -9223372036854775808 ≤ n) (h1 : n ≤ 9223372036854775807) : wrap64 n = n := by unfold wrap64; omega
theorem Cf.in_is (a lo hi : Int) : impl_in.f a lo hi = some (Cf.inB a lo hi) := by
  unfold impl_in.f Cf.inB
  by_cases h : a ≥ lo
  · rw [if_pos h]; simp [h]
  · rw [if_neg h]; simp [h]
theorem Cf.iaddr_is (a : Int) : impl_isAddress.f a = some (Cf.inB a 0 4294967295) := by unfold impl_isAddress.f; rw [Cf.in_is]; rfl
theorem Cf.iport_is (a : Int) : impl_isPort.f a = some (Cf.inB a 0 65535) := by unfold impl_isPort.f; rw [Cf.in_is]; rfl
theorem Cf.iproto_is (a : Int) : impl_isProto.f a = some (Cf.prB a) := by
  unfold impl_isProto.f Cf.prB
  by_cases h : a = 6
  · rw [if_pos h]; simp [h]
  · rw [if_neg h]; simp [h]; rfl
theorem Cf.ibackend_is (x : S36) : impl_isBackend.f x.f0 x.f1 x.f2 x.f3 x.f4 = some (Cf.isb x) := by
  unfold impl_isBackend.f impl_isName.f Cf.isb
  simp only [Cf.iaddr_is, Cf.in_is, Option.bind_some]
  cases Cf.inB x.f0 1 999 <;> cases Cf.inB x.f1 0 4294967295 <;> cases Cf.inB x.f2 0 9 <;> rfl
theorem Cf.Compare_is (a b : Int) : cmp_Compare_int64.f a b = some (if a < b then -1 else if a > b then 1 else 0) := by
  unfold cmp_Compare_int64.f cmp_isNaN_int64.f
  rw [Cf.bind_s, Cf.bind_s, bne_self_eq_false, bne_self_eq_false, if_neg (by decide), if_neg (by decide)]
  by_cases h : a < b
  · rw [if_pos h, if_pos h]
  · rw [if_neg h, if_neg h]
    by_cases h2 : a > b
    · rw [if_pos h2, if_pos h2]
    · rw [if_neg h2, if_neg h2]
theorem Cf.Or_is (a b c : Int) : cmp_Or_int.f 4 [a, b, c] = some (if a = 0 then (if b = 0 then c else b) else a) := by
  have w0 : wrap64 ((0 : Int) + 1) = 1 := Cf.w64 (by omega) (by omega)
  have w1 : wrap64 ((1 : Int) + 1) = 2 := Cf.w64 (by omega) (by omega)
  have w2 : wrap64 ((2 : Int) + 1) = 3 := Cf.w64 (by omega) (by omega)
  have r0 : rd [a, b, c] 0 = a := rfl
  have r1 : rd [a, b, c] 1 = b := rfl
  have r2 : rd [a, b, c] 2 = c := rfl
  unfold cmp_Or_int.f
  rw [cmp_Or_int.l0.eq_2, if_pos (by simp), if_pos (by omega), if_pos (by simp), r0, w0]
  by_cases h0 : a = 0
  · rw [if_pos h0, if_pos h0, cmp_Or_int.l0.eq_2, if_pos (by simp), if_pos (by omega), if_pos (by simp), r1, w1]
    by_cases h1 : b = 0
    · rw [if_pos h1, if_pos h1, cmp_Or_int.l0.eq_2, if_pos (by simp), if_pos (by omega), if_pos (by simp), r2, w2]
      by_cases h2 : c = 0
      · rw [if_pos h2, cmp_Or_int.l0.eq_2, if_neg (by simp), h2]
      · rw [if_neg h2]
    · rw [if_neg h1, if_neg h1]
  · rw [if_neg h0, if_neg h0]
def Cf.cmp (a b : Int) : Int := if a < b then -1 else if a > b then 1 else 0
def Cf.cmpV (x y : S64) : Int := if Cf.cmp x.f0 y.f0 = 0 then (if Cf.cmp x.f1 y.f1 = 0 then Cf.cmp x.f2 y.f2 else Cf.cmp x.f1 y.f1) else Cf.cmp x.f0 y.f0
theorem Cf.compare_is (x y : S64) : impl_compareVip.f 4 x.f0 x.f1 x.f2 x.f3 y.f0 y.f1 y.f2 y.f3 = some (Cf.cmpV x y) := by
  unfold impl_compareVip.f
  rw [Cf.Compare_is, Cf.bind_s, Cf.Compare_is, Cf.bind_s, Cf.Compare_is, Cf.bind_s, Cf.Or_is, Cf.bind_s]; rfl
theorem Cf.cmp_beh (x y : S64) : decide (0 ≤ Cf.cmpV x y) = !Cf.beh x y := by
  unfold Cf.cmpV Cf.beh Cf.cmp
  rcases Int.lt_trichotomy x.f0 y.f0 with h | h | h
  · rw [if_pos h, if_neg (by omega), if_neg (by omega), decide_eq_true h]; rfl
  · rw [if_neg (show ¬ x.f0 < y.f0 by omega), if_neg (show ¬ x.f0 > y.f0 by omega), if_pos rfl, if_pos h]
    rcases Int.lt_trichotomy x.f1 y.f1 with h | h | h
    · rw [if_pos h, if_neg (by omega), if_neg (by omega), decide_eq_true h]; rfl
    · rw [if_neg (show ¬ x.f1 < y.f1 by omega), if_neg (show ¬ x.f1 > y.f1 by omega), if_pos rfl, if_pos h]
      rcases Int.lt_trichotomy x.f2 y.f2 with h | h | h
      · rw [if_pos h, decide_eq_true h]; rfl
      · rw [if_neg (show ¬ x.f2 < y.f2 by omega), if_neg (show ¬ x.f2 > y.f2 by omega), decide_eq_false (show ¬ x.f2 < y.f2 by omega)]; rfl
      · rw [if_neg (show ¬ x.f2 < y.f2 by omega), if_pos h, decide_eq_false (show ¬ x.f2 < y.f2 by omega)]; rfl
    · rw [if_neg (show ¬ x.f1 < y.f1 by omega), if_pos h, if_neg (by omega), if_neg (by omega), decide_eq_false (show ¬ x.f1 < y.f1 by omega)]; rfl
  · rw [if_neg (show ¬ x.f0 < y.f0 by omega), if_pos h, if_neg (by omega), if_neg (by omega), decide_eq_false (show ¬ x.f0 < y.f0 by omega)]; rfl
theorem Cf.iin (a lo hi : Int) (w : World) : Calls Try.prog 53 #[.int .i64 a, .int .i64 lo, .int .i64 hi] w fun e w' => e = .returned (.bool (Cf.inB a lo hi)) ∧ Below w.heap.size w w' := (impl_in.calls a lo hi _ w (Cf.in_is a lo hi)).mono (fun _ _ h => ⟨h.1, h.2.below⟩)
theorem Cf.iaddr (a : Int) (w : World) : Calls Try.prog 55 #[.int .i64 a] w fun e w' => e = .returned (.bool (Cf.inB a 0 4294967295)) ∧ Below w.heap.size w w' := (impl_isAddress.calls a _ w (Cf.iaddr_is a)).mono (fun _ _ h => ⟨h.1, h.2.below⟩)
theorem Cf.iport (a : Int) (w : World) : Calls Try.prog 56 #[.int .i64 a] w fun e w' => e = .returned (.bool (Cf.inB a 0 65535)) ∧ Below w.heap.size w w' := (impl_isPort.calls a _ w (Cf.iport_is a)).mono (fun _ _ h => ⟨h.1, h.2.below⟩)
theorem Cf.iproto (a : Int) (w : World) : Calls Try.prog 57 #[.int .i64 a] w fun e w' => e = .returned (.bool (Cf.prB a)) ∧ Below w.heap.size w w' := (impl_isProto.calls a _ w (Cf.iproto_is a)).mono (fun _ _ h => ⟨h.1, h.2.below⟩)
/-! the codes of a vip, case by case -/
theorem Cf.vc_3 {l1 : List S36} {l2 : List S64} {i : Nat} {x : S64} (hx : l2.getD i z64 = x) (h : Cf.vok x = false) : Cf.vcode l1 l2 i = 3 := by unfold Cf.vcode; rw [hx, if_pos h]
theorem Cf.vc_1 {l1 : List S36} {l2 : List S64} {i : Nat} {x : S64} (hx : l2.getD i z64 = x) (h : Cf.vok x = true) (h1 : (decide (0 < i) && !Cf.beh (l2.getD (i - 1) z64) x) = true) : Cf.vcode l1 l2 i = 1 := by unfold Cf.vcode; rw [hx, if_neg (by rw [h]; simp), if_pos h1]
theorem Cf.vc_4 {l1 : List S36} {l2 : List S64} {i : Nat} {x : S64} (hx : l2.getD i z64 = x) (h : Cf.vok x = true) (h1 : (decide (0 < i) && !Cf.beh (l2.getD (i - 1) z64) x) = false) (h2 : x.f3.any (Cf.gone l1) = true) : Cf.vcode l1 l2 i = 4 := by unfold Cf.vcode; rw [hx, if_neg (by rw [h]; simp), if_neg (by rw [h1]; simp), if_pos h2]
theorem Cf.vc_r {l1 : List S36} {l2 : List S64} {i : Nat} {x : S64} (hx : l2.getD i z64 = x) (h : Cf.vok x = true) (h1 : (decide (0 < i) && !Cf.beh (l2.getD (i - 1) z64) x) = false) (h2 : x.f3.any (Cf.gone l1) = false) : Cf.vcode l1 l2 i = if (List.range x.f3.length).any (Cf.falls x.f3) = true then 1 else 0 := by unfold Cf.vcode; rw [hx, if_neg (by rw [h]; simp), if_neg (by rw [h1]; simp), if_neg (by rw [h2]; simp)]
set_option maxHeartbeats 16000000 in
set_option maxRecDepth 100000 in
/-- What is not right of a configuration: the program's. -/
theorem impl_ConfigFault.cf (A1 : Option Addr) (c1 : Nat) (l1 : List S36) (A2 : Option Addr) (c2 : Nat) (l2 : List S64) (v : Int) (w : World) (hr1 : Kd.C k36 w A1 l1.length l1) (hc1 : l1.length ≤ c1) (hr2 : Kd.C k64 w A2 l2.length l2) :
    Calls Try.prog 15 #[.agg #[.int .i64 v, .slice A1 l1.length c1, .slice A2 l2.length c2]] w fun e w' => e = .returned (.int .i64 (Cf.code v l1 l2)) ∧ Below w.heap.size w w' := by
  have hu36 := Try.underlying36
  have hu31 := Try.underlying31
  have hu64 := Try.underlying64
  obtain ⟨r, hr⟩ : ∃ r, r = Cf.code v l1 l2 := ⟨_, rfl⟩
  rw [← hr]
  have hbig1 : l1.length ≤ 9223372036854775807 := by have := hr1.2.1; have hs : (k36).sz = 5 := rfl; (try simp only [maxLen] at this); (try rw [hs] at this); omega
  have hbig2 : l2.length ≤ 9223372036854775807 := by have := hr2.2.1; have hs : (k64).sz = 4 := rfl; (try simp only [maxLen] at this); (try rw [hs] at this); omega
  obtain ⟨w1, hw1⟩ : ∃ W, W = w.alloc (.cells #[.int .i64 v, .slice A1 l1.length c1, .slice A2 l2.length c2] 31) := ⟨_, rfl⟩
  have hB1 : Below w.heap.size w w1 := by rw [hw1]; exact (Below.refl _ w).alloc (Nat.le_refl _) _
  have D1 : Aside0 (w1.heap[w.heap.size]? = some (.cells #[.int .i64 v, .slice A1 l1.length c1, .slice A2 l2.length c2] 31 (0, 0))) := ⟨by rw [hw1]; exact blk_new w _⟩
  have D2 : Aside0 (Kd.C k36 w1 A1 l1.length l1) := ⟨Kd.C_below hr1 hB1⟩
  have D3 : Aside0 (Kd.C k64 w1 A2 l2.length l2) := ⟨Kd.C_below hr2 hB1⟩
  have DB : Aside0 (Below w.heap.size w w1) := ⟨hB1⟩
  clear hr1 hr2 hB1
  have h0 := Cf.iin v 0 1000000
  go_enter Try.func15, Try.ntmps15
  cases e0 : Cf.inB v 0 1000000 with
  | false =>
    simp only [e0] at h0
    go_wp2_with (go_at_call 53; refine (h0 _).mono ?_; rintro e w2 ⟨rfl, hb2⟩; rw [← hw1] at hb2)
    go_ret
    exact ⟨by rw [hr]; unfold Cf.code; rw [e0]; rfl, Cf.up DB.out hb2⟩
  | true =>
    simp only [e0] at h0
    by_cases hm : (l1.length : Int) > 8
    · have hm0 : decide ((8 : Int) < (l1.length : Int)) = true := decide_eq_true hm
      go_wp2_with (go_at_call 53; refine (h0 _).mono ?_; rintro e w2 ⟨rfl, hb2⟩; rw [← hw1] at hb2; have z1 := blk_cell (blk_below D1.out hb2) 1)
      go_ret
      exact ⟨by rw [hr]; unfold Cf.code; rw [e0, if_neg (by simp), if_pos (by rw [decide_eq_true hm]; rfl)]; rfl, Cf.up DB.out hb2⟩
    have hm0 : decide ((8 : Int) < (l1.length : Int)) = false := decide_eq_false hm
    by_cases hm2 : (l2.length : Int) > 4
    · have hm20 : decide ((4 : Int) < (l2.length : Int)) = true := decide_eq_true hm2
      go_wp2_with (go_at_call 53; refine (h0 _).mono ?_; rintro e w2 ⟨rfl, hb2⟩; rw [← hw1] at hb2; have z1 := blk_cell (blk_below D1.out hb2) 1; have z2 := blk_cell (blk_below D1.out hb2) 2)
      go_ret
      exact ⟨by rw [hr]; unfold Cf.code; rw [e0, if_neg (by simp), if_pos (by rw [decide_eq_true hm2]; simp)]; rfl, Cf.up DB.out hb2⟩
    have hm20 : decide ((4 : Int) < (l2.length : Int)) = false := decide_eq_false hm2
    have HR := Aside0.mk (Cf.code_b hr e0 hm hm2)
    clear hr
    go_wp2_with (go_at_call 53; refine (h0 _).mono ?_; rintro e w2 ⟨rfl, hb2⟩; rw [← hw1] at hb2; have z1 := blk_cell (blk_below D1.out hb2) 1; have z2 := blk_cell (blk_below D1.out hb2) 2)
    go_loopg [3, 4, 27] l1.length (fun gg _ _ s27 wr => ∃ kk : Nat, kk ≤ l1.length ∧ l1.length - kk ≤ gg ∧ s27 = .int .i64 kk ∧ Aside (Below w1.heap.size w1 wr) ∧ Aside (∀ j, j < kk → Cf.bcode l1 j = 0))
    case atStart => exact ⟨0, Nat.zero_le _, by omega, rfl, hb2, fun j hj => absurd hj (Nat.not_lt_zero _)⟩
    case round =>
      clear z1 z2 hb2 h0 hw1
      obtain ⟨kk, hkk, hg_, rfl, BW, AA⟩ := hrel
      by_cases hlt : kk < l1.length
      · have hltz : (kk : Int) < (l1.length : Int) := by omega
        obtain ⟨ad, eA, hx_0, hx_1, hx_2, hx_3, hx_4⟩ := at_T36 (Kd.C_below D2.out BW.out) (kk : Int) (by omega) hltz
        cases eA
        have hy : l1.getD kk z36 = rd_T36 l1 (kk : Int) := rfl
        generalize rd_T36 l1 (kk : Int) = y at hx_0 hx_1 hx_2 hx_3 hx_4 hy
        have B : Aside (l1.getD kk z36 = y) := hy
        clear hy
        simp only [Int.toNat_natCast] at hx_0 hx_1 hx_2 hx_3 hx_4
        obtain ⟨wb, hwb⟩ : ∃ W, W = wr.alloc (.cells #[.int .i64 y.f0, .int .i64 y.f1, .int .i64 y.f2, .int .i64 y.f3, .bool y.f4] 36) := ⟨_, rfl⟩
        have HWB := Aside0.mk (show Below wr.heap.size wr wb by rw [hwb]; exact (Below.refl _ wr).alloc (Nat.le_refl _) _)
        have HBK := Aside0.mk (show wb.heap[wr.heap.size]? = some (.cells #[.int .i64 y.f0, .int .i64 y.f1, .int .i64 y.f2, .int .i64 y.f3, .bool y.f4] 36 (0, 0)) by rw [hwb]; exact blk_new wr _)
        have hc := fun (W : World) => impl_isBackend.calls y.f0 y.f1 y.f2 y.f3 y.f4 _ W (Cf.ibackend_is y)
        cases hq : Cf.isb y with
        | false =>
          simp only [hq] at hc
          go_wp2_with (go_at_call 54; refine (hc _).mono ?_; rintro e w3 ⟨rfl, hb3⟩; rw [← hwb] at hb3)
          go_ret
          exact ⟨by rw [Cf.code_hit (v := v) HR.out kk hlt (by rw [Cf.bcode_3 (by rw [B.out]; exact hq)]; simp) AA.out, Cf.bcode_3 (by rw [B.out]; exact hq)]; rfl, Cf.up DB.out (Cf.up BW.out (Cf.up HWB.out hb3))⟩
        | true =>
          simp only [hq] at hc
          by_cases hk0 : 0 < kk
          · have hg0 : decide ((0 : Int) < (kk : Int)) = true := decide_eq_true (by omega)
            obtain ⟨j, hj⟩ : ∃ j, j = kk - 1 := ⟨_, rfl⟩
            have hwj : IntKind.i64.wrap ((kk : Int) - 1) = (j : Int) := by rw [IntKind.wrap_i64]; omega
            have hjl : (j : Int) < (l1.length : Int) := by omega
            have C : Aside (l1.getD (kk - 1) z36 = rd_T36 l1 (j : Int)) := (by rw [← hj]; rfl)
            clear hj
            cases hle : decide (y.f0 ≤ (rd_T36 l1 (j : Int)).f0) with
            | true =>
              go_wp2_with (go_at_call 54; refine (hc _).mono ?_; rintro e w3 ⟨rfl, hb3⟩; rw [← hwb] at hb3; have hb3' := hb3; replace hb3 := Cf.up HWB.out hb3; have z1 := blk_cell (blk_below D1.out (Cf.up BW.out hb3)) 1; have zb := blk_cell (blk_below HBK.out hb3') 0; obtain ⟨ad2, eA2, px_0, px_1, px_2, px_3, px_4⟩ := at_T36 (Kd.C_below D2.out (Cf.up BW.out hb3)) (j : Int) (by omega) hjl; cases eA2; simp only [Int.toNat_natCast] at px_0)
              go_quiet (fail)
              go_wp2
              go_ret
              have hbc : Cf.bcode l1 kk = 1 := Cf.bcode_1 (by rw [B.out]; exact hq) hk0 (by rw [B.out, C.out]; exact hle)
              exact ⟨by rw [Cf.code_hit (v := v) HR.out kk hlt (by rw [hbc]; simp) AA.out, hbc]; rfl, Cf.up DB.out (pw_below_drewN (Cf.up BW.out hb3) _)⟩
            | false =>
              go_wp2_with (go_at_call 54; refine (hc _).mono ?_; rintro e w3 ⟨rfl, hb3⟩; rw [← hwb] at hb3; have hb3' := hb3; replace hb3 := Cf.up HWB.out hb3; have z1 := blk_cell (blk_below D1.out (Cf.up BW.out hb3)) 1; have zb := blk_cell (blk_below HBK.out hb3') 0; obtain ⟨ad2, eA2, px_0, px_1, px_2, px_3, px_4⟩ := at_T36 (Kd.C_below D2.out (Cf.up BW.out hb3)) (j : Int) (by omega) hjl; cases eA2; simp only [Int.toNat_natCast] at px_0)
              go_quiet (fail)
              go_wp2
              have hbc : Cf.bcode l1 kk = 0 := Cf.bcode_0 (by rw [B.out]; exact hq) (by rw [B.out, C.out, hle]; simp)
              go_roundg (l1.length - (kk + 1))
              case measure => omega
              case rel =>
                refine ⟨kk + 1, by omega, by omega, by go_num, pw_below_drewN (Cf.up BW.out hb3) _, (show Aside _ from fun j hj => ?_)⟩
                by_cases e : j = kk
                · subst e; exact hbc
                · exact AA.out j (by omega)
          · have hg0 : decide ((0 : Int) < (kk : Int)) = false := decide_eq_false (by omega)
            go_wp2_with (go_at_call 54; refine (hc _).mono ?_; rintro e w3 ⟨rfl, hb3⟩; rw [← hwb] at hb3; replace hb3 := Cf.up HWB.out hb3)
            go_quiet (fail)
            go_wp2
            have hbc : Cf.bcode l1 kk = 0 := Cf.bcode_0 (by rw [B.out]; exact hq) (by rw [decide_eq_false hk0]; rfl)
            go_roundg (l1.length - (kk + 1))
            case measure => omega
            case rel =>
              refine ⟨kk + 1, by omega, by omega, by go_num, pw_below_drewN (Cf.up BW.out hb3) _, (show Aside _ from fun j hj => ?_)⟩
              by_cases e : j = kk
              · subst e; exact hbc
              · exact AA.out j (by omega)
      · have hltz : ¬ (kk : Int) < (l1.length : Int) := by omega
        have : kk = l1.length := by omega
        subst this
        have HV := Aside0.mk (Cf.code_v HR.out AA.out)
        have BW0 : Aside0 (Below w1.heap.size w1 wr) := ⟨BW.out⟩
        have z2 := blk_cell (blk_below D1.out BW.out) 2
        clear AA BW hg_ hkk hlt HR
        go_wp2
        go_loopg [5, 6, 7, 53] l2.length (fun gg _ _ _ s53 wr => ∃ kk : Nat, kk ≤ l2.length ∧ l2.length - kk ≤ gg ∧ s53 = .int .i64 kk ∧ Aside (Below w1.heap.size w1 wr) ∧ Aside (∀ j, j < kk → Cf.vcode l1 l2 j = 0))
        case atStart => exact ⟨0, Nat.zero_le _, by omega, rfl, BW0.out, fun j hj => absurd hj (Nat.not_lt_zero _)⟩
        case round =>
          clear z2 BW0
          obtain ⟨kk, hkk, hg_, rfl, BW, AA⟩ := hrel
          by_cases hlt : kk < l2.length
          · have hltz : (kk : Int) < (l2.length : Int) := by omega
            obtain ⟨ad, A3, c3, eA, hx_0, hx_1, hx_2, hx_3, hl3, hC3⟩ := at_T64 (Kd.C_below D3.out BW.out) (kk : Int) (by omega) hltz
            cases eA
            have hy : l2.getD kk z64 = rd_T64 l2 (kk : Int) := rfl
            generalize rd_T64 l2 (kk : Int) = x at hx_0 hx_1 hx_2 hx_3 hl3 hC3 hy
            have B : Aside (l2.getD kk z64 = x) := hy
            clear hy
            simp only [Int.toNat_natCast] at hx_0 hx_1 hx_2 hx_3
            have hn3 : x.f3.length ≤ 9223372036854775807 := by have := hC3.2.1; have hs : (Kd.int .i64).sz = 1 := rfl; (try simp only [maxLen] at this); (try rw [hs] at this); omega
            obtain ⟨wv, hwv⟩ : ∃ W, W = wr.alloc (.cells #[.int .i64 x.f0, .int .i64 x.f1, .int .i64 x.f2, .slice A3 x.f3.length c3] 64) := ⟨_, rfl⟩
            have HWV : Below wr.heap.size wr wv := by rw [hwv]; exact (Below.refl _ wr).alloc (Nat.le_refl _) _
            have BV := Aside0.mk (Cf.up BW.out HWV)
            have HBK := Aside0.mk (show wv.heap[wr.heap.size]? = some (.cells #[.int .i64 x.f0, .int .i64 x.f1, .int .i64 x.f2, .slice A3 x.f3.length c3] 64 (0, 0)) by rw [hwv]; exact blk_new wr _)
            have HC3 := Aside0.mk (Kd.C_below hC3 HWV)
            clear HWV hC3
            have h0 := Cf.iaddr x.f0
            have h1 := Cf.iport x.f1
            have h2 := Cf.iproto x.f2
            cases e0 : Cf.inB x.f0 0 4294967295 with
            | false =>
              simp only [e0] at h0
              go_wp2_with (go_at_call 55; refine (h0 _).mono ?_; rintro e w2 ⟨rfl, hb2⟩; rw [← hwv] at hb2; have q1 := blk_cell (blk_below HBK.out hb2) 1)
              go_ret
              exact ⟨by rw [Cf.vhit HV.out kk hlt (by rw [Cf.vc_3 B.out (by unfold Cf.vok; rw [e0]; rfl)]; simp) AA.out, Cf.vc_3 B.out (by unfold Cf.vok; rw [e0]; rfl)]; rfl, Cf.up DB.out (Cf.up BV.out hb2)⟩
            | true =>
              simp only [e0] at h0
              cases e1 : Cf.inB x.f1 0 65535 with
              | false =>
                simp only [e1] at h1
                go_wp2_with (first | (go_at_call 55; refine (h0 _).mono ?_; rintro e w2 ⟨rfl, hb2⟩; rw [← hwv] at hb2; have q1 := blk_cell (blk_below HBK.out hb2) 1) | (go_at_call 56; refine (h1 _).mono ?_; rintro e w3 ⟨rfl, hb3⟩; replace hb2 := Cf.up hb2 hb3; clear hb3))
                go_ret
                exact ⟨by rw [Cf.vhit HV.out kk hlt (by rw [Cf.vc_3 B.out (by unfold Cf.vok; rw [e0, e1]; rfl)]; simp) AA.out, Cf.vc_3 B.out (by unfold Cf.vok; rw [e0, e1]; rfl)]; rfl, Cf.up DB.out (Cf.up BV.out hb2)⟩
              | true =>
                simp only [e1] at h1
                cases e2 : Cf.prB x.f2 with
                | false =>
                  simp only [e2] at h2
                  go_wp2_with (first | (go_at_call 55; refine (h0 _).mono ?_; rintro e w2 ⟨rfl, hb2⟩; rw [← hwv] at hb2; have q1 := blk_cell (blk_below HBK.out hb2) 1) | (go_at_call 56; refine (h1 _).mono ?_; rintro e w3 ⟨rfl, hb3⟩; replace hb2 := Cf.up hb2 hb3; clear hb3; clear q1; have q2 := blk_cell (blk_below HBK.out hb2) 2) | (go_at_call 57; refine (h2 _).mono ?_; rintro e w4 ⟨rfl, hb4⟩; replace hb2 := Cf.up hb2 hb4; clear hb4 q2))
                  go_ret
                  exact ⟨by rw [Cf.vhit HV.out kk hlt (by rw [Cf.vc_3 B.out (by unfold Cf.vok; rw [e0, e1, e2]; rfl)]; simp) AA.out, Cf.vc_3 B.out (by unfold Cf.vok; rw [e0, e1, e2]; rfl)]; rfl, Cf.up DB.out (Cf.up BV.out hb2)⟩
                | true =>
                  simp only [e2] at h2
                  have hok : Cf.vok x = true := by unfold Cf.vok; rw [e0, e1, e2]; rfl
                  go_wp2_with (first | (go_at_call 55; refine (h0 _).mono ?_; rintro e w2 ⟨rfl, hb2⟩; rw [← hwv] at hb2; have q1 := blk_cell (blk_below HBK.out hb2) 1) | (go_at_call 56; refine (h1 _).mono ?_; rintro e w3 ⟨rfl, hb3⟩; replace hb2 := Cf.up hb2 hb3; clear hb3; clear q1; have q2 := blk_cell (blk_below HBK.out hb2) 2) | (go_at_call 57; refine (h2 _).mono ?_; rintro e w4 ⟨rfl, hb4⟩; replace hb2 := Cf.up hb2 hb4; clear hb4 q2))
                  clear h0 h1 h2
                  by_cases hk0 : 0 < kk
                  · have hg0 : decide ((0 : Int) < (kk : Int)) = true := decide_eq_true (by omega)
                    obtain ⟨j, hj⟩ : ∃ j, j = kk - 1 := ⟨_, rfl⟩
                    have hwj : IntKind.i64.wrap ((kk : Int) - 1) = (j : Int) := by rw [IntKind.wrap_i64]; omega
                    have hjl : (j : Int) < (l2.length : Int) := by omega
                    have hjl0 : (0 : Int) ≤ (j : Int) := by omega
                    obtain ⟨ad2, A5, c5, eB, px_0, px_1, px_2, px_3, pl3, pC3⟩ := at_T64 (Kd.C_below D3.out (Cf.up BV.out hb2)) (j : Int) (by omega) hjl
                    cases eB
                    have C0 : l2.getD (kk - 1) z64 = rd_T64 l2 (j : Int) := (by rw [← hj]; rfl)
                    generalize rd_T64 l2 (j : Int) = y at px_0 px_1 px_2 px_3 pl3 pC3 C0
                    have C : Aside (l2.getD (kk - 1) z64 = y) := C0
                    clear C0 hj
                    simp only [Int.toNat_natCast] at px_0 px_1 px_2 px_3
                    have hz2' := blk_cell (blk_below D1.out (Cf.up BV.out hb2)) 2
                    have bv := blk_below HBK.out hb2
                    have v0 := blk_cell bv 0
                    have v1 := blk_cell bv 1
                    have v2 := blk_cell bv 2
                    have v3 := blk_cell bv 3
                    clear bv
                    have hcmp := fun (W : World) (hW : Below w4.heap.size w4 W) => impl_compareVip.calls 4 y.f0 y.f1 y.f2 A5 c5 y.f3 x.f0 x.f1 x.f2 A3 c3 x.f3 _ W (Kd.C_below pC3 hW) pl3 (Kd.C_below (Kd.C_below HC3.out hb2) hW) hl3 (Cf.compare_is y x)
                    have hcb := Cf.cmp_beh y x
                    cases hbh : Cf.beh y x with
                    | false =>
                      rw [hbh] at hcb
                      have hcb' : decide (0 ≤ Cf.cmpV y x) = true := hcb
                      clear hcb
                      go_still_tail 10, (by kernel_rfl)
                      change wpList _ _ _ _ _ w4.drew
                      have hd : Below w4.heap.size w4 w4.drew := below_drew1 (Below.refl _ _)
                      generalize w4.drew = wd at hd
                      go_wp2_with (go_at_call 58; refine (hcmp _ hd).mono ?_; rintro e w5 ⟨rfl, hb5⟩; replace hb2 := Cf.up (Cf.up hb2 hd) hb5)
                      go_ret
                      have H1 : (decide (0 < kk) && !Cf.beh (l2.getD (kk - 1) z64) x) = true := by rw [decide_eq_true hk0, C.out, hbh]; rfl
                      exact ⟨by rw [Cf.vhit HV.out kk hlt (by rw [Cf.vc_1 B.out hok H1]; simp) AA.out, Cf.vc_1 B.out hok H1]; rfl, Cf.up DB.out (Cf.up BV.out hb2)⟩
                    | true =>
                      rw [hbh] at hcb
                      have hcb' : decide (0 ≤ Cf.cmpV y x) = false := hcb
                      clear hcb
                      have H1 := Aside0.mk (show (decide (0 < kk) && !Cf.beh (l2.getD (kk - 1) z64) x) = false by rw [decide_eq_true hk0, C.out, hbh]; rfl)
                      go_still_tail 10, (by kernel_rfl)
                      change wpList _ _ _ _ _ w4.drew
                      have hd : Below w4.heap.size w4 w4.drew := below_drew1 (Below.refl _ _)
                      generalize w4.drew = wd at hd
                      go_wp2_with (go_at_call 58; refine (hcmp _ hd).mono ?_; rintro e w5 ⟨rfl, hb5⟩; replace hb2 := Cf.up (Cf.up hb2 hd) hb5; clear hb5 hd hcmp px_0 px_1 px_2 px_3 pl3 pC3 hz2' v0 v1 v2 v3; have q3 := blk_cell (blk_below HBK.out hb2) 3)
                      clear q3
                      have z3 := blk_cell (blk_below HBK.out hb2) 3
                      have hcall := Cf.hasgone w.heap.size A1 c1 l1 (some ad) l2.length c2 v A3 c3 x.f3 w5 (blk_below D1.out (Cf.up BV.out hb2)) (Kd.C_below D2.out (Cf.up BV.out hb2)) hc1 (Kd.C_below HC3.out hb2) hl3
                      cases hh : x.f3.any (Cf.gone l1) with
                      | true =>
                        rw [hh] at hcall
                        go_wp2_with (go_at_call 59; refine hcall.mono ?_; rintro e w6 ⟨rfl, hb6⟩; replace hb2 := Cf.up hb2 hb6)
                        go_ret
                        exact ⟨by rw [Cf.vhit HV.out kk hlt (by rw [Cf.vc_4 B.out hok H1.out hh]; simp) AA.out, Cf.vc_4 B.out hok H1.out hh]; rfl, Cf.up DB.out (Cf.up BV.out hb2)⟩
                      | false =>
                        rw [hh] at hcall
                        go_wp2_with (go_at_call 59; refine hcall.mono ?_; rintro e w6 ⟨rfl, hb6⟩; replace hb2 := Cf.up hb2 hb6; clear hb6)
                        have HVC := Aside0.mk (Cf.vc_r B.out hok H1.out hh)
                        go_loopg [7] x.f3.length (fun gg s7 wr2 => ∃ k2 : Nat, k2 ≤ x.f3.length + 1 ∧ 1 ≤ k2 ∧ x.f3.length - k2 ≤ gg ∧ s7 = .int .i64 k2 ∧ Aside (Below wv.heap.size wv wr2) ∧ Aside (∀ j, j < k2 → j < x.f3.length → Cf.falls x.f3 j = false))
                        case atStart => exact ⟨1, by omega, by omega, by omega, rfl, hb2, fun j hj _ => (show Cf.falls x.f3 j = false from by (obtain rfl : j = 0 := by omega); simp [Cf.falls])⟩
                        case round =>
                          clear z3 hb2 hcall
                          obtain ⟨k2, hk2, hk1, hg2, rfl, B2, A2_⟩ := hrel
                          have z3 := blk_cell (blk_below HBK.out B2.out) 3
                          by_cases hlt2 : k2 < x.f3.length
                          · have hltz2 : (k2 : Int) < (x.f3.length : Int) := by omega
                            obtain ⟨an, eN, hn⟩ := Kd.at_int (Kd.C_below HC3.out B2.out) (k2 : Int) (by omega) hltz2
                            cases eN
                            obtain ⟨j, hj⟩ : ∃ j, j = k2 - 1 := ⟨_, rfl⟩
                            have hwj : IntKind.i64.wrap ((k2 : Int) - 1) = (j : Int) := by rw [IntKind.wrap_i64]; omega
                            have hjl : (j : Int) < (x.f3.length : Int) := by omega
                            obtain ⟨an2, eN2, hn2⟩ := Kd.at_int (Kd.C_below HC3.out B2.out) (j : Int) (by omega) hjl
                            cases eN2
                            have HQ : Aside (Cf.falls x.f3 k2 = decide (rd x.f3 (k2 : Int) ≤ rd x.f3 (j : Int))) := (by
                              show Cf.falls x.f3 k2 = _
                              unfold Cf.falls
                              rw [decide_eq_true hk1, ← hj]; rfl)
                            clear hj
                            simp only [Int.toNat_natCast] at hn hn2
                            cases hq : decide (rd x.f3 (k2 : Int) ≤ rd x.f3 (j : Int)) with
                            | true =>
                              go_wp2
                              go_quiet (fail)
                              go_wp2
                              go_ret
                              have hvc : Cf.vcode l1 l2 kk = 1 := by rw [HVC.out, if_pos (Cf.range_hit (Cf.falls x.f3) x.f3.length k2 hlt2 (HQ.out.trans hq))]
                              exact ⟨by rw [Cf.vhit HV.out kk hlt (by rw [hvc]; simp) AA.out, hvc]; rfl, Cf.up DB.out (Cf.up BV.out (pw_below_drewN B2.out _))⟩
                            | false =>
                              go_wp2
                              go_quiet (fail)
                              go_wp2
                              go_roundg (x.f3.length - (k2 + 1))
                              case measure => omega
                              case rel =>
                                refine ⟨k2 + 1, by omega, by omega, by omega, by go_num, pw_below_drewN B2.out _, (show Aside _ from fun j hj hl => ?_)⟩
                                by_cases e : j = k2
                                · subst e
                                  exact HQ.out.trans hq
                                · exact A2_.out j (by omega) hl
                          · have hltz2 : ¬ (k2 : Int) < (x.f3.length : Int) := by omega
                            have hvc : Cf.vcode l1 l2 kk = 0 := by rw [HVC.out, if_neg (by rw [Cf.range_miss (Cf.falls x.f3) x.f3.length (fun j hj => A2_.out j (by omega) hj)]; simp)]
                            have HVC0 := Aside0.mk hvc
                            clear hvc
                            go_wp2
                            go_roundg (l2.length - (kk + 1))
                            case measure => omega
                            case rel =>
                              refine ⟨kk + 1, by omega, by omega, by go_num, Cf.up BV.out B2.out, (show Aside _ from fun j hj => ?_)⟩
                              by_cases e : j = kk
                              · subst e; exact HVC0.out
                              · exact AA.out j (by omega)
                  · have hg0 : decide ((0 : Int) < (kk : Int)) = false := decide_eq_false (by omega)
                    have H1 := Aside0.mk (show (decide (0 < kk) && !Cf.beh (l2.getD (kk - 1) z64) x) = false by rw [decide_eq_false hk0]; rfl)
                    go_quiet (fail)
                    replace hb2 := pw_below_drewN hb2 nq
                    have z3 := blk_cell (blk_below HBK.out hb2) 3
                    have hcall := Cf.hasgone w.heap.size A1 c1 l1 (some ad) l2.length c2 v A3 c3 x.f3 _ (blk_below D1.out (Cf.up BV.out hb2)) (Kd.C_below D2.out (Cf.up BV.out hb2)) hc1 (Kd.C_below HC3.out hb2) hl3
                    cases hh : x.f3.any (Cf.gone l1) with
                    | true =>
                      rw [hh] at hcall
                      go_wp2_with (go_at_call 59; refine hcall.mono ?_; rintro e w6 ⟨rfl, hb6⟩; replace hb2 := Cf.up hb2 hb6)
                      go_ret
                      exact ⟨by rw [Cf.vhit HV.out kk hlt (by rw [Cf.vc_4 B.out hok H1.out hh]; simp) AA.out, Cf.vc_4 B.out hok H1.out hh]; rfl, Cf.up DB.out (Cf.up BV.out hb2)⟩
                    | false =>
                      rw [hh] at hcall
                      go_wp2_with (go_at_call 59; refine hcall.mono ?_; rintro e w6 ⟨rfl, hb6⟩; replace hb2 := Cf.up hb2 hb6; clear hb6)
                      have HVC := Aside0.mk (Cf.vc_r B.out hok H1.out hh)
                      go_loopg [7] x.f3.length (fun gg s7 wr2 => ∃ k2 : Nat, k2 ≤ x.f3.length + 1 ∧ 1 ≤ k2 ∧ x.f3.length - k2 ≤ gg ∧ s7 = .int .i64 k2 ∧ Aside (Below wv.heap.size wv wr2) ∧ Aside (∀ j, j < k2 → j < x.f3.length → Cf.falls x.f3 j = false))
                      case atStart => exact ⟨1, by omega, by omega, by omega, rfl, hb2, fun j hj _ => (show Cf.falls x.f3 j = false from by (obtain rfl : j = 0 := by omega); simp [Cf.falls])⟩
                      case round =>
                        clear z3 hb2 hcall
                        obtain ⟨k2, hk2, hk1, hg2, rfl, B2, A2_⟩ := hrel
                        have z3 := blk_cell (blk_below HBK.out B2.out) 3
                        by_cases hlt2 : k2 < x.f3.length
                        · have hltz2 : (k2 : Int) < (x.f3.length : Int) := by omega
                          obtain ⟨an, eN, hn⟩ := Kd.at_int (Kd.C_below HC3.out B2.out) (k2 : Int) (by omega) hltz2
                          cases eN
                          obtain ⟨j, hj⟩ : ∃ j, j = k2 - 1 := ⟨_, rfl⟩
                          have hwj : IntKind.i64.wrap ((k2 : Int) - 1) = (j : Int) := by rw [IntKind.wrap_i64]; omega
                          have hjl : (j : Int) < (x.f3.length : Int) := by omega
                          obtain ⟨an2, eN2, hn2⟩ := Kd.at_int (Kd.C_below HC3.out B2.out) (j : Int) (by omega) hjl
                          cases eN2
                          have HQ : Aside (Cf.falls x.f3 k2 = decide (rd x.f3 (k2 : Int) ≤ rd x.f3 (j : Int))) := (by
                            show Cf.falls x.f3 k2 = _
                            unfold Cf.falls
                            rw [decide_eq_true hk1, ← hj]; rfl)
                          clear hj
                          simp only [Int.toNat_natCast] at hn hn2
                          cases hq : decide (rd x.f3 (k2 : Int) ≤ rd x.f3 (j : Int)) with
                          | true =>
                            go_wp2
                            go_quiet (fail)
                            go_wp2
                            go_ret
                            have hvc : Cf.vcode l1 l2 kk = 1 := by rw [HVC.out, if_pos (Cf.range_hit (Cf.falls x.f3) x.f3.length k2 hlt2 (HQ.out.trans hq))]
                            exact ⟨by rw [Cf.vhit HV.out kk hlt (by rw [hvc]; simp) AA.out, hvc]; rfl, Cf.up DB.out (Cf.up BV.out (pw_below_drewN B2.out _))⟩
                          | false =>
                            go_wp2
                            go_quiet (fail)
                            go_wp2
                            go_roundg (x.f3.length - (k2 + 1))
                            case measure => omega
                            case rel =>
                              refine ⟨k2 + 1, by omega, by omega, by omega, by go_num, pw_below_drewN B2.out _, (show Aside _ from fun j hj hl => ?_)⟩
                              by_cases e : j = k2
                              · subst e
                                exact HQ.out.trans hq
                              · exact A2_.out j (by omega) hl
                        · have hltz2 : ¬ (k2 : Int) < (x.f3.length : Int) := by omega
                          have hvc : Cf.vcode l1 l2 kk = 0 := by rw [HVC.out, if_neg (by rw [Cf.range_miss (Cf.falls x.f3) x.f3.length (fun j hj => A2_.out j (by omega) hj)]; simp)]
                          have HVC0 := Aside0.mk hvc
                          clear hvc
                          go_wp2
                          go_roundg (l2.length - (kk + 1))
                          case measure => omega
                          case rel =>
                            refine ⟨kk + 1, by omega, by omega, by go_num, Cf.up BV.out B2.out, (show Aside _ from fun j hj => ?_)⟩
                            by_cases e : j = kk
                            · subst e; exact HVC0.out
                            · exact AA.out j (by omega)
          · have hltz : ¬ (kk : Int) < (l2.length : Int) := by omega
            go_wp2
            go_ret
            exact ⟨by rw [Cf.vmiss HV.out (fun j hj => AA.out j (by omega))]; rfl, Cf.up DB.out BW.out⟩
theorem Cf.PacketFault_is (a b c d e : Int) (k : Nat) : impl_PacketFault.f (k + 1) a b c d e [] = some (if Cf.flowB a b c d e = true then 0 else 3) := by
  unfold impl_PacketFault.f Cf.flowB
  rw [Cf.iaddr_is, Cf.iaddr_is, Cf.iproto_is, Cf.iport_is, Cf.iport_is]
  simp only [Cf.bind_s, impl_PacketFault.j0]
  generalize Cf.inB a 0 4294967295 = x1
  generalize Cf.inB b 0 4294967295 = x2
  generalize Cf.prB c = x3
  generalize Cf.inB d 0 65535 = x4
  generalize Cf.inB e 0 65535 = x5
  cases x1 <;> cases x2 <;> cases x3 <;> cases x4 <;> cases x5 <;> rfl
theorem Cf.isFlow_is (a b c d e : Int) : impl_isFlow.f 1 a b c d e = some (Cf.flowB a b c d e) := by
  unfold impl_isFlow.f
  rw [Cf.PacketFault_is a b c d e 0, Cf.bind_s]
  cases Cf.flowB a b c d e <;> rfl
theorem Cf.il3f (a b c d e : Int) (w : World) : Calls Try.prog 68 #[.agg #[.int .i64 a, .int .i64 b, .int .i64 c, .int .i64 d, .int .i64 e]] w fun e_ w' => e_ = .returned (.bool (Cf.flowB a b c d e)) ∧ Below w.heap.size w w' := (impl_isFlow.calls 1 a b c d e _ w (Cf.isFlow_is a b c d e)).mono (fun _ _ h => ⟨h.1, by first | exact h.2 | exact h.2.below⟩)
set_option maxHeartbeats 2000000 in
/-- slices.IndexFunc over such a slice, whatever the function value, if it says p of each element and turns nothing that lay. -/
theorem Cf.vp.ix_calls (p : S64 → Bool) (g : Nat) (lb : Array Value) (eg : ∀ args w, (callFunc g args).run Try.prog w = .ok (.enter g args) w) (A0 : Option Addr) (c0 : Nat) (l0 : List (S64)) (w : World) (hr0 : Kd.C k64 w A0 l0.length l0) (hc0 : l0.length ≤ c0)
    (hp : ∀ (W : World) (x : S64) (A_3 : Option Addr) (c_3 : Nat), Below w.heap.size w W → Kd.C (Kd.int .i64) W A_3 x.f3.length x.f3 → x.f3.length ≤ c_3 → Calls Try.prog g (#[.agg #[.int .i64 x.f0, .int .i64 x.f1, .int .i64 x.f2, .slice A_3 x.f3.length c_3]] ++ lb) W fun e w' => e = .returned (.bool (p x)) ∧ Below w.heap.size w w') :
    Calls Try.prog 116 #[.slice A0 l0.length c0, .func (.func g) #[] lb] w fun e w' => e = .returned (.int .i64 (Go.Proofs.Ytfmlhpoaipeoeaa.Ix.ixFrom p l0 0)) ∧ Below w.heap.size w w' := by
  have hbig : l0.length ≤ 9223372036854775807 := by have := hr0.2.1; have hs : (k64).sz = 4 := rfl; (try simp only [maxLen] at this); (try rw [hs] at this); omega
  go_enter Try.func116, Try.ntmps116
  go_wp2
  go_loopg [5, 8] l0.length (fun gg _ s8 wr => ∃ kk : Nat, kk ≤ l0.length ∧ l0.length - kk ≤ gg ∧ s8 = .int .i64 kk ∧ Aside (Below w.heap.size w wr) ∧ Aside (∀ j, j < kk → p (l0.getD j z64) = false))
  case atStart => exact ⟨0, Nat.zero_le _, by omega, rfl, Below.refl _ w, fun j hj => absurd hj (Nat.not_lt_zero _)⟩
  case round =>
    obtain ⟨kk, hkk, hg, rfl, BW, AA⟩ := hrel
    by_cases hlt : kk < l0.length
    · have hltz : (kk : Int) < (l0.length : Int) := by omega
      obtain ⟨ad, A_3, c_3, eA, hx_0, hx_1, hx_2, hx_3, hl_3, hi_3⟩ := at_T64 (Kd.C_below hr0 BW.out) (kk : Int) (by omega) hltz
      cases eA
      have hcall := hp wr (rd_T64 l0 (kk : Int)) A_3 c_3 BW.out hi_3 hl_3
      have hy : l0.getD kk z64 = rd_T64 l0 (kk : Int) := rfl
      generalize rd_T64 l0 (kk : Int) = y at hx_0 hx_1 hx_2 hx_3 hl_3 hi_3 hcall hy
      have B : Aside (l0.getD kk z64 = y) := hy
      clear hy hp
      simp only [Int.toNat_natCast] at hx_0 hx_1 hx_2 hx_3
      cases hq : p y with
      | true =>
        rw [hq] at hcall
        go_wp2_with (go_at_fn g; refine hcall.mono ?_; rintro e w' ⟨rfl, hb'⟩)
        go_ret
        refine ⟨?_, hb'⟩
        rw [Go.Proofs.Ytfmlhpoaipeoeaa.Ix.ixFrom_hit p z64 l0 0 kk hlt (by rw [B.out]; exact hq) AA.out]
        simp
      | false =>
        rw [hq] at hcall
        go_wp2_with (go_at_fn g; refine hcall.mono ?_; rintro e w' ⟨rfl, hb'⟩)
        go_roundg (l0.length - (kk + 1))
        case measure => omega
        case rel =>
          refine ⟨kk + 1, by omega, by omega, by go_num, hb', (show Aside _ from fun j hj => ?_)⟩
          by_cases e : j = kk
          · subst e
            rw [B.out]; exact hq
          · exact AA.out j (by omega)
    · have hltz : ¬ (kk : Int) < (l0.length : Int) := by omega
      have : kk = l0.length := by omega
      subst this
      go_wp2
      go_ret
      refine ⟨?_, BW.out⟩
      rw [Go.Proofs.Ytfmlhpoaipeoeaa.Ix.ixFrom_miss p z64 l0 0 AA.out]
      rfl
set_option maxHeartbeats 2000000 in
/-- vip's closure: is a vip the one whose address, port and protocol lie in three boxes? -/
theorem Cf.cloV (p1 p2 p3 : Nat) (ta port pr : Int) (w : World) (h1 : w.cell? ⟨p1, 0, none⟩ = some (.int .i64 ta)) (h2 : w.cell? ⟨p2, 0, none⟩ = some (.int .i64 port)) (h3 : w.cell? ⟨p3, 0, none⟩ = some (.int .i64 pr)) (g1 : p1 < w.heap.size) (g2 : p2 < w.heap.size) (g3 : p3 < w.heap.size) (x : S64) (A3 : Option Addr) (c3 : Nat) :
    Calls Try.prog 117 #[.agg #[.int .i64 x.f0, .int .i64 x.f1, .int .i64 x.f2, .slice A3 x.f3.length c3], .pointer (some ⟨p1, 0, none⟩), .pointer (some ⟨p2, 0, none⟩), .pointer (some ⟨p3, 0, none⟩)] w fun e w' => e = .returned (.bool (Cf.isVip ta port pr x)) ∧ Below w.heap.size w w' := by
  have hu64 := Try.underlying64
  have hB1 : Below w.heap.size w (w.alloc (.cells #[.int .i64 x.f0, .int .i64 x.f1, .int .i64 x.f2, .slice A3 x.f3.length c3] 64)) := (Below.refl _ w).alloc (Nat.le_refl _) _
  have k1 := (hB1.cell (p := ⟨p1, 0, none⟩) g1).trans h1
  have k2 := (hB1.cell (p := ⟨p2, 0, none⟩) g2).trans h2
  have k3 := (hB1.cell (p := ⟨p3, 0, none⟩) g3).trans h3
  unfold Cf.isVip
  cases e0 : (x.f0 == ta) with
  | false =>
    go_enter Try.func117, Try.ntmps117
    go_wp2
    go_ret
    exact ⟨rfl, hB1⟩
  | true =>
    cases e1 : (x.f1 == port) with
    | false =>
      go_enter Try.func117, Try.ntmps117
      go_wp2
      go_ret
      exact ⟨rfl, hB1⟩
    | true =>
      cases e2 : (x.f2 == pr) with
      | false =>
        go_enter Try.func117, Try.ntmps117
        go_wp2
        go_ret
        exact ⟨rfl, hB1⟩
      | true =>
        go_enter Try.func117, Try.ntmps117
        go_wp2
        go_ret
        exact ⟨rfl, hB1⟩
set_option maxHeartbeats 4000000 in
/-- The place of a vip. -/
theorem impl_vip.cf (g : Nat) (A1 : Option Addr) (n1 c1 : Nat) (A2 : Option Addr) (c2 : Nat) (l2 : List S64) (v ta port pr : Int) (w : World) (hb : w.heap[g]? = some (.cells #[.int .i64 v, .slice A1 n1 c1, .slice A2 l2.length c2] 31 (0, 0))) (hr2 : Kd.C k64 w A2 l2.length l2) (hc2 : l2.length ≤ c2) :
    Calls Try.prog 69 #[.pointer (some ⟨g, 0, none⟩), .int .i64 ta, .int .i64 port, .int .i64 pr] w fun e w' => e = .returned (.int .i64 (Cf.vplace l2 ta port pr)) ∧ Below w.heap.size w w' := by
  obtain ⟨w1, hw1⟩ : ∃ W, W = ((w.alloc (.cells #[.int .i64 ta] 2)).alloc (.cells #[.int .i64 port] 2)).alloc (.cells #[.int .i64 pr] 2) := ⟨_, rfl⟩
  have hB1 : Below w.heap.size w w1 := by rw [hw1]; exact ((((Below.refl _ w).alloc (Nat.le_refl _) _).alloc (by simp) _).alloc (by simp; omega) _)
  have hs1 : w1.heap.size = w.heap.size + 3 := by rw [hw1]; simp
  have q1 : w1.cell? ⟨w.heap.size, 0, none⟩ = some (.int .i64 ta) := by rw [hw1]; exact blk_cell (blk_alloc (blk_alloc (blk_new w _) _) _) 0
  have q2 : w1.cell? ⟨w.heap.size + 1, 0, none⟩ = some (.int .i64 port) := by
    rw [hw1]
    have h_ := heap_alloc_new (w.alloc (.cells #[.int .i64 ta] 2)) (.cells #[.int .i64 port] 2)
    rw [World.size_alloc] at h_
    exact blk_cell (blk_alloc h_ _) 0
  have q3 : w1.cell? ⟨w.heap.size + 2, 0, none⟩ = some (.int .i64 pr) := by
    rw [hw1]
    have h_ := heap_alloc_new ((w.alloc (.cells #[.int .i64 ta] 2)).alloc (.cells #[.int .i64 port] 2)) (.cells #[.int .i64 pr] 2)
    rw [World.size_alloc, World.size_alloc] at h_
    exact blk_cell h_ 0
  have hz1' : w1.cell? ⟨g, 2, none⟩ = some (.slice A2 l2.length c2) := blk_cell (blk_below hb hB1) 2
  rw [hw1] at hz1'
  have hcall := Cf.vp.ix_calls (Cf.isVip ta port pr) 117 #[.pointer (some ⟨w.heap.size, 0, none⟩), .pointer (some ⟨w.heap.size + 1, 0, none⟩), .pointer (some ⟨w.heap.size + 2, 0, none⟩)] (enters_of Try.func117 (by kernel_rfl) rfl) A2 c2 l2 w1 (Kd.C_below hr2 hB1) hc2 (fun W x A3 c3 hW _ _ => show Calls Try.prog 117 #[.agg #[.int .i64 x.f0, .int .i64 x.f1, .int .i64 x.f2, .slice A3 x.f3.length c3], .pointer (some ⟨w.heap.size, 0, none⟩), .pointer (some ⟨w.heap.size + 1, 0, none⟩), .pointer (some ⟨w.heap.size + 2, 0, none⟩)] W _ from (Cf.cloV w.heap.size (w.heap.size + 1) (w.heap.size + 2) ta port pr W ((hW.cell (p := ⟨w.heap.size, 0, none⟩) (by show w.heap.size < w1.heap.size; omega)).trans q1) ((hW.cell (p := ⟨w.heap.size + 1, 0, none⟩) (by show w.heap.size + 1 < w1.heap.size; omega)).trans q2) ((hW.cell (p := ⟨w.heap.size + 2, 0, none⟩) (by show w.heap.size + 2 < w1.heap.size; omega)).trans q3) (by have := hW.size; omega) (by have := hW.size; omega) (by have := hW.size; omega) x A3 c3).mono fun e w' hh => ⟨hh.1, Cf.up hW hh.2⟩)
  rw [hw1] at hcall
  go_enter Try.func69, Try.ntmps69
  go_wp2_with (go_at_call 116; refine hcall.mono ?_; rintro e w2 ⟨rfl, hb2⟩; rw [← hw1] at hb2)
  go_ret
  exact ⟨rfl, Cf.up hB1 hb2⟩
set_option maxHeartbeats 8000000 in
set_option maxRecDepth 100000 in
theorem impl_VipFor.cf (A1 : Option Addr) (c1 : Nat) (l1 : List S36) (A2 : Option Addr) (c2 : Nat) (l2 : List S64) (v a b c d e : Int) (w : World) (hr1 : Kd.C k36 w A1 l1.length l1) (hr2 : Kd.C k64 w A2 l2.length l2) (hc1 : l1.length ≤ c1) (hc2 : l2.length ≤ c2) :
    Calls Try.prog 22 #[.agg #[.int .i64 v, .slice A1 l1.length c1, .slice A2 l2.length c2], .agg #[.int .i64 a, .int .i64 b, .int .i64 c, .int .i64 d, .int .i64 e]] w fun e_ w' => e_ = .returned (.agg #[.int .i64 (Cf.vfcd v l1 l2 a b c d e), .int .i64 (Cf.vfval v l1 l2 a b c d e)]) ∧ Below w.heap.size w w' := by
  have hu31 := Try.underlying31
  have hu47 := Try.underlying47
  have hu45 := Try.underlying45
  obtain ⟨w1, hw1⟩ : ∃ W, W = ((w.alloc (.cells #[.int .i64 v, .slice A1 l1.length c1, .slice A2 l2.length c2] 31)).alloc (.cells #[.int .i64 a, .int .i64 b, .int .i64 c, .int .i64 d, .int .i64 e] 47)).alloc (.cells #[.int .i64 0, .int .i64 0] 45) := ⟨_, rfl⟩
  have hs1 : w1.heap.size = w.heap.size + 3 := by rw [hw1]; simp
  have hB1 : Below w.heap.size w w1 := by rw [hw1]; exact ((((Below.refl _ w).alloc (Nat.le_refl _) _).alloc (by simp) _).alloc (by simp; omega) _)
  have bg1 : w1.heap[w.heap.size]? = some (.cells #[.int .i64 v, .slice A1 l1.length c1, .slice A2 l2.length c2] 31 (0, 0)) := by rw [hw1]; exact blk_alloc (blk_alloc (blk_new w _) _) _
  have bf1 : w1.heap[w.heap.size + 1]? = some (.cells #[.int .i64 a, .int .i64 b, .int .i64 c, .int .i64 d, .int .i64 e] 47 (0, 0)) := by
    rw [hw1]
    have h_ := heap_alloc_new (w.alloc (.cells #[.int .i64 v, .slice A1 l1.length c1, .slice A2 l2.length c2] 31)) (.cells #[.int .i64 a, .int .i64 b, .int .i64 c, .int .i64 d, .int .i64 e] 47)
    rw [World.size_alloc] at h_
    exact blk_alloc h_ _
  have bk1 : w1.heap[w.heap.size + 2]? = some (.cells #[.int .i64 0, .int .i64 0] 45 (0, 0)) := by
    rw [hw1]
    have h_ := heap_alloc_new ((w.alloc (.cells #[.int .i64 v, .slice A1 l1.length c1, .slice A2 l2.length c2] 31)).alloc (.cells #[.int .i64 a, .int .i64 b, .int .i64 c, .int .i64 d, .int .i64 e] 47)) (.cells #[.int .i64 0, .int .i64 0] 45)
    rwa [World.size_alloc, World.size_alloc] at h_
  have hr11 := Kd.C_below hr1 hB1
  have hr21 := Kd.C_below hr2 hB1
  have hcallF := impl_ConfigFault.cf A1 c1 l1 A2 c2 l2 v w1 hr11 hc1 hr21
  rw [hw1] at hcallF
  rw [hw1] at bg1
  have k0 := blk_cell bg1 0
  have k1 := blk_cell bg1 1
  have k2 := blk_cell bg1 2
  rw [← hw1] at bg1
  obtain ⟨q, hq⟩ : ∃ q, q = Cf.code v l1 l2 := ⟨_, rfl⟩
  rw [← hq] at hcallF
  obtain ⟨rc, hrc⟩ : ∃ r, r = Cf.vfcd v l1 l2 a b c d e := ⟨_, rfl⟩
  obtain ⟨rv, hrv⟩ : ∃ r, r = Cf.vfval v l1 l2 a b c d e := ⟨_, rfl⟩
  rw [← hrc, ← hrv]
  unfold Cf.vfcd at hrc
  unfold Cf.vfval at hrv
  rw [← hq] at hrc hrv
  clear hq
  have hcallL := fun (W : World) => Cf.il3f a b c d e W
  have hcallB := fun (W : World) (hW : Below w1.heap.size w1 W) => impl_vip.cf w.heap.size A1 l1.length c1 A2 c2 l2 v b e c W (blk_below bg1 hW) (Kd.C_below hr21 hW) hc2
  obtain ⟨p, hp⟩ : ∃ p, p = Cf.vplace l2 b e c := ⟨_, rfl⟩
  rw [← hp] at hrc hrv
  simp only [← hp] at hcallB
  clear hp
  obtain ⟨fl, hfl⟩ : ∃ p, p = Cf.flowB a b c d e := ⟨_, rfl⟩
  rw [← hfl] at hrc hrv
  simp only [← hfl] at hcallL
  clear hfl
  go_enter Try.func22, Try.ntmps22
  by_cases hq0 : q = 0
  · have hq1 : (q != 0) = false := bne_eq_false_iff_eq.mpr hq0
    have hq2 : (q == 0) = true := beq_iff_eq.mpr hq0
    rw [if_neg (by simp [hq0])] at hrc hrv
    cases fl with
    | false =>
      rw [if_pos rfl] at hrc hrv
      go_wp2_with (first
        | (go_at_call 15; refine hcallF.mono ?_; rintro e_ w2 ⟨rfl, hb2⟩; rw [← hw1] at hb2; clear hcallF; have m0 := blk_cell (blk_below bf1 hb2) 0; have m1 := blk_cell (blk_below bf1 hb2) 1; have m2 := blk_cell (blk_below bf1 hb2) 2; have m3 := blk_cell (blk_below bf1 hb2) 3; have m4 := blk_cell (blk_below bf1 hb2) 4; have bk4 := blk_below bk1 hb2; have y0 := blk_cell bk4 0; have f0 := blk_frozen bk4 0; have y1 := blk_cell bk4 1; have f1 := blk_frozen bk4 1)
        | (go_at_call 68; refine (hcallL _).mono ?_; rintro e_ w3 ⟨rfl, hb3⟩; replace hb2 := Cf.up hb2 hb3; clear hb3; clear m0 m1 m2 m3 m4 bk4 y0 y1 f0 f1; have m0 := blk_cell (blk_below bf1 hb2) 0; have m1 := blk_cell (blk_below bf1 hb2) 1; have m2 := blk_cell (blk_below bf1 hb2) 2; have m3 := blk_cell (blk_below bf1 hb2) 3; have m4 := blk_cell (blk_below bf1 hb2) 4; have bk4 := blk_below bk1 hb2; have y0 := blk_cell bk4 0; have f0 := blk_frozen bk4 0; have y1 := blk_cell bk4 1; have f1 := blk_frozen bk4 1))
      refine bodyPost_ret (results_cell_row rfl _ _ (w.heap.size + 2) 45 #[.int .i64 3, .int .i64 0] (0, 0) _ rfl (by exact Cf.put2 bk4 _ _) Try.underlying45 rfl (by kernel_rfl)) rfl ?_
      refine ⟨by rw [hrc, hrv], ?_⟩
      have := hb2.size
      repeat (refine below_set ?_ (by show _ ≤ w.heap.size + 2; omega))
      exact Cf.up hB1 hb2
    | true =>
      rw [if_neg (by simp)] at hrc hrv
      by_cases hp0 : p < 0
      · have hp1 : decide (p < 0) = true := decide_eq_true hp0
        rw [if_pos hp0] at hrc hrv
        go_wp2_with (first
          | (go_at_call 15; refine hcallF.mono ?_; rintro e_ w2 ⟨rfl, hb2⟩; rw [← hw1] at hb2; clear hcallF; have m0 := blk_cell (blk_below bf1 hb2) 0; have m1 := blk_cell (blk_below bf1 hb2) 1; have m2 := blk_cell (blk_below bf1 hb2) 2; have m3 := blk_cell (blk_below bf1 hb2) 3; have m4 := blk_cell (blk_below bf1 hb2) 4; have bk4 := blk_below bk1 hb2; have y0 := blk_cell bk4 0; have f0 := blk_frozen bk4 0; have y1 := blk_cell bk4 1; have f1 := blk_frozen bk4 1)
          | (go_at_call 68; refine (hcallL _).mono ?_; rintro e_ w3 ⟨rfl, hb3⟩; replace hb2 := Cf.up hb2 hb3; clear hb3; clear m0 m1 m2 m3 m4 bk4 y0 y1 f0 f1; have m0 := blk_cell (blk_below bf1 hb2) 0; have m1 := blk_cell (blk_below bf1 hb2) 1; have m2 := blk_cell (blk_below bf1 hb2) 2; have m3 := blk_cell (blk_below bf1 hb2) 3; have m4 := blk_cell (blk_below bf1 hb2) 4; have bk4 := blk_below bk1 hb2; have y0 := blk_cell bk4 0; have f0 := blk_frozen bk4 0; have y1 := blk_cell bk4 1; have f1 := blk_frozen bk4 1)
          | (go_at_call 69; refine (hcallB _ hb2).mono ?_; rintro e_ w4 ⟨rfl, hb4⟩; replace hb2 := Cf.up hb2 hb4; clear hb4; clear m0 m1 m2 m3 m4 bk4 y0 y1 f0 f1; have m0 := blk_cell (blk_below bf1 hb2) 0; have m1 := blk_cell (blk_below bf1 hb2) 1; have m2 := blk_cell (blk_below bf1 hb2) 2; have m3 := blk_cell (blk_below bf1 hb2) 3; have m4 := blk_cell (blk_below bf1 hb2) 4; have bk4 := blk_below bk1 hb2; have y0 := blk_cell bk4 0; have f0 := blk_frozen bk4 0; have y1 := blk_cell bk4 1; have f1 := blk_frozen bk4 1))
        refine bodyPost_ret (results_cell_row rfl _ _ (w.heap.size + 2) 45 #[.int .i64 4, .int .i64 0] (0, 0) _ rfl (by exact Cf.put2 bk4 _ _) Try.underlying45 rfl (by kernel_rfl)) rfl ?_
        refine ⟨by rw [hrc, hrv], ?_⟩
        have := hb2.size
        repeat (refine below_set ?_ (by show _ ≤ w.heap.size + 2; omega))
        exact Cf.up hB1 hb2
      · have hp1 : decide (p < 0) = false := decide_eq_false hp0
        rw [if_neg hp0] at hrc hrv
        go_wp2_with (first
          | (go_at_call 15; refine hcallF.mono ?_; rintro e_ w2 ⟨rfl, hb2⟩; rw [← hw1] at hb2; clear hcallF; have m0 := blk_cell (blk_below bf1 hb2) 0; have m1 := blk_cell (blk_below bf1 hb2) 1; have m2 := blk_cell (blk_below bf1 hb2) 2; have m3 := blk_cell (blk_below bf1 hb2) 3; have m4 := blk_cell (blk_below bf1 hb2) 4; have bk4 := blk_below bk1 hb2; have y0 := blk_cell bk4 0; have f0 := blk_frozen bk4 0; have y1 := blk_cell bk4 1; have f1 := blk_frozen bk4 1)
          | (go_at_call 68; refine (hcallL _).mono ?_; rintro e_ w3 ⟨rfl, hb3⟩; replace hb2 := Cf.up hb2 hb3; clear hb3; clear m0 m1 m2 m3 m4 bk4 y0 y1 f0 f1; have m0 := blk_cell (blk_below bf1 hb2) 0; have m1 := blk_cell (blk_below bf1 hb2) 1; have m2 := blk_cell (blk_below bf1 hb2) 2; have m3 := blk_cell (blk_below bf1 hb2) 3; have m4 := blk_cell (blk_below bf1 hb2) 4; have bk4 := blk_below bk1 hb2; have y0 := blk_cell bk4 0; have f0 := blk_frozen bk4 0; have y1 := blk_cell bk4 1; have f1 := blk_frozen bk4 1)
          | (go_at_call 69; refine (hcallB _ hb2).mono ?_; rintro e_ w4 ⟨rfl, hb4⟩; replace hb2 := Cf.up hb2 hb4; clear hb4; clear m0 m1 m2 m3 m4 bk4 y0 y1 f0 f1; have m0 := blk_cell (blk_below bf1 hb2) 0; have m1 := blk_cell (blk_below bf1 hb2) 1; have m2 := blk_cell (blk_below bf1 hb2) 2; have m3 := blk_cell (blk_below bf1 hb2) 3; have m4 := blk_cell (blk_below bf1 hb2) 4; have bk4 := blk_below bk1 hb2; have y0 := blk_cell bk4 0; have f0 := blk_frozen bk4 0; have y1 := blk_cell bk4 1; have f1 := blk_frozen bk4 1))
        refine bodyPost_ret (results_cell_row rfl _ _ (w.heap.size + 2) 45 #[.int .i64 0, .int .i64 p] (0, 0) _ rfl (by exact Cf.put2 bk4 _ _) Try.underlying45 rfl (by kernel_rfl)) rfl ?_
        refine ⟨by rw [hrc, hrv], ?_⟩
        have := hb2.size
        repeat (refine below_set ?_ (by show _ ≤ w.heap.size + 2; omega))
        exact Cf.up hB1 hb2
  · have hq1 : (q != 0) = true := bne_iff_ne.mpr hq0
    have hq2 : (q == 0) = false := beq_eq_false_iff_ne.mpr hq0
    rw [if_pos hq0] at hrc hrv
    go_wp2_with (first
      | (go_at_call 15; refine hcallF.mono ?_; rintro e_ w2 ⟨rfl, hb2⟩; rw [← hw1] at hb2; clear hcallF; have m0 := blk_cell (blk_below bf1 hb2) 0; have m1 := blk_cell (blk_below bf1 hb2) 1; have m2 := blk_cell (blk_below bf1 hb2) 2; have m3 := blk_cell (blk_below bf1 hb2) 3; have m4 := blk_cell (blk_below bf1 hb2) 4; have bk4 := blk_below bk1 hb2; have y0 := blk_cell bk4 0; have f0 := blk_frozen bk4 0; have y1 := blk_cell bk4 1; have f1 := blk_frozen bk4 1))
    refine bodyPost_ret (results_cell_row rfl _ _ (w.heap.size + 2) 45 #[.int .i64 q, .int .i64 0] (0, 0) _ rfl (by exact Cf.put2 bk4 _ _) Try.underlying45 rfl (by kernel_rfl)) rfl ?_
    refine ⟨by rw [hrc, hrv], ?_⟩
    have := hb2.size
    repeat (refine below_set ?_ (by show _ ≤ w.heap.size + 2; omega))
    exact Cf.up hB1 hb2
def impl_VipFor.f (a0_0 : Int) (l0_1 : List (S36)) (l0_2 : List (S64)) (a1_0 : Int) (a1_1 : Int) (a1_2 : Int) (a1_3 : Int) (a1_4 : Int) : Option (Int × Int) := some (Cf.vfcd a0_0 l0_1 l0_2 a1_0 a1_1 a1_2 a1_3 a1_4, Cf.vfval a0_0 l0_1 l0_2 a1_0 a1_1 a1_2 a1_3 a1_4)
theorem impl_VipFor.calls (a0_0 : Int) (A0_1 : Option Addr) (c0_1 : Nat) (l0_1 : List (S36)) (A0_2 : Option Addr) (c0_2 : Nat) (l0_2 : List (S64)) (a1_0 : Int) (a1_1 : Int) (a1_2 : Int) (a1_3 : Int) (a1_4 : Int) (r1 : Int) (r2 : Int) (w : World) (hr0_1 : Kd.C k36 w A0_1 l0_1.length l0_1) (hc0_1 : l0_1.length ≤ c0_1) (hr0_2 : Kd.C k64 w A0_2 l0_2.length l0_2) (hc0_2 : l0_2.length ≤ c0_2) (h : impl_VipFor.f a0_0 l0_1 l0_2 a1_0 a1_1 a1_2 a1_3 a1_4 = some (r1, r2)) :
    Calls Try.prog 22 #[.agg #[.int .i64 a0_0, .slice A0_1 l0_1.length c0_1, .slice A0_2 l0_2.length c0_2], .agg #[.int .i64 a1_0, .int .i64 a1_1, .int .i64 a1_2, .int .i64 a1_3, .int .i64 a1_4]] w fun e w' => e = .returned (.agg #[.int .i64 r1, .int .i64 r2]) ∧ Below w.heap.size w w' := by
  unfold impl_VipFor.f at h
  cases h
  exact impl_VipFor.cf A0_1 c0_1 l0_1 A0_2 c0_2 l0_2 a0_0 a1_0 a1_1 a1_2 a1_3 a1_4 w hr0_1 hr0_2 hc0_1 hc0_2

/-! ### laws_eqIntResult: function 23 -/
def laws_eqIntResult.f (a0_0 : Int) (a0_1 : Int) (a1_0 : Int) (a1_1 : Int) : Option (Bool) := if a0_0 = a1_0 then (if a0_1 = a1_1 then (some true) else (some false)) else (some false)
set_option maxHeartbeats 8000000 in
set_option maxRecDepth 100000 in
theorem laws_eqIntResult.calls (a0_0 : Int) (a0_1 : Int) (a1_0 : Int) (a1_1 : Int) (r : Bool) (w : World) (h : laws_eqIntResult.f a0_0 a0_1 a1_0 a1_1 = some r) :
    Calls Try.prog 23 #[.agg #[.int .i64 a0_0, .int .i64 a0_1], .agg #[.int .i64 a1_0, .int .i64 a1_1]] w fun e w' => e = .returned (.bool r) ∧ Below w.heap.size w w' := by
  have hu45 := Try.underlying45
  have HB := Aside0.mk (Below.refl w.heap.size w)
  have H : (if a0_0 = a1_0 then (if a0_1 = a1_1 then (some true) else (some false)) else (some false)) = some r := h
  clear h
  by_cases c3 : a0_0 = a1_0
  · rw [if_pos c3] at H
    have c3b0 : (a0_0 == a1_0) = true := beq_iff_eq.mpr c3
    have c3b1 : (a0_0 != a1_0) = false := bne_eq_false_iff_eq.mpr c3
    clear c3
    by_cases c4 : a0_1 = a1_1
    · rw [if_pos c4] at H
      have c4b0 : (a0_1 == a1_1) = true := beq_iff_eq.mpr c4
      have c4b1 : (a0_1 != a1_1) = false := bne_eq_false_iff_eq.mpr c4
      clear c4
      obtain rfl := Option.some.inj H
      go_enter Try.func23, Try.ntmps23
      go_wp2_with (first | ((with_reducible refine gate_dst (N := 2) rfl ?_); refine box_event ?hg (N := 2) ?hd (cs := #[.int .i64 a0_0, .int .i64 a0_1]) (t := 45) ?hr ?_; (case hd => rfl); (case hg => rfl); (case hr => first | (go_simp; done) | (go_simp; rfl)); intro gb258 hg w5 hbox hb; have n0_ := Aside0.mk (below_step (by repeat (first | (with_reducible first | exact HB.out | apply below_alloc | apply pw_below_drewN | apply below_drew1) | exact HB.out)) hb); have n1_ := Aside0.mk (hbox); have n2_ := Aside0.mk ((by rw [hg]; exact (below_size (by repeat (first | (with_reducible first | exact HB.out | apply below_alloc | apply pw_below_drewN | apply below_drew1) | exact HB.out))) : w.heap.size ≤ gb258)); have n3_ := Aside0.mk ((by rw [hg]; exact (below_size (by repeat (first | (with_reducible first | exact HB.out | apply below_alloc | apply pw_below_drewN | apply below_drew1) | exact HB.out))) : w.heap.size ≤ gb258)); clear HB; have HB := n0_; have BK258 := n1_; have GW258 := n2_; have GE258 := n3_; clear n0_ n1_ n2_ n3_; clear hb hbox hg) | ((with_reducible refine gate_dst (N := 3) rfl ?_); refine box_event ?hg (N := 3) ?hd (cs := #[.int .i64 a1_0, .int .i64 a1_1]) (t := 45) ?hr ?_; (case hd => rfl); (case hg => rfl); (case hr => first | (go_simp; done) | (go_simp; rfl)); intro gb259 hg w6 hbox hb; have n0_ := Aside0.mk (blk_below (g := gb258) (o := .cells #[.int .i64 a0_0, .int .i64 a0_1] 45 (0, 0)) (by (with_reducible repeat (first | refine blk_drewN ?_ _ | refine blk_drew ?_ | refine blk_alloc ?_ _)); exact BK258.out) hb); have n1_ := Aside0.mk (below_step (by repeat (first | (with_reducible first | exact HB.out | apply below_alloc | apply pw_below_drewN | apply below_drew1 | refine below_set ?_ GE258.out) | exact HB.out)) hb); have n2_ := Aside0.mk (hbox); have n3_ := Aside0.mk ((by rw [hg]; exact (below_size (by repeat (first | (with_reducible first | exact HB.out | apply below_alloc | apply pw_below_drewN | apply below_drew1 | refine below_set ?_ GE258.out) | exact HB.out))) : w.heap.size ≤ gb259)); have n4_ := Aside0.mk ((by rw [hg]; exact (below_size (by repeat (first | (with_reducible first | exact HB.out | apply below_alloc | apply pw_below_drewN | apply below_drew1 | refine below_set ?_ GE258.out) | exact HB.out))) : w.heap.size ≤ gb259)); have n5_ := Aside0.mk ((by rw [hg]; exact Nat.ne_of_lt (blk_lt (g := gb258) (o := .cells #[.int .i64 a0_0, .int .i64 a0_1] 45 (0, 0)) (by (with_reducible repeat (first | refine blk_drewN ?_ _ | refine blk_drew ?_ | refine blk_alloc ?_ _)); exact BK258.out)) : gb258 ≠ gb259)); have n6_ := Aside0.mk ((by rw [hg]; exact Nat.ne_of_gt (blk_lt (g := gb258) (o := .cells #[.int .i64 a0_0, .int .i64 a0_1] 45 (0, 0)) (by (with_reducible repeat (first | refine blk_drewN ?_ _ | refine blk_drew ?_ | refine blk_alloc ?_ _)); exact BK258.out)) : gb259 ≠ gb258)); clear BK258; clear HB; have BK258 := n0_; have HB := n1_; have BK259 := n2_; have GW259 := n3_; have GE259 := n4_; have NB258_259 := n5_; have NB259_258 := n6_; clear n0_ n1_ n2_ n3_ n4_ n5_ n6_; clear hb hbox hg; have hnb7 := NB258_259.out; have hnc7 := NB259_258.out; have hcz8_0 : w6.cell? ⟨gb258, 0, none⟩ = some (.int .i64 a0_0) := (blk_cell BK258.out 0).trans rfl; have hcz8_1 : w6.cell? ⟨gb258, 1, none⟩ = some (.int .i64 a0_1) := (blk_cell BK258.out 1).trans rfl; have hfz8_0 := blk_frozen BK258.out 0; have hfz8_1 := blk_frozen BK258.out 1; have hcz9_0 : w6.cell? ⟨gb259, 0, none⟩ = some (.int .i64 a1_0) := (blk_cell BK259.out 0).trans rfl; have hcz9_1 : w6.cell? ⟨gb259, 1, none⟩ = some (.int .i64 a1_1) := (blk_cell BK259.out 1).trans rfl; have hfz9_0 := blk_frozen BK259.out 0; have hfz9_1 := blk_frozen BK259.out 1))
      go_ret
      exact ⟨by first | rfl | (simp [errW_none, errW_some] <;> rfl) | (simp [*, errW_none, errW_some] <;> rfl), by repeat (first | (with_reducible first | exact HB.out | apply below_alloc | apply pw_below_drewN | apply below_drew1 | refine below_set ?_ GE258.out | refine below_set ?_ GE259.out) | exact HB.out)⟩
    · rw [if_neg c4] at H
      have c4b0 : (a0_1 == a1_1) = false := beq_eq_false_iff_ne.mpr c4
      have c4b1 : (a0_1 != a1_1) = true := bne_iff_ne.mpr c4
      obtain rfl := Option.some.inj H
      go_enter Try.func23, Try.ntmps23
      go_wp2_with (first | ((with_reducible refine gate_dst (N := 2) rfl ?_); refine box_event ?hg (N := 2) ?hd (cs := #[.int .i64 a0_0, .int .i64 a0_1]) (t := 45) ?hr ?_; (case hd => rfl); (case hg => rfl); (case hr => first | (go_simp; done) | (go_simp; rfl)); intro gb258 hg w10 hbox hb; have n0_ := Aside0.mk (below_step (by repeat (first | (with_reducible first | exact HB.out | apply below_alloc | apply pw_below_drewN | apply below_drew1) | exact HB.out)) hb); have n1_ := Aside0.mk (hbox); have n2_ := Aside0.mk ((by rw [hg]; exact (below_size (by repeat (first | (with_reducible first | exact HB.out | apply below_alloc | apply pw_below_drewN | apply below_drew1) | exact HB.out))) : w.heap.size ≤ gb258)); have n3_ := Aside0.mk ((by rw [hg]; exact (below_size (by repeat (first | (with_reducible first | exact HB.out | apply below_alloc | apply pw_below_drewN | apply below_drew1) | exact HB.out))) : w.heap.size ≤ gb258)); clear HB; have HB := n0_; have BK258 := n1_; have GW258 := n2_; have GE258 := n3_; clear n0_ n1_ n2_ n3_; clear hb hbox hg) | ((with_reducible refine gate_dst (N := 3) rfl ?_); refine box_event ?hg (N := 3) ?hd (cs := #[.int .i64 a1_0, .int .i64 a1_1]) (t := 45) ?hr ?_; (case hd => rfl); (case hg => rfl); (case hr => first | (go_simp; done) | (go_simp; rfl)); intro gb259 hg w11 hbox hb; have n0_ := Aside0.mk (blk_below (g := gb258) (o := .cells #[.int .i64 a0_0, .int .i64 a0_1] 45 (0, 0)) (by (with_reducible repeat (first | refine blk_drewN ?_ _ | refine blk_drew ?_ | refine blk_alloc ?_ _)); exact BK258.out) hb); have n1_ := Aside0.mk (below_step (by repeat (first | (with_reducible first | exact HB.out | apply below_alloc | apply pw_below_drewN | apply below_drew1 | refine below_set ?_ GE258.out) | exact HB.out)) hb); have n2_ := Aside0.mk (hbox); have n3_ := Aside0.mk ((by rw [hg]; exact (below_size (by repeat (first | (with_reducible first | exact HB.out | apply below_alloc | apply pw_below_drewN | apply below_drew1 | refine below_set ?_ GE258.out) | exact HB.out))) : w.heap.size ≤ gb259)); have n4_ := Aside0.mk ((by rw [hg]; exact (below_size (by repeat (first | (with_reducible first | exact HB.out | apply below_alloc | apply pw_below_drewN | apply below_drew1 | refine below_set ?_ GE258.out) | exact HB.out))) : w.heap.size ≤ gb259)); have n5_ := Aside0.mk ((by rw [hg]; exact Nat.ne_of_lt (blk_lt (g := gb258) (o := .cells #[.int .i64 a0_0, .int .i64 a0_1] 45 (0, 0)) (by (with_reducible repeat (first | refine blk_drewN ?_ _ | refine blk_drew ?_ | refine blk_alloc ?_ _)); exact BK258.out)) : gb258 ≠ gb259)); have n6_ := Aside0.mk ((by rw [hg]; exact Nat.ne_of_gt (blk_lt (g := gb258) (o := .cells #[.int .i64 a0_0, .int .i64 a0_1] 45 (0, 0)) (by (with_reducible repeat (first | refine blk_drewN ?_ _ | refine blk_drew ?_ | refine blk_alloc ?_ _)); exact BK258.out)) : gb259 ≠ gb258)); clear BK258; clear HB; have BK258 := n0_; have HB := n1_; have BK259 := n2_; have GW259 := n3_; have GE259 := n4_; have NB258_259 := n5_; have NB259_258 := n6_; clear n0_ n1_ n2_ n3_ n4_ n5_ n6_; clear hb hbox hg; have hnb12 := NB258_259.out; have hnc12 := NB259_258.out; have hcz13_0 : w11.cell? ⟨gb258, 0, none⟩ = some (.int .i64 a0_0) := (blk_cell BK258.out 0).trans rfl; have hcz13_1 : w11.cell? ⟨gb258, 1, none⟩ = some (.int .i64 a0_1) := (blk_cell BK258.out 1).trans rfl; have hfz13_0 := blk_frozen BK258.out 0; have hfz13_1 := blk_frozen BK258.out 1; have hcz14_0 : w11.cell? ⟨gb259, 0, none⟩ = some (.int .i64 a1_0) := (blk_cell BK259.out 0).trans rfl; have hcz14_1 : w11.cell? ⟨gb259, 1, none⟩ = some (.int .i64 a1_1) := (blk_cell BK259.out 1).trans rfl; have hfz14_0 := blk_frozen BK259.out 0; have hfz14_1 := blk_frozen BK259.out 1))
      go_ret
      exact ⟨by first | rfl | (simp [errW_none, errW_some] <;> rfl) | (simp [*, errW_none, errW_some] <;> rfl), by repeat (first | (with_reducible first | exact HB.out | apply below_alloc | apply pw_below_drewN | apply below_drew1 | refine below_set ?_ GE258.out | refine below_set ?_ GE259.out) | exact HB.out)⟩
  · rw [if_neg c3] at H
    have c3b0 : (a0_0 == a1_0) = false := beq_eq_false_iff_ne.mpr c3
    have c3b1 : (a0_0 != a1_0) = true := bne_iff_ne.mpr c3
    obtain rfl := Option.some.inj H
    go_enter Try.func23, Try.ntmps23
    go_wp2_with (first | ((with_reducible refine gate_dst (N := 2) rfl ?_); refine box_event ?hg (N := 2) ?hd (cs := #[.int .i64 a0_0, .int .i64 a0_1]) (t := 45) ?hr ?_; (case hd => rfl); (case hg => rfl); (case hr => first | (go_simp; done) | (go_simp; rfl)); intro gb258 hg w15 hbox hb; have n0_ := Aside0.mk (below_step (by repeat (first | (with_reducible first | exact HB.out | apply below_alloc | apply pw_below_drewN | apply below_drew1) | exact HB.out)) hb); have n1_ := Aside0.mk (hbox); have n2_ := Aside0.mk ((by rw [hg]; exact (below_size (by repeat (first | (with_reducible first | exact HB.out | apply below_alloc | apply pw_below_drewN | apply below_drew1) | exact HB.out))) : w.heap.size ≤ gb258)); have n3_ := Aside0.mk ((by rw [hg]; exact (below_size (by repeat (first | (with_reducible first | exact HB.out | apply below_alloc | apply pw_below_drewN | apply below_drew1) | exact HB.out))) : w.heap.size ≤ gb258)); clear HB; have HB := n0_; have BK258 := n1_; have GW258 := n2_; have GE258 := n3_; clear n0_ n1_ n2_ n3_; clear hb hbox hg) | ((with_reducible refine gate_dst (N := 3) rfl ?_); refine box_event ?hg (N := 3) ?hd (cs := #[.int .i64 a1_0, .int .i64 a1_1]) (t := 45) ?hr ?_; (case hd => rfl); (case hg => rfl); (case hr => first | (go_simp; done) | (go_simp; rfl)); intro gb259 hg w16 hbox hb; have n0_ := Aside0.mk (blk_below (g := gb258) (o := .cells #[.int .i64 a0_0, .int .i64 a0_1] 45 (0, 0)) (by (with_reducible repeat (first | refine blk_drewN ?_ _ | refine blk_drew ?_ | refine blk_alloc ?_ _)); exact BK258.out) hb); have n1_ := Aside0.mk (below_step (by repeat (first | (with_reducible first | exact HB.out | apply below_alloc | apply pw_below_drewN | apply below_drew1 | refine below_set ?_ GE258.out) | exact HB.out)) hb); have n2_ := Aside0.mk (hbox); have n3_ := Aside0.mk ((by rw [hg]; exact (below_size (by repeat (first | (with_reducible first | exact HB.out | apply below_alloc | apply pw_below_drewN | apply below_drew1 | refine below_set ?_ GE258.out) | exact HB.out))) : w.heap.size ≤ gb259)); have n4_ := Aside0.mk ((by rw [hg]; exact (below_size (by repeat (first | (with_reducible first | exact HB.out | apply below_alloc | apply pw_below_drewN | apply below_drew1 | refine below_set ?_ GE258.out) | exact HB.out))) : w.heap.size ≤ gb259)); have n5_ := Aside0.mk ((by rw [hg]; exact Nat.ne_of_lt (blk_lt (g := gb258) (o := .cells #[.int .i64 a0_0, .int .i64 a0_1] 45 (0, 0)) (by (with_reducible repeat (first | refine blk_drewN ?_ _ | refine blk_drew ?_ | refine blk_alloc ?_ _)); exact BK258.out)) : gb258 ≠ gb259)); have n6_ := Aside0.mk ((by rw [hg]; exact Nat.ne_of_gt (blk_lt (g := gb258) (o := .cells #[.int .i64 a0_0, .int .i64 a0_1] 45 (0, 0)) (by (with_reducible repeat (first | refine blk_drewN ?_ _ | refine blk_drew ?_ | refine blk_alloc ?_ _)); exact BK258.out)) : gb259 ≠ gb258)); clear BK258; clear HB; have BK258 := n0_; have HB := n1_; have BK259 := n2_; have GW259 := n3_; have GE259 := n4_; have NB258_259 := n5_; have NB259_258 := n6_; clear n0_ n1_ n2_ n3_ n4_ n5_ n6_; clear hb hbox hg; have hnb17 := NB258_259.out; have hnc17 := NB259_258.out; have hcz18_0 : w16.cell? ⟨gb258, 0, none⟩ = some (.int .i64 a0_0) := (blk_cell BK258.out 0).trans rfl; have hcz18_1 : w16.cell? ⟨gb258, 1, none⟩ = some (.int .i64 a0_1) := (blk_cell BK258.out 1).trans rfl; have hfz18_0 := blk_frozen BK258.out 0; have hfz18_1 := blk_frozen BK258.out 1; have hcz19_0 : w16.cell? ⟨gb259, 0, none⟩ = some (.int .i64 a1_0) := (blk_cell BK259.out 0).trans rfl; have hcz19_1 : w16.cell? ⟨gb259, 1, none⟩ = some (.int .i64 a1_1) := (blk_cell BK259.out 1).trans rfl; have hfz19_0 := blk_frozen BK259.out 0; have hfz19_1 := blk_frozen BK259.out 1))
    go_ret
    exact ⟨by first | rfl | (simp [errW_none, errW_some] <;> rfl) | (simp [*, errW_none, errW_some] <;> rfl), by repeat (first | (with_reducible first | exact HB.out | apply below_alloc | apply pw_below_drewN | apply below_drew1 | refine below_set ?_ GE258.out | refine below_set ?_ GE259.out) | exact HB.out)⟩

end Go.Proofs.Ytfmlhpoaipeoeaa.QFnExactVipFor
