-- MADE BY PROGRAM (qprint.py): walks of the functions that the law FnExactDeltaOf reaches. Lean checks it.
import Derived.Test.YtfmlhpoaipeoeaaQFnExactDeltaOfx0
import Derived.Test.YtfmlhpoaipeoeaaQFnExactDeltaOfx1
import Derived.Test.YtfmlhpoaipeoeaaQFnExactDeltaOfx3
import Derived.Test.YtfmlhpoaipeoeaaQFnExactDeltaOfx4
import Derived.Test.YtfmlhpoaipeoeaaQFnExactDeltaOfx5
import Derived.Test.YtfmlhpoaipeoeaaIx
import Derived.StillTailTactics
import Derived.Laws.StructEq
import Derived.Test.YtfmlhpoaipeoeaaShelf
import Derived.Test.YtfmlhpoaipeoeaaQFnExactDeltaOfx2
namespace Go.Proofs.Ytfmlhpoaipeoeaa.QFnExactDeltaOf
open Go.RowKit Go.Proofs.YtfmlhpoaipeoeaaW.PrintWords Go.Proofs.YtfmlhpoaipeoeaaW.PrintLast Go.Proofs.YtfmlhpoaipeoeaaW.PrintMore
attribute [local go_sem] max2_int min2_int max_two min_two max_three min_three max_four min_four   -- for this text's walks alone
set_option linter.unusedVariables false
set_option linter.unusedSimpArgs false

attribute [local go_sem high] eqA36
/-! ### cmp_Compare_int64: function 108 -/
def cmp_Compare_int64.f (a0 : Int) (a1 : Int) : Option (Int) := (cmp_isNaN_int64.f a0).bind fun t200 => ((cmp_isNaN_int64.f a1).bind fun t201 => (if t200 = true then (if t201 = true then (some 0) else (some (-1))) else (if t201 = true then (some 1) else (if a0 < a1 then (some (-1)) else (if a0 > a1 then (some 1) else (some 0))))))
set_option maxHeartbeats 8000000 in
set_option maxRecDepth 100000 in
theorem cmp_Compare_int64.calls (a0 : Int) (a1 : Int) (r : Int) (w : World) (h : cmp_Compare_int64.f a0 a1 = some r) :
  Calls Try.prog 108 #[.int .i64 a0, .int .i64 a1] w fun e w' => e = .returned (.int .i64 r) ∧ Drawn0 w w' := by
 have H : ((cmp_isNaN_int64.f a0).bind fun t200 => ((cmp_isNaN_int64.f a1).bind fun t201 => (if t200 = true then (if t201 = true then (some 0) else (some (-1))) else (if t201 = true then (some 1) else (if a0 < a1 then (some (-1)) else (if a0 > a1 then (some 1) else (some 0))))))) = some r := h
 clear h
 replace H := Option.bind_eq_some_iff.mp H
 obtain ⟨t200, A30, H⟩ := H
 replace H : ((cmp_isNaN_int64.f a1).bind fun t201 => (if t200 = true then (if t201 = true then (some 0) else (some (-1))) else (if t201 = true then (some 1) else (if a0 < a1 then (some (-1)) else (if a0 > a1 then (some 1) else (some 0)))))) = some r := H
 have A3 := Aside0.mk A30
 clear A30
 replace H := Option.bind_eq_some_iff.mp H
 obtain ⟨t201, A40, H⟩ := H
 replace H : (if t200 = true then (if t201 = true then (some 0) else (some (-1))) else (if t201 = true then (some 1) else (if a0 < a1 then (some (-1)) else (if a0 > a1 then (some 1) else (some 0))))) = some r := H
 have A4 := Aside0.mk A40
 clear A40
 by_cases c5 : t200 = true
 ·subst c5
  have H1 : (if t201 = true then (some 0) else (some (-1))) = some r := by rw [if_pos rfl] at H; exact H
  clear H
  have H := H1
  clear H1
  by_cases c6 : t201 = true
  ·subst c6
   have H1 : (some 0) = some r := by rw [if_pos rfl] at H; exact H
   clear H
   have H := H1
   clear H1
   obtain rfl := Option.some.inj H
   go_enter Try.func108, Try.ntmps108
   go_wp2_with (first | ((with_reducible refine gate_callee (f := 137) rfl ?_); refine goesL_ (some 8) rfl rfl Try.func137 (by kernel_rfl) rfl #[.int .i64 a0] rfl (by (try simp only [List.map_toArray, List.map_cons, List.map_nil]); first | done | rfl | (simp only [List.length_drop, List.length_take]; rfl)) ?_; (with_reducible refine (cmp_isNaN_int64.calls a0 true _ A3.out).mono ?_); rintro e w' ⟨rfl, ⟨nd, rfl⟩⟩; refine ⟨_, rfl, ?_⟩) | ((with_reducible refine gate_callee (f := 137) rfl ?_); refine goesL_ (some 10) rfl rfl Try.func137 (by kernel_rfl) rfl #[.int .i64 a1] rfl (by (try simp only [List.map_toArray, List.map_cons, List.map_nil]); first | done | rfl | (simp only [List.length_drop, List.length_take]; rfl)) ?_; (with_reducible refine (cmp_isNaN_int64.calls a1 true _ A4.out).mono ?_); rintro e w' ⟨rfl, ⟨nd, rfl⟩⟩; refine ⟨_, rfl, ?_⟩))
   go_ret
   exact ⟨by first | rfl | (simp; done) | (simp [*]; done), by repeat (first | exact Drawn0.refl _ | apply Drawn0.step)⟩
  ·replace c6 := Bool.eq_false_iff.mpr c6
   subst c6
   have H1 : (some (-1)) = some r := by rw [if_neg (show ¬ (false = true) by decide)] at H; exact H
   clear H
   have H := H1
   clear H1
   obtain rfl := Option.some.inj H
   go_enter Try.func108, Try.ntmps108
   go_wp2_with (first | ((with_reducible refine gate_callee (f := 137) rfl ?_); refine goesL_ (some 8) rfl rfl Try.func137 (by kernel_rfl) rfl #[.int .i64 a0] rfl (by (try simp only [List.map_toArray, List.map_cons, List.map_nil]); first | done | rfl | (simp only [List.length_drop, List.length_take]; rfl)) ?_; (with_reducible refine (cmp_isNaN_int64.calls a0 true _ A3.out).mono ?_); rintro e w' ⟨rfl, ⟨nd, rfl⟩⟩; refine ⟨_, rfl, ?_⟩) | ((with_reducible refine gate_callee (f := 137) rfl ?_); refine goesL_ (some 10) rfl rfl Try.func137 (by kernel_rfl) rfl #[.int .i64 a1] rfl (by (try simp only [List.map_toArray, List.map_cons, List.map_nil]); first | done | rfl | (simp only [List.length_drop, List.length_take]; rfl)) ?_; (with_reducible refine (cmp_isNaN_int64.calls a1 false _ A4.out).mono ?_); rintro e w' ⟨rfl, ⟨nd, rfl⟩⟩; refine ⟨_, rfl, ?_⟩))
   go_ret
   exact ⟨by first | rfl | (simp; done) | (simp [*]; done), by repeat (first | exact Drawn0.refl _ | apply Drawn0.step)⟩
 ·replace c5 := Bool.eq_false_iff.mpr c5
  subst c5
  have H1 : (if t201 = true then (some 1) else (if a0 < a1 then (some (-1)) else (if a0 > a1 then (some 1) else (some 0)))) = some r := by rw [if_neg (show ¬ (false = true) by decide)] at H; exact H
  clear H
  have H := H1
  clear H1
  by_cases c7 : t201 = true
  ·subst c7
   have H1 : (some 1) = some r := by rw [if_pos rfl] at H; exact H
   clear H
   have H := H1
   clear H1
   obtain rfl := Option.some.inj H
   go_enter Try.func108, Try.ntmps108
   go_wp2_with (first | ((with_reducible refine gate_callee (f := 137) rfl ?_); refine goesL_ (some 8) rfl rfl Try.func137 (by kernel_rfl) rfl #[.int .i64 a0] rfl (by (try simp only [List.map_toArray, List.map_cons, List.map_nil]); first | done | rfl | (simp only [List.length_drop, List.length_take]; rfl)) ?_; (with_reducible refine (cmp_isNaN_int64.calls a0 false _ A3.out).mono ?_); rintro e w' ⟨rfl, ⟨nd, rfl⟩⟩; refine ⟨_, rfl, ?_⟩) | ((with_reducible refine gate_callee (f := 137) rfl ?_); refine goesL_ (some 10) rfl rfl Try.func137 (by kernel_rfl) rfl #[.int .i64 a1] rfl (by (try simp only [List.map_toArray, List.map_cons, List.map_nil]); first | done | rfl | (simp only [List.length_drop, List.length_take]; rfl)) ?_; (with_reducible refine (cmp_isNaN_int64.calls a1 true _ A4.out).mono ?_); rintro e w' ⟨rfl, ⟨nd, rfl⟩⟩; refine ⟨_, rfl, ?_⟩))
   go_ret
   exact ⟨by first | rfl | (simp; done) | (simp [*]; done), by repeat (first | exact Drawn0.refl _ | apply Drawn0.step)⟩
  ·replace c7 := Bool.eq_false_iff.mpr c7
   subst c7
   have H1 : (if a0 < a1 then (some (-1)) else (if a0 > a1 then (some 1) else (some 0))) = some r := by rw [if_neg (show ¬ (false = true) by decide)] at H; exact H
   clear H
   have H := H1
   clear H1
   by_cases c8 : a0 < a1
   ·rw [if_pos c8] at H
    have c8b0 : decide (a0 < a1) = true := decide_eq_true c8
    clear c8
    obtain rfl := Option.some.inj H
    go_enter Try.func108, Try.ntmps108
    go_wp2_with (first | ((with_reducible refine gate_callee (f := 137) rfl ?_); refine goesL_ (some 8) rfl rfl Try.func137 (by kernel_rfl) rfl #[.int .i64 a0] rfl (by (try simp only [List.map_toArray, List.map_cons, List.map_nil]); first | done | rfl | (simp only [List.length_drop, List.length_take]; rfl)) ?_; (with_reducible refine (cmp_isNaN_int64.calls a0 false _ A3.out).mono ?_); rintro e w' ⟨rfl, ⟨nd, rfl⟩⟩; refine ⟨_, rfl, ?_⟩) | ((with_reducible refine gate_callee (f := 137) rfl ?_); refine goesL_ (some 10) rfl rfl Try.func137 (by kernel_rfl) rfl #[.int .i64 a1] rfl (by (try simp only [List.map_toArray, List.map_cons, List.map_nil]); first | done | rfl | (simp only [List.length_drop, List.length_take]; rfl)) ?_; (with_reducible refine (cmp_isNaN_int64.calls a1 false _ A4.out).mono ?_); rintro e w' ⟨rfl, ⟨nd, rfl⟩⟩; refine ⟨_, rfl, ?_⟩))
    go_ret
    exact ⟨by first | rfl | (simp; done) | (simp [*]; done), by repeat (first | exact Drawn0.refl _ | apply Drawn0.step)⟩
   ·rw [if_neg c8] at H
    have c8b0 : decide (a0 < a1) = false := decide_eq_false c8
    clear c8
    by_cases c9 : a0 > a1
    ·rw [if_pos c9] at H
     have c9b0 : decide (a1 < a0) = true := decide_eq_true c9
     clear c9
     obtain rfl := Option.some.inj H
     go_enter Try.func108, Try.ntmps108
     go_wp2_with (first | ((with_reducible refine gate_callee (f := 137) rfl ?_); refine goesL_ (some 8) rfl rfl Try.func137 (by kernel_rfl) rfl #[.int .i64 a0] rfl (by (try simp only [List.map_toArray, List.map_cons, List.map_nil]); first | done | rfl | (simp only [List.length_drop, List.length_take]; rfl)) ?_; (with_reducible refine (cmp_isNaN_int64.calls a0 false _ A3.out).mono ?_); rintro e w' ⟨rfl, ⟨nd, rfl⟩⟩; refine ⟨_, rfl, ?_⟩) | ((with_reducible refine gate_callee (f := 137) rfl ?_); refine goesL_ (some 10) rfl rfl Try.func137 (by kernel_rfl) rfl #[.int .i64 a1] rfl (by (try simp only [List.map_toArray, List.map_cons, List.map_nil]); first | done | rfl | (simp only [List.length_drop, List.length_take]; rfl)) ?_; (with_reducible refine (cmp_isNaN_int64.calls a1 false _ A4.out).mono ?_); rintro e w' ⟨rfl, ⟨nd, rfl⟩⟩; refine ⟨_, rfl, ?_⟩))
     go_ret
     exact ⟨by first | rfl | (simp; done) | (simp [*]; done), by repeat (first | exact Drawn0.refl _ | apply Drawn0.step)⟩
    ·rw [if_neg c9] at H
     have c9b0 : decide (a1 < a0) = false := decide_eq_false c9
     clear c9
     obtain rfl := Option.some.inj H
     go_enter Try.func108, Try.ntmps108
     go_wp2_with (first | ((with_reducible refine gate_callee (f := 137) rfl ?_); refine goesL_ (some 8) rfl rfl Try.func137 (by kernel_rfl) rfl #[.int .i64 a0] rfl (by (try simp only [List.map_toArray, List.map_cons, List.map_nil]); first | done | rfl | (simp only [List.length_drop, List.length_take]; rfl)) ?_; (with_reducible refine (cmp_isNaN_int64.calls a0 false _ A3.out).mono ?_); rintro e w' ⟨rfl, ⟨nd, rfl⟩⟩; refine ⟨_, rfl, ?_⟩) | ((with_reducible refine gate_callee (f := 137) rfl ?_); refine goesL_ (some 10) rfl rfl Try.func137 (by kernel_rfl) rfl #[.int .i64 a1] rfl (by (try simp only [List.map_toArray, List.map_cons, List.map_nil]); first | done | rfl | (simp only [List.length_drop, List.length_take]; rfl)) ?_; (with_reducible refine (cmp_isNaN_int64.calls a1 false _ A4.out).mono ?_); rintro e w' ⟨rfl, ⟨nd, rfl⟩⟩; refine ⟨_, rfl, ?_⟩))
     go_ret
     exact ⟨by first | rfl | (simp; done) | (simp [*]; done), by repeat (first | exact Drawn0.refl _ | apply Drawn0.step)⟩

/-! ### impl_compareVip: function 58 -/
def impl_compareVip.f (k : Nat) (a0_0 : Int) (a0_1 : Int) (a0_2 : Int) (l0_3 : List Int) (a1_0 : Int) (a1_1 : Int) (a1_2 : Int) (l1_3 : List Int) : Option (Int) := (cmp_Compare_int64.f a0_0 a1_0).bind fun t204 => ((cmp_Compare_int64.f a0_1 a1_1).bind fun t205 => ((cmp_Compare_int64.f a0_2 a1_2).bind fun t206 => ((cmp_Or_int.f k (([t204, t205, t206] : List Int))).bind fun t210 => (some t210))))
theorem impl_compareVip.mono : ∀ a0 a1 a2 a3 a4 a5 a6 a7 k, LeO (impl_compareVip.f k a0 a1 a2 a3 a4 a5 a6 a7) (impl_compareVip.f (k + 1) a0 a1 a2 a3 a4 a5 a6 a7) := by
 intro a0 a1 a2 a3 a4 a5 a6 a7 k
 unfold impl_compareVip.f
 repeat' first
   | (with_reducible exact cmp_Or_int.mono _ _)
   | (with_reducible exact LeO.refl _)
   | (with_reducible exact LeO.none _)
   | (with_reducible refine LeO.ite ?_ ?_)
   | (with_reducible refine LeO.bind ?_ (fun _ => ?_))
   | exact cmp_Or_int.mono _ _
   | exact LeO.none _
   | refine LeO.ite ?_ ?_
   | refine LeO.bind ?_ (fun _ => ?_)
def impl_compareVip.T1 : Bool × List (List Nat × List Nat) := (true, [([], []), ([0], [0]), ([], []), ([2], [2]), ([1, 3], [1, 3]), ([], []), ([5], [5]), ([], []), ([7], [7]), ([6, 8, 4], [6, 8]), ([], []), ([10], [10]), ([], []), ([12], [12]), ([11, 13, 9], [11, 13]), ([4, 9, 14], [4, 9, 14]), ([15, 14], [15]), ([16, 16, 0, 1, 2, 3, 4, 5, 6, 7, 8, 9, 10, 11, 12, 13, 14, 15, 16], [16])])
def impl_compareVip.B1 : List Nat := [0, 1, 0, 4, 15, 0, 32, 0, 128, 511, 0, 1024, 0, 4096, 16383, 32767, 65535, 131071]
theorem impl_compareVip.tab1 : rtab .any (opsOf Try.f58 1) = impl_compareVip.T1 := by kernel_rfl
theorem impl_compareVip.bits1 : waitsOk impl_compareVip.T1.2 impl_compareVip.B1 = true := by kernel_rfl
set_option maxHeartbeats 8000000 in
set_option maxRecDepth 100000 in
theorem impl_compareVip.calls (k : Nat) (a0_0 : Int) (a0_1 : Int) (a0_2 : Int) (A0_3 : Option Addr) (c0_3 : Nat) (l0_3 : List Int) (a1_0 : Int) (a1_1 : Int) (a1_2 : Int) (A1_3 : Option Addr) (c1_3 : Nat) (l1_3 : List Int) (r : Int) (w : World) (hr0_3 : Kd.C (Kd.int .i64) w A0_3 l0_3.length l0_3) (hc0_3 : l0_3.length ≤ c0_3) (hr1_3 : Kd.C (Kd.int .i64) w A1_3 l1_3.length l1_3) (hc1_3 : l1_3.length ≤ c1_3) (h : impl_compareVip.f k a0_0 a0_1 a0_2 l0_3 a1_0 a1_1 a1_2 l1_3 = some r) :
  Calls Try.prog 58 #[.agg #[.int .i64 a0_0, .int .i64 a0_1, .int .i64 a0_2, .slice A0_3 l0_3.length c0_3], .agg #[.int .i64 a1_0, .int .i64 a1_1, .int .i64 a1_2, .slice A1_3 l1_3.length c1_3]] w fun e w' => e = .returned (.int .i64 r) ∧ Below w.heap.size w w' := by
 have hu64 := Try.underlying64
 have HR0_3 := Aside0.mk hr0_3
 have HC0_3 := Aside0.mk hc0_3
 clear hr0_3 hc0_3
 have HR1_3 := Aside0.mk hr1_3
 have HC1_3 := Aside0.mk hc1_3
 clear hr1_3 hc1_3
 have HB := Aside0.mk (Below.refl w.heap.size w)
 have H : ((cmp_Compare_int64.f a0_0 a1_0).bind fun t204 => ((cmp_Compare_int64.f a0_1 a1_1).bind fun t205 => ((cmp_Compare_int64.f a0_2 a1_2).bind fun t206 => ((cmp_Or_int.f k (([t204, t205, t206] : List Int))).bind fun t210 => (some t210))))) = some r := h
 clear h
 replace H := Option.bind_eq_some_iff.mp H
 obtain ⟨t204, A30, H⟩ := H
 replace H : ((cmp_Compare_int64.f a0_1 a1_1).bind fun t205 => ((cmp_Compare_int64.f a0_2 a1_2).bind fun t206 => ((cmp_Or_int.f k (([t204, t205, t206] : List Int))).bind fun t210 => (some t210)))) = some r := H
 have A3 := Aside0.mk A30
 clear A30
 replace H := Option.bind_eq_some_iff.mp H
 obtain ⟨t205, A40, H⟩ := H
 replace H : ((cmp_Compare_int64.f a0_2 a1_2).bind fun t206 => ((cmp_Or_int.f k (([t204, t205, t206] : List Int))).bind fun t210 => (some t210))) = some r := H
 have A4 := Aside0.mk A40
 clear A40
 replace H := Option.bind_eq_some_iff.mp H
 obtain ⟨t206, A50, H⟩ := H
 replace H : ((cmp_Or_int.f k (([t204, t205, t206] : List Int))).bind fun t210 => (some t210)) = some r := H
 have A5 := Aside0.mk A50
 clear A50
 obtain ⟨y207, hy207⟩ : ∃ y_ : List Int, y_ = (([t204, t205, t206] : List Int)) := ⟨_, rfl⟩
 replace H : ((cmp_Or_int.f k y207).bind fun t210 => (some t210)) = some r := by first | (rw [hy207]; with_reducible exact H) | (have H2_ := (Option.bind_some _ _).symm.trans H; rw [hy207]; with_reducible exact H2_) | (have H2_ := (Option.bind_some _ _).symm.trans H; with_reducible exact H2_) | with_reducible exact H | (rw [hy207]; exact H) | exact H
 have Ny207 := Aside0.mk hy207
 clear hy207
 replace H := Option.bind_eq_some_iff.mp H
 obtain ⟨t210, A60, H⟩ := H
 replace H : (some t210) = some r := H
 have A6 := Aside0.mk A60
 clear A60
 obtain rfl := Option.some.inj H
 go_enter Try.func58, Try.ntmps58
 try go_wp2_with (first | ((with_reducible refine gate_dst (N := 2) rfl ?_); refine box_event ?hg (N := 2) ?hd (cs := #[.int .i64 a0_0, .int .i64 a0_1, .int .i64 a0_2, .slice A0_3 l0_3.length c0_3]) (t := 64) ?hr ?_; (case hd => rfl); (case hg => rfl); (case hr => first | (go_simp; done) | (go_simp; rfl)); intro gb202 hg w7 hbox hb; have n0_ := Aside0.mk (below_step (by repeat (first | (with_reducible first | exact HB.out | apply below_alloc | apply pw_below_drewN | apply below_drew1) | exact HB.out)) hb); have n1_ := Aside0.mk (hbox); have n2_ := Aside0.mk ((by rw [hg]; exact (below_size (by repeat (first | (with_reducible first | exact HB.out | apply below_alloc | apply pw_below_drewN | apply below_drew1) | exact HB.out))) : w.heap.size ≤ gb202)); have n3_ := Aside0.mk ((by rw [hg]; exact (below_size (by repeat (first | (with_reducible first | exact HB.out | apply below_alloc | apply pw_below_drewN | apply below_drew1) | exact HB.out))) : w.heap.size ≤ gb202)); clear HB; have HB := n0_; have BK202 := n1_; have GW202 := n2_; have GE202 := n3_; clear n0_ n1_ n2_ n3_; clear hb hbox hg) | ((with_reducible refine gate_dst (N := 3) rfl ?_); refine box_event ?hg (N := 3) ?hd (cs := #[.int .i64 a1_0, .int .i64 a1_1, .int .i64 a1_2, .slice A1_3 l1_3.length c1_3]) (t := 64) ?hr ?_; (case hd => rfl); (case hg => rfl); (case hr => first | (go_simp; done) | (go_simp; rfl)); intro gb203 hg w8 hbox hb; have n0_ := Aside0.mk (blk_below (g := gb202) (o := .cells #[.int .i64 a0_0, .int .i64 a0_1, .int .i64 a0_2, .slice A0_3 l0_3.length c0_3] 64 (0, 0)) (by (with_reducible repeat (first | refine blk_drewN ?_ _ | refine blk_drew ?_ | refine blk_alloc ?_ _)); exact BK202.out) hb); have n1_ := Aside0.mk (below_step (by repeat (first | (with_reducible first | exact HB.out | apply below_alloc | apply pw_below_drewN | apply below_drew1 | refine below_set ?_ GE202.out) | exact HB.out)) hb); have n2_ := Aside0.mk (hbox); have n3_ := Aside0.mk ((by rw [hg]; exact (below_size (by repeat (first | (with_reducible first | exact HB.out | apply below_alloc | apply pw_below_drewN | apply below_drew1 | refine below_set ?_ GE202.out) | exact HB.out))) : w.heap.size ≤ gb203)); have n4_ := Aside0.mk ((by rw [hg]; exact (below_size (by repeat (first | (with_reducible first | exact HB.out | apply below_alloc | apply pw_below_drewN | apply below_drew1 | refine below_set ?_ GE202.out) | exact HB.out))) : w.heap.size ≤ gb203)); have n5_ := Aside0.mk ((by rw [hg]; exact Nat.ne_of_lt (blk_lt (g := gb202) (o := .cells #[.int .i64 a0_0, .int .i64 a0_1, .int .i64 a0_2, .slice A0_3 l0_3.length c0_3] 64 (0, 0)) (by (with_reducible repeat (first | refine blk_drewN ?_ _ | refine blk_drew ?_ | refine blk_alloc ?_ _)); exact BK202.out)) : gb202 ≠ gb203)); have n6_ := Aside0.mk ((by rw [hg]; exact Nat.ne_of_gt (blk_lt (g := gb202) (o := .cells #[.int .i64 a0_0, .int .i64 a0_1, .int .i64 a0_2, .slice A0_3 l0_3.length c0_3] 64 (0, 0)) (by (with_reducible repeat (first | refine blk_drewN ?_ _ | refine blk_drew ?_ | refine blk_alloc ?_ _)); exact BK202.out)) : gb203 ≠ gb202)); clear BK202; clear HB; have BK202 := n0_; have HB := n1_; have BK203 := n2_; have GW203 := n3_; have GE203 := n4_; have NB202_203 := n5_; have NB203_202 := n6_; clear n0_ n1_ n2_ n3_ n4_ n5_ n6_; clear hb hbox hg))
 have n0_ := Aside0.mk (blk_drew BK202.out)
 have n1_ := Aside0.mk (blk_drew BK203.out)
 have n2_ := Aside0.mk (below_drew1 HB.out)
 clear BK202
 clear BK203
 clear HB
 have BK202 := n0_
 have BK203 := n1_
 have HB := n2_
 clear n0_ n1_ n2_
 refine start_ (n := 18) (S := fun w' => w'.cell? ⟨gb202, 0, none⟩ = some (.int .i64 a0_0) ∧ w'.cell? ⟨gb202, 1, none⟩ = some (.int .i64 a0_1) ∧ w'.cell? ⟨gb202, 2, none⟩ = some (.int .i64 a0_2) ∧ w'.cell? ⟨gb202, 3, none⟩ = some (.slice A0_3 l0_3.length c0_3) ∧ w'.cell? ⟨gb203, 0, none⟩ = some (.int .i64 a1_0) ∧ w'.cell? ⟨gb203, 1, none⟩ = some (.int .i64 a1_1) ∧ w'.cell? ⟨gb203, 2, none⟩ = some (.int .i64 a1_2) ∧ w'.cell? ⟨gb203, 3, none⟩ = some (.slice A1_3 l1_3.length c1_3)) (ds := []) #[false, false, false, false, false, false, false, false, false, false, false, false, false, false, false, false, false, false] (by kernel_rfl) rfl rfl ⟨(blk_cell BK202.out 0).trans rfl, (blk_cell BK202.out 1).trans rfl, (blk_cell BK202.out 2).trans rfl, (blk_cell BK202.out 3).trans rfl, (blk_cell BK203.out 0).trans rfl, (blk_cell BK203.out 1).trans rfl, (blk_cell BK203.out 2).trans rfl, (blk_cell BK203.out 3).trans rfl⟩ (fun hHeld => ?_); refine with_tabW impl_compareVip.tab1 impl_compareVip.bits1 (fun HT_ HW_ => ?_)
 generalize w8.drew = w9 at BK202 BK203 HB hHeld ⊢
 refine pure_ (i := 0) (N := some 5) (v := ?_) (a' := ?_) #[true, false, false, false, false, false, false, false, false, false, false, false, false, false, false, false, false, false] rfl rfl (any_of HT_.out (by kernel_rfl)) (fun _ _ _ h => h) (Or.inl ⟨by rfl, ?_⟩) ?_ ?_
 rotate_left
 ·intro w'
  first | (go_simp; with_reducible rfl) | (go_simp; (try unfold Instr.field); go_simp; (try simp only [asAgg]); go_simp; with_reducible rfl)
 rotate_left
 ·simp only [Act.put, List.setIfInBounds_toArray, List.set_cons_zero, List.set_cons_succ, i64_w, i32_w]
  rfl
 refine pure_ (i := 2) (N := some 7) (v := ?_) (a' := ?_) #[true, false, true, false, false, false, false, false, false, false, false, false, false, false, false, false, false, false] rfl rfl (any_of HT_.out (by kernel_rfl)) (fun _ _ _ h => h) (Or.inl ⟨by rfl, ?_⟩) ?_ ?_
 rotate_left
 ·intro w'
  first | (go_simp; with_reducible rfl) | (go_simp; (try unfold Instr.field); go_simp; (try simp only [asAgg]); go_simp; with_reducible rfl)
 rotate_left
 ·simp only [Act.put, List.setIfInBounds_toArray, List.set_cons_zero, List.set_cons_succ, i64_w, i32_w]
  rfl
 refine pure_ (i := 5) (N := some 10) (v := ?_) (a' := ?_) #[true, false, true, false, false, true, false, false, false, false, false, false, false, false, false, false, false, false] rfl rfl (any_of HT_.out (by kernel_rfl)) (fun _ _ _ h => h) (Or.inl ⟨by rfl, ?_⟩) ?_ ?_
 rotate_left
 ·intro w'
  first | (go_simp; with_reducible rfl) | (go_simp; (try unfold Instr.field); go_simp; (try simp only [asAgg]); go_simp; with_reducible rfl)
 rotate_left
 ·simp only [Act.put, List.setIfInBounds_toArray, List.set_cons_zero, List.set_cons_succ, i64_w, i32_w]
  rfl
 refine pure_ (i := 7) (N := some 12) (v := ?_) (a' := ?_) #[true, false, true, false, false, true, false, true, false, false, false, false, false, false, false, false, false, false] rfl rfl (any_of HT_.out (by kernel_rfl)) (fun _ _ _ h => h) (Or.inl ⟨by rfl, ?_⟩) ?_ ?_
 rotate_left
 ·intro w'
  first | (go_simp; with_reducible rfl) | (go_simp; (try unfold Instr.field); go_simp; (try simp only [asAgg]); go_simp; with_reducible rfl)
 rotate_left
 ·simp only [Act.put, List.setIfInBounds_toArray, List.set_cons_zero, List.set_cons_succ, i64_w, i32_w]
  rfl
 refine pure_ (i := 10) (N := some 15) (v := ?_) (a' := ?_) #[true, false, true, false, false, true, false, true, false, false, true, false, false, false, false, false, false, false] rfl rfl (any_of HT_.out (by kernel_rfl)) (fun _ _ _ h => h) (Or.inl ⟨by rfl, ?_⟩) ?_ ?_
 rotate_left
 ·intro w'
  first | (go_simp; with_reducible rfl) | (go_simp; (try unfold Instr.field); go_simp; (try simp only [asAgg]); go_simp; with_reducible rfl)
 rotate_left
 ·simp only [Act.put, List.setIfInBounds_toArray, List.set_cons_zero, List.set_cons_succ, i64_w, i32_w]
  rfl
 refine pure_ (i := 12) (N := some 17) (v := ?_) (a' := ?_) #[true, false, true, false, false, true, false, true, false, false, true, false, true, false, false, false, false, false] rfl rfl (any_of HT_.out (by kernel_rfl)) (fun _ _ _ h => h) (Or.inl ⟨by rfl, ?_⟩) ?_ ?_
 rotate_left
 ·intro w'
  first | (go_simp; with_reducible rfl) | (go_simp; (try unfold Instr.field); go_simp; (try simp only [asAgg]); go_simp; with_reducible rfl)
 rotate_left
 ·simp only [Act.put, List.setIfInBounds_toArray, List.set_cons_zero, List.set_cons_succ, i64_w, i32_w]
  rfl
 refine take_ (i := 1) (N := some 6) (v := ?_) (a' := ?_) #[true, true, true, false, false, true, false, true, false, false, true, false, true, false, false, false, false, false] rfl rfl (take_ofW HT_.out HW_.out (by kernel_rfl)) (fun _ _ _ h => h) (Or.inl ⟨by rfl, ?_⟩) hHeld ?_ ?_
 rotate_left
 ·rintro w' ⟨s0, s1, s2, s3, s4, s5, s6, s7⟩
  go_simp
  with_reducible rfl
 rotate_left
 ·simp only [Act.put, List.setIfInBounds_toArray, List.set_cons_zero, List.set_cons_succ, i64_w, i32_w]
  rfl
 refine take_ (i := 3) (N := some 8) (v := ?_) (a' := ?_) #[true, true, true, true, false, true, false, true, false, false, true, false, true, false, false, false, false, false] rfl rfl (take_ofW HT_.out HW_.out (by kernel_rfl)) (fun _ _ _ h => h) (Or.inl ⟨by rfl, ?_⟩) hHeld ?_ ?_
 rotate_left
 ·rintro w' ⟨s0, s1, s2, s3, s4, s5, s6, s7⟩
  go_simp
  with_reducible rfl
 rotate_left
 ·simp only [Act.put, List.setIfInBounds_toArray, List.set_cons_zero, List.set_cons_succ, i64_w, i32_w]
  rfl
 refine take_ (i := 6) (N := some 11) (v := ?_) (a' := ?_) #[true, true, true, true, false, true, true, true, false, false, true, false, true, false, false, false, false, false] rfl rfl (take_ofW HT_.out HW_.out (by kernel_rfl)) (fun _ _ _ h => h) (Or.inl ⟨by rfl, ?_⟩) hHeld ?_ ?_
 rotate_left
 ·rintro w' ⟨s0, s1, s2, s3, s4, s5, s6, s7⟩
  go_simp
  with_reducible rfl
 rotate_left
 ·simp only [Act.put, List.setIfInBounds_toArray, List.set_cons_zero, List.set_cons_succ, i64_w, i32_w]
  rfl
 refine take_ (i := 8) (N := some 13) (v := ?_) (a' := ?_) #[true, true, true, true, false, true, true, true, true, false, true, false, true, false, false, false, false, false] rfl rfl (take_ofW HT_.out HW_.out (by kernel_rfl)) (fun _ _ _ h => h) (Or.inl ⟨by rfl, ?_⟩) hHeld ?_ ?_
 rotate_left
 ·rintro w' ⟨s0, s1, s2, s3, s4, s5, s6, s7⟩
  go_simp
  with_reducible rfl
 rotate_left
 ·simp only [Act.put, List.setIfInBounds_toArray, List.set_cons_zero, List.set_cons_succ, i64_w, i32_w]
  rfl
 refine take_ (i := 11) (N := some 16) (v := ?_) (a' := ?_) #[true, true, true, true, false, true, true, true, true, false, true, true, true, false, false, false, false, false] rfl rfl (take_ofW HT_.out HW_.out (by kernel_rfl)) (fun _ _ _ h => h) (Or.inl ⟨by rfl, ?_⟩) hHeld ?_ ?_
 rotate_left
 ·rintro w' ⟨s0, s1, s2, s3, s4, s5, s6, s7⟩
  go_simp
  with_reducible rfl
 rotate_left
 ·simp only [Act.put, List.setIfInBounds_toArray, List.set_cons_zero, List.set_cons_succ, i64_w, i32_w]
  rfl
 refine take_ (i := 13) (N := some 18) (v := ?_) (a' := ?_) #[true, true, true, true, false, true, true, true, true, false, true, true, true, true, false, false, false, false] rfl rfl (take_ofW HT_.out HW_.out (by kernel_rfl)) (fun _ _ _ h => h) (Or.inl ⟨by rfl, ?_⟩) hHeld ?_ ?_
 rotate_left
 ·rintro w' ⟨s0, s1, s2, s3, s4, s5, s6, s7⟩
  go_simp
  with_reducible rfl
 rotate_left
 ·simp only [Act.put, List.setIfInBounds_toArray, List.set_cons_zero, List.set_cons_succ, i64_w, i32_w]
  rfl
 refine one_ (i := 4) (N := some 9) #[true, true, true, true, true, true, true, true, true, false, true, true, true, true, false, false, false, false] rfl rfl (one_of HT_.out (by kernel_rfl)) (by decide) (fun K hK => ?_)
 refine goes_ Try.func108 (by kernel_rfl) rfl #[.int .i64 a0_0, .int .i64 a1_0] (by rfl) rfl rfl (by (try simp only [List.map_toArray, List.map_cons, List.map_nil]); first | done | rfl | (simp only [List.length_drop, List.length_take]; rfl)) ?_
 with_reducible refine (cmp_Compare_int64.calls a0_0 a1_0 t204 _ A3.out).mono ?_
 rintro e w' ⟨rfl, ⟨nd, rfl⟩⟩
 refine ⟨_, rfl, ?_⟩
 refine hK.out _ _ ⟨(blk_cell BK202.out 0).trans rfl, (blk_cell BK202.out 1).trans rfl, (blk_cell BK202.out 2).trans rfl, (blk_cell BK202.out 3).trans rfl, (blk_cell BK203.out 0).trans rfl, (blk_cell BK203.out 1).trans rfl, (blk_cell BK203.out 2).trans rfl, (blk_cell BK203.out 3).trans rfl⟩ (fun hHeld => ?_)
 clear hK K
 refine norm_ (a' := ?_) ?_ ?_
 rotate_left
 ·show Act.put _ (some 9) _ = _
  simp only [Act.put, List.setIfInBounds_toArray, List.set_cons_zero, List.set_cons_succ, i64_w, i32_w]
  rfl
 refine one_ (i := 9) (N := some 14) #[true, true, true, true, true, true, true, true, true, true, true, true, true, true, false, false, false, false] rfl rfl (one_of HT_.out (by kernel_rfl)) (by decide) (fun K hK => ?_)
 refine goes_ Try.func108 (by kernel_rfl) rfl #[.int .i64 a0_1, .int .i64 a1_1] (by rfl) rfl rfl (by (try simp only [List.map_toArray, List.map_cons, List.map_nil]); first | done | rfl | (simp only [List.length_drop, List.length_take]; rfl)) ?_
 with_reducible refine (cmp_Compare_int64.calls a0_1 a1_1 t205 _ A4.out).mono ?_
 rintro e w' ⟨rfl, ⟨nd, rfl⟩⟩
 refine ⟨_, rfl, ?_⟩
 refine hK.out _ _ ⟨(blk_cell BK202.out 0).trans rfl, (blk_cell BK202.out 1).trans rfl, (blk_cell BK202.out 2).trans rfl, (blk_cell BK202.out 3).trans rfl, (blk_cell BK203.out 0).trans rfl, (blk_cell BK203.out 1).trans rfl, (blk_cell BK203.out 2).trans rfl, (blk_cell BK203.out 3).trans rfl⟩ (fun hHeld => ?_)
 clear hK K
 refine norm_ (a' := ?_) ?_ ?_
 rotate_left
 ·show Act.put _ (some 14) _ = _
  simp only [Act.put, List.setIfInBounds_toArray, List.set_cons_zero, List.set_cons_succ, i64_w, i32_w]
  rfl
 refine one_ (i := 14) (N := some 19) #[true, true, true, true, true, true, true, true, true, true, true, true, true, true, true, false, false, false] rfl rfl (one_of HT_.out (by kernel_rfl)) (by decide) (fun K hK => ?_)
 refine goes_ Try.func108 (by kernel_rfl) rfl #[.int .i64 a0_2, .int .i64 a1_2] (by rfl) rfl rfl (by (try simp only [List.map_toArray, List.map_cons, List.map_nil]); first | done | rfl | (simp only [List.length_drop, List.length_take]; rfl)) ?_
 with_reducible refine (cmp_Compare_int64.calls a0_2 a1_2 t206 _ A5.out).mono ?_
 rintro e w' ⟨rfl, ⟨nd, rfl⟩⟩
 refine ⟨_, rfl, ?_⟩
 refine hK.out _ _ ⟨(blk_cell BK202.out 0).trans rfl, (blk_cell BK202.out 1).trans rfl, (blk_cell BK202.out 2).trans rfl, (blk_cell BK202.out 3).trans rfl, (blk_cell BK203.out 0).trans rfl, (blk_cell BK203.out 1).trans rfl, (blk_cell BK203.out 2).trans rfl, (blk_cell BK203.out 3).trans rfl⟩ (fun hHeld => ?_)
 clear hK K
 refine norm_ (a' := ?_) ?_ ?_
 rotate_left
 ·show Act.put _ (some 19) _ = _
  simp only [Act.put, List.setIfInBounds_toArray, List.set_cons_zero, List.set_cons_succ, i64_w, i32_w]
  rfl
 refine one_ (i := 15) (N := some 20) #[true, true, true, true, true, true, true, true, true, true, true, true, true, true, true, true, false, false] rfl rfl (one_of HT_.out (by kernel_rfl)) (by decide) (fun K hK => ?_)
 refine Kd.R_lit_step (Kd.int .i64) _ 3 ?hg (N := 20) ?hd (xs := ([t204, t205, t206] : List Int)) (inner := [.int .i64 t204, .int .i64 t205, .int .i64 t206]) (ok := fun _ => True) (okp := fun _ => True) ?hr ?hp (fun _ hk => hk) trivial (Below.refl _ _) (Nat.le_refl _) (by simp) ?_; (case hd => rfl); (case hg => rfl); (case hr => first | (go_simp; done) | (go_simp; rfl)); (case hp => exact (Reps.one (show Kd.M (Kd.int .i64) _ _ _ t204 [.int .i64 t204] from rfl) (Reps.one (show Kd.M (Kd.int .i64) _ _ _ t205 [.int .i64 t205] from rfl) (Reps.one (show Kd.M (Kd.int .i64) _ _ _ t206 [.int .i64 t206] from rfl) (Reps.none _ _)))))
 intro v208 w10 ho11 hb hg_ hnew_
 clear hg_ hnew_
 (first | rw [← Ny207.out] at ho11 | (simp only [Int.reduceToNat] at ho11; rw [← Ny207.out] at ho11))
 have n0_ := Aside0.mk (Kd.R_lower ho11 (below_size (by repeat (first | (with_reducible first | exact HB.out | apply below_alloc | apply pw_below_drewN | apply below_drew1 | refine below_set ?_ GE202.out | refine below_set ?_ GE203.out) | exact HB.out))))
 have n1_ := Aside0.mk (blk_below (g := gb202) (o := .cells #[.int .i64 a0_0, .int .i64 a0_1, .int .i64 a0_2, .slice A0_3 l0_3.length c0_3] 64 (0, 0)) (by (with_reducible repeat (first | refine blk_drewN ?_ _ | refine blk_drew ?_ | refine blk_alloc ?_ _)); exact BK202.out) hb)
 have n2_ := Aside0.mk (blk_below (g := gb203) (o := .cells #[.int .i64 a1_0, .int .i64 a1_1, .int .i64 a1_2, .slice A1_3 l1_3.length c1_3] 64 (0, 0)) (by (with_reducible repeat (first | refine blk_drewN ?_ _ | refine blk_drew ?_ | refine blk_alloc ?_ _)); exact BK203.out) hb)
 have n3_ := Aside0.mk (below_step (by repeat (first | (with_reducible first | exact HB.out | apply below_alloc | apply pw_below_drewN | apply below_drew1 | refine below_set ?_ GE202.out | refine below_set ?_ GE203.out) | exact HB.out)) hb)
 clear BK202
 clear BK203
 clear HB
 have HO209 := n0_
 have BK202 := n1_
 have BK203 := n2_
 have HB := n3_
 clear n0_ n1_ n2_ n3_
 clear hb ho11
 obtain ⟨Ao12, co12, eo12⟩ := Kd.R_slice HO209.out
 (first | subst eo12 | (injection eo12 with f1_ f2_ f3_; have f4_ := f1_.symm; have f5_ := f3_.symm; clear f1_ f2_ f3_; subst f4_; subst f5_))
 refine hK.out _ _ ⟨(blk_cell BK202.out 0).trans rfl, (blk_cell BK202.out 1).trans rfl, (blk_cell BK202.out 2).trans rfl, (blk_cell BK202.out 3).trans rfl, (blk_cell BK203.out 0).trans rfl, (blk_cell BK203.out 1).trans rfl, (blk_cell BK203.out 2).trans rfl, (blk_cell BK203.out 3).trans rfl⟩ (fun hHeld => ?_)
 clear hK K
 refine norm_ (a' := ?_) ?_ ?_
 rotate_left
 ·show Act.put _ (some 20) _ = _
  simp only [Act.put, List.setIfInBounds_toArray, List.set_cons_zero, List.set_cons_succ, i64_w, i32_w]
  rfl
 refine one_ (i := 16) (N := some 21) #[true, true, true, true, true, true, true, true, true, true, true, true, true, true, true, true, true, false] rfl rfl (one_of HT_.out (by kernel_rfl)) (by decide) (fun K hK => ?_)
 refine goes_ Try.func107 (by kernel_rfl) rfl #[.slice Ao12 y207.length co12] (by rfl) rfl rfl (by (try simp only [List.map_toArray, List.map_cons, List.map_nil]); first | done | rfl | (simp only [List.length_drop, List.length_take]; rfl)) ?_
 with_reducible refine (cmp_Or_int.calls k _ _ y207 t210 _ ?side1 ?side2 A6.out).mono ?_
 (case side1 => repeat (first | exact (Kd.R_reads' HO209.out).2.2 | (with_reducible refine Kd.C_alloc ?_ _) | (with_reducible refine Kd.C_drewN ?_ _) | (with_reducible refine Kd.C_drew ?_)))
 (case side2 => exact (Kd.R_reads' HO209.out).2.1)
 rintro e w' ⟨rfl, ⟨nd, rfl⟩⟩
 refine ⟨_, rfl, ?_⟩
 refine hK.out _ _ ⟨(blk_cell BK202.out 0).trans rfl, (blk_cell BK202.out 1).trans rfl, (blk_cell BK202.out 2).trans rfl, (blk_cell BK202.out 3).trans rfl, (blk_cell BK203.out 0).trans rfl, (blk_cell BK203.out 1).trans rfl, (blk_cell BK203.out 2).trans rfl, (blk_cell BK203.out 3).trans rfl⟩ (fun hHeld => ?_)
 clear hK K
 refine norm_ (a' := ?_) ?_ ?_
 rotate_left
 ·show Act.put _ (some 21) _ = _
  simp only [Act.put, List.setIfInBounds_toArray, List.set_cons_zero, List.set_cons_succ, i64_w, i32_w]
  rfl
 refine pure_ (i := 17) (N := some 4) (v := ?_) (a' := ?_) #[true, true, true, true, true, true, true, true, true, true, true, true, true, true, true, true, true, true] rfl rfl (any_of HT_.out (by kernel_rfl)) (fun _ _ _ h => h) (Or.inl ⟨by rfl, ?_⟩) ?_ ?_
 rotate_left
 ·intro w'
  first | (go_simp; with_reducible rfl) | (go_simp; (try unfold Instr.field); go_simp; (try simp only [asAgg]); go_simp; with_reducible rfl)
 rotate_left
 ·simp only [Act.put, List.setIfInBounds_toArray, List.set_cons_zero, List.set_cons_succ, i64_w, i32_w]
  rfl
 refine done_ (done_of HT_.out (by kernel_rfl)) ?_
 try go_wp2
 go_ret
 exact ⟨by first | rfl | (simp [errW_none, errW_some] <;> rfl) | (simp [*, errW_none, errW_some] <;> rfl), by repeat (first | (with_reducible first | exact HB.out | apply below_alloc | apply pw_below_drewN | apply below_drew1 | refine below_set ?_ GE202.out | refine below_set ?_ GE203.out) | exact HB.out)⟩

/-! ### impl_Backend_126: function 126 -/
def impl_Backend_126.l0 : Nat → List (S36) → Int → Int → Int → Int → Int → Int → Bool → Option (Int)
 | 0, _, _, _, _, _, _, _, _ => none
 | k + 1, x0, x7, x8, x212000, x212001, x212002, x212003, x212004 => if x8 < x7 then (if 0 ≤ x8 then (if x8 < (x0.length : Int) then (if (x212000 == ((rd_T36 x0 x8).f0) && (x212001 == ((rd_T36 x0 x8).f1) && (x212002 == ((rd_T36 x0 x8).f2) && (x212003 == ((rd_T36 x0 x8).f3) && (x212004 == ((rd_T36 x0 x8).f4)))))) = true then (some x8) else (impl_Backend_126.l0 k x0 x7 (wrap64 (x8 + 1)) x212000 x212001 x212002 x212003 x212004)) else (none)) else (none)) else (some (-1))
def impl_Backend_126.f (k : Nat) (l0 : List (S36)) (a1_0 : Int) (a1_1 : Int) (a1_2 : Int) (a1_3 : Int) (a1_4 : Bool) : Option (Int) := impl_Backend_126.l0 k l0 (l0.length : Int) 0 a1_0 a1_1 a1_2 a1_3 a1_4
theorem impl_Backend_126.mono_l : ∀ k, (∀ y0 y1 y2 y3 y4 y5 y6 y7, LeO (impl_Backend_126.l0 k y0 y1 y2 y3 y4 y5 y6 y7) (impl_Backend_126.l0 (k + 1) y0 y1 y2 y3 y4 y5 y6 y7))
 | 0 => fun _ _ _ _ _ _ _ _ r h => by simp [impl_Backend_126.l0] at h
 | k + 1 => by
  have ih0 := impl_Backend_126.mono_l k
  ·intro y0 y1 y2 y3 y4 y5 y6 y7
   unfold impl_Backend_126.l0
   repeat' first
   | (with_reducible exact ih0 _ _ _ _ _ _ _ _)
   | (with_reducible exact LeO.refl _)
   | (with_reducible exact LeO.none _)
   | (with_reducible refine LeO.ite ?_ ?_)
   | (with_reducible refine LeO.bind ?_ (fun _ => ?_))
   | exact ih0 _ _ _ _ _ _ _ _
   | exact LeO.none _
   | refine LeO.ite ?_ ?_
   | refine LeO.bind ?_ (fun _ => ?_)
theorem impl_Backend_126.mono : ∀ a0 a1 a2 a3 a4 a5 k, LeO (impl_Backend_126.f k a0 a1 a2 a3 a4 a5) (impl_Backend_126.f (k + 1) a0 a1 a2 a3 a4 a5) := by
 intro a0 a1 a2 a3 a4 a5 k
 have ih0 := impl_Backend_126.mono_l k
 unfold impl_Backend_126.f
 repeat' first
   | (with_reducible exact ih0 _ _ _ _ _ _ _ _)
   | (with_reducible exact LeO.refl _)
   | (with_reducible exact LeO.none _)
   | (with_reducible refine LeO.ite ?_ ?_)
   | (with_reducible refine LeO.bind ?_ (fun _ => ?_))
   | exact ih0 _ _ _ _ _ _ _ _
   | exact LeO.none _
   | refine LeO.ite ?_ ?_
   | refine LeO.bind ?_ (fun _ => ?_)
set_option maxHeartbeats 8000000 in
set_option maxRecDepth 100000 in
theorem impl_Backend_126.calls (k : Nat) (A0 : Option Addr) (c0 : Nat) (l0 : List (S36)) (a1_0 : Int) (a1_1 : Int) (a1_2 : Int) (a1_3 : Int) (a1_4 : Bool) (r : Int) (w : World) (hr0 : Kd.C k36 w A0 l0.length l0) (hc0 : l0.length ≤ c0) (h : impl_Backend_126.f k l0 a1_0 a1_1 a1_2 a1_3 a1_4 = some r) :
  Calls Try.prog 126 #[.slice A0 l0.length c0, .agg #[.int .i64 a1_0, .int .i64 a1_1, .int .i64 a1_2, .int .i64 a1_3, .bool a1_4]] w fun e w' => e = .returned (.int .i64 r) ∧ Below w.heap.size w w' := by
 have hu36 := Try.underlying36
 have HR0 := Aside0.mk hr0
 have HC0 := Aside0.mk hc0
 clear hr0 hc0
 have HB := Aside0.mk (Below.refl w.heap.size w)
 have H : (impl_Backend_126.l0 k l0 (l0.length : Int) 0 a1_0 a1_1 a1_2 a1_3 a1_4) = some r := h
 clear h
 have H' := Aside0.mk H
 clear H
 go_enter Try.func126, Try.ntmps126
 go_wp2_with (first | ((with_reducible refine gate_dst (N := 3) rfl ?_); refine box_event ?hg (N := 3) ?hd (cs := #[.int .i64 a1_0, .int .i64 a1_1, .int .i64 a1_2, .int .i64 a1_3, .bool a1_4]) (t := 36) ?hr ?_; (case hd => rfl); (case hg => rfl); (case hr => first | (go_simp; done) | (go_simp; rfl)); intro gb211 hg w3 hbox hb; have n0_ := Aside0.mk (below_step (by repeat (first | (with_reducible first | exact HB.out | apply below_alloc | apply pw_below_drewN | apply below_drew1) | exact HB.out)) hb); have n1_ := Aside0.mk (hbox); have n2_ := Aside0.mk ((by rw [hg]; exact (below_size (by repeat (first | (with_reducible first | exact HB.out | apply below_alloc | apply pw_below_drewN | apply below_drew1) | exact HB.out))) : w.heap.size ≤ gb211)); have n3_ := Aside0.mk ((by rw [hg]; exact (below_size (by repeat (first | (with_reducible first | exact HB.out | apply below_alloc | apply pw_below_drewN | apply below_drew1) | exact HB.out))) : w.heap.size ≤ gb211)); clear HB; have HB := n0_; have BK211 := n1_; have GW211 := n2_; have GE211 := n3_; clear n0_ n1_ n2_ n3_; clear hb hbox hg))
 repeat (go_quiet (first | ((with_reducible refine gate_dst (N := 3) rfl ?_); refine box_event ?hg (N := 3) ?hd (cs := #[.int .i64 a1_0, .int .i64 a1_1, .int .i64 a1_2, .int .i64 a1_3, .bool a1_4]) (t := 36) ?hr ?_; (case hd => rfl); (case hg => rfl); (case hr => first | (go_simp; done) | (go_simp; rfl)); intro gb211 hg w3 hbox hb; have n0_ := Aside0.mk (below_step (by repeat (first | (with_reducible first | exact HB.out | apply below_alloc | apply pw_below_drewN | apply below_drew1) | exact HB.out)) hb); have n1_ := Aside0.mk (hbox); have n2_ := Aside0.mk ((by rw [hg]; exact (below_size (by repeat (first | (with_reducible first | exact HB.out | apply below_alloc | apply pw_below_drewN | apply below_drew1) | exact HB.out))) : w.heap.size ≤ gb211)); have n3_ := Aside0.mk ((by rw [hg]; exact (below_size (by repeat (first | (with_reducible first | exact HB.out | apply below_alloc | apply pw_below_drewN | apply below_drew1) | exact HB.out))) : w.heap.size ≤ gb211)); clear HB; have HB := n0_; have BK211 := n1_; have GW211 := n2_; have GE211 := n3_; clear n0_ n1_ n2_ n3_; clear hb hbox hg)); try go_wp2_with (first | ((with_reducible refine gate_dst (N := 3) rfl ?_); refine box_event ?hg (N := 3) ?hd (cs := #[.int .i64 a1_0, .int .i64 a1_1, .int .i64 a1_2, .int .i64 a1_3, .bool a1_4]) (t := 36) ?hr ?_; (case hd => rfl); (case hg => rfl); (case hr => first | (go_simp; done) | (go_simp; rfl)); intro gb211 hg w3 hbox hb; have n0_ := Aside0.mk (below_step (by repeat (first | (with_reducible first | exact HB.out | apply below_alloc | apply pw_below_drewN | apply below_drew1) | exact HB.out)) hb); have n1_ := Aside0.mk (hbox); have n2_ := Aside0.mk ((by rw [hg]; exact (below_size (by repeat (first | (with_reducible first | exact HB.out | apply below_alloc | apply pw_below_drewN | apply below_drew1) | exact HB.out))) : w.heap.size ≤ gb211)); have n3_ := Aside0.mk ((by rw [hg]; exact (below_size (by repeat (first | (with_reducible first | exact HB.out | apply below_alloc | apply pw_below_drewN | apply below_drew1) | exact HB.out))) : w.heap.size ≤ gb211)); clear HB; have HB := n0_; have BK211 := n1_; have GW211 := n2_; have GE211 := n3_; clear n0_ n1_ n2_ n3_; clear hb hbox hg)))
 go_loopg [8] k (fun kq v8 w' => ∃ (x8_1 : Int), v8 = .int .i64 x8_1 ∧ Aside0 (impl_Backend_126.l0 kq l0 (l0.length : Int) x8_1 a1_0 a1_1 a1_2 a1_3 a1_4 = some r) ∧ Aside0 (kq ≤ k) ∧ Aside0 (w'.heap[gb211]? = some (.cells #[.int .i64 a1_0, .int .i64 a1_1, .int .i64 a1_2, .int .i64 a1_3, .bool a1_4] 36 (0, 0))) ∧ Aside0 (Below w.heap.size w w'))
 case atStart => exact ⟨(0), (by first | rfl | (simp; done) | (simp [*]; done)), H', ⟨Nat.le_refl _⟩, ⟨by (with_reducible repeat (first | refine blk_drewN ?_ _ | refine blk_drew ?_ | refine blk_alloc ?_ _)); exact BK211.out⟩, ⟨by repeat (first | (with_reducible first | exact HB.out | apply below_alloc | apply pw_below_drewN | apply below_drew1 | refine below_set ?_ GE211.out) | exact HB.out)⟩⟩
 case round =>
  clear H'
  try clear c1
  try clear p2
  obtain ⟨x8_1, rfl, HA, HK1, BK211, HB⟩ := hrel
  cases gk with
  | zero => exact absurd HA.out (by simp [impl_Backend_126.l0])
  | succ k1 =>
   have H := HA.out
   clear HA
   simp only [impl_Backend_126.l0] at H
   by_cases c4 : x8_1 < (l0.length : Int)
   ·rw [if_pos c4] at H
    have c4b0 : decide (x8_1 < (l0.length : Int)) = true := decide_eq_true c4
    clear c4
    by_cases c5 : 0 ≤ x8_1
    ·rw [if_pos c5] at H
     have c5b0 : decide (0 ≤ x8_1) = true := decide_eq_true c5
     clear c5
     by_cases c6 : x8_1 < (l0.length : Int)
     ·rw [if_pos c6] at H
      have c6b0 : decide (x8_1 < (l0.length : Int)) = true := decide_eq_true c6
      clear c6
      by_cases c7 : (a1_0 == ((rd_T36 l0 x8_1).f0) && (a1_1 == ((rd_T36 l0 x8_1).f1) && (a1_2 == ((rd_T36 l0 x8_1).f2) && (a1_3 == ((rd_T36 l0 x8_1).f3) && (a1_4 == ((rd_T36 l0 x8_1).f4)))))) = true
      ·rw [if_pos c7] at H
       have c7b0 : (a1_0 == ((rd_T36 l0 x8_1).f0) && (a1_1 == ((rd_T36 l0 x8_1).f1) && (a1_2 == ((rd_T36 l0 x8_1).f2) && (a1_3 == ((rd_T36 l0 x8_1).f3) && (a1_4 == ((rd_T36 l0 x8_1).f4)))))) = true := c7
       (try (have c7b1 : decide (a1_0 = ((rd_T36 l0 x8_1).f0) && (a1_1 == ((rd_T36 l0 x8_1).f1) && (a1_2 == ((rd_T36 l0 x8_1).f2) && (a1_3 == ((rd_T36 l0 x8_1).f3) && (a1_4 == ((rd_T36 l0 x8_1).f4)))))) = true := by simpa using c7))
       (try (have c7b2 : (a1_0 == ((rd_T36 l0 x8_1).f0) && (a1_1 == ((rd_T36 l0 x8_1).f1) && (a1_2 == ((rd_T36 l0 x8_1).f2) && (a1_3 == ((rd_T36 l0 x8_1).f3) && (a1_4 == ((rd_T36 l0 x8_1).f4)))))) = true := by simpa using c7))
       clear c7
       obtain rfl := Option.some.inj H
       have hcz8_0 : wr.cell? ⟨gb211, 0, none⟩ = some (.int .i64 a1_0) := (blk_cell BK211.out 0).trans rfl
       have hcz8_1 : wr.cell? ⟨gb211, 1, none⟩ = some (.int .i64 a1_1) := (blk_cell BK211.out 1).trans rfl
       have hcz8_2 : wr.cell? ⟨gb211, 2, none⟩ = some (.int .i64 a1_2) := (blk_cell BK211.out 2).trans rfl
       have hcz8_3 : wr.cell? ⟨gb211, 3, none⟩ = some (.int .i64 a1_3) := (blk_cell BK211.out 3).trans rfl
       have hcz8_4 : wr.cell? ⟨gb211, 4, none⟩ = some (.bool a1_4) := (blk_cell BK211.out 4).trans rfl
       have hfz8_0 := blk_frozen BK211.out 0
       have hfz8_1 := blk_frozen BK211.out 1
       have hfz8_2 := blk_frozen BK211.out 2
       have hfz8_3 := blk_frozen BK211.out 3
       have hfz8_4 := blk_frozen BK211.out 4
       have p212 : 0 ≤ (x8_1 : Int) := of_decide_eq_true (by first | (with_reducible assumption) | assumption)
       have q212 : x8_1 < (l0.length : Int) := of_decide_eq_true (by first | (with_reducible assumption) | assumption)
       obtain ⟨ad212, e212, hx212_0, hx212_1, hx212_2, hx212_3, hx212_4⟩ := at_T36 HR0.out x8_1 p212 q212
       cases e212
       replace hx212_0 := (HB.out.cell (World.block_lt_of_cell? w _ hx212_0)).trans hx212_0
       replace hx212_1 := (HB.out.cell (World.block_lt_of_cell? w _ hx212_1)).trans hx212_1
       replace hx212_2 := (HB.out.cell (World.block_lt_of_cell? w _ hx212_2)).trans hx212_2
       replace hx212_3 := (HB.out.cell (World.block_lt_of_cell? w _ hx212_3)).trans hx212_3
       replace hx212_4 := (HB.out.cell (World.block_lt_of_cell? w _ hx212_4)).trans hx212_4
       replace p212 := eq_true p212
       replace q212 := eq_true q212
       go_wp2
       repeat (go_quiet (fail); try go_wp2)
       go_ret
       exact ⟨by first | rfl | (simp [errW_none, errW_some] <;> rfl) | (simp [*, errW_none, errW_some] <;> rfl), by repeat (first | (with_reducible first | exact HB.out | apply below_alloc | apply pw_below_drewN | apply below_drew1 | refine below_set ?_ GE211.out) | exact HB.out)⟩
      ·rw [if_neg c7] at H
       have c7b0 : (a1_0 == ((rd_T36 l0 x8_1).f0) && (a1_1 == ((rd_T36 l0 x8_1).f1) && (a1_2 == ((rd_T36 l0 x8_1).f2) && (a1_3 == ((rd_T36 l0 x8_1).f3) && (a1_4 == ((rd_T36 l0 x8_1).f4)))))) = false := by simpa using c7
       (try (have c7b1 : decide (a1_0 = ((rd_T36 l0 x8_1).f0) && (a1_1 == ((rd_T36 l0 x8_1).f1) && (a1_2 == ((rd_T36 l0 x8_1).f2) && (a1_3 == ((rd_T36 l0 x8_1).f3) && (a1_4 == ((rd_T36 l0 x8_1).f4)))))) = false := by simpa using c7))
       (try (have c7b2 : (a1_0 == ((rd_T36 l0 x8_1).f0) && (a1_1 == ((rd_T36 l0 x8_1).f1) && (a1_2 == ((rd_T36 l0 x8_1).f2) && (a1_3 == ((rd_T36 l0 x8_1).f3) && (a1_4 == ((rd_T36 l0 x8_1).f4)))))) = false := by simpa using c7))
       (try (have c7b3 : ¬ (a1_0 = ((rd_T36 l0 x8_1).f0) && (a1_1 == ((rd_T36 l0 x8_1).f1) && (a1_2 == ((rd_T36 l0 x8_1).f2) && (a1_3 == ((rd_T36 l0 x8_1).f3) && (a1_4 == ((rd_T36 l0 x8_1).f4)))))) := by simpa using c7))
       clear c7
       have H' := Aside0.mk H
       clear H
       have hcz9_0 : wr.cell? ⟨gb211, 0, none⟩ = some (.int .i64 a1_0) := (blk_cell BK211.out 0).trans rfl
       have hcz9_1 : wr.cell? ⟨gb211, 1, none⟩ = some (.int .i64 a1_1) := (blk_cell BK211.out 1).trans rfl
       have hcz9_2 : wr.cell? ⟨gb211, 2, none⟩ = some (.int .i64 a1_2) := (blk_cell BK211.out 2).trans rfl
       have hcz9_3 : wr.cell? ⟨gb211, 3, none⟩ = some (.int .i64 a1_3) := (blk_cell BK211.out 3).trans rfl
       have hcz9_4 : wr.cell? ⟨gb211, 4, none⟩ = some (.bool a1_4) := (blk_cell BK211.out 4).trans rfl
       have hfz9_0 := blk_frozen BK211.out 0
       have hfz9_1 := blk_frozen BK211.out 1
       have hfz9_2 := blk_frozen BK211.out 2
       have hfz9_3 := blk_frozen BK211.out 3
       have hfz9_4 := blk_frozen BK211.out 4
       have p212 : 0 ≤ (x8_1 : Int) := of_decide_eq_true (by first | (with_reducible assumption) | assumption)
       have q212 : x8_1 < (l0.length : Int) := of_decide_eq_true (by first | (with_reducible assumption) | assumption)
       obtain ⟨ad212, e212, hx212_0, hx212_1, hx212_2, hx212_3, hx212_4⟩ := at_T36 HR0.out x8_1 p212 q212
       cases e212
       replace hx212_0 := (HB.out.cell (World.block_lt_of_cell? w _ hx212_0)).trans hx212_0
       replace hx212_1 := (HB.out.cell (World.block_lt_of_cell? w _ hx212_1)).trans hx212_1
       replace hx212_2 := (HB.out.cell (World.block_lt_of_cell? w _ hx212_2)).trans hx212_2
       replace hx212_3 := (HB.out.cell (World.block_lt_of_cell? w _ hx212_3)).trans hx212_3
       replace hx212_4 := (HB.out.cell (World.block_lt_of_cell? w _ hx212_4)).trans hx212_4
       replace p212 := eq_true p212
       replace q212 := eq_true q212
       go_wp2
       repeat (go_quiet (fail); try go_wp2)
       go_roundg k1
       case measure => have := HK1.out; omega
       case rel => exact ⟨(wrap64 (x8_1 + 1)), (by first | rfl | (simp; done) | (simp [*]; done)), H', ⟨by have := HK1.out; omega⟩, ⟨by (with_reducible repeat (first | refine blk_drewN ?_ _ | refine blk_drew ?_ | refine blk_alloc ?_ _)); exact BK211.out⟩, ⟨by repeat (first | (with_reducible first | exact HB.out | apply below_alloc | apply pw_below_drewN | apply below_drew1 | refine below_set ?_ GE211.out) | exact HB.out)⟩⟩
     ·rw [if_neg c6] at H
      exact absurd H (by simp)
    ·rw [if_neg c5] at H
     exact absurd H (by simp)
   ·rw [if_neg c4] at H
    have c4b0 : decide (x8_1 < (l0.length : Int)) = false := decide_eq_false c4
    clear c4
    obtain rfl := Option.some.inj H
    go_wp2
    repeat (go_quiet (fail); try go_wp2)
    go_ret
    exact ⟨by first | rfl | (simp [errW_none, errW_some] <;> rfl) | (simp [*, errW_none, errW_some] <;> rfl), by repeat (first | (with_reducible first | exact HB.out | apply below_alloc | apply pw_below_drewN | apply below_drew1 | refine below_set ?_ GE211.out) | exact HB.out)⟩

/-! ### impl_Backend_91: function 91 -/
def impl_Backend_91.f (k : Nat) (l0 : List (S36)) (a1_0 : Int) (a1_1 : Int) (a1_2 : Int) (a1_3 : Int) (a1_4 : Bool) : Option (Bool) := (impl_Backend_126.f k l0 a1_0 a1_1 a1_2 a1_3 a1_4).bind fun t214 => (some (decide (t214 ≥ 0)))
theorem impl_Backend_91.mono : ∀ a0 a1 a2 a3 a4 a5 k, LeO (impl_Backend_91.f k a0 a1 a2 a3 a4 a5) (impl_Backend_91.f (k + 1) a0 a1 a2 a3 a4 a5) := by
 intro a0 a1 a2 a3 a4 a5 k
 unfold impl_Backend_91.f
 repeat' first
   | (with_reducible exact impl_Backend_126.mono _ _ _ _ _ _ _)
   | (with_reducible exact LeO.refl _)
   | (with_reducible exact LeO.none _)
   | (with_reducible refine LeO.ite ?_ ?_)
   | (with_reducible refine LeO.bind ?_ (fun _ => ?_))
   | exact impl_Backend_126.mono _ _ _ _ _ _ _
   | exact LeO.none _
   | refine LeO.ite ?_ ?_
   | refine LeO.bind ?_ (fun _ => ?_)
set_option maxHeartbeats 8000000 in
set_option maxRecDepth 100000 in
theorem impl_Backend_91.calls (k : Nat) (A0 : Option Addr) (c0 : Nat) (l0 : List (S36)) (a1_0 : Int) (a1_1 : Int) (a1_2 : Int) (a1_3 : Int) (a1_4 : Bool) (r : Bool) (w : World) (hr0 : Kd.C k36 w A0 l0.length l0) (hc0 : l0.length ≤ c0) (h : impl_Backend_91.f k l0 a1_0 a1_1 a1_2 a1_3 a1_4 = some r) :
  Calls Try.prog 91 #[.slice A0 l0.length c0, .agg #[.int .i64 a1_0, .int .i64 a1_1, .int .i64 a1_2, .int .i64 a1_3, .bool a1_4]] w fun e w' => e = .returned (.bool r) ∧ Below w.heap.size w w' := by
 have hu36 := Try.underlying36
 have HR0 := Aside0.mk hr0
 have HC0 := Aside0.mk hc0
 clear hr0 hc0
 have HB := Aside0.mk (Below.refl w.heap.size w)
 have H : ((impl_Backend_126.f k l0 a1_0 a1_1 a1_2 a1_3 a1_4).bind fun t214 => (some (decide (t214 ≥ 0)))) = some r := h
 clear h
 replace H := Option.bind_eq_some_iff.mp H
 obtain ⟨t214, A30, H⟩ := H
 replace H : (some (decide (t214 ≥ 0))) = some r := H
 have A3 := Aside0.mk A30
 clear A30
 obtain rfl := Option.some.inj H
 go_enter Try.func91, Try.ntmps91
 go_wp2_with (first | ((with_reducible refine gate_dst (N := 3) rfl ?_); refine box_event ?hg (N := 3) ?hd (cs := #[.int .i64 a1_0, .int .i64 a1_1, .int .i64 a1_2, .int .i64 a1_3, .bool a1_4]) (t := 36) ?hr ?_; (case hd => rfl); (case hg => rfl); (case hr => first | (go_simp; done) | (go_simp; rfl)); intro gb213 hg w4 hbox hb; have n0_ := Aside0.mk (below_step (by repeat (first | (with_reducible first | exact HB.out | apply below_alloc | apply pw_below_drewN | apply below_drew1) | exact HB.out)) hb); have n1_ := Aside0.mk (hbox); have n2_ := Aside0.mk ((by rw [hg]; exact (below_size (by repeat (first | (with_reducible first | exact HB.out | apply below_alloc | apply pw_below_drewN | apply below_drew1) | exact HB.out))) : w.heap.size ≤ gb213)); have n3_ := Aside0.mk ((by rw [hg]; exact (below_size (by repeat (first | (with_reducible first | exact HB.out | apply below_alloc | apply pw_below_drewN | apply below_drew1) | exact HB.out))) : w.heap.size ≤ gb213)); clear HB; have HB := n0_; have BK213 := n1_; have GW213 := n2_; have GE213 := n3_; clear n0_ n1_ n2_ n3_; clear hb hbox hg; have hcz5_0 : w4.cell? ⟨gb213, 0, none⟩ = some (.int .i64 a1_0) := (blk_cell BK213.out 0).trans rfl; have hcz5_1 : w4.cell? ⟨gb213, 1, none⟩ = some (.int .i64 a1_1) := (blk_cell BK213.out 1).trans rfl; have hcz5_2 : w4.cell? ⟨gb213, 2, none⟩ = some (.int .i64 a1_2) := (blk_cell BK213.out 2).trans rfl; have hcz5_3 : w4.cell? ⟨gb213, 3, none⟩ = some (.int .i64 a1_3) := (blk_cell BK213.out 3).trans rfl; have hcz5_4 : w4.cell? ⟨gb213, 4, none⟩ = some (.bool a1_4) := (blk_cell BK213.out 4).trans rfl; have hfz5_0 := blk_frozen BK213.out 0; have hfz5_1 := blk_frozen BK213.out 1; have hfz5_2 := blk_frozen BK213.out 2; have hfz5_3 := blk_frozen BK213.out 3; have hfz5_4 := blk_frozen BK213.out 4) | ((with_reducible refine gate_callee (f := 126) rfl ?_); refine goesL_ (some 7) rfl rfl Try.func126 (by kernel_rfl) rfl #[.slice A0 l0.length c0, .agg #[.int .i64 a1_0, .int .i64 a1_1, .int .i64 a1_2, .int .i64 a1_3, .bool a1_4]] rfl (by (try simp only [List.map_toArray, List.map_cons, List.map_nil]); first | done | rfl | (simp only [List.length_drop, List.length_take]; rfl)) ?_; (with_reducible refine (impl_Backend_126.calls k _ _ l0 a1_0 a1_1 a1_2 a1_3 a1_4 t214 _ ?side1 ?side2 A3.out).mono ?_); (case side1 => repeat (first | exact (Kd.C_below HR0.out HB.out) | (with_reducible refine Kd.C_alloc ?_ _) | (with_reducible refine Kd.C_drewN ?_ _) | (with_reducible refine Kd.C_drew ?_))); (case side2 => exact HC0.out); rintro e w6 ⟨rfl, hb⟩; refine ⟨_, rfl, ?_⟩; have n0_ := Aside0.mk (blk_below (g := gb213) (o := .cells #[.int .i64 a1_0, .int .i64 a1_1, .int .i64 a1_2, .int .i64 a1_3, .bool a1_4] 36 (0, 0)) (by (with_reducible repeat (first | refine blk_drewN ?_ _ | refine blk_drew ?_ | refine blk_alloc ?_ _)); exact BK213.out) hb); have n1_ := Aside0.mk (below_step (by repeat (first | (with_reducible first | exact HB.out | apply below_alloc | apply pw_below_drewN | apply below_drew1 | refine below_set ?_ GE213.out) | exact HB.out)) hb); clear BK213; clear HB; have BK213 := n0_; have HB := n1_; clear n0_ n1_; (try clear hb); (try clear hb2); (try clear hk); (try clear hi)))
 go_ret
 exact ⟨by first | rfl | (simp [errW_none, errW_some] <;> rfl) | (simp [*, errW_none, errW_some] <;> rfl), by repeat (first | (with_reducible first | exact HB.out | apply below_alloc | apply pw_below_drewN | apply below_drew1 | refine below_set ?_ GE213.out) | exact HB.out)⟩

/-! ### impl_DeltaOf: function 42 -/
set_option maxHeartbeats 2000000 in
/-- slices.IndexFunc over such a slice, whatever the function value, if it says p of each element and turns nothing that lay. -/
theorem Cf.bk.ix_calls (p : S36 → Bool) (g : Nat) (lb : Array Value) (eg : ∀ args w, (callFunc g args).run Try.prog w = .ok (.enter g args) w) (A0 : Option Addr) (c0 : Nat) (l0 : List (S36)) (w : World) (hr0 : Kd.C k36 w A0 l0.length l0) (hc0 : l0.length ≤ c0)
  (hp : ∀ (W : World) (x : S36), Below w.heap.size w W → Calls Try.prog g (#[.agg #[.int .i64 x.f0, .int .i64 x.f1, .int .i64 x.f2, .int .i64 x.f3, .bool x.f4]] ++ lb) W fun e w' => e = .returned (.bool (p x)) ∧ Below w.heap.size w w') :
  Calls Try.prog 110 #[.slice A0 l0.length c0, .func (.func g) #[] lb] w fun e w' => e = .returned (.int .i64 (Go.Proofs.Ytfmlhpoaipeoeaa.Ix.ixFrom p l0 0)) ∧ Below w.heap.size w w' := by
 have hbig : l0.length ≤ 9223372036854775807 := by have := hr0.2.1; have hs : (k36).sz = 5 := rfl; (try simp only [maxLen] at this); (try rw [hs] at this); omega
 go_enter Try.func110, Try.ntmps110
 go_wp2
 go_loopg [5, 8] l0.length (fun gg _ s8 wr => ∃ kk : Nat, kk ≤ l0.length ∧ l0.length - kk ≤ gg ∧ s8 = .int .i64 kk ∧ Aside (Below w.heap.size w wr) ∧ Aside (∀ j, j < kk → p (l0.getD j z36) = false))
 case atStart => exact ⟨0, Nat.zero_le _, by omega, rfl, Below.refl _ w, fun j hj => absurd hj (Nat.not_lt_zero _)⟩
 case round =>
  obtain ⟨kk, hkk, hg, rfl, BW, AA⟩ := hrel
  by_cases hlt : kk < l0.length
  ·have hltz : (kk : Int) < (l0.length : Int) := by omega
   obtain ⟨ad, eA, hx_0, hx_1, hx_2, hx_3, hx_4⟩ := at_T36 (Kd.C_below hr0 BW.out) (kk : Int) (by omega) hltz
   cases eA
   have hcall := hp wr (rd_T36 l0 (kk : Int)) BW.out
   have hy : l0.getD kk z36 = rd_T36 l0 (kk : Int) := rfl
   generalize rd_T36 l0 (kk : Int) = y at hx_0 hx_1 hx_2 hx_3 hx_4 hcall hy
   have B : Aside (l0.getD kk z36 = y) := hy
   clear hy hp
   simp only [Int.toNat_natCast] at hx_0 hx_1 hx_2 hx_3 hx_4
   cases hq : p y with
   | true =>
    rw [hq] at hcall
    go_wp2_with (go_at_fn g; refine hcall.mono ?_; rintro e w' ⟨rfl, hb'⟩)
    go_ret
    refine ⟨?_, hb'⟩
    rw [Go.Proofs.Ytfmlhpoaipeoeaa.Ix.ixFrom_hit p z36 l0 0 kk hlt (by rw [B.out]; exact hq) AA.out]
    simp
   | false =>
    rw [hq] at hcall
    go_wp2_with (go_at_fn g; refine hcall.mono ?_; rintro e w' ⟨rfl, hb'⟩)
    go_roundg (l0.length - (kk + 1))
    case measure => omega
    case rel =>
     refine ⟨kk + 1, by omega, by omega, by go_num, hb', (show Aside _ from fun j hj => ?_)⟩
     by_cases e : j = kk
     ·subst e
      rw [B.out]; exact hq
     ·exact AA.out j (by omega)
  ·have hltz : ¬ (kk : Int) < (l0.length : Int) := by omega
   have : kk = l0.length := by omega
   subst this
   go_wp2
   go_ret
   refine ⟨?_, BW.out⟩
   rw [Go.Proofs.Ytfmlhpoaipeoeaa.Ix.ixFrom_miss p z36 l0 0 AA.out]
   rfl
set_option maxHeartbeats 2000000 in
/-- slices.IndexFunc over such a slice, whatever the function value, if it says p of each element and turns nothing that lay. -/
theorem Cf.nm.ix_calls (p : Int → Bool) (g : Nat) (lb : Array Value) (eg : ∀ args w, (callFunc g args).run Try.prog w = .ok (.enter g args) w) (A0 : Option Addr) (c0 : Nat) (l0 : List Int) (w : World) (hr0 : Kd.C (Kd.int .i64) w A0 l0.length l0) (hc0 : l0.length ≤ c0)
  (hp : ∀ (W : World) (x : Int), Below w.heap.size w W → Calls Try.prog g (#[.int .i64 x] ++ lb) W fun e w' => e = .returned (.bool (p x)) ∧ Below w.heap.size w w') :
  Calls Try.prog 109 #[.slice A0 l0.length c0, .func (.func g) #[] lb] w fun e w' => e = .returned (.int .i64 (Go.Proofs.Ytfmlhpoaipeoeaa.Ix.ixFrom p l0 0)) ∧ Below w.heap.size w w' := by
 have hbig : l0.length ≤ 9223372036854775807 := by have := hr0.2.1; have hs : (Kd.int .i64).sz = 1 := rfl; (try simp only [maxLen] at this); (try rw [hs] at this); omega
 go_enter Try.func109, Try.ntmps109
 go_wp2
 go_loopg [5, 8] l0.length (fun gg _ s8 wr => ∃ kk : Nat, kk ≤ l0.length ∧ l0.length - kk ≤ gg ∧ s8 = .int .i64 kk ∧ Aside (Below w.heap.size w wr) ∧ Aside (∀ j, j < kk → p (l0.getD j 0) = false))
 case atStart => exact ⟨0, Nat.zero_le _, by omega, rfl, Below.refl _ w, fun j hj => absurd hj (Nat.not_lt_zero _)⟩
 case round =>
  obtain ⟨kk, hkk, hg, rfl, BW, AA⟩ := hrel
  by_cases hlt : kk < l0.length
  ·have hltz : (kk : Int) < (l0.length : Int) := by omega
   obtain ⟨ad, eA, hx_0⟩ := Kd.at_int (Kd.C_below hr0 BW.out) (kk : Int) (by omega) hltz
   cases eA
   have hcall := hp wr (rd l0 (kk : Int)) BW.out
   have hy : l0.getD kk 0 = rd l0 (kk : Int) := rfl
   generalize rd l0 (kk : Int) = y at hx_0 hcall hy
   have B : Aside (l0.getD kk 0 = y) := hy
   clear hy hp
   simp only [Int.toNat_natCast] at hx_0
   cases hq : p y with
   | true =>
    rw [hq] at hcall
    go_wp2_with (go_at_fn g; refine hcall.mono ?_; rintro e w' ⟨rfl, hb'⟩)
    go_ret
    refine ⟨?_, hb'⟩
    rw [Go.Proofs.Ytfmlhpoaipeoeaa.Ix.ixFrom_hit p 0 l0 0 kk hlt (by rw [B.out]; exact hq) AA.out]
    simp
   | false =>
    rw [hq] at hcall
    go_wp2_with (go_at_fn g; refine hcall.mono ?_; rintro e w' ⟨rfl, hb'⟩)
    go_roundg (l0.length - (kk + 1))
    case measure => omega
    case rel =>
     refine ⟨kk + 1, by omega, by omega, by go_num, hb', (show Aside _ from fun j hj => ?_)⟩
     by_cases e : j = kk
     ·subst e
      rw [B.out]; exact hq
     ·exact AA.out j (by omega)
  ·have hltz : ¬ (kk : Int) < (l0.length : Int) := by omega
   have : kk = l0.length := by omega
   subst this
   go_wp2
   go_ret
   refine ⟨?_, BW.out⟩
   rw [Go.Proofs.Ytfmlhpoaipeoeaa.Ix.ixFrom_miss p 0 l0 0 AA.out]
   rfl
set_option maxHeartbeats 2000000 in
/-- slices.ContainsFunc over such a slice. -/
theorem Cf.nm.has_calls (p : Int → Bool) (g : Nat) (lb : Array Value) (eg : ∀ args w, (callFunc g args).run Try.prog w = .ok (.enter g args) w) (A0 : Option Addr) (c0 : Nat) (l0 : List Int) (w : World) (hr0 : Kd.C (Kd.int .i64) w A0 l0.length l0) (hc0 : l0.length ≤ c0)
  (hp : ∀ (W : World) (x : Int), Below w.heap.size w W → Calls Try.prog g (#[.int .i64 x] ++ lb) W fun e w' => e = .returned (.bool (p x)) ∧ Below w.heap.size w w') :
  Calls Try.prog 59 #[.slice A0 l0.length c0, .func (.func g) #[] lb] w fun e w' => e = .returned (.bool (l0.any p)) ∧ Below w.heap.size w w' := by
 rw [← Go.Proofs.Ytfmlhpoaipeoeaa.Ix.ixFrom_ge p l0 0 (by omega)]
 have hcon := Cf.nm.ix_calls p g lb eg A0 c0 l0 w hr0 hc0 hp
 clear hp
 go_enter Try.func59, Try.ntmps59
 go_wp2_with (go_at_call 109; refine hcon.mono ?_; rintro e w' ⟨rfl, hb'⟩)
 go_ret
 exact ⟨rfl, hb'⟩
set_option maxHeartbeats 2000000 in
/-- backend's closure: is a backend of the name that lies in a box? -/
theorem Cf.clo (q : Nat) (n : Int) (w : World) (hq : w.cell? ⟨q, 0, none⟩ = some (.int .i64 n)) (x : S36) (hql : q < w.heap.size) :
  Calls Try.prog 111 #[.agg #[.int .i64 x.f0, .int .i64 x.f1, .int .i64 x.f2, .int .i64 x.f3, .bool x.f4], .pointer (some ⟨q, 0, none⟩)] w fun e w' => e = .returned (.bool (Cf.named n x)) ∧ Below w.heap.size w w' := by
 have hu36 := Try.underlying36
 have hB1 : Below w.heap.size w (w.alloc (.cells #[.int .i64 x.f0, .int .i64 x.f1, .int .i64 x.f2, .int .i64 x.f3, .bool x.f4] 36)) := (Below.refl _ w).alloc (Nat.le_refl _) _
 have hq1 := (hB1.cell (p := ⟨q, 0, none⟩) hql).trans hq
 go_enter Try.func111, Try.ntmps111
 go_wp2
 go_ret
 exact ⟨rfl, hB1⟩
set_option maxHeartbeats 2000000 in
/-- The place of a backend of a name. -/
theorem impl_backend.cf (g : Nat) (A1 : Option Addr) (c1 : Nat) (l1 : List S36) (A2 : Option Addr) (n2 c2 : Nat) (v name : Int) (w : World) (hb : w.heap[g]? = some (.cells #[.int .i64 v, .slice A1 l1.length c1, .slice A2 n2 c2] 31 (0, 0))) (hr1 : Kd.C k36 w A1 l1.length l1) (hc1 : l1.length ≤ c1) :
  Calls Try.prog 61 #[.pointer (some ⟨g, 0, none⟩), .int .i64 name] w fun e w' => e = .returned (.int .i64 (Cf.place l1 name)) ∧ Below w.heap.size w w' := by
 obtain ⟨w1, hw1⟩ : ∃ W, W = w.alloc (.cells #[.int .i64 name] 2) := ⟨_, rfl⟩
 have hB1 : Below w.heap.size w w1 := by rw [hw1]; exact (Below.refl _ w).alloc (Nat.le_refl _) _
 have hs1 : w1.heap.size = w.heap.size + 1 := by rw [hw1]; simp
 have hq1 : w1.cell? ⟨w.heap.size, 0, none⟩ = some (.int .i64 name) := by rw [hw1]; exact blk_cell (blk_new w _) 0
 have hz1 : w.cell? ⟨g, 1, none⟩ = some (.slice A1 l1.length c1) := blk_cell hb 1
 have hz1' : (w.alloc (.cells #[.int .i64 name] 2)).cell? ⟨g, 1, none⟩ = some (.slice A1 l1.length c1) := by rw [← hw1]; exact blk_cell (blk_below hb hB1) 1
 have hcall := Cf.bk.ix_calls (Cf.named name) 111 #[.pointer (some ⟨w.heap.size, 0, none⟩)] (enters_of Try.func111 (by kernel_rfl) rfl) A1 c1 l1 w1 (Kd.C_below hr1 hB1) hc1 (fun W x hW => show Calls Try.prog 111 #[.agg #[.int .i64 x.f0, .int .i64 x.f1, .int .i64 x.f2, .int .i64 x.f3, .bool x.f4], .pointer (some ⟨w.heap.size, 0, none⟩)] W _ from (Cf.clo w.heap.size name W ((hW.cell (p := ⟨w.heap.size, 0, none⟩) (by show w.heap.size < w1.heap.size; omega)).trans hq1) x (by have := hW.size; omega)).mono fun e w' hh => ⟨hh.1, Cf.up hW hh.2⟩)
 rw [hw1] at hcall
 go_enter Try.func61, Try.ntmps61
 go_wp2_with (go_at_call 110; refine hcall.mono ?_; rintro e w2 ⟨rfl, hb2⟩; rw [← hw1] at hb2)
 go_ret
 exact ⟨rfl, Cf.up hB1 hb2⟩
set_option maxHeartbeats 2000000 in
/-- ConfigFault's closure: is there no backend of a name? -/
theorem Cf.clo2 (g : Nat) (A1 : Option Addr) (c1 : Nat) (l1 : List S36) (A2 : Option Addr) (n2 c2 : Nat) (v name : Int) (w : World) (hb : w.heap[g]? = some (.cells #[.int .i64 v, .slice A1 l1.length c1, .slice A2 n2 c2] 31 (0, 0))) (hr1 : Kd.C k36 w A1 l1.length l1) (hc1 : l1.length ≤ c1) :
  Calls Try.prog 60 #[.int .i64 name, .pointer (some ⟨g, 0, none⟩)] w fun e w' => e = .returned (.bool (Cf.gone l1 name)) ∧ Below w.heap.size w w' := by
 have hcall := fun (W : World) (hW : Below w.heap.size w W) => impl_backend.cf g A1 c1 l1 A2 n2 c2 v name W (blk_below hb hW) (Kd.C_below hr1 hW) hc1
 have hcall0 := hcall w (Below.refl _ _)
 clear hcall
 unfold Cf.gone
 go_enter Try.func60, Try.ntmps60
 go_wp2_with (go_at_call 61; refine hcall0.mono ?_; rintro e w2 ⟨rfl, hb2⟩)
 go_ret
 exact ⟨rfl, hb2⟩
/-- Is one of the names no backend's? -/
theorem Cf.hasgone (g : Nat) (A1 : Option Addr) (c1 : Nat) (l1 : List S36) (A2 : Option Addr) (n2 c2 : Nat) (v : Int) (A3 : Option Addr) (c3 : Nat) (l3 : List Int) (w : World) (hb : w.heap[g]? = some (.cells #[.int .i64 v, .slice A1 l1.length c1, .slice A2 n2 c2] 31 (0, 0))) (hr1 : Kd.C k36 w A1 l1.length l1) (hc1 : l1.length ≤ c1) (hr3 : Kd.C (Kd.int .i64) w A3 l3.length l3) (hc3 : l3.length ≤ c3) :
  Calls Try.prog 59 #[.slice A3 l3.length c3, .func (.func 60) #[] #[.pointer (some ⟨g, 0, none⟩)]] w fun e w' => e = .returned (.bool (l3.any (Cf.gone l1))) ∧ Below w.heap.size w w' :=
 Cf.nm.has_calls (Cf.gone l1) 60 #[.pointer (some ⟨g, 0, none⟩)] (enters_of Try.func60 (by kernel_rfl) rfl) A3 c3 l3 w hr3 hc3 (fun W x hW => show Calls Try.prog 60 #[.int .i64 x, .pointer (some ⟨g, 0, none⟩)] W _ from (Cf.clo2 g A1 c1 l1 A2 n2 c2 v x W (blk_below hb hW) (Kd.C_below hr1 hW) hc1).mono fun e w' hh => ⟨hh.1, Cf.up hW hh.2⟩)
theorem Cf.bind_s {α β : Type} (x : α) (f : α → Option β) : (some x).bind f = f x := rfl
theorem Cf.w64 {n : Int} (h0 : -9223372036854775808 ≤ n) (h1 : n ≤ 9223372036854775807) : wrap64 n = n := by unfold wrap64; omega
theorem Cf.in_is (a lo hi : Int) : impl_in.f a lo hi = some (Cf.inB a lo hi) := by
 unfold impl_in.f Cf.inB
 by_cases h : a ≥ lo
 ·rw [if_pos h]; simp [h]
 ·rw [if_neg h]; simp [h]
theorem Cf.iaddr_is (a : Int) : impl_isAddress.f a = some (Cf.inB a 0 4294967295) := by unfold impl_isAddress.f; rw [Cf.in_is]; rfl
theorem Cf.iport_is (a : Int) : impl_isPort.f a = some (Cf.inB a 0 65535) := by unfold impl_isPort.f; rw [Cf.in_is]; rfl
theorem Cf.iproto_is (a : Int) : impl_isProto.f a = some (Cf.prB a) := by
 unfold impl_isProto.f Cf.prB
 by_cases h : a = 6
 ·rw [if_pos h]; simp [h]
 ·rw [if_neg h]; simp [h]; rfl
theorem Cf.ibackend_is (x : S36) : impl_isBackend.f x.f0 x.f1 x.f2 x.f3 x.f4 = some (Cf.isb x) := by
 unfold impl_isBackend.f impl_isName.f Cf.isb
 simp only [Cf.iaddr_is, Cf.in_is, Option.bind_some]
 cases Cf.inB x.f0 1 999 <;> cases Cf.inB x.f1 0 4294967295 <;> cases Cf.inB x.f2 0 9 <;> rfl
theorem Cf.Compare_is (a b : Int) : cmp_Compare_int64.f a b = some (if a < b then -1 else if a > b then 1 else 0) := by
 unfold cmp_Compare_int64.f cmp_isNaN_int64.f
 rw [Cf.bind_s, Cf.bind_s, bne_self_eq_false, bne_self_eq_false, if_neg (by decide), if_neg (by decide)]
 by_cases h : a < b
 ·rw [if_pos h, if_pos h]
 ·rw [if_neg h, if_neg h]
  by_cases h2 : a > b
  ·rw [if_pos h2, if_pos h2]
  ·rw [if_neg h2, if_neg h2]
theorem Cf.Or_is (a b c : Int) : cmp_Or_int.f 4 [a, b, c] = some (if a = 0 then (if b = 0 then c else b) else a) := by
 have w0 : wrap64 ((0 : Int) + 1) = 1 := Cf.w64 (by omega) (by omega)
 have w1 : wrap64 ((1 : Int) + 1) = 2 := Cf.w64 (by omega) (by omega)
 have w2 : wrap64 ((2 : Int) + 1) = 3 := Cf.w64 (by omega) (by omega)
 have r0 : rd [a, b, c] 0 = a := rfl
 have r1 : rd [a, b, c] 1 = b := rfl
 have r2 : rd [a, b, c] 2 = c := rfl
 unfold cmp_Or_int.f
 rw [cmp_Or_int.l0.eq_2, if_pos (by simp), if_pos (by omega), if_pos (by simp), r0, w0]
 by_cases h0 : a = 0
 ·rw [if_pos h0, if_pos h0, cmp_Or_int.l0.eq_2, if_pos (by simp), if_pos (by omega), if_pos (by simp), r1, w1]
  by_cases h1 : b = 0
  ·rw [if_pos h1, if_pos h1, cmp_Or_int.l0.eq_2, if_pos (by simp), if_pos (by omega), if_pos (by simp), r2, w2]
   by_cases h2 : c = 0
   ·rw [if_pos h2, cmp_Or_int.l0.eq_2, if_neg (by simp), h2]
   ·rw [if_neg h2]
  ·rw [if_neg h1, if_neg h1]
 ·rw [if_neg h0, if_neg h0]
def Cf.cmp (a b : Int) : Int := if a < b then -1 else if a > b then 1 else 0
def Cf.cmpV (x y : S64) : Int := if Cf.cmp x.f0 y.f0 = 0 then (if Cf.cmp x.f1 y.f1 = 0 then Cf.cmp x.f2 y.f2 else Cf.cmp x.f1 y.f1) else Cf.cmp x.f0 y.f0
theorem Cf.compare_is (x y : S64) : impl_compareVip.f 4 x.f0 x.f1 x.f2 x.f3 y.f0 y.f1 y.f2 y.f3 = some (Cf.cmpV x y) := by
 unfold impl_compareVip.f
 rw [Cf.Compare_is, Cf.bind_s, Cf.Compare_is, Cf.bind_s, Cf.Compare_is, Cf.bind_s, Cf.Or_is, Cf.bind_s]; rfl
theorem Cf.cmp_beh (x y : S64) : decide (0 ≤ Cf.cmpV x y) = !Cf.beh x y := by
 unfold Cf.cmpV Cf.beh Cf.cmp
 rcases Int.lt_trichotomy x.f0 y.f0 with h | h | h
 ·rw [if_pos h, if_neg (by omega), if_neg (by omega), decide_eq_true h]; rfl
 ·rw [if_neg (show ¬ x.f0 < y.f0 by omega), if_neg (show ¬ x.f0 > y.f0 by omega), if_pos rfl, if_pos h]
  rcases Int.lt_trichotomy x.f1 y.f1 with h | h | h
  ·rw [if_pos h, if_neg (by omega), if_neg (by omega), decide_eq_true h]; rfl
  ·rw [if_neg (show ¬ x.f1 < y.f1 by omega), if_neg (show ¬ x.f1 > y.f1 by omega), if_pos rfl, if_pos h]
   rcases Int.lt_trichotomy x.f2 y.f2 with h | h | h
   ·rw [if_pos h, decide_eq_true h]; rfl
   ·rw [if_neg (show ¬ x.f2 < y.f2 by omega), if_neg (show ¬ x.f2 > y.f2 by omega), decide_eq_false (show ¬ x.f2 < y.f2 by omega)]; rfl
   ·rw [if_neg (show ¬ x.f2 < y.f2 by omega), if_pos h, decide_eq_false (show ¬ x.f2 < y.f2 by omega)]; rfl
  ·rw [if_neg (show ¬ x.f1 < y.f1 by omega), if_pos h, if_neg (by omega), if_neg (by omega), decide_eq_false (show ¬ x.f1 < y.f1 by omega)]; rfl
 ·rw [if_neg (show ¬ x.f0 < y.f0 by omega), if_pos h, if_neg (by omega), if_neg (by omega), decide_eq_false (show ¬ x.f0 < y.f0 by omega)]; rfl
theorem Cf.iin (a lo hi : Int) (w : World) : Calls Try.prog 53 #[.int .i64 a, .int .i64 lo, .int .i64 hi] w fun e w' => e = .returned (.bool (Cf.inB a lo hi)) ∧ Below w.heap.size w w' := (impl_in.calls a lo hi _ w (Cf.in_is a lo hi)).mono (fun _ _ h => ⟨h.1, h.2.below⟩)
theorem Cf.iaddr (a : Int) (w : World) : Calls Try.prog 55 #[.int .i64 a] w fun e w' => e = .returned (.bool (Cf.inB a 0 4294967295)) ∧ Below w.heap.size w w' := (impl_isAddress.calls a _ w (Cf.iaddr_is a)).mono (fun _ _ h => ⟨h.1, h.2.below⟩)
theorem Cf.iport (a : Int) (w : World) : Calls Try.prog 56 #[.int .i64 a] w fun e w' => e = .returned (.bool (Cf.inB a 0 65535)) ∧ Below w.heap.size w w' := (impl_isPort.calls a _ w (Cf.iport_is a)).mono (fun _ _ h => ⟨h.1, h.2.below⟩)
theorem Cf.iproto (a : Int) (w : World) : Calls Try.prog 57 #[.int .i64 a] w fun e w' => e = .returned (.bool (Cf.prB a)) ∧ Below w.heap.size w w' := (impl_isProto.calls a _ w (Cf.iproto_is a)).mono (fun _ _ h => ⟨h.1, h.2.below⟩)
/-! the codes of a vip, case by case -/
theorem Cf.vc_3 {l1 : List S36} {l2 : List S64} {i : Nat} {x : S64} (hx : l2.getD i z64 = x) (h : Cf.vok x = false) : Cf.vcode l1 l2 i = 3 := by unfold Cf.vcode; rw [hx, if_pos h]
theorem Cf.vc_1 {l1 : List S36} {l2 : List S64} {i : Nat} {x : S64} (hx : l2.getD i z64 = x) (h : Cf.vok x = true) (h1 : (decide (0 < i) && !Cf.beh (l2.getD (i - 1) z64) x) = true) : Cf.vcode l1 l2 i = 1 := by unfold Cf.vcode; rw [hx, if_neg (by rw [h]; simp), if_pos h1]
theorem Cf.vc_4 {l1 : List S36} {l2 : List S64} {i : Nat} {x : S64} (hx : l2.getD i z64 = x) (h : Cf.vok x = true) (h1 : (decide (0 < i) && !Cf.beh (l2.getD (i - 1) z64) x) = false) (h2 : x.f3.any (Cf.gone l1) = true) : Cf.vcode l1 l2 i = 4 := by unfold Cf.vcode; rw [hx, if_neg (by rw [h]; simp), if_neg (by rw [h1]; simp), if_pos h2]
theorem Cf.vc_r {l1 : List S36} {l2 : List S64} {i : Nat} {x : S64} (hx : l2.getD i z64 = x) (h : Cf.vok x = true) (h1 : (decide (0 < i) && !Cf.beh (l2.getD (i - 1) z64) x) = false) (h2 : x.f3.any (Cf.gone l1) = false) : Cf.vcode l1 l2 i = if (List.range x.f3.length).any (Cf.falls x.f3) = true then 1 else 0 := by unfold Cf.vcode; rw [hx, if_neg (by rw [h]; simp), if_neg (by rw [h1]; simp), if_neg (by rw [h2]; simp)]
set_option maxHeartbeats 16000000 in
set_option maxRecDepth 100000 in
/-- What is not right of a configuration: the program's. -/
theorem impl_ConfigFault.cf (A1 : Option Addr) (c1 : Nat) (l1 : List S36) (A2 : Option Addr) (c2 : Nat) (l2 : List S64) (v : Int) (w : World) (hr1 : Kd.C k36 w A1 l1.length l1) (hc1 : l1.length ≤ c1) (hr2 : Kd.C k64 w A2 l2.length l2) :
  Calls Try.prog 15 #[.agg #[.int .i64 v, .slice A1 l1.length c1, .slice A2 l2.length c2]] w fun e w' => e = .returned (.int .i64 (Cf.code v l1 l2)) ∧ Below w.heap.size w w' := by
 have hu36 := Try.underlying36
 have hu31 := Try.underlying31
 have hu64 := Try.underlying64
 obtain ⟨r, hr⟩ : ∃ r, r = Cf.code v l1 l2 := ⟨_, rfl⟩
 rw [← hr]
 have hbig1 : l1.length ≤ 9223372036854775807 := by have := hr1.2.1; have hs : (k36).sz = 5 := rfl; (try simp only [maxLen] at this); (try rw [hs] at this); omega
 have hbig2 : l2.length ≤ 9223372036854775807 := by have := hr2.2.1; have hs : (k64).sz = 4 := rfl; (try simp only [maxLen] at this); (try rw [hs] at this); omega
 obtain ⟨w1, hw1⟩ : ∃ W, W = w.alloc (.cells #[.int .i64 v, .slice A1 l1.length c1, .slice A2 l2.length c2] 31) := ⟨_, rfl⟩
 have hB1 : Below w.heap.size w w1 := by rw [hw1]; exact (Below.refl _ w).alloc (Nat.le_refl _) _
 have D1 : Aside0 (w1.heap[w.heap.size]? = some (.cells #[.int .i64 v, .slice A1 l1.length c1, .slice A2 l2.length c2] 31 (0, 0))) := ⟨by rw [hw1]; exact blk_new w _⟩
 have D2 : Aside0 (Kd.C k36 w1 A1 l1.length l1) := ⟨Kd.C_below hr1 hB1⟩
 have D3 : Aside0 (Kd.C k64 w1 A2 l2.length l2) := ⟨Kd.C_below hr2 hB1⟩
 have DB : Aside0 (Below w.heap.size w w1) := ⟨hB1⟩
 clear hr1 hr2 hB1
 have h0 := Cf.iin v 0 1000000
 go_enter Try.func15, Try.ntmps15
 cases e0 : Cf.inB v 0 1000000 with
 | false =>
  simp only [e0] at h0
  go_wp2_with (go_at_call 53; refine (h0 _).mono ?_; rintro e w2 ⟨rfl, hb2⟩; rw [← hw1] at hb2)
  go_ret
  exact ⟨by rw [hr]; unfold Cf.code; rw [e0]; rfl, Cf.up DB.out hb2⟩
 | true =>
  simp only [e0] at h0
  by_cases hm : (l1.length : Int) > 8
  ·have hm0 : decide ((8 : Int) < (l1.length : Int)) = true := decide_eq_true hm
   go_wp2_with (go_at_call 53; refine (h0 _).mono ?_; rintro e w2 ⟨rfl, hb2⟩; rw [← hw1] at hb2; have z1 := blk_cell (blk_below D1.out hb2) 1)
   go_ret
   exact ⟨by rw [hr]; unfold Cf.code; rw [e0, if_neg (by simp), if_pos (by rw [decide_eq_true hm]; rfl)]; rfl, Cf.up DB.out hb2⟩
  have hm0 : decide ((8 : Int) < (l1.length : Int)) = false := decide_eq_false hm
  by_cases hm2 : (l2.length : Int) > 4
  ·have hm20 : decide ((4 : Int) < (l2.length : Int)) = true := decide_eq_true hm2
   go_wp2_with (go_at_call 53; refine (h0 _).mono ?_; rintro e w2 ⟨rfl, hb2⟩; rw [← hw1] at hb2; have z1 := blk_cell (blk_below D1.out hb2) 1; have z2 := blk_cell (blk_below D1.out hb2) 2)
   go_ret
   exact ⟨by rw [hr]; unfold Cf.code; rw [e0, if_neg (by simp), if_pos (by rw [decide_eq_true hm2]; simp)]; rfl, Cf.up DB.out hb2⟩
  have hm20 : decide ((4 : Int) < (l2.length : Int)) = false := decide_eq_false hm2
  have HR := Aside0.mk (Cf.code_b hr e0 hm hm2)
  clear hr
  go_wp2_with (go_at_call 53; refine (h0 _).mono ?_; rintro e w2 ⟨rfl, hb2⟩; rw [← hw1] at hb2; have z1 := blk_cell (blk_below D1.out hb2) 1; have z2 := blk_cell (blk_below D1.out hb2) 2)
  go_loopg [3, 4, 27] l1.length (fun gg _ _ s27 wr => ∃ kk : Nat, kk ≤ l1.length ∧ l1.length - kk ≤ gg ∧ s27 = .int .i64 kk ∧ Aside (Below w1.heap.size w1 wr) ∧ Aside (∀ j, j < kk → Cf.bcode l1 j = 0))
  case atStart => exact ⟨0, Nat.zero_le _, by omega, rfl, hb2, fun j hj => absurd hj (Nat.not_lt_zero _)⟩
  case round =>
   clear z1 z2 hb2 h0 hw1
   obtain ⟨kk, hkk, hg_, rfl, BW, AA⟩ := hrel
   by_cases hlt : kk < l1.length
   ·have hltz : (kk : Int) < (l1.length : Int) := by omega
    obtain ⟨ad, eA, hx_0, hx_1, hx_2, hx_3, hx_4⟩ := at_T36 (Kd.C_below D2.out BW.out) (kk : Int) (by omega) hltz
    cases eA
    have hy : l1.getD kk z36 = rd_T36 l1 (kk : Int) := rfl
    generalize rd_T36 l1 (kk : Int) = y at hx_0 hx_1 hx_2 hx_3 hx_4 hy
    have B : Aside (l1.getD kk z36 = y) := hy
    clear hy
    simp only [Int.toNat_natCast] at hx_0 hx_1 hx_2 hx_3 hx_4
    obtain ⟨wb, hwb⟩ : ∃ W, W = wr.alloc (.cells #[.int .i64 y.f0, .int .i64 y.f1, .int .i64 y.f2, .int .i64 y.f3, .bool y.f4] 36) := ⟨_, rfl⟩
    have HWB := Aside0.mk (show Below wr.heap.size wr wb by rw [hwb]; exact (Below.refl _ wr).alloc (Nat.le_refl _) _)
    have HBK := Aside0.mk (show wb.heap[wr.heap.size]? = some (.cells #[.int .i64 y.f0, .int .i64 y.f1, .int .i64 y.f2, .int .i64 y.f3, .bool y.f4] 36 (0, 0)) by rw [hwb]; exact blk_new wr _)
    have hc := fun (W : World) => impl_isBackend.calls y.f0 y.f1 y.f2 y.f3 y.f4 _ W (Cf.ibackend_is y)
    cases hq : Cf.isb y with
    | false =>
     simp only [hq] at hc
     go_wp2_with (go_at_call 54; refine (hc _).mono ?_; rintro e w3 ⟨rfl, hb3⟩; rw [← hwb] at hb3)
     go_ret
     exact ⟨by rw [Cf.code_hit (v := v) HR.out kk hlt (by rw [Cf.bcode_3 (by rw [B.out]; exact hq)]; simp) AA.out, Cf.bcode_3 (by rw [B.out]; exact hq)]; rfl, Cf.up DB.out (Cf.up BW.out (Cf.up HWB.out hb3))⟩
    | true =>
     simp only [hq] at hc
     by_cases hk0 : 0 < kk
     ·have hg0 : decide ((0 : Int) < (kk : Int)) = true := decide_eq_true (by omega)
      obtain ⟨j, hj⟩ : ∃ j, j = kk - 1 := ⟨_, rfl⟩
      have hwj : IntKind.i64.wrap ((kk : Int) - 1) = (j : Int) := by rw [IntKind.wrap_i64]; omega
      have hjl : (j : Int) < (l1.length : Int) := by omega
      have C : Aside (l1.getD (kk - 1) z36 = rd_T36 l1 (j : Int)) := (by rw [← hj]; rfl)
      clear hj
      cases hle : decide (y.f0 ≤ (rd_T36 l1 (j : Int)).f0) with
      | true =>
       go_wp2_with (go_at_call 54; refine (hc _).mono ?_; rintro e w3 ⟨rfl, hb3⟩; rw [← hwb] at hb3; have hb3' := hb3; replace hb3 := Cf.up HWB.out hb3; have z1 := blk_cell (blk_below D1.out (Cf.up BW.out hb3)) 1; have zb := blk_cell (blk_below HBK.out hb3') 0; obtain ⟨ad2, eA2, px_0, px_1, px_2, px_3, px_4⟩ := at_T36 (Kd.C_below D2.out (Cf.up BW.out hb3)) (j : Int) (by omega) hjl; cases eA2; simp only [Int.toNat_natCast] at px_0)
       go_quiet (fail)
       go_wp2
       go_ret
       have hbc : Cf.bcode l1 kk = 1 := Cf.bcode_1 (by rw [B.out]; exact hq) hk0 (by rw [B.out, C.out]; exact hle)
       exact ⟨by rw [Cf.code_hit (v := v) HR.out kk hlt (by rw [hbc]; simp) AA.out, hbc]; rfl, Cf.up DB.out (pw_below_drewN (Cf.up BW.out hb3) _)⟩
      | false =>
       go_wp2_with (go_at_call 54; refine (hc _).mono ?_; rintro e w3 ⟨rfl, hb3⟩; rw [← hwb] at hb3; have hb3' := hb3; replace hb3 := Cf.up HWB.out hb3; have z1 := blk_cell (blk_below D1.out (Cf.up BW.out hb3)) 1; have zb := blk_cell (blk_below HBK.out hb3') 0; obtain ⟨ad2, eA2, px_0, px_1, px_2, px_3, px_4⟩ := at_T36 (Kd.C_below D2.out (Cf.up BW.out hb3)) (j : Int) (by omega) hjl; cases eA2; simp only [Int.toNat_natCast] at px_0)
       go_quiet (fail)
       go_wp2
       have hbc : Cf.bcode l1 kk = 0 := Cf.bcode_0 (by rw [B.out]; exact hq) (by rw [B.out, C.out, hle]; simp)
       go_roundg (l1.length - (kk + 1))
       case measure => omega
       case rel =>
        refine ⟨kk + 1, by omega, by omega, by go_num, pw_below_drewN (Cf.up BW.out hb3) _, (show Aside _ from fun j hj => ?_)⟩
        by_cases e : j = kk
        ·subst e; exact hbc
        ·exact AA.out j (by omega)
     ·have hg0 : decide ((0 : Int) < (kk : Int)) = false := decide_eq_false (by omega)
      go_wp2_with (go_at_call 54; refine (hc _).mono ?_; rintro e w3 ⟨rfl, hb3⟩; rw [← hwb] at hb3; replace hb3 := Cf.up HWB.out hb3)
      go_quiet (fail)
      go_wp2
      have hbc : Cf.bcode l1 kk = 0 := Cf.bcode_0 (by rw [B.out]; exact hq) (by rw [decide_eq_false hk0]; rfl)
      go_roundg (l1.length - (kk + 1))
      case measure => omega
      case rel =>
       refine ⟨kk + 1, by omega, by omega, by go_num, pw_below_drewN (Cf.up BW.out hb3) _, (show Aside _ from fun j hj => ?_)⟩
       by_cases e : j = kk
       ·subst e; exact hbc
       ·exact AA.out j (by omega)
   ·have hltz : ¬ (kk : Int) < (l1.length : Int) := by omega
    have : kk = l1.length := by omega
    subst this
    have HV := Aside0.mk (Cf.code_v HR.out AA.out)
    have BW0 : Aside0 (Below w1.heap.size w1 wr) := ⟨BW.out⟩
    have z2 := blk_cell (blk_below D1.out BW.out) 2
    clear AA BW hg_ hkk hlt HR
    go_wp2
    go_loopg [5, 6, 7, 53] l2.length (fun gg _ _ _ s53 wr => ∃ kk : Nat, kk ≤ l2.length ∧ l2.length - kk ≤ gg ∧ s53 = .int .i64 kk ∧ Aside (Below w1.heap.size w1 wr) ∧ Aside (∀ j, j < kk → Cf.vcode l1 l2 j = 0))
    case atStart => exact ⟨0, Nat.zero_le _, by omega, rfl, BW0.out, fun j hj => absurd hj (Nat.not_lt_zero _)⟩
    case round =>
     clear z2 BW0
     obtain ⟨kk, hkk, hg_, rfl, BW, AA⟩ := hrel
     by_cases hlt : kk < l2.length
     ·have hltz : (kk : Int) < (l2.length : Int) := by omega
      obtain ⟨ad, A3, c3, eA, hx_0, hx_1, hx_2, hx_3, hl3, hC3⟩ := at_T64 (Kd.C_below D3.out BW.out) (kk : Int) (by omega) hltz
      cases eA
      have hy : l2.getD kk z64 = rd_T64 l2 (kk : Int) := rfl
      generalize rd_T64 l2 (kk : Int) = x at hx_0 hx_1 hx_2 hx_3 hl3 hC3 hy
      have B : Aside (l2.getD kk z64 = x) := hy
      clear hy
      simp only [Int.toNat_natCast] at hx_0 hx_1 hx_2 hx_3
      have hn3 : x.f3.length ≤ 9223372036854775807 := by have := hC3.2.1; have hs : (Kd.int .i64).sz = 1 := rfl; (try simp only [maxLen] at this); (try rw [hs] at this); omega
      obtain ⟨wv, hwv⟩ : ∃ W, W = wr.alloc (.cells #[.int .i64 x.f0, .int .i64 x.f1, .int .i64 x.f2, .slice A3 x.f3.length c3] 64) := ⟨_, rfl⟩
      have HWV : Below wr.heap.size wr wv := by rw [hwv]; exact (Below.refl _ wr).alloc (Nat.le_refl _) _
      have BV := Aside0.mk (Cf.up BW.out HWV)
      have HBK := Aside0.mk (show wv.heap[wr.heap.size]? = some (.cells #[.int .i64 x.f0, .int .i64 x.f1, .int .i64 x.f2, .slice A3 x.f3.length c3] 64 (0, 0)) by rw [hwv]; exact blk_new wr _)
      have HC3 := Aside0.mk (Kd.C_below hC3 HWV)
      clear HWV hC3
      have h0 := Cf.iaddr x.f0
      have h1 := Cf.iport x.f1
      have h2 := Cf.iproto x.f2
      cases e0 : Cf.inB x.f0 0 4294967295 with
      | false =>
       simp only [e0] at h0
       go_wp2_with (go_at_call 55; refine (h0 _).mono ?_; rintro e w2 ⟨rfl, hb2⟩; rw [← hwv] at hb2; have q1 := blk_cell (blk_below HBK.out hb2) 1)
       go_ret
       exact ⟨by rw [Cf.vhit HV.out kk hlt (by rw [Cf.vc_3 B.out (by unfold Cf.vok; rw [e0]; rfl)]; simp) AA.out, Cf.vc_3 B.out (by unfold Cf.vok; rw [e0]; rfl)]; rfl, Cf.up DB.out (Cf.up BV.out hb2)⟩
      | true =>
       simp only [e0] at h0
       cases e1 : Cf.inB x.f1 0 65535 with
       | false =>
        simp only [e1] at h1
        go_wp2_with (first | (go_at_call 55; refine (h0 _).mono ?_; rintro e w2 ⟨rfl, hb2⟩; rw [← hwv] at hb2; have q1 := blk_cell (blk_below HBK.out hb2) 1) | (go_at_call 56; refine (h1 _).mono ?_; rintro e w3 ⟨rfl, hb3⟩; replace hb2 := Cf.up hb2 hb3; clear hb3))
        go_ret
        exact ⟨by rw [Cf.vhit HV.out kk hlt (by rw [Cf.vc_3 B.out (by unfold Cf.vok; rw [e0, e1]; rfl)]; simp) AA.out, Cf.vc_3 B.out (by unfold Cf.vok; rw [e0, e1]; rfl)]; rfl, Cf.up DB.out (Cf.up BV.out hb2)⟩
       | true =>
        simp only [e1] at h1
        cases e2 : Cf.prB x.f2 with
        | false =>
         simp only [e2] at h2
         go_wp2_with (first | (go_at_call 55; refine (h0 _).mono ?_; rintro e w2 ⟨rfl, hb2⟩; rw [← hwv] at hb2; have q1 := blk_cell (blk_below HBK.out hb2) 1) | (go_at_call 56; refine (h1 _).mono ?_; rintro e w3 ⟨rfl, hb3⟩; replace hb2 := Cf.up hb2 hb3; clear hb3; clear q1; have q2 := blk_cell (blk_below HBK.out hb2) 2) | (go_at_call 57; refine (h2 _).mono ?_; rintro e w4 ⟨rfl, hb4⟩; replace hb2 := Cf.up hb2 hb4; clear hb4 q2))
         go_ret
         exact ⟨by rw [Cf.vhit HV.out kk hlt (by rw [Cf.vc_3 B.out (by unfold Cf.vok; rw [e0, e1, e2]; rfl)]; simp) AA.out, Cf.vc_3 B.out (by unfold Cf.vok; rw [e0, e1, e2]; rfl)]; rfl, Cf.up DB.out (Cf.up BV.out hb2)⟩
        | true =>
         simp only [e2] at h2
         have hok : Cf.vok x = true := by unfold Cf.vok; rw [e0, e1, e2]; rfl
         go_wp2_with (first | (go_at_call 55; refine (h0 _).mono ?_; rintro e w2 ⟨rfl, hb2⟩; rw [← hwv] at hb2; have q1 := blk_cell (blk_below HBK.out hb2) 1) | (go_at_call 56; refine (h1 _).mono ?_; rintro e w3 ⟨rfl, hb3⟩; replace hb2 := Cf.up hb2 hb3; clear hb3; clear q1; have q2 := blk_cell (blk_below HBK.out hb2) 2) | (go_at_call 57; refine (h2 _).mono ?_; rintro e w4 ⟨rfl, hb4⟩; replace hb2 := Cf.up hb2 hb4; clear hb4 q2))
         clear h0 h1 h2
         by_cases hk0 : 0 < kk
         ·have hg0 : decide ((0 : Int) < (kk : Int)) = true := decide_eq_true (by omega)
          obtain ⟨j, hj⟩ : ∃ j, j = kk - 1 := ⟨_, rfl⟩
          have hwj : IntKind.i64.wrap ((kk : Int) - 1) = (j : Int) := by rw [IntKind.wrap_i64]; omega
          have hjl : (j : Int) < (l2.length : Int) := by omega
          have hjl0 : (0 : Int) ≤ (j : Int) := by omega
          obtain ⟨ad2, A5, c5, eB, px_0, px_1, px_2, px_3, pl3, pC3⟩ := at_T64 (Kd.C_below D3.out (Cf.up BV.out hb2)) (j : Int) (by omega) hjl
          cases eB
          have C0 : l2.getD (kk - 1) z64 = rd_T64 l2 (j : Int) := (by rw [← hj]; rfl)
          generalize rd_T64 l2 (j : Int) = y at px_0 px_1 px_2 px_3 pl3 pC3 C0
          have C : Aside (l2.getD (kk - 1) z64 = y) := C0
          clear C0 hj
          simp only [Int.toNat_natCast] at px_0 px_1 px_2 px_3
          have hz2' := blk_cell (blk_below D1.out (Cf.up BV.out hb2)) 2
          have bv := blk_below HBK.out hb2
          have v0 := blk_cell bv 0
          have v1 := blk_cell bv 1
          have v2 := blk_cell bv 2
          have v3 := blk_cell bv 3
          clear bv
          have hcmp := fun (W : World) (hW : Below w4.heap.size w4 W) => impl_compareVip.calls 4 y.f0 y.f1 y.f2 A5 c5 y.f3 x.f0 x.f1 x.f2 A3 c3 x.f3 _ W (Kd.C_below pC3 hW) pl3 (Kd.C_below (Kd.C_below HC3.out hb2) hW) hl3 (Cf.compare_is y x)
          have hcb := Cf.cmp_beh y x
          cases hbh : Cf.beh y x with
          | false =>
           rw [hbh] at hcb
           have hcb' : decide (0 ≤ Cf.cmpV y x) = true := hcb
           clear hcb
           go_still_tail 10, (by kernel_rfl)
           change wpList _ _ _ _ _ w4.drew
           have hd : Below w4.heap.size w4 w4.drew := below_drew1 (Below.refl _ _)
           generalize w4.drew = wd at hd
           go_wp2_with (go_at_call 58; refine (hcmp _ hd).mono ?_; rintro e w5 ⟨rfl, hb5⟩; replace hb2 := Cf.up (Cf.up hb2 hd) hb5)
           go_ret
           have H1 : (decide (0 < kk) && !Cf.beh (l2.getD (kk - 1) z64) x) = true := by rw [decide_eq_true hk0, C.out, hbh]; rfl
           exact ⟨by rw [Cf.vhit HV.out kk hlt (by rw [Cf.vc_1 B.out hok H1]; simp) AA.out, Cf.vc_1 B.out hok H1]; rfl, Cf.up DB.out (Cf.up BV.out hb2)⟩
          | true =>
           rw [hbh] at hcb
           have hcb' : decide (0 ≤ Cf.cmpV y x) = false := hcb
           clear hcb
           have H1 := Aside0.mk (show (decide (0 < kk) && !Cf.beh (l2.getD (kk - 1) z64) x) = false by rw [decide_eq_true hk0, C.out, hbh]; rfl)
           go_still_tail 10, (by kernel_rfl)
           change wpList _ _ _ _ _ w4.drew
           have hd : Below w4.heap.size w4 w4.drew := below_drew1 (Below.refl _ _)
           generalize w4.drew = wd at hd
           go_wp2_with (go_at_call 58; refine (hcmp _ hd).mono ?_; rintro e w5 ⟨rfl, hb5⟩; replace hb2 := Cf.up (Cf.up hb2 hd) hb5; clear hb5 hd hcmp px_0 px_1 px_2 px_3 pl3 pC3 hz2' v0 v1 v2 v3; have q3 := blk_cell (blk_below HBK.out hb2) 3)
           clear q3
           have z3 := blk_cell (blk_below HBK.out hb2) 3
           have hcall := Cf.hasgone w.heap.size A1 c1 l1 (some ad) l2.length c2 v A3 c3 x.f3 w5 (blk_below D1.out (Cf.up BV.out hb2)) (Kd.C_below D2.out (Cf.up BV.out hb2)) hc1 (Kd.C_below HC3.out hb2) hl3
           cases hh : x.f3.any (Cf.gone l1) with
           | true =>
            rw [hh] at hcall
            go_wp2_with (go_at_call 59; refine hcall.mono ?_; rintro e w6 ⟨rfl, hb6⟩; replace hb2 := Cf.up hb2 hb6)
            go_ret
            exact ⟨by rw [Cf.vhit HV.out kk hlt (by rw [Cf.vc_4 B.out hok H1.out hh]; simp) AA.out, Cf.vc_4 B.out hok H1.out hh]; rfl, Cf.up DB.out (Cf.up BV.out hb2)⟩
           | false =>
            rw [hh] at hcall
            go_wp2_with (go_at_call 59; refine hcall.mono ?_; rintro e w6 ⟨rfl, hb6⟩; replace hb2 := Cf.up hb2 hb6; clear hb6)
            have HVC := Aside0.mk (Cf.vc_r B.out hok H1.out hh)
            go_loopg [7] x.f3.length (fun gg s7 wr2 => ∃ k2 : Nat, k2 ≤ x.f3.length + 1 ∧ 1 ≤ k2 ∧ x.f3.length - k2 ≤ gg ∧ s7 = .int .i64 k2 ∧ Aside (Below wv.heap.size wv wr2) ∧ Aside (∀ j, j < k2 → j < x.f3.length → Cf.falls x.f3 j = false))
            case atStart => exact ⟨1, by omega, by omega, by omega, rfl, hb2, fun j hj _ => (show Cf.falls x.f3 j = false from by (obtain rfl : j = 0 := by omega); simp [Cf.falls])⟩
            case round =>
             clear z3 hb2 hcall
             obtain ⟨k2, hk2, hk1, hg2, rfl, B2, A2_⟩ := hrel
             have z3 := blk_cell (blk_below HBK.out B2.out) 3
             by_cases hlt2 : k2 < x.f3.length
             ·have hltz2 : (k2 : Int) < (x.f3.length : Int) := by omega
              obtain ⟨an, eN, hn⟩ := Kd.at_int (Kd.C_below HC3.out B2.out) (k2 : Int) (by omega) hltz2
              cases eN
              obtain ⟨j, hj⟩ : ∃ j, j = k2 - 1 := ⟨_, rfl⟩
              have hwj : IntKind.i64.wrap ((k2 : Int) - 1) = (j : Int) := by rw [IntKind.wrap_i64]; omega
              have hjl : (j : Int) < (x.f3.length : Int) := by omega
              obtain ⟨an2, eN2, hn2⟩ := Kd.at_int (Kd.C_below HC3.out B2.out) (j : Int) (by omega) hjl
              cases eN2
              have HQ : Aside (Cf.falls x.f3 k2 = decide (rd x.f3 (k2 : Int) ≤ rd x.f3 (j : Int))) := (by
               show Cf.falls x.f3 k2 = _
               unfold Cf.falls
               rw [decide_eq_true hk1, ← hj]; rfl)
              clear hj
              simp only [Int.toNat_natCast] at hn hn2
              cases hq : decide (rd x.f3 (k2 : Int) ≤ rd x.f3 (j : Int)) with
              | true =>
               go_wp2
               go_quiet (fail)
               go_wp2
               go_ret
               have hvc : Cf.vcode l1 l2 kk = 1 := by rw [HVC.out, if_pos (Cf.range_hit (Cf.falls x.f3) x.f3.length k2 hlt2 (HQ.out.trans hq))]
               exact ⟨by rw [Cf.vhit HV.out kk hlt (by rw [hvc]; simp) AA.out, hvc]; rfl, Cf.up DB.out (Cf.up BV.out (pw_below_drewN B2.out _))⟩
              | false =>
               go_wp2
               go_quiet (fail)
               go_wp2
               go_roundg (x.f3.length - (k2 + 1))
               case measure => omega
               case rel =>
                refine ⟨k2 + 1, by omega, by omega, by omega, by go_num, pw_below_drewN B2.out _, (show Aside _ from fun j hj hl => ?_)⟩
                by_cases e : j = k2
                ·subst e
                 exact HQ.out.trans hq
                ·exact A2_.out j (by omega) hl
             ·have hltz2 : ¬ (k2 : Int) < (x.f3.length : Int) := by omega
              have hvc : Cf.vcode l1 l2 kk = 0 := by rw [HVC.out, if_neg (by rw [Cf.range_miss (Cf.falls x.f3) x.f3.length (fun j hj => A2_.out j (by omega) hj)]; simp)]
              have HVC0 := Aside0.mk hvc
              clear hvc
              go_wp2
              go_roundg (l2.length - (kk + 1))
              case measure => omega
              case rel =>
               refine ⟨kk + 1, by omega, by omega, by go_num, Cf.up BV.out B2.out, (show Aside _ from fun j hj => ?_)⟩
               by_cases e : j = kk
               ·subst e; exact HVC0.out
               ·exact AA.out j (by omega)
         ·have hg0 : decide ((0 : Int) < (kk : Int)) = false := decide_eq_false (by omega)
          have H1 := Aside0.mk (show (decide (0 < kk) && !Cf.beh (l2.getD (kk - 1) z64) x) = false by rw [decide_eq_false hk0]; rfl)
          go_quiet (fail)
          replace hb2 := pw_below_drewN hb2 nq
          have z3 := blk_cell (blk_below HBK.out hb2) 3
          have hcall := Cf.hasgone w.heap.size A1 c1 l1 (some ad) l2.length c2 v A3 c3 x.f3 _ (blk_below D1.out (Cf.up BV.out hb2)) (Kd.C_below D2.out (Cf.up BV.out hb2)) hc1 (Kd.C_below HC3.out hb2) hl3
          cases hh : x.f3.any (Cf.gone l1) with
          | true =>
           rw [hh] at hcall
           go_wp2_with (go_at_call 59; refine hcall.mono ?_; rintro e w6 ⟨rfl, hb6⟩; replace hb2 := Cf.up hb2 hb6)
           go_ret
           exact ⟨by rw [Cf.vhit HV.out kk hlt (by rw [Cf.vc_4 B.out hok H1.out hh]; simp) AA.out, Cf.vc_4 B.out hok H1.out hh]; rfl, Cf.up DB.out (Cf.up BV.out hb2)⟩
          | false =>
           rw [hh] at hcall
           go_wp2_with (go_at_call 59; refine hcall.mono ?_; rintro e w6 ⟨rfl, hb6⟩; replace hb2 := Cf.up hb2 hb6; clear hb6)
           have HVC := Aside0.mk (Cf.vc_r B.out hok H1.out hh)
           go_loopg [7] x.f3.length (fun gg s7 wr2 => ∃ k2 : Nat, k2 ≤ x.f3.length + 1 ∧ 1 ≤ k2 ∧ x.f3.length - k2 ≤ gg ∧ s7 = .int .i64 k2 ∧ Aside (Below wv.heap.size wv wr2) ∧ Aside (∀ j, j < k2 → j < x.f3.length → Cf.falls x.f3 j = false))
           case atStart => exact ⟨1, by omega, by omega, by omega, rfl, hb2, fun j hj _ => (show Cf.falls x.f3 j = false from by (obtain rfl : j = 0 := by omega); simp [Cf.falls])⟩
           case round =>
            clear z3 hb2 hcall
            obtain ⟨k2, hk2, hk1, hg2, rfl, B2, A2_⟩ := hrel
            have z3 := blk_cell (blk_below HBK.out B2.out) 3
            by_cases hlt2 : k2 < x.f3.length
            ·have hltz2 : (k2 : Int) < (x.f3.length : Int) := by omega
             obtain ⟨an, eN, hn⟩ := Kd.at_int (Kd.C_below HC3.out B2.out) (k2 : Int) (by omega) hltz2
             cases eN
             obtain ⟨j, hj⟩ : ∃ j, j = k2 - 1 := ⟨_, rfl⟩
             have hwj : IntKind.i64.wrap ((k2 : Int) - 1) = (j : Int) := by rw [IntKind.wrap_i64]; omega
             have hjl : (j : Int) < (x.f3.length : Int) := by omega
             obtain ⟨an2, eN2, hn2⟩ := Kd.at_int (Kd.C_below HC3.out B2.out) (j : Int) (by omega) hjl
             cases eN2
             have HQ : Aside (Cf.falls x.f3 k2 = decide (rd x.f3 (k2 : Int) ≤ rd x.f3 (j : Int))) := (by
              show Cf.falls x.f3 k2 = _
              unfold Cf.falls
              rw [decide_eq_true hk1, ← hj]; rfl)
             clear hj
             simp only [Int.toNat_natCast] at hn hn2
             cases hq : decide (rd x.f3 (k2 : Int) ≤ rd x.f3 (j : Int)) with
             | true =>
              go_wp2
              go_quiet (fail)
              go_wp2
              go_ret
              have hvc : Cf.vcode l1 l2 kk = 1 := by rw [HVC.out, if_pos (Cf.range_hit (Cf.falls x.f3) x.f3.length k2 hlt2 (HQ.out.trans hq))]
              exact ⟨by rw [Cf.vhit HV.out kk hlt (by rw [hvc]; simp) AA.out, hvc]; rfl, Cf.up DB.out (Cf.up BV.out (pw_below_drewN B2.out _))⟩
             | false =>
              go_wp2
              go_quiet (fail)
              go_wp2
              go_roundg (x.f3.length - (k2 + 1))
              case measure => omega
              case rel =>
               refine ⟨k2 + 1, by omega, by omega, by omega, by go_num, pw_below_drewN B2.out _, (show Aside _ from fun j hj hl => ?_)⟩
               by_cases e : j = k2
               ·subst e
                exact HQ.out.trans hq
               ·exact A2_.out j (by omega) hl
            ·have hltz2 : ¬ (k2 : Int) < (x.f3.length : Int) := by omega
             have hvc : Cf.vcode l1 l2 kk = 0 := by rw [HVC.out, if_neg (by rw [Cf.range_miss (Cf.falls x.f3) x.f3.length (fun j hj => A2_.out j (by omega) hj)]; simp)]
             have HVC0 := Aside0.mk hvc
             clear hvc
             go_wp2
             go_roundg (l2.length - (kk + 1))
             case measure => omega
             case rel =>
              refine ⟨kk + 1, by omega, by omega, by go_num, Cf.up BV.out B2.out, (show Aside _ from fun j hj => ?_)⟩
              by_cases e : j = kk
              ·subst e; exact HVC0.out
              ·exact AA.out j (by omega)
     ·have hltz : ¬ (kk : Int) < (l2.length : Int) := by omega
      go_wp2
      go_ret
      exact ⟨by rw [Cf.vmiss HV.out (fun j hj => AA.out j (by omega))]; rfl, Cf.up DB.out BW.out⟩
namespace Dl
/-- A row of whole numbers of the call's own with other numbers laid into it. -/
theorem put_own {w : World} {base g cap n m k : Nat} {cur : Array Value} {os : Array Obj} {ys : List Int} (hb : base ≤ g) (hg : w.heap[g]? = some (.cells cur 2 (0, 0))) (hs : cur.size = cap * 1) (hc : cap ≤ maxLen) (hy : ys.length ≤ cap) (hm : m ≤ ys.length) :
  (Go.Sort.grow (Go.Sort.putRow (Value.int .i64) (Go.Sort.ahead w k) g 0 ys.toArray) os).ownsRow base 2 1 (.slice (some ⟨g, 0, none⟩) m cap) m (encs (Value.int .i64) (ys.take m)) ∧ w.grownBy (Go.Sort.grow (Go.Sort.putRow (Value.int .i64) (Go.Sort.ahead w k) g 0 ys.toArray) os) (some g) := by
 have hlt : g < w.heap.size := blk_lt hg
 have hsz : (Go.Sort.putRow (Value.int .i64) (Go.Sort.ahead w k) g 0 ys.toArray).heap.size = w.heap.size := by simp [Go.Sort.putRow, Go.Sort.mapBlock, Go.Sort.ahead]
 refine ⟨⟨by simp [encs]; omega, .inr ⟨g, cap, Go.Sort.putCells (Value.int .i64) 0 ys.toArray cur, rfl, hb, ?_, by omega, hc, ?_, ?_⟩⟩, ⟨rfl, rfl, rfl, ?_, ?_⟩⟩
 ·rw [Go.Sort.heap_grow_old _ _ (by rw [hsz]; exact hlt)]
  simp only [Go.Sort.putRow, Go.Sort.mapBlock, Go.Sort.ahead, Array.getElem?_modify, if_true, hg, Option.map_some, Go.Sort.onCells]
 ·simp only [Go.Sort.putCells, Array.size_mapIdx]; exact hs
 ·apply List.ext_getElem?
  intro j
  rw [List.getElem?_take]
  by_cases hj : j < m * 1
  ·rw [if_pos hj]
   have hjc : j < cur.size := by omega
   have hjy : j < ys.length := by omega
   simp only [Go.Sort.putCells, Array.getElem?_toList, Array.getElem?_mapIdx, Array.getElem?_eq_getElem hjc, Option.map_some, encs, List.getElem?_map, List.getElem?_take]
   rw [if_pos ⟨Nat.zero_le _, by simp; omega⟩, if_pos (by omega), List.getElem?_eq_getElem hjy]
   simp [hjy]
  ·rw [if_neg hj]
   simp only [encs, List.getElem?_map, List.getElem?_take]
   rw [if_neg (by omega)]
   rfl
 ·rw [Go.Sort.size_grow, hsz]; omega
 ·intro i hi hne
  rw [Go.Sort.heap_grow_old _ _ (by rw [hsz]; exact hi)]
  simp only [Go.Sort.putRow, Go.Sort.mapBlock, Go.Sort.ahead, Array.getElem?_modify]
  rw [if_neg (fun e => hne (by rw [e]))]
theorem holds_own {w : World} {base g cap : Nat} {cur : Array Value} {xs : List Int} (hg : w.heap[g]? = some (.cells cur 2 (0, 0))) (ht : cur.toList.take (xs.length * 1) = encs (Value.int .i64) xs) : Go.Sort.Holds (Value.int .i64) w g 0 xs.toArray := by
 intro j hj
 have hj' : j < xs.length := by simpa using hj
 have h1 : cur[j]? = some (.int .i64 xs[j]) := by
  have h2 := congrArg (fun l : List Value => l[j]?) ht
  simp only [List.getElem?_take, encs, List.getElem?_map] at h2
  rw [if_pos (by omega), List.getElem?_eq_getElem hj'] at h2
  simpa using h2
 rw [Nat.zero_add]
 refine ⟨?_, ?_⟩
 ·have h3 := blk_cell hg j
  simp only [h1] at h3
  simpa [hj'] using h3
 ·exact blk_frozen hg j
def srt (l : List Int) : List Int := l.mergeSort fun x y => decide (x ≤ y)
theorem srt_len (l : List Int) : (srt l).length = l.length := List.length_mergeSort ..
theorem sort_calls {w : World} {base : Nat} {v : Value} {xs : List Int} (h : Kd.R (Kd.int .i64) 2 w base (fun _ => True) v xs) (hn : xs.length ≤ 1000000) :
  Calls Try.prog 92 #[v] w fun e w' => e = .returned (.tuple #[]) ∧ Kd.R (Kd.int .i64) 2 w' base (fun _ => True) v (srt xs) ∧ w.grownBy w' v.ownBlock := by
 have ho := Kd.own_of_R h
 obtain ⟨hl, ⟨rfl, h0⟩ | ⟨g, cap, cur, rfl, hb, hg, hnc, hcm, hcs, ht⟩⟩ := ho
 ·have hx : xs = [] := List.eq_nil_of_length_eq_zero h0
  subst hx
  refine (Try.slices_Sort_int_none none 0 w).mono ?_
  rintro e w' ⟨rfl, rfl⟩
  refine ⟨rfl, ?_, ⟨rfl, rfl, rfl, Nat.le_refl _, fun _ _ _ => rfl⟩⟩
  rw [show srt [] = [] from by simp [srt]]
  exact h
 ·refine (Try.slices_Sort_int g 0 cap xs w (holds_own (base := base) (cap := cap) hg ht) (blk_lt hg) (by omega)).mono ?_
  rintro e w' ⟨rfl, k, os, rfl⟩
  have hsl : (srt xs).length = xs.length := srt_len xs
  obtain ⟨h1, h2⟩ := put_own (base := base) (k := k) (os := os) (ys := srt xs) (m := xs.length) (n := 0) hb hg hcs hcm (by omega) (by omega)
  rw [List.take_of_length_le (by omega)] at h1
  refine ⟨rfl, Kd.R_of_own (by rw [hsl]; exact h1) (fun _ _ => trivial), ?_⟩
  exact h2
theorem compact_len (l : List Int) : (Lib.compact l).length ≤ l.length := by
 unfold Lib.compact Lib.compactUpTo
 rw [List.length_map]
 have := List.length_filter_le (Lib.keeps l.toArray) (List.range l.length)
 rwa [List.length_range] at this
theorem compact_calls {w : World} {base : Nat} {v : Value} {xs : List Int} (h : Kd.R (Kd.int .i64) 2 w base (fun _ => True) v xs) (hn : xs.length ≤ 1000000) :
  Calls Try.prog 93 #[v] w fun e w' => ∃ u, e = .returned u ∧ Kd.R (Kd.int .i64) 2 w' base (fun _ => True) u (Lib.compact xs) ∧ w.grownBy w' v.ownBlock := by
 have ho := Kd.own_of_R h
 obtain ⟨hl, ⟨rfl, h0⟩ | ⟨g, cap, cur, rfl, hb, hg, hnc, hcm, hcs, ht⟩⟩ := ho
 ·have hx : xs = [] := List.eq_nil_of_length_eq_zero h0
  subst hx
  refine (Try.slices_Compact_int_empty none 0 w).mono ?_
  rintro e w' ⟨rfl, rfl⟩
  refine ⟨_, rfl, ?_, ⟨rfl, rfl, rfl, Nat.le_refl _, fun _ _ _ => rfl⟩⟩
  exact h
 ·refine (Try.slices_Compact_int g 0 cap xs w (holds_own (base := base) (cap := cap) hg ht) (by omega) hnc).mono ?_
  rintro e w' ⟨rfl, q, rfl⟩
  have hcl := compact_len xs
  obtain ⟨h1, h2⟩ := put_own (base := base) (k := q) (os := #[]) (ys := Lib.compact xs ++ List.replicate (xs.length - (Lib.compact xs).length) 0) (m := (Lib.compact xs).length) (n := 0) hb hg hcs hcm (by simp; omega) (by simp)
  rw [List.take_left, Go.Sort.grow_empty] at h1
  rw [Go.Sort.grow_empty] at h2
  exact ⟨_, rfl, Kd.R_of_own h1 (fun _ _ => trivial), h2⟩
end Dl
namespace Dl
def has (l : List S36) (x : S36) : Bool := l.any (same x)
theorem index_l0 (l : List S36) (x : S36) : ∀ (d k i : Nat), i + d = l.length → d < k → l.length ≤ 1000000 → ∃ r, impl_Backend_126.l0 k l (l.length : Int) (i : Int) x.f0 x.f1 x.f2 x.f3 x.f4 = some r ∧ decide (r ≥ 0) = (l.drop i).any (same x)
 | 0, k, i, hi, hk, hn => by
  obtain ⟨k, rfl⟩ : ∃ j, k = j + 1 := ⟨k - 1, by omega⟩
  simp only [impl_Backend_126.l0]
  rw [if_neg (by omega)]
  exact ⟨_, rfl, by rw [List.drop_of_length_le (by omega)]; rfl⟩
 | d + 1, k, i, hi, hk, hn => by
  obtain ⟨k, rfl⟩ : ∃ j, k = j + 1 := ⟨k - 1, by omega⟩
  have hlt : i < l.length := by omega
  have e : rd_T36 l (i : Int) = l[i] := by simp [rd_T36, List.getD, hlt]
  have hs : same x l[i] = (x.f0 == l[i].f0 && (x.f1 == l[i].f1 && (x.f2 == l[i].f2 && (x.f3 == l[i].f3 && (x.f4 == l[i].f4))))) := rfl
  simp only [impl_Backend_126.l0]
  rw [if_pos (by omega), if_pos (by omega), if_pos (by omega), e, ← hs, List.drop_eq_getElem_cons hlt, List.any_cons]
  cases hq : same x l[i] with
  | true =>
   rw [if_pos rfl]
   exact ⟨_, rfl, by simp⟩
  | false =>
   rw [if_neg (by simp)]
   obtain ⟨r, h1, h2⟩ := index_l0 l x d k (i + 1) (by omega) (by omega) hn
   refine ⟨r, ?_, by rw [h2]; simp⟩
   rw [← h1]
   congr 1
   rw [show wrap64 ((i : Int) + 1) = ((i + 1 : Nat) : Int) from by unfold wrap64; omega]
theorem has_is (l : List S36) (x : S36) (hn : l.length ≤ 1000000) : impl_Backend_91.f (l.length + 1) l x.f0 x.f1 x.f2 x.f3 x.f4 = some (has l x) := by
 obtain ⟨r, h1, h2⟩ := index_l0 l x l.length (l.length + 1) 0 (by omega) (by omega) hn
 unfold impl_Backend_91.f impl_Backend_126.f
 rw [show impl_Backend_126.l0 (l.length + 1) l (l.length : Int) 0 x.f0 x.f1 x.f2 x.f3 x.f4 = some r from h1]
 show some (decide (r ≥ 0)) = _
 rw [h2, List.drop_zero]
 rfl
/-- The names of what is not among others. -/
def left (l o : List S36) : List Int := (l.filter (fun x => !has o x)).map (fun x => x.f0)
theorem left_len (l o : List S36) : (left l o).length ≤ l.length := by
 unfold left
 rw [List.length_map]
 exact List.length_filter_le _ _
theorem left_step (l o : List S36) (k : Nat) (h : k < l.length) : left (l.take (k + 1)) o = left (l.take k) o ++ (if has o (rd_T36 l (k : Int)) = true then [] else [(rd_T36 l (k : Int)).f0]) := by
 have e : rd_T36 l (k : Int) = l[k] := by simp [rd_T36, List.getD, h]
 unfold left
 rw [List.take_succ_eq_append_getElem h, List.filter_append, List.map_append, e]
 cases hq : has o l[k] <;> simp [hq]
def dim (va : Int) (la : List S36) (la2 : List S64) (vb : Int) (lb : List S36) (lb2 : List S64) : List Int := if dcd va la la2 vb lb lb2 ≠ 0 then [] else Lib.compact (srt (left la lb ++ left lb la))
theorem put5 {w : World} {g : Nat} {t : TypeId} {u0 u1 u2 u3 u4 : Value} (h : w.heap[g]? = some (.cells #[u0, u1, u2, u3, u4] t (0, 0))) (v0 v1 v2 v3 v4 : Value) :
  (((((w.setCell ⟨g, 0, none⟩ v0).setCell ⟨g, 1, none⟩ v1).setCell ⟨g, 2, none⟩ v2).setCell ⟨g, 3, none⟩ v3).setCell ⟨g, 4, none⟩ v4).heap[g]? = some (.cells #[v0, v1, v2, v3, v4] t (0, 0)) := by
 refine blk_put (cs := #[v0, v1, v2, v3, u4]) ?_ 4 _ rfl
 refine blk_put (cs := #[v0, v1, v2, u3, u4]) ?_ 3 _ rfl
 refine blk_put (cs := #[v0, v1, u2, u3, u4]) ?_ 2 _ rfl
 refine blk_put (cs := #[v0, u1, u2, u3, u4]) ?_ 1 _ rfl
 exact blk_put (cs := #[u0, u1, u2, u3, u4]) h 0 _ rfl
end Dl
set_option maxHeartbeats 8000000 in
set_option maxRecDepth 100000 in
theorem impl_DeltaOf.cf (A1 : Option Addr) (c1 : Nat) (la : List S36) (A2 : Option Addr) (c2 : Nat) (la2 : List S64) (va : Int) (B1 : Option Addr) (d1 : Nat) (lb : List S36) (B2 : Option Addr) (d2 : Nat) (lb2 : List S64) (vb : Int) (w : World)
  (hr1 : Kd.C k36 w A1 la.length la) (hk1 : la.length ≤ c1) (hr2 : Kd.C k64 w A2 la2.length la2) (hs1 : Kd.C k36 w B1 lb.length lb) (hl1 : lb.length ≤ d1) (hs2 : Kd.C k64 w B2 lb2.length lb2) :
  Calls Try.prog 42 #[.agg #[.int .i64 va, .slice A1 la.length c1, .slice A2 la2.length c2], .agg #[.int .i64 vb, .slice B1 lb.length d1, .slice B2 lb2.length d2]] w fun e_ w' => ∃ u, e_ = .returned (.agg #[.int .i64 (Dl.dcd va la la2 vb lb lb2), u]) ∧ Kd.R (Kd.int .i64) 2 w' w.heap.size (fun _ => True) u (Dl.dim va la la2 vb lb lb2) ∧ Below w.heap.size w w' := by
 have hu31 := Try.underlying31
 have hu36 := Try.underlying36
 have hu76 := Try.underlying76
 obtain ⟨w1, hw1⟩ : ∃ W, W = ((w.alloc (.cells #[.int .i64 va, .slice A1 la.length c1, .slice A2 la2.length c2] 31)).alloc (.cells #[.int .i64 vb, .slice B1 lb.length d1, .slice B2 lb2.length d2] 31)).alloc (.cells #[.int .i64 0, .slice none 0 0] 76) := ⟨_, rfl⟩
 have hs1_ : w1.heap.size = w.heap.size + 3 := by rw [hw1]; simp
 have hB1 : Below w.heap.size w w1 := by rw [hw1]; exact ((((Below.refl _ w).alloc (Nat.le_refl _) _).alloc (by simp) _).alloc (by simp; omega) _)
 have bg1 : w1.heap[w.heap.size]? = some (.cells #[.int .i64 va, .slice A1 la.length c1, .slice A2 la2.length c2] 31 (0, 0)) := by rw [hw1]; exact blk_alloc (blk_alloc (blk_new w _) _) _
 have bh1 : w1.heap[w.heap.size + 1]? = some (.cells #[.int .i64 vb, .slice B1 lb.length d1, .slice B2 lb2.length d2] 31 (0, 0)) := by
  rw [hw1]
  have h_ := heap_alloc_new (w.alloc (.cells #[.int .i64 va, .slice A1 la.length c1, .slice A2 la2.length c2] 31)) (.cells #[.int .i64 vb, .slice B1 lb.length d1, .slice B2 lb2.length d2] 31)
  rw [World.size_alloc] at h_
  exact blk_alloc h_ _
 have bk1 : w1.heap[w.heap.size + 1 + 1]? = some (.cells #[.int .i64 0, .slice none 0 0] 76 (0, 0)) := by
  rw [hw1]
  have h_ := heap_alloc_new ((w.alloc (.cells #[.int .i64 va, .slice A1 la.length c1, .slice A2 la2.length c2] 31)).alloc (.cells #[.int .i64 vb, .slice B1 lb.length d1, .slice B2 lb2.length d2] 31)) (.cells #[.int .i64 0, .slice none 0 0] 76)
  rwa [World.size_alloc, World.size_alloc] at h_
 have hr11 := Kd.C_below hr1 hB1
 have hr21 := Kd.C_below hr2 hB1
 have hs11 := Kd.C_below hs1 hB1
 have hs21 := Kd.C_below hs2 hB1
 have hcallF := impl_ConfigFault.cf A1 c1 la A2 c2 la2 va w1 hr11 hk1 hr21
 rw [hw1] at hcallF
 have hcallG := fun (W : World) (hW : Below w1.heap.size w1 W) => impl_ConfigFault.cf B1 d1 lb B2 d2 lb2 vb W (Kd.C_below hs11 hW) hl1 (Kd.C_below hs21 hW)
 rw [hw1] at bg1
 have k0 := blk_cell bg1 0
 have k1 := blk_cell bg1 1
 have k2 := blk_cell bg1 2
 rw [← hw1] at bg1
 obtain ⟨rc, hrc⟩ : ∃ r, r = Dl.dcd va la la2 vb lb lb2 := ⟨_, rfl⟩
 obtain ⟨rv, hrv⟩ : ∃ r, r = Dl.dim va la la2 vb lb lb2 := ⟨_, rfl⟩
 unfold Dl.dim at hrv
 rw [← hrc] at hrv
 unfold Dl.dim
 rw [← hrc, ← hrv]
 unfold Dl.dcd at hrc
 have hcl1 := @Dl.code_len va la la2
 have hcl2 := @Dl.code_len vb lb lb2
 obtain ⟨q, hq⟩ : ∃ q, q = Cf.code va la la2 := ⟨_, rfl⟩
 rw [← hq] at hcallF hrc hcl1
 clear hq
 generalize Cf.code vb lb lb2 = q2 at hcallG hrc hcl2
 have Hlac := Aside0.mk hk1
 have Hlbc := Aside0.mk hl1
 clear hk1 hl1
 go_enter Try.func42, Try.ntmps42
 by_cases hq0 : q = 0
 ·have hq1 : (q != 0) = false := bne_eq_false_iff_eq.mpr hq0
  have hq2 : (q == 0) = true := beq_iff_eq.mpr hq0
  rw [if_neg (by simp [hq0])] at hrc
  have hlal := hcl1 hq0
  clear hcl1
  by_cases hp0 : q2 = 0
  ·have hp1 : (q2 != 0) = false := bne_eq_false_iff_eq.mpr hp0
   have hlbl := hcl2 hp0
   rw [if_neg (by rw [hrc]; simp [hp0])] at hrv
   have HRC := Aside0.mk (hrc.trans hp0)
   have HRV := Aside0.mk hrv
   clear hcl2 hrc hrv
   go_wp2_with (first
    | (go_at_call 15; refine hcallF.mono ?_; rintro e_ w2 ⟨rfl, hb2⟩; rw [← hw1] at hb2; clear hcallF; clear k0 k1 k2; have bh2 := blk_below bh1 hb2; have k0 := blk_cell bh2 0; have k1 := blk_cell bh2 1; have k2 := blk_cell bh2 2; clear bh2)
    | (go_at_call 15; refine (hcallG _ hb2).mono ?_; rintro e_ wS ⟨rfl, hb3⟩; replace hb2 := Cf.up hb2 hb3; clear hb3 hcallG; clear k0 k1 k2)
    | ((with_reducible refine gate_dst (N := 21) rfl ?_); refine Kd.R_lit (Kd.int .i64) _ 2 ?hg (N := 21) ?hd (xs := ([] : List Int)) (inner := []) (ok := fun _ => True) (okp := fun _ => True) ?hr ?hp (fun _ hk => hk) trivial (Below.refl _ _) (Nat.le_refl _) (by simp) ?_; (case hd => rfl); (case hg => rfl); (case hr => first | (go_simp; done) | (go_simp; rfl)); (case hp => exact (Reps.none _ _)); intro v21 wl hoL hbL hgL_ hnL_; clear hgL_ hnL_; have z1 := blk_cell (blk_below (blk_below bg1 hb2) hbL) 1))
   have hS := hb2.size
   have HSW : Aside0 (w.heap.size ≤ wS.heap.size) := ⟨by omega⟩
   have BGA := Aside0.mk (blk_below bg1 hb2)
   have BGB := Aside0.mk (blk_below bh1 hb2)
   have BKR := Aside0.mk (blk_below bk1 hb2)
   have Hla := Aside0.mk (Kd.C_below hr11 hb2)
   have Hlb := Aside0.mk (Kd.C_below hs11 hb2)
   have HBS := Aside0.mk (Cf.up hB1 hb2)
   have HSZ1 := Aside0.mk hs1_
   have HOs := Aside0.mk hoL
   have HB := Aside0.mk hbL
   clear hr1 hr2 hs1 hs2 bg1 bh1 bk1 hr11 hr21 hs11 hs21 hb2 hw1 hB1 hs1_ hS hoL hbL z1
   have HO : Aside0 (Kd.R (Kd.int .i64) 2 _ wS.heap.size (fun _ => True) _ ([] ++ Dl.left (la.take 0) lb)) := ⟨by have h_ := HOs.out; simpa [Dl.left] using h_⟩
   clear HOs
   go_loopg [6, 25] la.length (fun gg s6 s_ wr => ∃ kk : Nat, kk ≤ la.length ∧ la.length - kk ≤ gg ∧ s_ = .int .i64 kk ∧ Aside0 (Kd.R (Kd.int .i64) 2 wr wS.heap.size (fun _ => True) s6 ([] ++ Dl.left (la.take kk) lb)) ∧ Aside0 (Below wS.heap.size wS wr))
   case atStart => exact ⟨0, Nat.zero_le _, by omega, rfl, HO, HB⟩
   case round =>
    clear HO HB
    obtain ⟨kk, hkk, hg, rfl, HO, HB⟩ := hrel
    have hll := Dl.left_len (la.take kk) lb
    rw [List.length_take] at hll
    have HLL : Aside0 (([] ++ Dl.left (la.take kk) lb).length ≤ 100) := ⟨by simp only [List.nil_append]; omega⟩
    clear hll
    obtain ⟨lst, hlst⟩ : ∃ l_, l_ = [] ++ Dl.left (la.take kk) lb := ⟨_, rfl⟩
    rw [← hlst] at HO HLL
    have HLST := Aside0.mk hlst
    clear hlst
    by_cases hlt : kk < la.length
    ·have hltz : (kk : Int) < (la.length : Int) := by omega
     obtain ⟨ad, e1, hx_0, hx_1, hx_2, hx_3, hx_4⟩ := at_T36 (Kd.C_below Hla.out HB.out) (kk : Int) (by omega) hltz
     cases e1
     simp only [Int.toNat_natCast] at hx_0 hx_1 hx_2 hx_3 hx_4
     have HST : Aside0 ([] ++ Dl.left (la.take (kk + 1)) lb = lst ++ (if Dl.has lb (rd_T36 la (kk : Int)) = true then [] else [(rd_T36 la (kk : Int)).f0])) := ⟨by rw [Dl.left_step la lb kk hlt, HLST.out]; simp only [List.append_assoc]⟩
     obtain ⟨x, hx⟩ : ∃ x_, x_ = rd_T36 la (kk : Int) := ⟨_, rfl⟩
     rw [← hx] at hx_0 hx_1 hx_2 hx_3 hx_4 HST
     clear hx
     have hz : wr.cell? ⟨w.heap.size + 1, 1, none⟩ = some (.slice B1 lb.length d1) := blk_cell (blk_below BGB.out HB.out) 1
     have hhas := fun (W : World) (hW : Below wr.heap.size wr W) => impl_Backend_91.calls (lb.length + 1) B1 d1 lb x.f0 x.f1 x.f2 x.f3 x.f4 (Dl.has lb x) W (Kd.C_below (Kd.C_below Hlb.out HB.out) hW) Hlbc.out (Dl.has_is lb x (by omega))
     cases hh : Dl.has lb x with
     | true =>
      rw [hh] at HST
      simp only [hh] at hhas
      clear hh
      go_wp2_with (first
       | ((with_reducible refine gate_dst (N := 8) rfl ?_); refine box_event ?hg (N := 8) ?hd (cs := #[.int .i64 0, .int .i64 0, .int .i64 0, .int .i64 0, .bool false]) (t := 36) ?hr ?_; (case hd => rfl); (case hg => rfl); (case hr => first | (go_simp; done) | (go_simp; rfl)); intro gx hgx wx hboxx hbx; have HGX : Aside0 (wr.heap.size ≤ gx) := ⟨by rw [hgx]; exact Nat.le_refl _⟩; clear hgx; have c0_ := blk_cell hboxx 0; have c1_ := blk_cell hboxx 1; have c2_ := blk_cell hboxx 2; have c3_ := blk_cell hboxx 3; have c4_ := blk_cell hboxx 4; have f0_ := blk_frozen hboxx 0; have f1_ := blk_frozen hboxx 1; have f2_ := blk_frozen hboxx 2; have f3_ := blk_frozen hboxx 3; have f4_ := blk_frozen hboxx 4; have k0_ := pw_cell_below hbx hx_0; have k1_ := pw_cell_below hbx hx_1; have k2_ := pw_cell_below hbx hx_2; have k3_ := pw_cell_below hbx hx_3; have k4_ := pw_cell_below hbx hx_4; have kz_ := pw_cell_below hbx hz; have HNX : Aside0 (gx ≠ w.heap.size + 1) := ⟨by have h1 := HGX.out; have h2 := blk_lt (blk_below BGB.out HB.out); omega⟩; have hnx := HNX.out; have hbW : Below wr.heap.size wr (((((wx.setCell ⟨gx, 0, none⟩ (.int .i64 x.f0)).setCell ⟨gx, 1, none⟩ (.int .i64 x.f1)).setCell ⟨gx, 2, none⟩ (.int .i64 x.f2)).setCell ⟨gx, 3, none⟩ (.int .i64 x.f3)).setCell ⟨gx, 4, none⟩ (.bool x.f4)) := (by (repeat (refine below_set ?_ HGX.out)); exact hbx); have bX := Dl.put5 hboxx (.int .i64 x.f0) (.int .i64 x.f1) (.int .i64 x.f2) (.int .i64 x.f3) (.bool x.f4))
       | (go_at_call 91; refine (hhas _ hbW).mono ?_; rintro e_ w6 ⟨rfl, hb6⟩; have HB6 := Aside0.mk (Cf.up hbW hb6); have bX6 := blk_below bX hb6; have y0_ := blk_cell bX6 0; clear hhas c0_ c1_ c2_ c3_ c4_ f0_ f1_ f2_ f3_ f4_ k0_ k1_ k2_ k3_ k4_ kz_ hbW bX hb6 hx_0 hx_1 hx_2 hx_3 hx_4 hz hbx hboxx))
      go_roundg (la.length - (kk + 1))
      case measure => omega
      case rel => exact ⟨kk + 1, by omega, by omega, by go_num, ⟨by rw [HST.out]; simpa using Kd.R_below HO.out HB6.out⟩, ⟨Cf.up HB.out HB6.out⟩⟩
     | false =>
      rw [hh] at HST
      simp only [hh] at hhas
      clear hh
      obtain ⟨Ao, co, eo⟩ := Kd.R_slice HO.out
      subst eo
      go_wp2_with (first
       | ((with_reducible refine gate_dst (N := 8) rfl ?_); refine box_event ?hg (N := 8) ?hd (cs := #[.int .i64 0, .int .i64 0, .int .i64 0, .int .i64 0, .bool false]) (t := 36) ?hr ?_; (case hd => rfl); (case hg => rfl); (case hr => first | (go_simp; done) | (go_simp; rfl)); intro gx hgx wx hboxx hbx; have HGX : Aside0 (wr.heap.size ≤ gx) := ⟨by rw [hgx]; exact Nat.le_refl _⟩; clear hgx; have c0_ := blk_cell hboxx 0; have c1_ := blk_cell hboxx 1; have c2_ := blk_cell hboxx 2; have c3_ := blk_cell hboxx 3; have c4_ := blk_cell hboxx 4; have f0_ := blk_frozen hboxx 0; have f1_ := blk_frozen hboxx 1; have f2_ := blk_frozen hboxx 2; have f3_ := blk_frozen hboxx 3; have f4_ := blk_frozen hboxx 4; have k0_ := pw_cell_below hbx hx_0; have k1_ := pw_cell_below hbx hx_1; have k2_ := pw_cell_below hbx hx_2; have k3_ := pw_cell_below hbx hx_3; have k4_ := pw_cell_below hbx hx_4; have kz_ := pw_cell_below hbx hz; have HNX : Aside0 (gx ≠ w.heap.size + 1) := ⟨by have h1 := HGX.out; have h2 := blk_lt (blk_below BGB.out HB.out); omega⟩; have hnx := HNX.out; have hbW : Below wr.heap.size wr (((((wx.setCell ⟨gx, 0, none⟩ (.int .i64 x.f0)).setCell ⟨gx, 1, none⟩ (.int .i64 x.f1)).setCell ⟨gx, 2, none⟩ (.int .i64 x.f2)).setCell ⟨gx, 3, none⟩ (.int .i64 x.f3)).setCell ⟨gx, 4, none⟩ (.bool x.f4)) := (by (repeat (refine below_set ?_ HGX.out)); exact hbx); have bX := Dl.put5 hboxx (.int .i64 x.f0) (.int .i64 x.f1) (.int .i64 x.f2) (.int .i64 x.f3) (.bool x.f4))
       | (go_at_call 91; refine (hhas _ hbW).mono ?_; rintro e_ w6 ⟨rfl, hb6⟩; have HB6 := Aside0.mk (Cf.up hbW hb6); have bX6 := blk_below bX hb6; have y0_ := blk_cell bX6 0; clear hhas c0_ c1_ c2_ c3_ c4_ f0_ f1_ f2_ f3_ f4_ k0_ k1_ k2_ k3_ k4_ kz_ hbW bX hb6 hx_0 hx_1 hx_2 hx_3 hx_4 hz hbx hboxx)
       | ((with_reducible refine gate_builtin (b := .append) (xs := #[.tmp 34, .tmp 37]) rfl ?_); at_builtin; refine Kd.R_append (Kd.int .i64) wS.heap.size rfl (.tmp 34) (.tmp 37) 62 2 (.int .i64 0) 8 rfl Try.underlying62 info2 rfl (by decide) (by omega) (.slice Ao lst.length co) lst x.f0 [.int .i64 x.f0] (fun _ => True) (fun _ => False) rfl (by first | (go_simp; done) | (go_simp; rfl)) ?aP (fun _ hk => hk.elim) ?aF ?aO (Below.refl _ _) ?aS ?aL ?_; (case aP => exact rfl); (case aF => exact (fun _ _ => trivial)); (case aO => exact (by (with_reducible repeat (first | apply Kd.R_alloc | apply Kd.R_drewN | apply Kd.R_drew)); exact Kd.R_below HO.out HB6.out)); (case aS => first | exact (Cf.up HB.out HB6.out).size | exact ((Cf.up HB.out HB6.out).alloc (Cf.up HB.out HB6.out).size _).size); (case aL => have := HLL.out; omega); intro vA wA hoA hbA hgA hatA))
      go_roundg (la.length - (kk + 1))
      case measure => omega
      case rel =>
       refine ⟨kk + 1, by omega, by omega, by go_num, ⟨?_⟩, ⟨?_⟩⟩
       ·rw [HST.out]
        simpa using hoA
       ·first | exact (Cf.up HB.out HB6.out).trans hbA | exact ((Cf.up HB.out HB6.out).alloc (Cf.up HB.out HB6.out).size _).trans hbA
    ·have hltz : ¬ (kk : Int) < (la.length : Int) := by omega
     have : kk = la.length := by omega
     subst this
     have HOs : Aside0 (Kd.R (Kd.int .i64) 2 wr wS.heap.size (fun _ => True) _ ([] ++ Dl.left la lb)) := ⟨by have h_ := HO.out; rw [HLST.out, List.take_length] at h_; exact h_⟩
     clear HO HLL HLST
     have z1 := blk_cell (blk_below BGB.out HB.out) 1
     go_wp2
     clear z1
     have HO : Aside0 (Kd.R (Kd.int .i64) 2 _ wS.heap.size (fun _ => True) _ (([] ++ Dl.left la lb) ++ Dl.left (lb.take 0) la)) := ⟨by have h_ := HOs.out; simpa [Dl.left] using h_⟩
     clear HOs
     go_loopg [6, 43] lb.length (fun gg s6 s_ wr => ∃ kk : Nat, kk ≤ lb.length ∧ lb.length - kk ≤ gg ∧ s_ = .int .i64 kk ∧ Aside0 (Kd.R (Kd.int .i64) 2 wr wS.heap.size (fun _ => True) s6 (([] ++ Dl.left la lb) ++ Dl.left (lb.take kk) la)) ∧ Aside0 (Below wS.heap.size wS wr))
     case atStart => exact ⟨0, Nat.zero_le _, by omega, rfl, HO, HB⟩
     case round =>
      clear HO HB
      obtain ⟨kk, hkk, hg, rfl, HO, HB⟩ := hrel
      have hll := Dl.left_len (lb.take kk) la
      rw [List.length_take] at hll
      have HLL : Aside0 ((([] ++ Dl.left la lb) ++ Dl.left (lb.take kk) la).length ≤ 100) := ⟨by have := Dl.left_len la lb; simp only [List.nil_append, List.length_append]; omega⟩
      clear hll
      obtain ⟨lst, hlst⟩ : ∃ l_, l_ = ([] ++ Dl.left la lb) ++ Dl.left (lb.take kk) la := ⟨_, rfl⟩
      rw [← hlst] at HO HLL
      have HLST := Aside0.mk hlst
      clear hlst
      by_cases hlt : kk < lb.length
      ·have hltz : (kk : Int) < (lb.length : Int) := by omega
       obtain ⟨ad, e1, hx_0, hx_1, hx_2, hx_3, hx_4⟩ := at_T36 (Kd.C_below Hlb.out HB.out) (kk : Int) (by omega) hltz
       cases e1
       simp only [Int.toNat_natCast] at hx_0 hx_1 hx_2 hx_3 hx_4
       have HST : Aside0 (([] ++ Dl.left la lb) ++ Dl.left (lb.take (kk + 1)) la = lst ++ (if Dl.has la (rd_T36 lb (kk : Int)) = true then [] else [(rd_T36 lb (kk : Int)).f0])) := ⟨by rw [Dl.left_step lb la kk hlt, HLST.out]; simp only [List.append_assoc]⟩
       obtain ⟨x, hx⟩ : ∃ x_, x_ = rd_T36 lb (kk : Int) := ⟨_, rfl⟩
       rw [← hx] at hx_0 hx_1 hx_2 hx_3 hx_4 HST
       clear hx
       have hz : wr.cell? ⟨w.heap.size, 1, none⟩ = some (.slice A1 la.length c1) := blk_cell (blk_below BGA.out HB.out) 1
       have hhas := fun (W : World) (hW : Below wr.heap.size wr W) => impl_Backend_91.calls (la.length + 1) A1 c1 la x.f0 x.f1 x.f2 x.f3 x.f4 (Dl.has la x) W (Kd.C_below (Kd.C_below Hla.out HB.out) hW) Hlac.out (Dl.has_is la x (by omega))
       cases hh : Dl.has la x with
       | true =>
        rw [hh] at HST
        simp only [hh] at hhas
        clear hh
        go_wp2_with (first
         | ((with_reducible refine gate_dst (N := 10) rfl ?_); refine box_event ?hg (N := 10) ?hd (cs := #[.int .i64 0, .int .i64 0, .int .i64 0, .int .i64 0, .bool false]) (t := 36) ?hr ?_; (case hd => rfl); (case hg => rfl); (case hr => first | (go_simp; done) | (go_simp; rfl)); intro gx hgx wx hboxx hbx; have HGX : Aside0 (wr.heap.size ≤ gx) := ⟨by rw [hgx]; exact Nat.le_refl _⟩; clear hgx; have c0_ := blk_cell hboxx 0; have c1_ := blk_cell hboxx 1; have c2_ := blk_cell hboxx 2; have c3_ := blk_cell hboxx 3; have c4_ := blk_cell hboxx 4; have f0_ := blk_frozen hboxx 0; have f1_ := blk_frozen hboxx 1; have f2_ := blk_frozen hboxx 2; have f3_ := blk_frozen hboxx 3; have f4_ := blk_frozen hboxx 4; have k0_ := pw_cell_below hbx hx_0; have k1_ := pw_cell_below hbx hx_1; have k2_ := pw_cell_below hbx hx_2; have k3_ := pw_cell_below hbx hx_3; have k4_ := pw_cell_below hbx hx_4; have kz_ := pw_cell_below hbx hz; have HNX : Aside0 (gx ≠ w.heap.size) := ⟨by have h1 := HGX.out; have h2 := blk_lt (blk_below BGA.out HB.out); omega⟩; have hnx := HNX.out; have hbW : Below wr.heap.size wr (((((wx.setCell ⟨gx, 0, none⟩ (.int .i64 x.f0)).setCell ⟨gx, 1, none⟩ (.int .i64 x.f1)).setCell ⟨gx, 2, none⟩ (.int .i64 x.f2)).setCell ⟨gx, 3, none⟩ (.int .i64 x.f3)).setCell ⟨gx, 4, none⟩ (.bool x.f4)) := (by (repeat (refine below_set ?_ HGX.out)); exact hbx); have bX := Dl.put5 hboxx (.int .i64 x.f0) (.int .i64 x.f1) (.int .i64 x.f2) (.int .i64 x.f3) (.bool x.f4))
         | (go_at_call 91; refine (hhas _ hbW).mono ?_; rintro e_ w6 ⟨rfl, hb6⟩; have HB6 := Aside0.mk (Cf.up hbW hb6); have bX6 := blk_below bX hb6; have y0_ := blk_cell bX6 0; clear hhas c0_ c1_ c2_ c3_ c4_ f0_ f1_ f2_ f3_ f4_ k0_ k1_ k2_ k3_ k4_ kz_ hbW bX hb6 hx_0 hx_1 hx_2 hx_3 hx_4 hz hbx hboxx))
        go_roundg (lb.length - (kk + 1))
        case measure => omega
        case rel => exact ⟨kk + 1, by omega, by omega, by go_num, ⟨by rw [HST.out]; simpa using Kd.R_below HO.out HB6.out⟩, ⟨Cf.up HB.out HB6.out⟩⟩
       | false =>
        rw [hh] at HST
        simp only [hh] at hhas
        clear hh
        obtain ⟨Ao, co, eo⟩ := Kd.R_slice HO.out
        subst eo
        go_wp2_with (first
         | ((with_reducible refine gate_dst (N := 10) rfl ?_); refine box_event ?hg (N := 10) ?hd (cs := #[.int .i64 0, .int .i64 0, .int .i64 0, .int .i64 0, .bool false]) (t := 36) ?hr ?_; (case hd => rfl); (case hg => rfl); (case hr => first | (go_simp; done) | (go_simp; rfl)); intro gx hgx wx hboxx hbx; have HGX : Aside0 (wr.heap.size ≤ gx) := ⟨by rw [hgx]; exact Nat.le_refl _⟩; clear hgx; have c0_ := blk_cell hboxx 0; have c1_ := blk_cell hboxx 1; have c2_ := blk_cell hboxx 2; have c3_ := blk_cell hboxx 3; have c4_ := blk_cell hboxx 4; have f0_ := blk_frozen hboxx 0; have f1_ := blk_frozen hboxx 1; have f2_ := blk_frozen hboxx 2; have f3_ := blk_frozen hboxx 3; have f4_ := blk_frozen hboxx 4; have k0_ := pw_cell_below hbx hx_0; have k1_ := pw_cell_below hbx hx_1; have k2_ := pw_cell_below hbx hx_2; have k3_ := pw_cell_below hbx hx_3; have k4_ := pw_cell_below hbx hx_4; have kz_ := pw_cell_below hbx hz; have HNX : Aside0 (gx ≠ w.heap.size) := ⟨by have h1 := HGX.out; have h2 := blk_lt (blk_below BGA.out HB.out); omega⟩; have hnx := HNX.out; have hbW : Below wr.heap.size wr (((((wx.setCell ⟨gx, 0, none⟩ (.int .i64 x.f0)).setCell ⟨gx, 1, none⟩ (.int .i64 x.f1)).setCell ⟨gx, 2, none⟩ (.int .i64 x.f2)).setCell ⟨gx, 3, none⟩ (.int .i64 x.f3)).setCell ⟨gx, 4, none⟩ (.bool x.f4)) := (by (repeat (refine below_set ?_ HGX.out)); exact hbx); have bX := Dl.put5 hboxx (.int .i64 x.f0) (.int .i64 x.f1) (.int .i64 x.f2) (.int .i64 x.f3) (.bool x.f4))
         | (go_at_call 91; refine (hhas _ hbW).mono ?_; rintro e_ w6 ⟨rfl, hb6⟩; have HB6 := Aside0.mk (Cf.up hbW hb6); have bX6 := blk_below bX hb6; have y0_ := blk_cell bX6 0; clear hhas c0_ c1_ c2_ c3_ c4_ f0_ f1_ f2_ f3_ f4_ k0_ k1_ k2_ k3_ k4_ kz_ hbW bX hb6 hx_0 hx_1 hx_2 hx_3 hx_4 hz hbx hboxx)
         | ((with_reducible refine gate_builtin (b := .append) (xs := #[.tmp 52, .tmp 55]) rfl ?_); at_builtin; refine Kd.R_append (Kd.int .i64) wS.heap.size rfl (.tmp 52) (.tmp 55) 62 2 (.int .i64 0) 8 rfl Try.underlying62 info2 rfl (by decide) (by omega) (.slice Ao lst.length co) lst x.f0 [.int .i64 x.f0] (fun _ => True) (fun _ => False) rfl (by first | (go_simp; done) | (go_simp; rfl)) ?aP (fun _ hk => hk.elim) ?aF ?aO (Below.refl _ _) ?aS ?aL ?_; (case aP => exact rfl); (case aF => exact (fun _ _ => trivial)); (case aO => exact (by (with_reducible repeat (first | apply Kd.R_alloc | apply Kd.R_drewN | apply Kd.R_drew)); exact Kd.R_below HO.out HB6.out)); (case aS => first | exact (Cf.up HB.out HB6.out).size | exact ((Cf.up HB.out HB6.out).alloc (Cf.up HB.out HB6.out).size _).size); (case aL => have := HLL.out; omega); intro vA wA hoA hbA hgA hatA))
        go_roundg (lb.length - (kk + 1))
        case measure => omega
        case rel =>
         refine ⟨kk + 1, by omega, by omega, by go_num, ⟨?_⟩, ⟨?_⟩⟩
         ·rw [HST.out]
          simpa using hoA
         ·first | exact (Cf.up HB.out HB6.out).trans hbA | exact ((Cf.up HB.out HB6.out).alloc (Cf.up HB.out HB6.out).size _).trans hbA
      ·have hltz : ¬ (kk : Int) < (lb.length : Int) := by omega
       have : kk = lb.length := by omega
       subst this
       have HOs : Aside0 (Kd.R (Kd.int .i64) 2 wr wS.heap.size (fun _ => True) _ (([] ++ Dl.left la lb) ++ Dl.left lb la)) := ⟨by have h_ := HO.out; rw [HLST.out, List.take_length] at h_; exact h_⟩
       clear HO HLL HLST
       obtain ⟨lst2, hlst2⟩ : ∃ l_, l_ = [] ++ Dl.left la lb ++ Dl.left lb la := ⟨_, rfl⟩
       rw [← hlst2] at HOs
       have hl2 : lst2.length ≤ 100 := by
        have h1 := Dl.left_len la lb
        have h2 := Dl.left_len lb la
        rw [hlst2]
        simp only [List.nil_append, List.length_append]
        omega
       have HL2 := Aside0.mk hlst2
       clear hlst2
       have hcallS := Dl.sort_calls HOs.out (by omega)
       have hsl := Dl.srt_len lst2
       have HSL := Aside0.mk hsl
       clear hsl
       go_wp2_with (first
        | (go_at_call 92; refine hcallS.mono ?_; rintro e_ w7 ⟨rfl, hR7, hg7⟩; clear hcallS; have HR7 := Aside0.mk hR7; have HB7 : Aside0 (Below wS.heap.size wS w7) := ⟨HB.out.grown hg7 HB.out.size (Kd.R_base HOs.out)⟩; have hcallC := Dl.compact_calls hR7 (by have := HSL.out; omega); clear hR7 hg7)
        | (go_at_call 93; refine hcallC.mono ?_; rintro e_ w8 ⟨u, rfl, hR8, hg8⟩; clear hcallC; have HB8 : Aside0 (Below wS.heap.size wS w8) := ⟨HB7.out.grown hg8 HB7.out.size (Kd.R_base HR7.out)⟩; obtain ⟨Au, cu, eu⟩ := Kd.R_slice hR8; subst eu; have HR8 := Aside0.mk hR8; clear hR8 hg8; have bk := blk_below BKR.out HB8.out; have y0 := blk_cell bk 0; have f0 := blk_frozen bk 0; have y1 := blk_cell bk 1; have f1 := blk_frozen bk 1))
       refine bodyPost_ret (results_cell_row rfl _ _ (w.heap.size + 1 + 1) 76 #[.int .i64 0, .slice Au (Lib.compact (Dl.srt lst2)).length cu] (0, 0) _ rfl (by exact Dl.put2 bk _ _) Try.underlying76 rfl (by kernel_rfl)) rfl ?_
       refine ⟨.slice Au (Lib.compact (Dl.srt lst2)).length cu, by rw [HRC.out], ?_, ?_⟩
       ·rw [HRV.out, show Dl.left la lb ++ Dl.left lb la = lst2 from by rw [HL2.out]; rfl]
        exact Dl.R_put2 (Kd.R_lower HR8.out HSW.out) bk _ _
       ·have := HSZ1.out
        repeat (refine below_set ?_ (by show _ ≤ w.heap.size + 1 + 1; omega))
        exact Cf.up HBS.out HB8.out
  ·have hp1 : (q2 != 0) = true := bne_iff_ne.mpr hp0
   have hp2 : (q2 == 0) = false := beq_eq_false_iff_ne.mpr hp0
   rw [if_pos (by rw [hrc]; exact hp0)] at hrv
   clear hcl2
   have HRC := Aside0.mk hrc
   have HRV := Aside0.mk hrv
   clear hrc hrv
   go_wp2_with (first
    | (go_at_call 15; refine hcallF.mono ?_; rintro e_ w2 ⟨rfl, hb2⟩; rw [← hw1] at hb2; clear hcallF; clear k0 k1 k2; have bh2 := blk_below bh1 hb2; have k0 := blk_cell bh2 0; have k1 := blk_cell bh2 1; have k2 := blk_cell bh2 2; clear bh2)
    | (go_at_call 15; refine (hcallG _ hb2).mono ?_; rintro e_ wS ⟨rfl, hb3⟩; replace hb2 := Cf.up hb2 hb3; clear hb3 hcallG; clear k0 k1 k2; have bk4 := blk_below bk1 hb2; have y0 := blk_cell bk4 0; have f0 := blk_frozen bk4 0; have y1 := blk_cell bk4 1; have f1 := blk_frozen bk4 1))
   refine bodyPost_ret (results_cell_row rfl _ _ (w.heap.size + 1 + 1) 76 #[.int .i64 q2, .slice none 0 0] (0, 0) _ rfl (by exact Dl.put2 bk4 _ _) Try.underlying76 rfl (by kernel_rfl)) rfl ?_
   refine ⟨.slice none 0 0, by rw [HRC.out], ?_, ?_⟩
   ·rw [HRV.out]; exact Dl.R_put2 (Kd.R_nil _ _ _ _ _) bk4 _ _
   ·have := hb2.size
    repeat (refine below_set ?_ (by show _ ≤ w.heap.size + 1 + 1; omega))
    exact Cf.up hB1 hb2
 ·have hq1 : (q != 0) = true := bne_iff_ne.mpr hq0
  have hq2 : (q == 0) = false := beq_eq_false_iff_ne.mpr hq0
  rw [if_pos hq0] at hrc
  rw [if_pos (by rw [hrc]; exact hq0)] at hrv
  clear hcl1 hcl2
  have HRC := Aside0.mk hrc
  have HRV := Aside0.mk hrv
  clear hrc hrv
  go_wp2_with (first
   | (go_at_call 15; refine hcallF.mono ?_; rintro e_ w2 ⟨rfl, hb2⟩; rw [← hw1] at hb2; clear hcallF; clear k0 k1 k2; have bk4 := blk_below bk1 hb2; have y0 := blk_cell bk4 0; have f0 := blk_frozen bk4 0; have y1 := blk_cell bk4 1; have f1 := blk_frozen bk4 1))
  refine bodyPost_ret (results_cell_row rfl _ _ (w.heap.size + 1 + 1) 76 #[.int .i64 q, .slice none 0 0] (0, 0) _ rfl (by exact Dl.put2 bk4 _ _) Try.underlying76 rfl (by kernel_rfl)) rfl ?_
  refine ⟨.slice none 0 0, by rw [HRC.out], ?_, ?_⟩
  ·rw [HRV.out]; exact Dl.R_put2 (Kd.R_nil _ _ _ _ _) bk4 _ _
  ·have := hb2.size
   repeat (refine below_set ?_ (by show _ ≤ w.heap.size + 1 + 1; omega))
   exact Cf.up hB1 hb2
/-! ### laws_eqIntsResult: function 43 -/
def laws_eqIntsResult.f (k : Nat) (a0_0 : Int) (l0_1 : List Int) (a1_0 : Int) (l1_1 : List Int) : Option (Bool) := if a0_0 = a1_0 then ((laws_eqInt64S.f k l0_1 l1_1).bind fun t220 => (if t220 = true then (some true) else (some false))) else (some false)
theorem laws_eqIntsResult.mono : ∀ a0 a1 a2 a3 k, LeO (laws_eqIntsResult.f k a0 a1 a2 a3) (laws_eqIntsResult.f (k + 1) a0 a1 a2 a3) := by
 intro a0 a1 a2 a3 k
 unfold laws_eqIntsResult.f
 repeat' first
   | (with_reducible exact laws_eqInt64S.mono _ _ _)
   | (with_reducible exact LeO.refl _)
   | (with_reducible exact LeO.none _)
   | (with_reducible refine LeO.ite ?_ ?_)
   | (with_reducible refine LeO.bind ?_ (fun _ => ?_))
   | exact laws_eqInt64S.mono _ _ _
   | exact LeO.none _
   | refine LeO.ite ?_ ?_
   | refine LeO.bind ?_ (fun _ => ?_)
set_option maxHeartbeats 8000000 in
set_option maxRecDepth 100000 in
theorem laws_eqIntsResult.calls (k : Nat) (a0_0 : Int) (A0_1 : Option Addr) (c0_1 : Nat) (l0_1 : List Int) (a1_0 : Int) (A1_1 : Option Addr) (c1_1 : Nat) (l1_1 : List Int) (r : Bool) (w : World) (hr0_1 : Kd.C (Kd.int .i64) w A0_1 l0_1.length l0_1) (hc0_1 : l0_1.length ≤ c0_1) (hr1_1 : Kd.C (Kd.int .i64) w A1_1 l1_1.length l1_1) (hc1_1 : l1_1.length ≤ c1_1) (h : laws_eqIntsResult.f k a0_0 l0_1 a1_0 l1_1 = some r) :
  Calls Try.prog 43 #[.agg #[.int .i64 a0_0, .slice A0_1 l0_1.length c0_1], .agg #[.int .i64 a1_0, .slice A1_1 l1_1.length c1_1]] w fun e w' => e = .returned (.bool r) ∧ Below w.heap.size w w' := by
 have hu76 := Try.underlying76
 have HR0_1 := Aside0.mk hr0_1
 have HC0_1 := Aside0.mk hc0_1
 clear hr0_1 hc0_1
 have HR1_1 := Aside0.mk hr1_1
 have HC1_1 := Aside0.mk hc1_1
 clear hr1_1 hc1_1
 have HB := Aside0.mk (Below.refl w.heap.size w)
 have H : (if a0_0 = a1_0 then ((laws_eqInt64S.f k l0_1 l1_1).bind fun t220 => (if t220 = true then (some true) else (some false))) else (some false)) = some r := h
 clear h
 by_cases c3 : a0_0 = a1_0
 ·rw [if_pos c3] at H
  have c3b0 : (a0_0 == a1_0) = true := beq_iff_eq.mpr c3
  have c3b1 : (a0_0 != a1_0) = false := bne_eq_false_iff_eq.mpr c3
  clear c3
  replace H := Option.bind_eq_some_iff.mp H
  obtain ⟨t220, A40, H⟩ := H
  replace H : (if t220 = true then (some true) else (some false)) = some r := H
  have A4 := Aside0.mk A40
  clear A40
  by_cases c5 : t220 = true
  ·subst c5
   have H1 : (some true) = some r := by rw [if_pos rfl] at H; exact H
   clear H
   have H := H1
   clear H1
   obtain rfl := Option.some.inj H
   go_enter Try.func43, Try.ntmps43
   go_wp2_with (first | ((with_reducible refine gate_dst (N := 2) rfl ?_); refine box_event ?hg (N := 2) ?hd (cs := #[.int .i64 a0_0, .slice A0_1 l0_1.length c0_1]) (t := 76) ?hr ?_; (case hd => rfl); (case hg => rfl); (case hr => first | (go_simp; done) | (go_simp; rfl)); intro gb218 hg w6 hbox hb; have n0_ := Aside0.mk (below_step (by repeat (first | (with_reducible first | exact HB.out | apply below_alloc | apply pw_below_drewN | apply below_drew1) | exact HB.out)) hb); have n1_ := Aside0.mk (hbox); have n2_ := Aside0.mk ((by rw [hg]; exact (below_size (by repeat (first | (with_reducible first | exact HB.out | apply below_alloc | apply pw_below_drewN | apply below_drew1) | exact HB.out))) : w.heap.size ≤ gb218)); have n3_ := Aside0.mk ((by rw [hg]; exact (below_size (by repeat (first | (with_reducible first | exact HB.out | apply below_alloc | apply pw_below_drewN | apply below_drew1) | exact HB.out))) : w.heap.size ≤ gb218)); clear HB; have HB := n0_; have BK218 := n1_; have GW218 := n2_; have GE218 := n3_; clear n0_ n1_ n2_ n3_; clear hb hbox hg) | ((with_reducible refine gate_dst (N := 3) rfl ?_); refine box_event ?hg (N := 3) ?hd (cs := #[.int .i64 a1_0, .slice A1_1 l1_1.length c1_1]) (t := 76) ?hr ?_; (case hd => rfl); (case hg => rfl); (case hr => first | (go_simp; done) | (go_simp; rfl)); intro gb219 hg w7 hbox hb; have n0_ := Aside0.mk (blk_below (g := gb218) (o := .cells #[.int .i64 a0_0, .slice A0_1 l0_1.length c0_1] 76 (0, 0)) (by (with_reducible repeat (first | refine blk_drewN ?_ _ | refine blk_drew ?_ | refine blk_alloc ?_ _)); exact BK218.out) hb); have n1_ := Aside0.mk (below_step (by repeat (first | (with_reducible first | exact HB.out | apply below_alloc | apply pw_below_drewN | apply below_drew1 | refine below_set ?_ GE218.out) | exact HB.out)) hb); have n2_ := Aside0.mk (hbox); have n3_ := Aside0.mk ((by rw [hg]; exact (below_size (by repeat (first | (with_reducible first | exact HB.out | apply below_alloc | apply pw_below_drewN | apply below_drew1 | refine below_set ?_ GE218.out) | exact HB.out))) : w.heap.size ≤ gb219)); have n4_ := Aside0.mk ((by rw [hg]; exact (below_size (by repeat (first | (with_reducible first | exact HB.out | apply below_alloc | apply pw_below_drewN | apply below_drew1 | refine below_set ?_ GE218.out) | exact HB.out))) : w.heap.size ≤ gb219)); have n5_ := Aside0.mk ((by rw [hg]; exact Nat.ne_of_lt (blk_lt (g := gb218) (o := .cells #[.int .i64 a0_0, .slice A0_1 l0_1.length c0_1] 76 (0, 0)) (by (with_reducible repeat (first | refine blk_drewN ?_ _ | refine blk_drew ?_ | refine blk_alloc ?_ _)); exact BK218.out)) : gb218 ≠ gb219)); have n6_ := Aside0.mk ((by rw [hg]; exact Nat.ne_of_gt (blk_lt (g := gb218) (o := .cells #[.int .i64 a0_0, .slice A0_1 l0_1.length c0_1] 76 (0, 0)) (by (with_reducible repeat (first | refine blk_drewN ?_ _ | refine blk_drew ?_ | refine blk_alloc ?_ _)); exact BK218.out)) : gb219 ≠ gb218)); clear BK218; clear HB; have BK218 := n0_; have HB := n1_; have BK219 := n2_; have GW219 := n3_; have GE219 := n4_; have NB218_219 := n5_; have NB219_218 := n6_; clear n0_ n1_ n2_ n3_ n4_ n5_ n6_; clear hb hbox hg; have hnb8 := NB218_219.out; have hnc8 := NB219_218.out; have hcz9_0 : w7.cell? ⟨gb218, 0, none⟩ = some (.int .i64 a0_0) := (blk_cell BK218.out 0).trans rfl; have hcz9_1 : w7.cell? ⟨gb218, 1, none⟩ = some (.slice A0_1 l0_1.length c0_1) := (blk_cell BK218.out 1).trans rfl; have hfz9_0 := blk_frozen BK218.out 0; have hfz9_1 := blk_frozen BK218.out 1; have hcz10_0 : w7.cell? ⟨gb219, 0, none⟩ = some (.int .i64 a1_0) := (blk_cell BK219.out 0).trans rfl; have hcz10_1 : w7.cell? ⟨gb219, 1, none⟩ = some (.slice A1_1 l1_1.length c1_1) := (blk_cell BK219.out 1).trans rfl; have hfz10_0 := blk_frozen BK219.out 0; have hfz10_1 := blk_frozen BK219.out 1) | ((with_reducible refine gate_callee (f := 94) rfl ?_); refine goesL_ (some 14) rfl rfl Try.func94 (by kernel_rfl) rfl #[.slice A0_1 l0_1.length c0_1, .slice A1_1 l1_1.length c1_1] rfl (by (try simp only [List.map_toArray, List.map_cons, List.map_nil]); first | done | rfl | (simp only [List.length_drop, List.length_take]; rfl)) ?_; (with_reducible refine (laws_eqInt64S.calls k _ _ l0_1 _ _ l1_1 true _ ?side1 ?side2 ?side3 ?side4 A4.out).mono ?_); (case side1 => repeat (first | exact (Kd.C_below HR0_1.out HB.out) | (with_reducible refine Kd.C_alloc ?_ _) | (with_reducible refine Kd.C_drewN ?_ _) | (with_reducible refine Kd.C_drew ?_))); (case side2 => exact HC0_1.out); (case side3 => repeat (first | exact (Kd.C_below HR1_1.out HB.out) | (with_reducible refine Kd.C_alloc ?_ _) | (with_reducible refine Kd.C_drewN ?_ _) | (with_reducible refine Kd.C_drew ?_))); (case side4 => exact HC1_1.out); rintro e w' ⟨rfl, ⟨nd, rfl⟩⟩; refine ⟨_, rfl, ?_⟩))
   go_ret
   exact ⟨by first | rfl | (simp [errW_none, errW_some] <;> rfl) | (simp [*, errW_none, errW_some] <;> rfl), by repeat (first | (with_reducible first | exact HB.out | apply below_alloc | apply pw_below_drewN | apply below_drew1 | refine below_set ?_ GE218.out | refine below_set ?_ GE219.out) | exact HB.out)⟩
  ·replace c5 := Bool.eq_false_iff.mpr c5
   subst c5
   have H1 : (some false) = some r := by rw [if_neg (show ¬ (false = true) by decide)] at H; exact H
   clear H
   have H := H1
   clear H1
   obtain rfl := Option.some.inj H
   go_enter Try.func43, Try.ntmps43
   go_wp2_with (first | ((with_reducible refine gate_dst (N := 2) rfl ?_); refine box_event ?hg (N := 2) ?hd (cs := #[.int .i64 a0_0, .slice A0_1 l0_1.length c0_1]) (t := 76) ?hr ?_; (case hd => rfl); (case hg => rfl); (case hr => first | (go_simp; done) | (go_simp; rfl)); intro gb218 hg w11 hbox hb; have n0_ := Aside0.mk (below_step (by repeat (first | (with_reducible first | exact HB.out | apply below_alloc | apply pw_below_drewN | apply below_drew1) | exact HB.out)) hb); have n1_ := Aside0.mk (hbox); have n2_ := Aside0.mk ((by rw [hg]; exact (below_size (by repeat (first | (with_reducible first | exact HB.out | apply below_alloc | apply pw_below_drewN | apply below_drew1) | exact HB.out))) : w.heap.size ≤ gb218)); have n3_ := Aside0.mk ((by rw [hg]; exact (below_size (by repeat (first | (with_reducible first | exact HB.out | apply below_alloc | apply pw_below_drewN | apply below_drew1) | exact HB.out))) : w.heap.size ≤ gb218)); clear HB; have HB := n0_; have BK218 := n1_; have GW218 := n2_; have GE218 := n3_; clear n0_ n1_ n2_ n3_; clear hb hbox hg) | ((with_reducible refine gate_dst (N := 3) rfl ?_); refine box_event ?hg (N := 3) ?hd (cs := #[.int .i64 a1_0, .slice A1_1 l1_1.length c1_1]) (t := 76) ?hr ?_; (case hd => rfl); (case hg => rfl); (case hr => first | (go_simp; done) | (go_simp; rfl)); intro gb219 hg w12 hbox hb; have n0_ := Aside0.mk (blk_below (g := gb218) (o := .cells #[.int .i64 a0_0, .slice A0_1 l0_1.length c0_1] 76 (0, 0)) (by (with_reducible repeat (first | refine blk_drewN ?_ _ | refine blk_drew ?_ | refine blk_alloc ?_ _)); exact BK218.out) hb); have n1_ := Aside0.mk (below_step (by repeat (first | (with_reducible first | exact HB.out | apply below_alloc | apply pw_below_drewN | apply below_drew1 | refine below_set ?_ GE218.out) | exact HB.out)) hb); have n2_ := Aside0.mk (hbox); have n3_ := Aside0.mk ((by rw [hg]; exact (below_size (by repeat (first | (with_reducible first | exact HB.out | apply below_alloc | apply pw_below_drewN | apply below_drew1 | refine below_set ?_ GE218.out) | exact HB.out))) : w.heap.size ≤ gb219)); have n4_ := Aside0.mk ((by rw [hg]; exact (below_size (by repeat (first | (with_reducible first | exact HB.out | apply below_alloc | apply pw_below_drewN | apply below_drew1 | refine below_set ?_ GE218.out) | exact HB.out))) : w.heap.size ≤ gb219)); have n5_ := Aside0.mk ((by rw [hg]; exact Nat.ne_of_lt (blk_lt (g := gb218) (o := .cells #[.int .i64 a0_0, .slice A0_1 l0_1.length c0_1] 76 (0, 0)) (by (with_reducible repeat (first | refine blk_drewN ?_ _ | refine blk_drew ?_ | refine blk_alloc ?_ _)); exact BK218.out)) : gb218 ≠ gb219)); have n6_ := Aside0.mk ((by rw [hg]; exact Nat.ne_of_gt (blk_lt (g := gb218) (o := .cells #[.int .i64 a0_0, .slice A0_1 l0_1.length c0_1] 76 (0, 0)) (by (with_reducible repeat (first | refine blk_drewN ?_ _ | refine blk_drew ?_ | refine blk_alloc ?_ _)); exact BK218.out)) : gb219 ≠ gb218)); clear BK218; clear HB; have BK218 := n0_; have HB := n1_; have BK219 := n2_; have GW219 := n3_; have GE219 := n4_; have NB218_219 := n5_; have NB219_218 := n6_; clear n0_ n1_ n2_ n3_ n4_ n5_ n6_; clear hb hbox hg; have hnb13 := NB218_219.out; have hnc13 := NB219_218.out; have hcz14_0 : w12.cell? ⟨gb218, 0, none⟩ = some (.int .i64 a0_0) := (blk_cell BK218.out 0).trans rfl; have hcz14_1 : w12.cell? ⟨gb218, 1, none⟩ = some (.slice A0_1 l0_1.length c0_1) := (blk_cell BK218.out 1).trans rfl; have hfz14_0 := blk_frozen BK218.out 0; have hfz14_1 := blk_frozen BK218.out 1; have hcz15_0 : w12.cell? ⟨gb219, 0, none⟩ = some (.int .i64 a1_0) := (blk_cell BK219.out 0).trans rfl; have hcz15_1 : w12.cell? ⟨gb219, 1, none⟩ = some (.slice A1_1 l1_1.length c1_1) := (blk_cell BK219.out 1).trans rfl; have hfz15_0 := blk_frozen BK219.out 0; have hfz15_1 := blk_frozen BK219.out 1) | ((with_reducible refine gate_callee (f := 94) rfl ?_); refine goesL_ (some 14) rfl rfl Try.func94 (by kernel_rfl) rfl #[.slice A0_1 l0_1.length c0_1, .slice A1_1 l1_1.length c1_1] rfl (by (try simp only [List.map_toArray, List.map_cons, List.map_nil]); first | done | rfl | (simp only [List.length_drop, List.length_take]; rfl)) ?_; (with_reducible refine (laws_eqInt64S.calls k _ _ l0_1 _ _ l1_1 false _ ?side1 ?side2 ?side3 ?side4 A4.out).mono ?_); (case side1 => repeat (first | exact (Kd.C_below HR0_1.out HB.out) | (with_reducible refine Kd.C_alloc ?_ _) | (with_reducible refine Kd.C_drewN ?_ _) | (with_reducible refine Kd.C_drew ?_))); (case side2 => exact HC0_1.out); (case side3 => repeat (first | exact (Kd.C_below HR1_1.out HB.out) | (with_reducible refine Kd.C_alloc ?_ _) | (with_reducible refine Kd.C_drewN ?_ _) | (with_reducible refine Kd.C_drew ?_))); (case side4 => exact HC1_1.out); rintro e w' ⟨rfl, ⟨nd, rfl⟩⟩; refine ⟨_, rfl, ?_⟩))
   go_ret
   exact ⟨by first | rfl | (simp [errW_none, errW_some] <;> rfl) | (simp [*, errW_none, errW_some] <;> rfl), by repeat (first | (with_reducible first | exact HB.out | apply below_alloc | apply pw_below_drewN | apply below_drew1 | refine below_set ?_ GE218.out | refine below_set ?_ GE219.out) | exact HB.out)⟩
 ·rw [if_neg c3] at H
  have c3b0 : (a0_0 == a1_0) = false := beq_eq_false_iff_ne.mpr c3
  have c3b1 : (a0_0 != a1_0) = true := bne_iff_ne.mpr c3
  obtain rfl := Option.some.inj H
  go_enter Try.func43, Try.ntmps43
  go_wp2_with (first | ((with_reducible refine gate_dst (N := 2) rfl ?_); refine box_event ?hg (N := 2) ?hd (cs := #[.int .i64 a0_0, .slice A0_1 l0_1.length c0_1]) (t := 76) ?hr ?_; (case hd => rfl); (case hg => rfl); (case hr => first | (go_simp; done) | (go_simp; rfl)); intro gb218 hg w16 hbox hb; have n0_ := Aside0.mk (below_step (by repeat (first | (with_reducible first | exact HB.out | apply below_alloc | apply pw_below_drewN | apply below_drew1) | exact HB.out)) hb); have n1_ := Aside0.mk (hbox); have n2_ := Aside0.mk ((by rw [hg]; exact (below_size (by repeat (first | (with_reducible first | exact HB.out | apply below_alloc | apply pw_below_drewN | apply below_drew1) | exact HB.out))) : w.heap.size ≤ gb218)); have n3_ := Aside0.mk ((by rw [hg]; exact (below_size (by repeat (first | (with_reducible first | exact HB.out | apply below_alloc | apply pw_below_drewN | apply below_drew1) | exact HB.out))) : w.heap.size ≤ gb218)); clear HB; have HB := n0_; have BK218 := n1_; have GW218 := n2_; have GE218 := n3_; clear n0_ n1_ n2_ n3_; clear hb hbox hg) | ((with_reducible refine gate_dst (N := 3) rfl ?_); refine box_event ?hg (N := 3) ?hd (cs := #[.int .i64 a1_0, .slice A1_1 l1_1.length c1_1]) (t := 76) ?hr ?_; (case hd => rfl); (case hg => rfl); (case hr => first | (go_simp; done) | (go_simp; rfl)); intro gb219 hg w17 hbox hb; have n0_ := Aside0.mk (blk_below (g := gb218) (o := .cells #[.int .i64 a0_0, .slice A0_1 l0_1.length c0_1] 76 (0, 0)) (by (with_reducible repeat (first | refine blk_drewN ?_ _ | refine blk_drew ?_ | refine blk_alloc ?_ _)); exact BK218.out) hb); have n1_ := Aside0.mk (below_step (by repeat (first | (with_reducible first | exact HB.out | apply below_alloc | apply pw_below_drewN | apply below_drew1 | refine below_set ?_ GE218.out) | exact HB.out)) hb); have n2_ := Aside0.mk (hbox); have n3_ := Aside0.mk ((by rw [hg]; exact (below_size (by repeat (first | (with_reducible first | exact HB.out | apply below_alloc | apply pw_below_drewN | apply below_drew1 | refine below_set ?_ GE218.out) | exact HB.out))) : w.heap.size ≤ gb219)); have n4_ := Aside0.mk ((by rw [hg]; exact (below_size (by repeat (first | (with_reducible first | exact HB.out | apply below_alloc | apply pw_below_drewN | apply below_drew1 | refine below_set ?_ GE218.out) | exact HB.out))) : w.heap.size ≤ gb219)); have n5_ := Aside0.mk ((by rw [hg]; exact Nat.ne_of_lt (blk_lt (g := gb218) (o := .cells #[.int .i64 a0_0, .slice A0_1 l0_1.length c0_1] 76 (0, 0)) (by (with_reducible repeat (first | refine blk_drewN ?_ _ | refine blk_drew ?_ | refine blk_alloc ?_ _)); exact BK218.out)) : gb218 ≠ gb219)); have n6_ := Aside0.mk ((by rw [hg]; exact Nat.ne_of_gt (blk_lt (g := gb218) (o := .cells #[.int .i64 a0_0, .slice A0_1 l0_1.length c0_1] 76 (0, 0)) (by (with_reducible repeat (first | refine blk_drewN ?_ _ | refine blk_drew ?_ | refine blk_alloc ?_ _)); exact BK218.out)) : gb219 ≠ gb218)); clear BK218; clear HB; have BK218 := n0_; have HB := n1_; have BK219 := n2_; have GW219 := n3_; have GE219 := n4_; have NB218_219 := n5_; have NB219_218 := n6_; clear n0_ n1_ n2_ n3_ n4_ n5_ n6_; clear hb hbox hg; have hnb18 := NB218_219.out; have hnc18 := NB219_218.out; have hcz19_0 : w17.cell? ⟨gb218, 0, none⟩ = some (.int .i64 a0_0) := (blk_cell BK218.out 0).trans rfl; have hcz19_1 : w17.cell? ⟨gb218, 1, none⟩ = some (.slice A0_1 l0_1.length c0_1) := (blk_cell BK218.out 1).trans rfl; have hfz19_0 := blk_frozen BK218.out 0; have hfz19_1 := blk_frozen BK218.out 1; have hcz20_0 : w17.cell? ⟨gb219, 0, none⟩ = some (.int .i64 a1_0) := (blk_cell BK219.out 0).trans rfl; have hcz20_1 : w17.cell? ⟨gb219, 1, none⟩ = some (.slice A1_1 l1_1.length c1_1) := (blk_cell BK219.out 1).trans rfl; have hfz20_0 := blk_frozen BK219.out 0; have hfz20_1 := blk_frozen BK219.out 1))
  go_ret
  exact ⟨by first | rfl | (simp [errW_none, errW_some] <;> rfl) | (simp [*, errW_none, errW_some] <;> rfl), by repeat (first | (with_reducible first | exact HB.out | apply below_alloc | apply pw_below_drewN | apply below_drew1 | refine below_set ?_ GE218.out | refine below_set ?_ GE219.out) | exact HB.out)⟩

/-! ### laws_markIntsResult: function 44 -/
def laws_markIntsResult.f (k : Nat) (a0_0 : Int) (l0_1 : List Int) (a1 : Int) : Option (Int × List Int) := (laws_markInt64S.f k l0_1 a1).bind fun bt222 => (some (bt222.1, bt222.2))
theorem laws_markIntsResult.mono : ∀ a0 a1 a2 k, LeO (laws_markIntsResult.f k a0 a1 a2) (laws_markIntsResult.f (k + 1) a0 a1 a2) := by
 intro a0 a1 a2 k
 unfold laws_markIntsResult.f
 repeat' first
   | (with_reducible exact laws_markInt64S.mono _ _ _)
   | (with_reducible exact LeO.refl _)
   | (with_reducible exact LeO.none _)
   | (with_reducible refine LeO.ite ?_ ?_)
   | (with_reducible refine LeO.bind ?_ (fun _ => ?_))
   | exact laws_markInt64S.mono _ _ _
   | exact LeO.none _
   | refine LeO.ite ?_ ?_
   | refine LeO.bind ?_ (fun _ => ?_)
set_option maxHeartbeats 8000000 in
set_option maxRecDepth 100000 in
theorem laws_markIntsResult.calls (k : Nat) (a0_0 : Int) (P0_1_ : Nat → Prop) (u9000_ : Value) (l0_1 : List Int) (a1 : Int) (r1 : Int) (r2 : List Int) (w0 w : World) (hB : Below w0.heap.size w0 w) (ho0_1 : Kd.R (Kd.int .i64) 2 w w0.heap.size P0_1_ u9000_ l0_1) (h : laws_markIntsResult.f k a0_0 l0_1 a1 = some (r1, r2)) :
  Calls Try.prog 44 #[.agg #[.int .i64 a0_0, u9000_], .int .i64 a1] w fun e w' => e = .returned (.int .i64 r1) ∧ Kd.R (Kd.int .i64) 2 w' w0.heap.size (fun k_ => (P0_1_ k_ ∨ w.heap.size ≤ k_)) u9000_ r2 ∧ Below w0.heap.size w0 w' ∧ Kept w w' (fun k_ => P0_1_ k_) := by
 have hu76 := Try.underlying76
 have HO0_1 := Aside0.mk (show Kd.R (Kd.int .i64) 2 w w0.heap.size (fun k_ => (P0_1_ k_ ∨ w.heap.size ≤ k_)) u9000_ l0_1 from Kd.R_mono ho0_1 (fun k_ hk => (.inl hk)))
 have HK := Aside0.mk (Kept.refl w (fun k_ => P0_1_ k_))
 have HW0 := Aside0.mk hB.size
 have HB := Aside0.mk hB
 clear hB
 have H : ((laws_markInt64S.f k l0_1 a1).bind fun bt222 => (some (bt222.1, bt222.2))) = some (r1, r2) := h
 clear h
 replace H := Option.bind_eq_some_iff.mp H
 obtain ⟨⟨t222, t223⟩, A30, H⟩ := H
 replace H : (some (t222, t223)) = some (r1, r2) := H
 have A3 := Aside0.mk A30
 clear A30
 simp only [Option.some.injEq, Prod.mk.injEq] at H
 obtain ⟨rfl, rfl⟩ := H
 obtain ⟨Ao4, co4, eo4⟩ := Kd.R_slice HO0_1.out
 subst eo4
 go_enter Try.func44, Try.ntmps44
 go_wp2_with (first | ((with_reducible refine gate_dst (N := 2) rfl ?_); refine box_event ?hg (N := 2) ?hd (cs := #[.int .i64 a0_0, .slice Ao4 l0_1.length co4]) (t := 76) ?hr ?_; (case hd => rfl); (case hg => rfl); (case hr => first | (go_simp; done) | (go_simp; rfl)); intro gb221 hg w5 hbox hb; have n0_ := Aside0.mk (Kd.R_below (by (with_reducible repeat (first | apply Kd.R_alloc | apply Kd.R_drewN | apply Kd.R_drew)); exact HO0_1.out) hb); have n1_ := Aside0.mk (Kept.below (S := (fun k_ => P0_1_ k_)) (by repeat (first | (with_reducible first | exact HK.out | apply Kept.alloc | apply Kept.drewN | apply Kept.drew) | exact HK.out)) hb); have n2_ := Aside0.mk (below_step (by repeat (first | (with_reducible first | exact HB.out | apply below_alloc | apply pw_below_drewN | apply below_drew1) | exact HB.out)) hb); have n3_ := Aside0.mk (hbox); have n4_ := Aside0.mk ((by rw [hg]; exact (by first | exact HK.out.1 | exact (show Kept w _ (fun k_ => P0_1_ k_) from by repeat (first | (with_reducible first | exact HK.out | apply Kept.alloc | apply Kept.drewN | apply Kept.drew) | exact HK.out)).1) : w.heap.size ≤ gb221)); have n5_ := Aside0.mk ((by rw [hg]; exact (below_size (by repeat (first | (with_reducible first | exact HB.out | apply below_alloc | apply pw_below_drewN | apply below_drew1) | exact HB.out))) : w0.heap.size ≤ gb221)); clear HO0_1; clear HK; clear HB; have HO0_1 := n0_; have HK := n1_; have HB := n2_; have BK221 := n3_; have GW221 := n4_; have GE221 := n5_; clear n0_ n1_ n2_ n3_ n4_ n5_; clear hb hbox hg; have hcz6_0 : w5.cell? ⟨gb221, 0, none⟩ = some (.int .i64 a0_0) := (blk_cell BK221.out 0).trans rfl; have hcz6_1 : w5.cell? ⟨gb221, 1, none⟩ = some (.slice Ao4 l0_1.length co4) := (blk_cell BK221.out 1).trans rfl; have hfz6_0 := blk_frozen BK221.out 0; have hfz6_1 := blk_frozen BK221.out 1) | ((with_reducible refine gate_callee (f := 95) rfl ?_); refine goesL_ (some 8) rfl rfl Try.func95 (by kernel_rfl) rfl #[.slice Ao4 l0_1.length co4, .int .i64 a1] rfl (by (try simp only [List.map_toArray, List.map_cons, List.map_nil]); first | done | rfl | (simp only [List.length_drop, List.length_take]; rfl)) ?_; (with_reducible refine (laws_markInt64S.calls k (fun k_ => some k_ = (.slice Ao4 l0_1.length co4 : Value).ownBlock) (.slice Ao4 l0_1.length co4) l0_1 a1 t222 t223 w0 _ ?side1 ?side2 A3.out).mono ?_); (case side1 => repeat (first | (with_reducible first | exact HB.out | apply below_alloc | apply pw_below_drewN | apply below_drew1 | refine below_set ?_ GE221.out) | exact HB.out)); (case side2 => exact Kd.R_tight rfl HO0_1.out); rintro e w7 ⟨rfl, hy0, hb, hkp⟩; refine ⟨_, rfl, ?_⟩; have n0_ := Aside0.mk (Kd.R_reok rfl hy0 (fun k_ e_ => HO0_1.out.1 k_ e_)); have n1_ := Aside0.mk (blk_kept (by (with_reducible repeat (first | refine blk_drewN ?_ _ | refine blk_drew ?_ | refine blk_alloc ?_ _)); exact BK221.out) hkp (fun hs_ => (fun e_ => (Kd.R_ne HO0_1.out BK221.out (by decide)) e_) hs_)); have n2_ := Aside0.mk (Kept.then_ (S := (fun k_ => P0_1_ k_)) (by repeat (first | (with_reducible first | exact HK.out | apply Kept.alloc | apply Kept.drewN | apply Kept.drew | refine Kept.setCell ?_ (.inr GW221.out) _) | exact HK.out)) hkp (fun k_ hs_ => (fun e_ => (HO0_1.out.1 k_ e_.symm)) hs_)); have n3_ := Aside0.mk (hb); clear HO0_1; clear BK221; clear HK; clear HB; have HO0_1 := n0_; have BK221 := n1_; have HK := n2_; have HB := n3_; clear n0_ n1_ n2_ n3_; (try clear hb); (try clear hkp); (try clear hy0)))
 go_ret
 exact ⟨by first | rfl | (simp [errW_none, errW_some] <;> rfl) | (simp [*, errW_none, errW_some] <;> rfl), by (with_reducible repeat (first | apply Kd.R_alloc | apply Kd.R_drewN | apply Kd.R_drew)); exact HO0_1.out, by repeat (first | (with_reducible first | exact HB.out | apply below_alloc | apply pw_below_drewN | apply below_drew1 | refine below_set ?_ GE221.out) | exact HB.out), by repeat (first | (with_reducible first | exact HK.out | apply Kept.alloc | apply Kept.drewN | apply Kept.drew | refine Kept.setCell ?_ (.inr GW221.out) _) | exact HK.out)⟩

/-! ### laws_heldInt64S: function 96 -/
def laws_heldInt64S.l0 : Nat → List Int → Int → Int → Option (Int)
 | 0, _, _, _ => none
 | k + 1, x0, x1, x5 => if x5 < (x0.length : Int) then (if 0 ≤ x5 then (if (rd x0 x5) = x1 then (laws_heldInt64S.l0 k x0 (wrap64 (x1 + 1)) (wrap64 (x5 + 1))) else (some (-1))) else (none)) else (some x1)
def laws_heldInt64S.f (k : Nat) (l0 : List Int) (a1 : Int) : Option (Int) := laws_heldInt64S.l0 k l0 a1 0
theorem laws_heldInt64S.mono_l : ∀ k, (∀ y0 y1 y2, LeO (laws_heldInt64S.l0 k y0 y1 y2) (laws_heldInt64S.l0 (k + 1) y0 y1 y2))
 | 0 => fun _ _ _ r h => by simp [laws_heldInt64S.l0] at h
 | k + 1 => by
  have ih0 := laws_heldInt64S.mono_l k
  ·intro y0 y1 y2
   unfold laws_heldInt64S.l0
   repeat' first
   | (with_reducible exact ih0 _ _ _)
   | (with_reducible exact LeO.refl _)
   | (with_reducible exact LeO.none _)
   | (with_reducible refine LeO.ite ?_ ?_)
   | (with_reducible refine LeO.bind ?_ (fun _ => ?_))
   | exact ih0 _ _ _
   | exact LeO.none _
   | refine LeO.ite ?_ ?_
   | refine LeO.bind ?_ (fun _ => ?_)
theorem laws_heldInt64S.mono : ∀ a0 a1 k, LeO (laws_heldInt64S.f k a0 a1) (laws_heldInt64S.f (k + 1) a0 a1) := by
 intro a0 a1 k
 have ih0 := laws_heldInt64S.mono_l k
 unfold laws_heldInt64S.f
 repeat' first
   | (with_reducible exact ih0 _ _ _)
   | (with_reducible exact LeO.refl _)
   | (with_reducible exact LeO.none _)
   | (with_reducible refine LeO.ite ?_ ?_)
   | (with_reducible refine LeO.bind ?_ (fun _ => ?_))
   | exact ih0 _ _ _
   | exact LeO.none _
   | refine LeO.ite ?_ ?_
   | refine LeO.bind ?_ (fun _ => ?_)
set_option maxHeartbeats 8000000 in
set_option maxRecDepth 100000 in
theorem laws_heldInt64S.calls (k : Nat) (A0 : Option Addr) (c0 : Nat) (l0 : List Int) (a1 : Int) (r : Int) (w : World) (hr0 : Kd.C (Kd.int .i64) w A0 l0.length l0) (hc0 : l0.length ≤ c0) (h : laws_heldInt64S.f k l0 a1 = some r) :
  Calls Try.prog 96 #[.slice A0 l0.length c0, .int .i64 a1] w fun e w' => e = .returned (.int .i64 r) ∧ Drawn0 w w' := by
 have HR0 := Aside0.mk hr0
 have HC0 := Aside0.mk hc0
 clear hr0 hc0
 have H : (laws_heldInt64S.l0 k l0 a1 0) = some r := h
 clear h
 have H' := Aside0.mk H
 clear H
 go_enter Try.func96, Try.ntmps96
 go_wp2
 go_loopg [1, 5] k (fun kq v1 v5 w' => ∃ (x1_1 : Int) (x5_1 : Int), v1 = .int .i64 x1_1 ∧ v5 = .int .i64 x5_1 ∧ Aside0 (laws_heldInt64S.l0 kq l0 x1_1 x5_1 = some r) ∧ Aside0 (kq ≤ k) ∧ Drawn0 w w')
 case atStart => exact ⟨(a1), (0), (by first | rfl | (simp; done) | (simp [*]; done)), (by first | rfl | (simp; done) | (simp [*]; done)), H', ⟨Nat.le_refl _⟩, by repeat (first | exact Drawn0.refl _ | apply Drawn0.step)⟩
 case round =>
  clear H'
  try clear p2
  obtain ⟨x1_1, x5_1, rfl, rfl, HA, HK1, ⟨m1, rfl⟩⟩ := hrel
  cases gk with
  | zero => exact absurd HA.out (by simp [laws_heldInt64S.l0])
  | succ k1 =>
   have H := HA.out
   clear HA
   simp only [laws_heldInt64S.l0] at H
   by_cases c3 : x5_1 < (l0.length : Int)
   ·rw [if_pos c3] at H
    have c3b0 : decide (x5_1 < (l0.length : Int)) = true := decide_eq_true c3
    clear c3
    by_cases c4 : 0 ≤ x5_1
    ·rw [if_pos c4] at H
     have c4b0 : decide (0 ≤ x5_1) = true := decide_eq_true c4
     clear c4
     by_cases c5 : (rd l0 x5_1) = x1_1
     ·rw [if_pos c5] at H
      have c5b0 : ((rd l0 x5_1) == x1_1) = true := beq_iff_eq.mpr c5
      have c5b1 : ((rd l0 x5_1) != x1_1) = false := bne_eq_false_iff_eq.mpr c5
      clear c5
      have H' := Aside0.mk H
      clear H
      have p224 : 0 ≤ (x5_1 : Int) := of_decide_eq_true (by first | (with_reducible assumption) | assumption)
      have q224 : x5_1 < (l0.length : Int) := of_decide_eq_true (by first | (with_reducible assumption) | assumption)
      obtain ⟨ad224, e224, hx224_0⟩ := Kd.at_int HR0.out x5_1 p224 q224
      cases e224
      replace p224 := eq_true p224
      replace q224 := eq_true q224
      go_wp2
      go_roundg k1
      case measure => have := HK1.out; omega
      case rel => exact ⟨(wrap64 (x1_1 + 1)), (wrap64 (x5_1 + 1)), (by first | rfl | (simp; done) | (simp [*]; done)), (by first | rfl | (simp; done) | (simp [*]; done)), H', ⟨by have := HK1.out; omega⟩, by repeat (first | exact Drawn0.refl _ | apply Drawn0.step)⟩
     ·rw [if_neg c5] at H
      have c5b0 : ((rd l0 x5_1) == x1_1) = false := beq_eq_false_iff_ne.mpr c5
      have c5b1 : ((rd l0 x5_1) != x1_1) = true := bne_iff_ne.mpr c5
      obtain rfl := Option.some.inj H
      have p224 : 0 ≤ (x5_1 : Int) := of_decide_eq_true (by first | (with_reducible assumption) | assumption)
      have q224 : x5_1 < (l0.length : Int) := of_decide_eq_true (by first | (with_reducible assumption) | assumption)
      obtain ⟨ad224, e224, hx224_0⟩ := Kd.at_int HR0.out x5_1 p224 q224
      cases e224
      replace p224 := eq_true p224
      replace q224 := eq_true q224
      go_wp2
      go_ret
      exact ⟨by first | rfl | (simp; done) | (simp [*]; done), by repeat (first | exact Drawn0.refl _ | apply Drawn0.step)⟩
    ·rw [if_neg c4] at H
     exact absurd H (by simp)
   ·rw [if_neg c3] at H
    have c3b0 : decide (x5_1 < (l0.length : Int)) = false := decide_eq_false c3
    clear c3
    obtain rfl := Option.some.inj H
    go_wp2
    go_ret
    exact ⟨by first | rfl | (simp; done) | (simp [*]; done), by repeat (first | exact Drawn0.refl _ | apply Drawn0.step)⟩

/-! ### laws_heldIntsResult: function 45 -/
def laws_heldIntsResult.f (k : Nat) (a0_0 : Int) (l0_1 : List Int) (a1 : Int) : Option (Int) := (laws_heldInt64S.f k l0_1 a1).bind fun t226 => (if t226 < 0 then (some (-1)) else (some t226))
theorem laws_heldIntsResult.mono : ∀ a0 a1 a2 k, LeO (laws_heldIntsResult.f k a0 a1 a2) (laws_heldIntsResult.f (k + 1) a0 a1 a2) := by
 intro a0 a1 a2 k
 unfold laws_heldIntsResult.f
 repeat' first
   | (with_reducible exact laws_heldInt64S.mono _ _ _)
   | (with_reducible exact LeO.refl _)
   | (with_reducible exact LeO.none _)
   | (with_reducible refine LeO.ite ?_ ?_)
   | (with_reducible refine LeO.bind ?_ (fun _ => ?_))
   | exact laws_heldInt64S.mono _ _ _
   | exact LeO.none _
   | refine LeO.ite ?_ ?_
   | refine LeO.bind ?_ (fun _ => ?_)
set_option maxHeartbeats 8000000 in
set_option maxRecDepth 100000 in
theorem laws_heldIntsResult.calls (k : Nat) (a0_0 : Int) (A0_1 : Option Addr) (c0_1 : Nat) (l0_1 : List Int) (a1 : Int) (r : Int) (w : World) (hr0_1 : Kd.C (Kd.int .i64) w A0_1 l0_1.length l0_1) (hc0_1 : l0_1.length ≤ c0_1) (h : laws_heldIntsResult.f k a0_0 l0_1 a1 = some r) :
  Calls Try.prog 45 #[.agg #[.int .i64 a0_0, .slice A0_1 l0_1.length c0_1], .int .i64 a1] w fun e w' => e = .returned (.int .i64 r) ∧ Below w.heap.size w w' := by
 have hu76 := Try.underlying76
 have HR0_1 := Aside0.mk hr0_1
 have HC0_1 := Aside0.mk hc0_1
 clear hr0_1 hc0_1
 have HB := Aside0.mk (Below.refl w.heap.size w)
 have H : ((laws_heldInt64S.f k l0_1 a1).bind fun t226 => (if t226 < 0 then (some (-1)) else (some t226))) = some r := h
 clear h
 replace H := Option.bind_eq_some_iff.mp H
 obtain ⟨t226, A30, H⟩ := H
 replace H : (if t226 < 0 then (some (-1)) else (some t226)) = some r := H
 have A3 := Aside0.mk A30
 clear A30
 by_cases c4 : t226 < 0
 ·rw [if_pos c4] at H
  have c4b0 : decide (t226 < 0) = true := decide_eq_true c4
  clear c4
  obtain rfl := Option.some.inj H
  go_enter Try.func45, Try.ntmps45
  go_wp2_with (first | ((with_reducible refine gate_dst (N := 2) rfl ?_); refine box_event ?hg (N := 2) ?hd (cs := #[.int .i64 a0_0, .slice A0_1 l0_1.length c0_1]) (t := 76) ?hr ?_; (case hd => rfl); (case hg => rfl); (case hr => first | (go_simp; done) | (go_simp; rfl)); intro gb225 hg w5 hbox hb; have n0_ := Aside0.mk (below_step (by repeat (first | (with_reducible first | exact HB.out | apply below_alloc | apply pw_below_drewN | apply below_drew1) | exact HB.out)) hb); have n1_ := Aside0.mk (hbox); have n2_ := Aside0.mk ((by rw [hg]; exact (below_size (by repeat (first | (with_reducible first | exact HB.out | apply below_alloc | apply pw_below_drewN | apply below_drew1) | exact HB.out))) : w.heap.size ≤ gb225)); have n3_ := Aside0.mk ((by rw [hg]; exact (below_size (by repeat (first | (with_reducible first | exact HB.out | apply below_alloc | apply pw_below_drewN | apply below_drew1) | exact HB.out))) : w.heap.size ≤ gb225)); clear HB; have HB := n0_; have BK225 := n1_; have GW225 := n2_; have GE225 := n3_; clear n0_ n1_ n2_ n3_; clear hb hbox hg; have hcz6_0 : w5.cell? ⟨gb225, 0, none⟩ = some (.int .i64 a0_0) := (blk_cell BK225.out 0).trans rfl; have hcz6_1 : w5.cell? ⟨gb225, 1, none⟩ = some (.slice A0_1 l0_1.length c0_1) := (blk_cell BK225.out 1).trans rfl; have hfz6_0 := blk_frozen BK225.out 0; have hfz6_1 := blk_frozen BK225.out 1) | ((with_reducible refine gate_callee (f := 96) rfl ?_); refine goesL_ (some 8) rfl rfl Try.func96 (by kernel_rfl) rfl #[.slice A0_1 l0_1.length c0_1, .int .i64 a1] rfl (by (try simp only [List.map_toArray, List.map_cons, List.map_nil]); first | done | rfl | (simp only [List.length_drop, List.length_take]; rfl)) ?_; (with_reducible refine (laws_heldInt64S.calls k _ _ l0_1 a1 t226 _ ?side1 ?side2 A3.out).mono ?_); (case side1 => repeat (first | exact (Kd.C_below HR0_1.out HB.out) | (with_reducible refine Kd.C_alloc ?_ _) | (with_reducible refine Kd.C_drewN ?_ _) | (with_reducible refine Kd.C_drew ?_))); (case side2 => exact HC0_1.out); rintro e w' ⟨rfl, ⟨nd, rfl⟩⟩; refine ⟨_, rfl, ?_⟩))
  go_ret
  exact ⟨by first | rfl | (simp [errW_none, errW_some] <;> rfl) | (simp [*, errW_none, errW_some] <;> rfl), by repeat (first | (with_reducible first | exact HB.out | apply below_alloc | apply pw_below_drewN | apply below_drew1 | refine below_set ?_ GE225.out) | exact HB.out)⟩
 ·rw [if_neg c4] at H
  have c4b0 : decide (t226 < 0) = false := decide_eq_false c4
  clear c4
  obtain rfl := Option.some.inj H
  go_enter Try.func45, Try.ntmps45
  go_wp2_with (first | ((with_reducible refine gate_dst (N := 2) rfl ?_); refine box_event ?hg (N := 2) ?hd (cs := #[.int .i64 a0_0, .slice A0_1 l0_1.length c0_1]) (t := 76) ?hr ?_; (case hd => rfl); (case hg => rfl); (case hr => first | (go_simp; done) | (go_simp; rfl)); intro gb225 hg w7 hbox hb; have n0_ := Aside0.mk (below_step (by repeat (first | (with_reducible first | exact HB.out | apply below_alloc | apply pw_below_drewN | apply below_drew1) | exact HB.out)) hb); have n1_ := Aside0.mk (hbox); have n2_ := Aside0.mk ((by rw [hg]; exact (below_size (by repeat (first | (with_reducible first | exact HB.out | apply below_alloc | apply pw_below_drewN | apply below_drew1) | exact HB.out))) : w.heap.size ≤ gb225)); have n3_ := Aside0.mk ((by rw [hg]; exact (below_size (by repeat (first | (with_reducible first | exact HB.out | apply below_alloc | apply pw_below_drewN | apply below_drew1) | exact HB.out))) : w.heap.size ≤ gb225)); clear HB; have HB := n0_; have BK225 := n1_; have GW225 := n2_; have GE225 := n3_; clear n0_ n1_ n2_ n3_; clear hb hbox hg; have hcz8_0 : w7.cell? ⟨gb225, 0, none⟩ = some (.int .i64 a0_0) := (blk_cell BK225.out 0).trans rfl; have hcz8_1 : w7.cell? ⟨gb225, 1, none⟩ = some (.slice A0_1 l0_1.length c0_1) := (blk_cell BK225.out 1).trans rfl; have hfz8_0 := blk_frozen BK225.out 0; have hfz8_1 := blk_frozen BK225.out 1) | ((with_reducible refine gate_callee (f := 96) rfl ?_); refine goesL_ (some 8) rfl rfl Try.func96 (by kernel_rfl) rfl #[.slice A0_1 l0_1.length c0_1, .int .i64 a1] rfl (by (try simp only [List.map_toArray, List.map_cons, List.map_nil]); first | done | rfl | (simp only [List.length_drop, List.length_take]; rfl)) ?_; (with_reducible refine (laws_heldInt64S.calls k _ _ l0_1 a1 t226 _ ?side1 ?side2 A3.out).mono ?_); (case side1 => repeat (first | exact (Kd.C_below HR0_1.out HB.out) | (with_reducible refine Kd.C_alloc ?_ _) | (with_reducible refine Kd.C_drewN ?_ _) | (with_reducible refine Kd.C_drew ?_))); (case side2 => exact HC0_1.out); rintro e w' ⟨rfl, ⟨nd, rfl⟩⟩; refine ⟨_, rfl, ?_⟩))
  go_ret
  exact ⟨by first | rfl | (simp [errW_none, errW_some] <;> rfl) | (simp [*, errW_none, errW_some] <;> rfl), by repeat (first | (with_reducible first | exact HB.out | apply below_alloc | apply pw_below_drewN | apply below_drew1 | refine below_set ?_ GE225.out) | exact HB.out)⟩

/-! ### laws_FnExactDeltaOf: function 10 -/
/-- What the law asks behind the sizes. -/
def laws_FnExactDeltaOf.good (k : Nat) (aa0 : Int) (la1 : List (S134)) (la2 : List (S131)) (ab0 : Int) (lb1 : List (S134)) (lb2 : List (S131)) : Prop :=
 ∃ (ma1 : List S36) (ma2 : List S64) (mb1 : List S36) (mb2 : List S64) (cc : Int) (dd r2 : List Int) (m x1 x2 : Int),
  laws_toConfig.f k aa0 la1 la2 = some (aa0, ma1, ma2) ∧ laws_toConfig.f k ab0 lb1 lb2 = some (ab0, mb1, mb2) ∧ Dl.dcd aa0 ma1 ma2 ab0 mb1 mb2 = cc ∧ Dl.dsp aa0 ma1 ma2 ab0 mb1 mb2 = dd ∧ Dl.dim aa0 ma1 ma2 ab0 mb1 mb2 = dd ∧
  laws_eqConfig.f k aa0 ma1 ma2 aa0 ma1 ma2 = some true ∧ laws_eqConfig.f k ab0 mb1 mb2 ab0 mb1 mb2 = some true ∧ laws_eqIntsResult.f k cc dd cc dd = some true ∧ laws_markConfig.f aa0 ma1 ma2 1 = some x1 ∧ laws_markConfig.f ab0 mb1 mb2 x1 = some x2 ∧ 0 ≤ x2 ∧
  laws_markIntsResult.f k cc dd 1 = some (m, r2) ∧ r2.length = dd.length ∧ laws_heldIntsResult.f k cc r2 1 = some m ∧ 0 ≤ m
open Classical in
noncomputable
def laws_FnExactDeltaOf.f (k : Nat) (aa0 : Int) (la1 : List (S134)) (la2 : List (S131)) (ab0 : Int) (lb1 : List (S134)) (lb2 : List (S131)) : Option (Bool) := (laws_szConfig.f k aa0 la1 la2 1048576).bind fun t1 => (if t1 < 0 then (some true) else ((laws_szConfig.f k ab0 lb1 lb2 t1).bind fun t2 => (if t2 < 0 then (some true) else (if laws_FnExactDeltaOf.good k aa0 la1 la2 ab0 lb1 lb2 then some true else none))))
namespace Dl
def iv (lo hi k : Nat) : Prop := lo ≤ k ∧ k < hi
theorem R_iv {α : Type} {d : Kd α} {e base : Nat} {ok : Nat → Prop} {w : World} {v : Value} {xs : List α} (h : d.R e w base ok v xs) : d.R e w base (iv base w.heap.size) v xs := Kd.R_mono (Kd.R_bound h) (fun _ hk => ⟨hk.2.1, hk.2.2.1⟩)
theorem S_iv {α : Type} {d : Kd α} {e base : Nat} {ok : Nat → Prop} {w : World} {v : Value} {xs : List α} (h : Kd.S d e w base ok v xs) : Kd.S d e w base (iv base w.heap.size) v xs := Kd.S_mono (Kd.S_bound h) (fun _ hk => ⟨hk.2.1, hk.2.2.1⟩)
theorem iv_no {lo hi g : Nat} (h : g < lo ∨ hi ≤ g) : ¬ (iv lo hi g ∨ iv lo hi g) := by
 rintro (h1 | h1) <;> (unfold iv at h1; omega)
theorem iv_iv {lo hi lo' hi' : Nat} (h : hi' ≤ lo ∨ hi ≤ lo') : ∀ k, iv lo' hi' k → ¬ (iv lo hi k ∨ iv lo hi k) := by
 intro k hk
 rintro (h1 | h1) <;> (unfold iv at h1 hk; omega)
theorem iv_no1 {lo hi g : Nat} (h : g < lo ∨ hi ≤ g) : ¬ iv lo hi g := by unfold iv; omega
theorem iv_iv1 {lo hi lo' hi' : Nat} (h : hi' ≤ lo ∨ hi ≤ lo') : ∀ k, iv lo' hi' k → ¬ iv lo hi k := by
 intro k hk
 unfold iv at *
 omega
theorem pair_eq {r s : Int} {x y : List Int} (h : r = s) (hx : x = y) : (r, x) = (s, y) := by rw [h, hx]
end Dl
set_option maxHeartbeats 16000000 in
set_option maxRecDepth 100000 in
theorem laws_FnExactDeltaOf.calls (k : Nat) (aa0 : Int) (Aa1 : Option Addr) (ca1 : Nat) (la1 : List (S134)) (Aa2 : Option Addr) (ca2 : Nat) (la2 : List (S131)) (ab0 : Int) (Ab1 : Option Addr) (cb1 : Nat) (lb1 : List (S134)) (Ab2 : Option Addr) (cb2 : Nat) (lb2 : List (S131)) (r : Bool) (w : World) (hr0_1 : Kd.C k134 w Aa1 la1.length la1) (hc0_1 : la1.length ≤ ca1) (hr0_2 : Kd.C k131 w Aa2 la2.length la2) (hc0_2 : la2.length ≤ ca2) (hr1_1 : Kd.C k134 w Ab1 lb1.length lb1) (hc1_1 : lb1.length ≤ cb1) (hr1_2 : Kd.C k131 w Ab2 lb2.length lb2) (hc1_2 : lb2.length ≤ cb2) (h : laws_FnExactDeltaOf.f k aa0 la1 la2 ab0 lb1 lb2 = some r) :
  Calls Try.prog 10 #[.agg #[.int .i64 aa0, .slice Aa1 la1.length ca1, .slice Aa2 la2.length ca2], .agg #[.int .i64 ab0, .slice Ab1 lb1.length cb1, .slice Ab2 lb2.length cb2]] w fun e w' => e = .returned (.bool r) ∧ Below w.heap.size w w' := by
 have hu25 := Try.underlying25
 have hu31 := Try.underlying31
 have hu76 := Try.underlying76
 unfold laws_FnExactDeltaOf.f at h
 obtain ⟨t1, e1, h⟩ := Option.bind_eq_some_iff.mp h
 obtain ⟨w1, hw1⟩ : ∃ W, W = (w.alloc (.cells #[.int .i64 aa0, .slice Aa1 la1.length ca1, .slice Aa2 la2.length ca2] 25)).alloc (.cells #[.int .i64 ab0, .slice Ab1 lb1.length cb1, .slice Ab2 lb2.length cb2] 25) := ⟨_, rfl⟩
 have hB1 : Below w.heap.size w w1 := by rw [hw1]; exact (((Below.refl _ w).alloc (Nat.le_refl _) _).alloc (by simp) _)
 have b2 : w1.heap[w.heap.size]? = some (.cells #[.int .i64 aa0, .slice Aa1 la1.length ca1, .slice Aa2 la2.length ca2] 25 (0, 0)) := by rw [hw1]; exact blk_alloc (blk_new w _) _
 have b3 : w1.heap[w.heap.size + 1]? = some (.cells #[.int .i64 ab0, .slice Ab1 lb1.length cb1, .slice Ab2 lb2.length cb2] 25 (0, 0)) := by
  rw [hw1]
  have h_ := heap_alloc_new (w.alloc (.cells #[.int .i64 aa0, .slice Aa1 la1.length ca1, .slice Aa2 la2.length ca2] 25)) (.cells #[.int .i64 ab0, .slice Ab1 lb1.length cb1, .slice Ab2 lb2.length cb2] 25)
  rwa [World.size_alloc] at h_
 have hsz1 : w1.heap.size = w.heap.size + 2 := by rw [hw1]; simp
 have hS1 := laws_szConfig.calls k aa0 Aa1 ca1 la1 Aa2 ca2 la2 1048576 t1 w1 (Kd.C_below hr0_1 hB1) hc0_1 (Kd.C_below hr0_2 hB1) hc0_2 e1
 rw [hw1] at hS1
 have b2' := b2
 rw [hw1] at b2'
 have x0 := blk_cell b2' 0
 have x1 := blk_cell b2' 1
 have x2 := blk_cell b2' 2
 clear b2'
 go_enter Try.func10, Try.ntmps10
 have HB := Aside0.mk hB1
 have B2 := Aside0.mk b2
 have B3 := Aside0.mk b3
 have HSZ := Aside0.mk hsz1
 have HW1 := Aside0.mk hw1
 clear hB1 b2 b3 hsz1 hw1 e1
 go_wp2_with fail
 refine hS1.mono ?_
 rw [← HW1.out]
 rintro e_ w2 ⟨rfl, hb_⟩
 clear hS1 x0 x1 x2 HW1
 have n0_ := Aside0.mk (Cf.up HB.out hb_)
 have n1_ := Aside0.mk (blk_below B2.out hb_)
 have n2_ := Aside0.mk (blk_below B3.out hb_)
 clear HB B2 B3
 have HB := n0_
 have B2 := n1_
 have B3 := n2_
 clear n0_ n1_ n2_
 have i1 := Aside0.mk hb_.size
 clear hb_
 by_cases ht1 : t1 < 0
 ·rw [if_pos ht1] at h
  obtain rfl := Option.some.inj h
  clear h
  have hd1 : decide (t1 < 0) = true := decide_eq_true ht1
  go_wp2
  go_ret
  exact ⟨rfl, HB.out⟩
 rw [if_neg ht1] at h
 have hd1 : decide (t1 < 0) = false := decide_eq_false ht1
 obtain ⟨t2, e2, h⟩ := Option.bind_eq_some_iff.mp h
 have hS2 := laws_szConfig.calls k ab0 Ab1 cb1 lb1 Ab2 cb2 lb2 t1 t2 w2 (Kd.C_below hr1_1 HB.out) hc1_1 (Kd.C_below hr1_2 HB.out) hc1_2 e2
 clear e2
 have x0 := blk_cell B3.out 0
 have x1 := blk_cell B3.out 1
 have x2 := blk_cell B3.out 2
 go_wp2_with fail
 refine hS2.mono ?_
 rintro e_ w3 ⟨rfl, hb_⟩
 clear hS2 hd1
 clear x0 x1 x2
 have n0_ := Aside0.mk (Cf.up HB.out hb_)
 have n1_ := Aside0.mk (blk_below B2.out hb_)
 have n2_ := Aside0.mk (blk_below B3.out hb_)
 clear HB B2 B3
 have HB := n0_
 have B2 := n1_
 have B3 := n2_
 clear n0_ n1_ n2_
 have i2 := Aside0.mk hb_.size
 clear hb_
 by_cases ht2 : t2 < 0
 ·rw [if_pos ht2] at h
  obtain rfl := Option.some.inj h
  clear h
  have hd2 : decide (t2 < 0) = true := decide_eq_true ht2
  go_wp2
  go_ret
  exact ⟨rfl, HB.out⟩
 rw [if_neg ht2] at h
 have hd2 : decide (t2 < 0) = false := decide_eq_false ht2
 by_cases hG : laws_FnExactDeltaOf.good k aa0 la1 la2 ab0 lb1 lb2
 rotate_left
 ·rw [if_neg hG] at h
  cases h
 rw [if_pos hG] at h
 obtain rfl := Option.some.inj h
 clear h
 obtain ⟨ma1, ma2, mb1, mb2, cc, dd, r2, m, mk1, mk2, ea, eb, ecc, esp, eim, eqa, eqb, eqd, em1, em2, hx2, emr, hr2, ehd, hm0⟩ := hG
 have hfa := fun (W : World) (hW : Below w.heap.size w W) => laws_toConfig.calls k aa0 Aa1 ca1 la1 Aa2 ca2 la2 aa0 ma1 ma2 W (Kd.C_below hr0_1 hW) hc0_1 (Kd.C_below hr0_2 hW) hc0_2 ea
 have hfb := fun (W : World) (hW : Below w.heap.size w W) => laws_toConfig.calls k ab0 Ab1 cb1 lb1 Ab2 cb2 lb2 ab0 mb1 mb2 W (Kd.C_below hr1_1 hW) hc1_1 (Kd.C_below hr1_2 hW) hc1_2 eb
 have hsp : ∀ (P1 : Option Addr) (p1 : Nat) (P2 : Option Addr) (p2 : Nat) (Q1 : Option Addr) (q1 : Nat) (Q2 : Option Addr) (q2 : Nat) (W : World), Kd.C k36 W P1 ma1.length ma1 → Kd.C k64 W P2 ma2.length ma2 → Kd.C k36 W Q1 mb1.length mb1 → Kd.C k64 W Q2 mb2.length mb2 →
   Calls Try.prog 41 #[.agg #[.int .i64 aa0, .slice P1 ma1.length p1, .slice P2 ma2.length p2], .agg #[.int .i64 ab0, .slice Q1 mb1.length q1, .slice Q2 mb2.length q2]] W fun e_ w' => ∃ u, e_ = .returned (.agg #[.int .i64 cc, u]) ∧ Kd.R (Kd.int .i64) 2 w' W.heap.size (fun _ => True) u dd ∧ Below W.heap.size W w' := by
  intro P1 p1 P2 p2 Q1 q1 Q2 q2 W h1 h2 h3 h4
  rw [← ecc, ← esp]
  exact spec_DeltaOf.cf P1 p1 ma1 P2 p2 ma2 aa0 Q1 q1 mb1 Q2 q2 mb2 ab0 W h1 h2 h3 h4
 have him : ∀ (P1 : Option Addr) (p1 : Nat) (P2 : Option Addr) (p2 : Nat) (Q1 : Option Addr) (q1 : Nat) (Q2 : Option Addr) (q2 : Nat) (W : World), Kd.C k36 W P1 ma1.length ma1 → ma1.length ≤ p1 → Kd.C k64 W P2 ma2.length ma2 → Kd.C k36 W Q1 mb1.length mb1 → mb1.length ≤ q1 → Kd.C k64 W Q2 mb2.length mb2 →
   Calls Try.prog 42 #[.agg #[.int .i64 aa0, .slice P1 ma1.length p1, .slice P2 ma2.length p2], .agg #[.int .i64 ab0, .slice Q1 mb1.length q1, .slice Q2 mb2.length q2]] W fun e_ w' => ∃ u, e_ = .returned (.agg #[.int .i64 cc, u]) ∧ Kd.R (Kd.int .i64) 2 w' W.heap.size (fun _ => True) u dd ∧ Below W.heap.size W w' := by
  intro P1 p1 P2 p2 Q1 q1 Q2 q2 W h1 g1 h2 h3 g3 h4
  rw [← ecc, ← eim]
  exact impl_DeltaOf.cf P1 p1 ma1 P2 p2 ma2 aa0 Q1 q1 mb1 Q2 q2 mb2 ab0 W h1 g1 h2 h3 g3 h4
 have EQA := Aside0.mk eqa
 have EQB := Aside0.mk eqb
 have EQD := Aside0.mk eqd
 have EM1 := Aside0.mk em1
 have EM2 := Aside0.mk em2
 have EMR := Aside0.mk emr
 have EHD := Aside0.mk ehd
 have HR2 := Aside0.mk hr2
 clear ea eb ecc esp eim eqa eqb eqd em1 em2 emr ehd hr2
 go_wp2
 clear hd2
 have HS_ : ∀ W, Below w3.heap.size w3 W → (W.cell? ⟨w.heap.size, 0, none⟩ = some (.int .i64 aa0) ∧ W.cell? ⟨w.heap.size, 1, none⟩ = some (.slice Aa1 la1.length ca1) ∧ W.cell? ⟨w.heap.size, 2, none⟩ = some (.slice Aa2 la2.length ca2) ∧ W.cell? ⟨w.heap.size + 1, 0, none⟩ = some (.int .i64 ab0) ∧ W.cell? ⟨w.heap.size + 1, 1, none⟩ = some (.slice Ab1 lb1.length cb1) ∧ W.cell? ⟨w.heap.size + 1, 2, none⟩ = some (.slice Ab2 lb2.length cb2)) := fun W hW => ⟨blk_cell (blk_below B2.out hW) 0, blk_cell (blk_below B2.out hW) 1, blk_cell (blk_below B2.out hW) 2, blk_cell (blk_below B3.out hW) 0, blk_cell (blk_below B3.out hW) 1, blk_cell (blk_below B3.out hW) 2⟩
 have hd : Below w3.heap.size w3 w3.drew := below_drew1 (Below.refl _ _)
 refine start_ (n := 7) (S := fun w' => w'.cell? ⟨w.heap.size, 0, none⟩ = some (.int .i64 aa0) ∧ w'.cell? ⟨w.heap.size, 1, none⟩ = some (.slice Aa1 la1.length ca1) ∧ w'.cell? ⟨w.heap.size, 2, none⟩ = some (.slice Aa2 la2.length ca2) ∧ w'.cell? ⟨w.heap.size + 1, 0, none⟩ = some (.int .i64 ab0) ∧ w'.cell? ⟨w.heap.size + 1, 1, none⟩ = some (.slice Ab1 lb1.length cb1) ∧ w'.cell? ⟨w.heap.size + 1, 2, none⟩ = some (.slice Ab2 lb2.length cb2)) (ds := []) #[false, false, false, false, false, false, false] (by kernel_rfl) rfl rfl (HS_ _ hd) (fun hHeld => ?_)
 generalize w3.drew = wd at hd hHeld ⊢
 refine take_ (i := 0) (N := some 24) (v := ?_) (a' := ?_) #[true, false, false, false, false, false, false] rfl rfl (by kernel_rfl) (fun _ _ _ h => h) (Or.inl ⟨by rfl, ?_⟩) hHeld ?_ ?_
 rotate_left
 ·rintro w' ⟨s0, s1, s2, s3, s4, s5⟩
  go_simp
  with_reducible rfl
 rotate_left
 ·simp only [Act.put, List.setIfInBounds_toArray, List.set_cons_zero, List.set_cons_succ, i64_w, i32_w]
  rfl
 refine take_ (i := 2) (N := some 26) (v := ?_) (a' := ?_) #[true, false, true, false, false, false, false] rfl rfl (by kernel_rfl) (fun _ _ _ h => h) (Or.inl ⟨by rfl, ?_⟩) hHeld ?_ ?_
 rotate_left
 ·rintro w' ⟨s0, s1, s2, s3, s4, s5⟩
  go_simp
  with_reducible rfl
 rotate_left
 ·simp only [Act.put, List.setIfInBounds_toArray, List.set_cons_zero, List.set_cons_succ, i64_w, i32_w]
  rfl
 refine join_ (σ := Value × Value × Value × Nat) 1 #[true, true, true, true, true, true, false] (fun s_ => [(25, s_.1), (27, s_.2.1), (28, .agg #[.int .i64 cc, s_.2.2.1]), (6, .pointer (some ⟨s_.2.2.2, 0, none⟩))]) (fun s_ w' => Below w3.heap.size w3 w' ∧ Kd.R (Kd.int .i64) 2 w' w3.heap.size (fun _ => True) s_.2.2.1 dd ∧ w'.heap[s_.2.2.2]? = some (.cells #[.int .i64 0, .slice none 0 0] 76 (0, 0)) ∧ w3.heap.size ≤ s_.2.2.2) ?_ ?_
 rotate_left
 ·intro hCont
  refine two_ (i := 1) (j := 5) (Ni := some 25) (Nj := some 6) #[true, true, true, false, false, false, false] #[true, false, true, false, false, true, false] rfl rfl rfl rfl (by kernel_rfl) (by decide) (by decide) (fun K hK => ?_) (fun K hK => ?_)
  ·skip
   refine goes_ Try.func14 (by kernel_rfl) rfl #[.agg #[.int .i64 aa0, .slice Aa1 la1.length ca1, .slice Aa2 la2.length ca2]] (by rfl) rfl rfl (by (try simp only [List.map_toArray, List.map_cons, List.map_nil]); first | done | rfl) ?_
   refine (hfa _ (Cf.up HB.out hd)).mono ?_
   rintro e_ wc ⟨v1_, v2_, rfl, hR_, hS_, hbc⟩
   obtain ⟨P1, p1, rfl⟩ := Kd.R_slice hR_
   obtain ⟨P2, p2, rfl⟩ := Kd.S_slice hS_
   obtain ⟨_, hp1, hC1⟩ := Kd.R_reads' hR_
   obtain ⟨_, hp2, hC2⟩ := Kd.S_reads' hS_
   clear hR_ hS_
   refine ⟨_, rfl, ?_⟩
   replace hd := Cf.up hd hbc
   clear hbc hHeld
   refine hK.out _ _ (HS_ _ hd) (fun hHeld => ?_)
   clear hK K
   refine norm_ (a' := ?_) ?_ ?_
   rotate_left
   ·show Act.put _ (some 25) _ = _
    simp only [Act.put, List.setIfInBounds_toArray, List.set_cons_zero, List.set_cons_succ, i64_w, i32_w]
    rfl
   refine two_ (i := 3) (j := 5) (Ni := some 27) (Nj := some 6) #[true, true, true, true, false, false, false] #[true, true, true, false, false, true, false] rfl rfl rfl rfl (by kernel_rfl) (by decide) (by decide) (fun K hK => ?_) (fun K hK => ?_)
   ·skip
    refine goes_ Try.func14 (by kernel_rfl) rfl #[.agg #[.int .i64 ab0, .slice Ab1 lb1.length cb1, .slice Ab2 lb2.length cb2]] (by rfl) rfl rfl (by (try simp only [List.map_toArray, List.map_cons, List.map_nil]); first | done | rfl) ?_
    refine (hfb _ (Cf.up HB.out hd)).mono ?_
    rintro e_ wc2 ⟨v1_, v2_, rfl, hR_, hS_, hbc⟩
    obtain ⟨Q1, q1, rfl⟩ := Kd.R_slice hR_
    obtain ⟨Q2, q2, rfl⟩ := Kd.S_slice hS_
    obtain ⟨_, hq1, hC3⟩ := Kd.R_reads' hR_
    obtain ⟨_, hq2, hC4⟩ := Kd.S_reads' hS_
    clear hR_ hS_
    refine ⟨_, rfl, ?_⟩
    replace hC1 := Kd.C_below hC1 hbc
    replace hC2 := Kd.C_below hC2 hbc
    replace hd := Cf.up hd hbc
    clear hbc hHeld
    refine hK.out _ _ (HS_ _ hd) (fun hHeld => ?_)
    clear hK K
    refine norm_ (a' := ?_) ?_ ?_
    rotate_left
    ·show Act.put _ (some 27) _ = _
     simp only [Act.put, List.setIfInBounds_toArray, List.set_cons_zero, List.set_cons_succ, i64_w, i32_w]
     rfl
    refine two_ (i := 4) (j := 5) (Ni := some 28) (Nj := some 6) #[true, true, true, true, true, false, false] #[true, true, true, true, false, true, false] rfl rfl rfl rfl (by kernel_rfl) (by decide) (by decide) (fun K hK => ?_) (fun K hK => ?_)
    ·skip
     refine goes_ Try.func41 (by kernel_rfl) rfl #[.agg #[.int .i64 aa0, .slice P1 ma1.length p1, .slice P2 ma2.length p2], .agg #[.int .i64 ab0, .slice Q1 mb1.length q1, .slice Q2 mb2.length q2]] (by rfl) rfl rfl (by (try simp only [List.map_toArray, List.map_cons, List.map_nil]); first | done | rfl) ?_
     refine (hsp _ _ _ _ _ _ _ _ _ hC1 hC2 hC3 hC4).mono ?_
     rintro e_ wc3 ⟨u_, rfl, hU, hbc⟩
     clear hC1 hC2 hC3 hC4
     replace hU := Kd.R_lower hU hd.size
     refine ⟨_, rfl, ?_⟩
     replace hd := Cf.up hd hbc
     clear hbc hHeld
     refine hK.out _ _ (HS_ _ hd) (fun hHeld => ?_)
     clear hK K
     refine norm_ (a' := ?_) ?_ ?_
     rotate_left
     ·show Act.put _ (some 28) _ = _
      simp only [Act.put, List.setIfInBounds_toArray, List.set_cons_zero, List.set_cons_succ, i64_w, i32_w]
      rfl
     refine one_ (i := 5) (N := some 6) #[true, true, true, true, true, true, false] rfl rfl (by kernel_rfl) (by decide) (fun K hK => ?_)
     refine box_step ?hg (N := 6) ?hd (cs := #[.int .i64 0, .slice none 0 0]) (t := 76) ?hr ?_; (case hd => rfl); (case hg => rfl); (case hr => first | (go_simp; done) | (go_simp; rfl))
     intro gb hg_ wb hbox hbc
     have hge : w3.heap.size ≤ gb := by rw [hg_]; exact hd.size
     clear hg_
     replace hU := Kd.R_below hU hbc
     replace hd := Cf.up hd hbc
     clear hbc hHeld
     refine hK.out _ _ (HS_ _ hd) (fun hHeld => ?_)
     clear hK K
     refine norm_ (a' := ?_) ?_ ?_
     rotate_left
     ·show Act.put _ (some 6) _ = _
      simp only [Act.put, List.setIfInBounds_toArray, List.set_cons_zero, List.set_cons_succ, i64_w, i32_w]
      rfl
     exact norm_ (by simp only [putAll, Act.put, List.setIfInBounds_toArray, List.set_cons_zero, List.set_cons_succ]) (hCont (.agg #[.int .i64 aa0, .slice P1 ma1.length p1, .slice P2 ma2.length p2], .agg #[.int .i64 ab0, .slice Q1 mb1.length q1, .slice Q2 mb2.length q2], u_, gb) _ ⟨hd, hU, hbox, hge⟩)
    ·skip
     refine box_step ?hg (N := 6) ?hd (cs := #[.int .i64 0, .slice none 0 0]) (t := 76) ?hr ?_; (case hd => rfl); (case hg => rfl); (case hr => first | (go_simp; done) | (go_simp; rfl))
     intro gb hg_ wb hbox hbc
     have hge : w3.heap.size ≤ gb := by rw [hg_]; exact hd.size
     clear hg_
     replace hC1 := Kd.C_below hC1 hbc
     replace hC2 := Kd.C_below hC2 hbc
     replace hC3 := Kd.C_below hC3 hbc
     replace hC4 := Kd.C_below hC4 hbc
     replace hd := Cf.up hd hbc
     clear hbc hHeld
     refine hK.out _ _ (HS_ _ hd) (fun hHeld => ?_)
     clear hK K
     refine norm_ (a' := ?_) ?_ ?_
     rotate_left
     ·show Act.put _ (some 6) _ = _
      simp only [Act.put, List.setIfInBounds_toArray, List.set_cons_zero, List.set_cons_succ, i64_w, i32_w]
      rfl
     refine one_ (i := 4) (N := some 28) #[true, true, true, true, true, true, false] rfl rfl (by kernel_rfl) (by decide) (fun K hK => ?_)
     refine goes_ Try.func41 (by kernel_rfl) rfl #[.agg #[.int .i64 aa0, .slice P1 ma1.length p1, .slice P2 ma2.length p2], .agg #[.int .i64 ab0, .slice Q1 mb1.length q1, .slice Q2 mb2.length q2]] (by rfl) rfl rfl (by (try simp only [List.map_toArray, List.map_cons, List.map_nil]); first | done | rfl) ?_
     refine (hsp _ _ _ _ _ _ _ _ _ hC1 hC2 hC3 hC4).mono ?_
     rintro e_ wc3 ⟨u_, rfl, hU, hbc⟩
     clear hC1 hC2 hC3 hC4
     replace hU := Kd.R_lower hU hd.size
     refine ⟨_, rfl, ?_⟩
     replace hbox := blk_below hbox hbc
     replace hd := Cf.up hd hbc
     clear hbc hHeld
     refine hK.out _ _ (HS_ _ hd) (fun hHeld => ?_)
     clear hK K
     refine norm_ (a' := ?_) ?_ ?_
     rotate_left
     ·show Act.put _ (some 28) _ = _
      simp only [Act.put, List.setIfInBounds_toArray, List.set_cons_zero, List.set_cons_succ, i64_w, i32_w]
      rfl
     exact norm_ (by simp only [putAll, Act.put, List.setIfInBounds_toArray, List.set_cons_zero, List.set_cons_succ]) (hCont (.agg #[.int .i64 aa0, .slice P1 ma1.length p1, .slice P2 ma2.length p2], .agg #[.int .i64 ab0, .slice Q1 mb1.length q1, .slice Q2 mb2.length q2], u_, gb) _ ⟨hd, hU, hbox, hge⟩)
   ·skip
    refine box_step ?hg (N := 6) ?hd (cs := #[.int .i64 0, .slice none 0 0]) (t := 76) ?hr ?_; (case hd => rfl); (case hg => rfl); (case hr => first | (go_simp; done) | (go_simp; rfl))
    intro gb hg_ wb hbox hbc
    have hge : w3.heap.size ≤ gb := by rw [hg_]; exact hd.size
    clear hg_
    replace hC1 := Kd.C_below hC1 hbc
    replace hC2 := Kd.C_below hC2 hbc
    replace hd := Cf.up hd hbc
    clear hbc hHeld
    refine hK.out _ _ (HS_ _ hd) (fun hHeld => ?_)
    clear hK K
    refine norm_ (a' := ?_) ?_ ?_
    rotate_left
    ·show Act.put _ (some 6) _ = _
     simp only [Act.put, List.setIfInBounds_toArray, List.set_cons_zero, List.set_cons_succ, i64_w, i32_w]
     rfl
    refine one_ (i := 3) (N := some 27) #[true, true, true, true, false, true, false] rfl rfl (by kernel_rfl) (by decide) (fun K hK => ?_)
    refine goes_ Try.func14 (by kernel_rfl) rfl #[.agg #[.int .i64 ab0, .slice Ab1 lb1.length cb1, .slice Ab2 lb2.length cb2]] (by rfl) rfl rfl (by (try simp only [List.map_toArray, List.map_cons, List.map_nil]); first | done | rfl) ?_
    refine (hfb _ (Cf.up HB.out hd)).mono ?_
    rintro e_ wc2 ⟨v1_, v2_, rfl, hR_, hS_, hbc⟩
    obtain ⟨Q1, q1, rfl⟩ := Kd.R_slice hR_
    obtain ⟨Q2, q2, rfl⟩ := Kd.S_slice hS_
    obtain ⟨_, hq1, hC3⟩ := Kd.R_reads' hR_
    obtain ⟨_, hq2, hC4⟩ := Kd.S_reads' hS_
    clear hR_ hS_
    refine ⟨_, rfl, ?_⟩
    replace hC1 := Kd.C_below hC1 hbc
    replace hC2 := Kd.C_below hC2 hbc
    replace hbox := blk_below hbox hbc
    replace hd := Cf.up hd hbc
    clear hbc hHeld
    refine hK.out _ _ (HS_ _ hd) (fun hHeld => ?_)
    clear hK K
    refine norm_ (a' := ?_) ?_ ?_
    rotate_left
    ·show Act.put _ (some 27) _ = _
     simp only [Act.put, List.setIfInBounds_toArray, List.set_cons_zero, List.set_cons_succ, i64_w, i32_w]
     rfl
    refine one_ (i := 4) (N := some 28) #[true, true, true, true, true, true, false] rfl rfl (by kernel_rfl) (by decide) (fun K hK => ?_)
    refine goes_ Try.func41 (by kernel_rfl) rfl #[.agg #[.int .i64 aa0, .slice P1 ma1.length p1, .slice P2 ma2.length p2], .agg #[.int .i64 ab0, .slice Q1 mb1.length q1, .slice Q2 mb2.length q2]] (by rfl) rfl rfl (by (try simp only [List.map_toArray, List.map_cons, List.map_nil]); first | done | rfl) ?_
    refine (hsp _ _ _ _ _ _ _ _ _ hC1 hC2 hC3 hC4).mono ?_
    rintro e_ wc3 ⟨u_, rfl, hU, hbc⟩
    clear hC1 hC2 hC3 hC4
    replace hU := Kd.R_lower hU hd.size
    refine ⟨_, rfl, ?_⟩
    replace hbox := blk_below hbox hbc
    replace hd := Cf.up hd hbc
    clear hbc hHeld
    refine hK.out _ _ (HS_ _ hd) (fun hHeld => ?_)
    clear hK K
    refine norm_ (a' := ?_) ?_ ?_
    rotate_left
    ·show Act.put _ (some 28) _ = _
     simp only [Act.put, List.setIfInBounds_toArray, List.set_cons_zero, List.set_cons_succ, i64_w, i32_w]
     rfl
    exact norm_ (by simp only [putAll, Act.put, List.setIfInBounds_toArray, List.set_cons_zero, List.set_cons_succ]) (hCont (.agg #[.int .i64 aa0, .slice P1 ma1.length p1, .slice P2 ma2.length p2], .agg #[.int .i64 ab0, .slice Q1 mb1.length q1, .slice Q2 mb2.length q2], u_, gb) _ ⟨hd, hU, hbox, hge⟩)
  ·skip
   refine box_step ?hg (N := 6) ?hd (cs := #[.int .i64 0, .slice none 0 0]) (t := 76) ?hr ?_; (case hd => rfl); (case hg => rfl); (case hr => first | (go_simp; done) | (go_simp; rfl))
   intro gb hg_ wb hbox hbc
   have hge : w3.heap.size ≤ gb := by rw [hg_]; exact hd.size
   clear hg_
   replace hd := Cf.up hd hbc
   clear hbc hHeld
   refine hK.out _ _ (HS_ _ hd) (fun hHeld => ?_)
   clear hK K
   refine norm_ (a' := ?_) ?_ ?_
   rotate_left
   ·show Act.put _ (some 6) _ = _
    simp only [Act.put, List.setIfInBounds_toArray, List.set_cons_zero, List.set_cons_succ, i64_w, i32_w]
    rfl
   refine one_ (i := 1) (N := some 25) #[true, true, true, false, false, true, false] rfl rfl (by kernel_rfl) (by decide) (fun K hK => ?_)
   refine goes_ Try.func14 (by kernel_rfl) rfl #[.agg #[.int .i64 aa0, .slice Aa1 la1.length ca1, .slice Aa2 la2.length ca2]] (by rfl) rfl rfl (by (try simp only [List.map_toArray, List.map_cons, List.map_nil]); first | done | rfl) ?_
   refine (hfa _ (Cf.up HB.out hd)).mono ?_
   rintro e_ wc ⟨v1_, v2_, rfl, hR_, hS_, hbc⟩
   obtain ⟨P1, p1, rfl⟩ := Kd.R_slice hR_
   obtain ⟨P2, p2, rfl⟩ := Kd.S_slice hS_
   obtain ⟨_, hp1, hC1⟩ := Kd.R_reads' hR_
   obtain ⟨_, hp2, hC2⟩ := Kd.S_reads' hS_
   clear hR_ hS_
   refine ⟨_, rfl, ?_⟩
   replace hbox := blk_below hbox hbc
   replace hd := Cf.up hd hbc
   clear hbc hHeld
   refine hK.out _ _ (HS_ _ hd) (fun hHeld => ?_)
   clear hK K
   refine norm_ (a' := ?_) ?_ ?_
   rotate_left
   ·show Act.put _ (some 25) _ = _
    simp only [Act.put, List.setIfInBounds_toArray, List.set_cons_zero, List.set_cons_succ, i64_w, i32_w]
    rfl
   refine one_ (i := 3) (N := some 27) #[true, true, true, true, false, true, false] rfl rfl (by kernel_rfl) (by decide) (fun K hK => ?_)
   refine goes_ Try.func14 (by kernel_rfl) rfl #[.agg #[.int .i64 ab0, .slice Ab1 lb1.length cb1, .slice Ab2 lb2.length cb2]] (by rfl) rfl rfl (by (try simp only [List.map_toArray, List.map_cons, List.map_nil]); first | done | rfl) ?_
   refine (hfb _ (Cf.up HB.out hd)).mono ?_
   rintro e_ wc2 ⟨v1_, v2_, rfl, hR_, hS_, hbc⟩
   obtain ⟨Q1, q1, rfl⟩ := Kd.R_slice hR_
   obtain ⟨Q2, q2, rfl⟩ := Kd.S_slice hS_
   obtain ⟨_, hq1, hC3⟩ := Kd.R_reads' hR_
   obtain ⟨_, hq2, hC4⟩ := Kd.S_reads' hS_
   clear hR_ hS_
   refine ⟨_, rfl, ?_⟩
   replace hC1 := Kd.C_below hC1 hbc
   replace hC2 := Kd.C_below hC2 hbc
   replace hbox := blk_below hbox hbc
   replace hd := Cf.up hd hbc
   clear hbc hHeld
   refine hK.out _ _ (HS_ _ hd) (fun hHeld => ?_)
   clear hK K
   refine norm_ (a' := ?_) ?_ ?_
   rotate_left
   ·show Act.put _ (some 27) _ = _
    simp only [Act.put, List.setIfInBounds_toArray, List.set_cons_zero, List.set_cons_succ, i64_w, i32_w]
    rfl
   refine one_ (i := 4) (N := some 28) #[true, true, true, true, true, true, false] rfl rfl (by kernel_rfl) (by decide) (fun K hK => ?_)
   refine goes_ Try.func41 (by kernel_rfl) rfl #[.agg #[.int .i64 aa0, .slice P1 ma1.length p1, .slice P2 ma2.length p2], .agg #[.int .i64 ab0, .slice Q1 mb1.length q1, .slice Q2 mb2.length q2]] (by rfl) rfl rfl (by (try simp only [List.map_toArray, List.map_cons, List.map_nil]); first | done | rfl) ?_
   refine (hsp _ _ _ _ _ _ _ _ _ hC1 hC2 hC3 hC4).mono ?_
   rintro e_ wc3 ⟨u_, rfl, hU, hbc⟩
   clear hC1 hC2 hC3 hC4
   replace hU := Kd.R_lower hU hd.size
   refine ⟨_, rfl, ?_⟩
   replace hbox := blk_below hbox hbc
   replace hd := Cf.up hd hbc
   clear hbc hHeld
   refine hK.out _ _ (HS_ _ hd) (fun hHeld => ?_)
   clear hK K
   refine norm_ (a' := ?_) ?_ ?_
   rotate_left
   ·show Act.put _ (some 28) _ = _
    simp only [Act.put, List.setIfInBounds_toArray, List.set_cons_zero, List.set_cons_succ, i64_w, i32_w]
    rfl
   exact norm_ (by simp only [putAll, Act.put, List.setIfInBounds_toArray, List.set_cons_zero, List.set_cons_succ]) (hCont (.agg #[.int .i64 aa0, .slice P1 ma1.length p1, .slice P2 ma2.length p2], .agg #[.int .i64 ab0, .slice Q1 mb1.length q1, .slice Q2 mb2.length q2], u_, gb) _ ⟨hd, hU, hbox, hge⟩)
 clear hHeld hd
 rintro ⟨va_, vb_, u_, gW⟩ wd ⟨hd, hU, hbox, hge⟩
 have hHeld := HS_ _ hd
 obtain ⟨RWA, RWc, eu_⟩ := Kd.R_slice hU
 subst eu_
 refine norm_ (a' := ?_) ?_ ?_
 rotate_left
 ·simp only [putAll, Act.put, List.setIfInBounds_toArray, List.set_cons_zero, List.set_cons_succ]
  rfl
 refine one_ (i := 6) (N := none) #[true, true, true, true, true, true, true] rfl rfl (by kernel_rfl) (by decide) (fun K hK => ?_)
 have y0 := blk_cell hbox 0
 have y1 := blk_cell hbox 1
 have f0 := blk_frozen hbox 0
 have f1 := blk_frozen hbox 1
 refine skip_ (w1 := ?_) (by rfl) rfl ?_ ?_
 rotate_left
 ·go_simp
  rfl
 have hd2 : Below w3.heap.size w3 ((wd.setCell ⟨gW, 0, none⟩ (.int .i64 cc)).setCell ⟨gW, 1, none⟩ (.slice RWA dd.length RWc)) := below_set (below_set hd hge) hge
 have hU2 := Dl.R_put2 hU hbox (.int .i64 cc) (.slice RWA dd.length RWc)
 have hbox2 := Dl.put2 hbox (.int .i64 cc) (.slice RWA dd.length RWc)
 refine hK.out _ _ (HS_ _ hd2) (fun hHeld => ?_)
 clear hK K hHeld HS_ y0 y1 f0 f1 hU hbox hd
 generalize ((wd.setCell ⟨gW, 0, none⟩ (.int .i64 cc)).setCell ⟨gW, 1, none⟩ (.slice RWA dd.length RWc)) = wz at hd2 hU2 hbox2 ⊢
 refine done_ (by kernel_rfl) ?_
 have n0_ := Aside0.mk (Cf.up HB.out hd2)
 have n1_ := Aside0.mk (blk_below B2.out hd2)
 have n2_ := Aside0.mk (blk_below B3.out hd2)
 clear HB B2 B3
 have HB := n0_
 have B2 := n1_
 have B3 := n2_
 clear n0_ n1_ n2_
 have i30 := hd2.size
 have hgeW := Aside0.mk hge
 clear hd2 hge
 have RW := Aside0.mk hU2
 have BW := Aside0.mk hbox2
 clear hU2 hbox2
 have iW1 := Aside0.mk (blk_lt BW.out)
 have iW0 := Aside0.mk (i30)
 have iW2 := Aside0.mk (hgeW.out)
 have RW0 := Aside0.mk (Kd.R_lower (base' := w.heap.size) (Dl.R_iv RW.out) (by have h0_ := HSZ.out; have h1_ := i1.out; have h2_ := i2.out; have h3_ := iW1.out; have h4_ := iW0.out; have h5_ := iW2.out; omega))
 clear RW
 have RW := RW0
 clear RW0
 have x0 := blk_cell B2.out 0
 have x1 := blk_cell B2.out 1
 have x2 := blk_cell B2.out 2
 go_wp2_with fail
 refine (hfa _ HB.out).mono ?_
 rintro e_ wx ⟨v1_, v2_, rfl, hR_, hS_, hb_⟩
 obtain ⟨X1, Xc1, rfl⟩ := Kd.R_slice hR_
 obtain ⟨X2, Xc2, rfl⟩ := Kd.S_slice hS_
 have hRi := Dl.R_iv hR_
 have hSi := Dl.S_iv hS_
 clear hR_ hS_
 clear x0 x1 x2
 have n0_ := Aside0.mk (Cf.up HB.out hb_)
 have n1_ := Aside0.mk (blk_below B2.out hb_)
 have n2_ := Aside0.mk (blk_below B3.out hb_)
 have n3_ := Aside0.mk (Kd.R_below RW.out hb_)
 have n4_ := Aside0.mk (blk_below BW.out hb_)
 clear HB B2 B3 RW BW
 have HB := n0_
 have B2 := n1_
 have B3 := n2_
 have RW := n3_
 have BW := n4_
 clear n0_ n1_ n2_ n3_ n4_
 have iXa := Aside0.mk (hb_.size)
 clear hb_
 have RX := Aside0.mk (Kd.R_lower (base' := w.heap.size) hRi (by have h0_ := HSZ.out; have h1_ := i1.out; have h2_ := i2.out; have h3_ := iW1.out; have h4_ := iW0.out; have h5_ := iW2.out; have h6_ := iXa.out; omega))
 have SX := Aside0.mk (Kd.S_lower (base' := w.heap.size) hSi (by have h0_ := HSZ.out; have h1_ := i1.out; have h2_ := i2.out; have h3_ := iW1.out; have h4_ := iW0.out; have h5_ := iW2.out; have h6_ := iXa.out; omega))
 clear hRi hSi
 obtain ⟨WX, hWX⟩ : ∃ W, W = wx.alloc (.cells #[.int .i64 aa0, .slice X1 ma1.length Xc1, .slice X2 ma2.length Xc2] 31) := ⟨_, rfl⟩
 have hb_ : Below wx.heap.size wx WX := by rw [hWX]; exact below_alloc (Below.refl _ _) _
 have b_ : WX.heap[wx.heap.size]? = some (.cells #[.int .i64 aa0, .slice X1 ma1.length Xc1, .slice X2 ma2.length Xc2] 31 (0, 0)) := by rw [hWX]; exact blk_new _ _
 have n0_ := Aside0.mk (Cf.up HB.out hb_)
 have n1_ := Aside0.mk (blk_below B2.out hb_)
 have n2_ := Aside0.mk (blk_below B3.out hb_)
 have n3_ := Aside0.mk (Kd.R_below RW.out hb_)
 have n4_ := Aside0.mk (blk_below BW.out hb_)
 have n5_ := Aside0.mk (Kd.R_below RX.out hb_)
 have n6_ := Aside0.mk (Kd.S_below SX.out hb_)
 clear HB B2 B3 RW BW RX SX
 have HB := n0_
 have B2 := n1_
 have B3 := n2_
 have RW := n3_
 have BW := n4_
 have RX := n5_
 have SX := n6_
 clear n0_ n1_ n2_ n3_ n4_ n5_ n6_
 have BX := Aside0.mk b_
 clear b_ hb_
 have iBXz := Aside0.mk (show WX.heap.size = wx.heap.size + 1 by rw [hWX]; simp)
 have b_ := B3.out
 rw [hWX] at b_
 have x0 := blk_cell b_ 0
 have x1 := blk_cell b_ 1
 have x2 := blk_cell b_ 2
 clear b_
 go_wp2_with fail
 rw [← hWX]
 refine (hfb _ HB.out).mono ?_
 rintro e_ wy ⟨v1_, v2_, rfl, hR_, hS_, hb_⟩
 obtain ⟨Y1, Yc1, rfl⟩ := Kd.R_slice hR_
 obtain ⟨Y2, Yc2, rfl⟩ := Kd.S_slice hS_
 have hRi := Dl.R_iv hR_
 have hSi := Dl.S_iv hS_
 clear hR_ hS_
 clear x0 x1 x2
 clear hWX
 have n0_ := Aside0.mk (Cf.up HB.out hb_)
 have n1_ := Aside0.mk (blk_below B2.out hb_)
 have n2_ := Aside0.mk (blk_below B3.out hb_)
 have n3_ := Aside0.mk (Kd.R_below RW.out hb_)
 have n4_ := Aside0.mk (blk_below BW.out hb_)
 have n5_ := Aside0.mk (Kd.R_below RX.out hb_)
 have n6_ := Aside0.mk (Kd.S_below SX.out hb_)
 have n7_ := Aside0.mk (blk_below BX.out hb_)
 clear HB B2 B3 RW BW RX SX BX
 have HB := n0_
 have B2 := n1_
 have B3 := n2_
 have RW := n3_
 have BW := n4_
 have RX := n5_
 have SX := n6_
 have BX := n7_
 clear n0_ n1_ n2_ n3_ n4_ n5_ n6_ n7_
 have iYa := Aside0.mk (hb_.size)
 clear hb_
 have RY := Aside0.mk (Kd.R_lower (base' := w.heap.size) hRi (by have h0_ := HSZ.out; have h1_ := i1.out; have h2_ := i2.out; have h3_ := iW1.out; have h4_ := iW0.out; have h5_ := iW2.out; have h6_ := iXa.out; have h7_ := iBXz.out; have h8_ := iYa.out; omega))
 have SY := Aside0.mk (Kd.S_lower (base' := w.heap.size) hSi (by have h0_ := HSZ.out; have h1_ := i1.out; have h2_ := i2.out; have h3_ := iW1.out; have h4_ := iW0.out; have h5_ := iW2.out; have h6_ := iXa.out; have h7_ := iBXz.out; have h8_ := iYa.out; omega))
 clear hRi hSi
 obtain ⟨WY, hWY⟩ : ∃ W, W = wy.alloc (.cells #[.int .i64 ab0, .slice Y1 mb1.length Yc1, .slice Y2 mb2.length Yc2] 31) := ⟨_, rfl⟩
 have hb_ : Below wy.heap.size wy WY := by rw [hWY]; exact below_alloc (Below.refl _ _) _
 have b_ : WY.heap[wy.heap.size]? = some (.cells #[.int .i64 ab0, .slice Y1 mb1.length Yc1, .slice Y2 mb2.length Yc2] 31 (0, 0)) := by rw [hWY]; exact blk_new _ _
 have n0_ := Aside0.mk (Cf.up HB.out hb_)
 have n1_ := Aside0.mk (blk_below B2.out hb_)
 have n2_ := Aside0.mk (blk_below B3.out hb_)
 have n3_ := Aside0.mk (Kd.R_below RW.out hb_)
 have n4_ := Aside0.mk (blk_below BW.out hb_)
 have n5_ := Aside0.mk (Kd.R_below RX.out hb_)
 have n6_ := Aside0.mk (Kd.S_below SX.out hb_)
 have n7_ := Aside0.mk (blk_below BX.out hb_)
 have n8_ := Aside0.mk (Kd.R_below RY.out hb_)
 have n9_ := Aside0.mk (Kd.S_below SY.out hb_)
 clear HB B2 B3 RW BW RX SX BX RY SY
 have HB := n0_
 have B2 := n1_
 have B3 := n2_
 have RW := n3_
 have BW := n4_
 have RX := n5_
 have SX := n6_
 have BX := n7_
 have RY := n8_
 have SY := n9_
 clear n0_ n1_ n2_ n3_ n4_ n5_ n6_ n7_ n8_ n9_
 have BY := Aside0.mk b_
 clear b_ hb_
 have iBYz := Aside0.mk (show WY.heap.size = wy.heap.size + 1 by rw [hWY]; simp)
 have b_ := BX.out
 rw [hWY] at b_
 have x0 := blk_cell b_ 0
 have x1 := blk_cell b_ 1
 have x2 := blk_cell b_ 2
 clear b_
 have b_ := BY.out
 rw [hWY] at b_
 have y0 := blk_cell b_ 0
 have y1 := blk_cell b_ 1
 have y2 := blk_cell b_ 2
 clear b_
 go_wp2_with fail
 rw [← hWY]
 refine (him X1 Xc1 X2 Xc2 Y1 Yc1 Y2 Yc2 _ (Kd.R_reads' RX.out).2.2 (Kd.R_reads' RX.out).2.1 (Kd.S_reads' SX.out).2.2 (Kd.R_reads' RY.out).2.2 (Kd.R_reads' RY.out).2.1 (Kd.S_reads' SY.out).2.2).mono ?_
 rintro e_ wg ⟨u_, rfl, hU, hb_⟩
 obtain ⟨G1, Gc, rfl⟩ := Kd.R_slice hU
 have hUi := Dl.R_iv hU
 clear hU hWY
 clear x0 x1 x2
 clear y0 y1 y2
 have n0_ := Aside0.mk (Cf.up HB.out hb_)
 have n1_ := Aside0.mk (blk_below B2.out hb_)
 have n2_ := Aside0.mk (blk_below B3.out hb_)
 have n3_ := Aside0.mk (Kd.R_below RW.out hb_)
 have n4_ := Aside0.mk (blk_below BW.out hb_)
 have n5_ := Aside0.mk (Kd.R_below RX.out hb_)
 have n6_ := Aside0.mk (Kd.S_below SX.out hb_)
 have n7_ := Aside0.mk (blk_below BX.out hb_)
 have n8_ := Aside0.mk (Kd.R_below RY.out hb_)
 have n9_ := Aside0.mk (Kd.S_below SY.out hb_)
 have n10_ := Aside0.mk (blk_below BY.out hb_)
 clear HB B2 B3 RW BW RX SX BX RY SY BY
 have HB := n0_
 have B2 := n1_
 have B3 := n2_
 have RW := n3_
 have BW := n4_
 have RX := n5_
 have SX := n6_
 have BX := n7_
 have RY := n8_
 have SY := n9_
 have BY := n10_
 clear n0_ n1_ n2_ n3_ n4_ n5_ n6_ n7_ n8_ n9_ n10_
 have iGa := Aside0.mk (hb_.size)
 clear hb_
 have RG := Aside0.mk (Kd.R_lower (base' := w.heap.size) hUi (by have h0_ := HSZ.out; have h1_ := i1.out; have h2_ := i2.out; have h3_ := iW1.out; have h4_ := iW0.out; have h5_ := iW2.out; have h6_ := iXa.out; have h7_ := iBXz.out; have h8_ := iYa.out; have h9_ := iBYz.out; have h10_ := iGa.out; omega))
 clear hUi
 obtain ⟨WG, hWG⟩ : ∃ W, W = wg.alloc (.cells #[.int .i64 cc, .slice G1 dd.length Gc] 76) := ⟨_, rfl⟩
 have hb_ : Below wg.heap.size wg WG := by rw [hWG]; exact below_alloc (Below.refl _ _) _
 have b_ : WG.heap[wg.heap.size]? = some (.cells #[.int .i64 cc, .slice G1 dd.length Gc] 76 (0, 0)) := by rw [hWG]; exact blk_new _ _
 have n0_ := Aside0.mk (Cf.up HB.out hb_)
 have n1_ := Aside0.mk (blk_below B2.out hb_)
 have n2_ := Aside0.mk (blk_below B3.out hb_)
 have n3_ := Aside0.mk (Kd.R_below RW.out hb_)
 have n4_ := Aside0.mk (blk_below BW.out hb_)
 have n5_ := Aside0.mk (Kd.R_below RX.out hb_)
 have n6_ := Aside0.mk (Kd.S_below SX.out hb_)
 have n7_ := Aside0.mk (blk_below BX.out hb_)
 have n8_ := Aside0.mk (Kd.R_below RY.out hb_)
 have n9_ := Aside0.mk (Kd.S_below SY.out hb_)
 have n10_ := Aside0.mk (blk_below BY.out hb_)
 have n11_ := Aside0.mk (Kd.R_below RG.out hb_)
 clear HB B2 B3 RW BW RX SX BX RY SY BY RG
 have HB := n0_
 have B2 := n1_
 have B3 := n2_
 have RW := n3_
 have BW := n4_
 have RX := n5_
 have SX := n6_
 have BX := n7_
 have RY := n8_
 have SY := n9_
 have BY := n10_
 have RG := n11_
 clear n0_ n1_ n2_ n3_ n4_ n5_ n6_ n7_ n8_ n9_ n10_ n11_
 have BG := Aside0.mk b_
 clear b_ hb_
 have iBGz := Aside0.mk (show WG.heap.size = wg.heap.size + 1 by rw [hWG]; simp)
 have b_ := BG.out
 rw [hWG] at b_
 have x0 := blk_cell b_ 0
 have x1 := blk_cell b_ 1
 clear b_
 have b_ := BW.out
 rw [hWG] at b_
 have y0 := blk_cell b_ 0
 have y1 := blk_cell b_ 1
 clear b_
 go_wp2_with fail
 rw [← hWG]
 refine (laws_eqIntsResult.calls k cc G1 Gc dd cc RWA RWc dd true _ (Kd.R_reads' RG.out).2.2 (Kd.R_reads' RG.out).2.1 (Kd.R_reads' RW.out).2.2 (Kd.R_reads' RW.out).2.1 EQD.out).mono ?_
 rintro e_ we ⟨rfl, hb_⟩
 clear hWG
 clear x0 x1
 clear y0 y1
 have n0_ := Aside0.mk (Cf.up HB.out hb_)
 have n1_ := Aside0.mk (blk_below B2.out hb_)
 have n2_ := Aside0.mk (blk_below B3.out hb_)
 have n3_ := Aside0.mk (Kd.R_below RW.out hb_)
 have n4_ := Aside0.mk (blk_below BW.out hb_)
 have n5_ := Aside0.mk (Kd.R_below RX.out hb_)
 have n6_ := Aside0.mk (Kd.S_below SX.out hb_)
 have n7_ := Aside0.mk (blk_below BX.out hb_)
 have n8_ := Aside0.mk (Kd.R_below RY.out hb_)
 have n9_ := Aside0.mk (Kd.S_below SY.out hb_)
 have n10_ := Aside0.mk (blk_below BY.out hb_)
 have n11_ := Aside0.mk (Kd.R_below RG.out hb_)
 have n12_ := Aside0.mk (blk_below BG.out hb_)
 clear HB B2 B3 RW BW RX SX BX RY SY BY RG BG
 have HB := n0_
 have B2 := n1_
 have B3 := n2_
 have RW := n3_
 have BW := n4_
 have RX := n5_
 have SX := n6_
 have BX := n7_
 have RY := n8_
 have SY := n9_
 have BY := n10_
 have RG := n11_
 have BG := n12_
 clear n0_ n1_ n2_ n3_ n4_ n5_ n6_ n7_ n8_ n9_ n10_ n11_ n12_
 have iEa := Aside0.mk (hb_.size)
 clear hb_
 go_wp2
 have HS_ : ∀ W, Below we.heap.size we W → (W.cell? ⟨wx.heap.size, 0, none⟩ = some (.int .i64 aa0) ∧ W.cell? ⟨wx.heap.size, 1, none⟩ = some (.slice X1 ma1.length Xc1) ∧ W.cell? ⟨wx.heap.size, 2, none⟩ = some (.slice X2 ma2.length Xc2) ∧ W.cell? ⟨w.heap.size, 0, none⟩ = some (.int .i64 aa0) ∧ W.cell? ⟨w.heap.size, 1, none⟩ = some (.slice Aa1 la1.length ca1) ∧ W.cell? ⟨w.heap.size, 2, none⟩ = some (.slice Aa2 la2.length ca2)) := fun W hW => ⟨blk_cell (blk_below BX.out hW) 0, blk_cell (blk_below BX.out hW) 1, blk_cell (blk_below BX.out hW) 2, blk_cell (blk_below B2.out hW) 0, blk_cell (blk_below B2.out hW) 1, blk_cell (blk_below B2.out hW) 2⟩
 have hd : Below we.heap.size we we.drew := below_drew1 (Below.refl _ _)
 refine start_ (n := 5) (S := fun w' => w'.cell? ⟨wx.heap.size, 0, none⟩ = some (.int .i64 aa0) ∧ w'.cell? ⟨wx.heap.size, 1, none⟩ = some (.slice X1 ma1.length Xc1) ∧ w'.cell? ⟨wx.heap.size, 2, none⟩ = some (.slice X2 ma2.length Xc2) ∧ w'.cell? ⟨w.heap.size, 0, none⟩ = some (.int .i64 aa0) ∧ w'.cell? ⟨w.heap.size, 1, none⟩ = some (.slice Aa1 la1.length ca1) ∧ w'.cell? ⟨w.heap.size, 2, none⟩ = some (.slice Aa2 la2.length ca2)) (ds := []) #[false, false, false, false, false] (by kernel_rfl) rfl rfl (HS_ _ hd) (fun hHeld => ?_)
 generalize we.drew = wd at hd hHeld ⊢
 refine take_ (i := 0) (N := some 40) (v := ?_) (a' := ?_) #[true, false, false, false, false] rfl rfl (by kernel_rfl) (fun _ _ _ h => h) (Or.inl ⟨by rfl, ?_⟩) hHeld ?_ ?_
 rotate_left
 ·rintro w' ⟨s0, s1, s2, s3, s4, s5⟩
  go_simp
  with_reducible rfl
 rotate_left
 ·simp only [Act.put, List.setIfInBounds_toArray, List.set_cons_zero, List.set_cons_succ, i64_w, i32_w]
  rfl
 refine take_ (i := 1) (N := some 41) (v := ?_) (a' := ?_) #[true, true, false, false, false] rfl rfl (by kernel_rfl) (fun _ _ _ h => h) (Or.inl ⟨by rfl, ?_⟩) hHeld ?_ ?_
 rotate_left
 ·rintro w' ⟨s0, s1, s2, s3, s4, s5⟩
  go_simp
  with_reducible rfl
 rotate_left
 ·simp only [Act.put, List.setIfInBounds_toArray, List.set_cons_zero, List.set_cons_succ, i64_w, i32_w]
  rfl
 refine one_ (i := 2) (N := some 42) #[true, true, true, false, false] rfl rfl (by kernel_rfl) (by decide) (fun K hK => ?_)
 refine goes_ Try.func14 (by kernel_rfl) rfl #[.agg #[.int .i64 aa0, .slice Aa1 la1.length ca1, .slice Aa2 la2.length ca2]] (by rfl) rfl rfl (by (try simp only [List.map_toArray, List.map_cons, List.map_nil]); first | done | rfl) ?_
 refine (hfa _ (Cf.up HB.out hd)).mono ?_
 rintro e_ wc ⟨v1_, v2_, rfl, hR_, hS_, hbc⟩
 obtain ⟨P1, p1, rfl⟩ := Kd.R_slice hR_
 obtain ⟨P2, p2, rfl⟩ := Kd.S_slice hS_
 obtain ⟨_, hp1, hC1⟩ := Kd.R_reads' hR_
 obtain ⟨_, hp2, hC2⟩ := Kd.S_reads' hS_
 clear hR_ hS_
 refine ⟨_, rfl, ?_⟩
 replace hd := Cf.up hd hbc
 clear hbc hHeld
 refine hK.out _ _ (HS_ _ hd) (fun hHeld => ?_)
 clear hK K
 refine norm_ (a' := ?_) ?_ ?_
 rotate_left
 ·show Act.put _ (some 42) _ = _
  simp only [Act.put, List.setIfInBounds_toArray, List.set_cons_zero, List.set_cons_succ, i64_w, i32_w]
  rfl
 refine one_ (i := 3) (N := some 43) #[true, true, true, true, false] rfl rfl (by kernel_rfl) (by decide) (fun K hK => ?_)
 refine goes_ Try.func16 (by kernel_rfl) rfl #[.agg #[.int .i64 aa0, .slice X1 ma1.length Xc1, .slice X2 ma2.length Xc2], .agg #[.int .i64 aa0, .slice P1 ma1.length p1, .slice P2 ma2.length p2]] (by rfl) rfl rfl (by (try simp only [List.map_toArray, List.map_cons, List.map_nil]); first | done | rfl) ?_
 refine (laws_eqConfig.calls k aa0 X1 Xc1 ma1 X2 Xc2 ma2 aa0 P1 p1 ma1 P2 p2 ma2 true _ (Kd.C_below (Kd.R_reads' RX.out).2.2 hd) (Kd.R_reads' RX.out).2.1 (Kd.C_below (Kd.S_reads' SX.out).2.2 hd) (Kd.S_reads' SX.out).2.1 hC1 hp1 hC2 hp2 EQA.out).mono ?_
 rintro e_ wq ⟨rfl, hbc⟩
 refine ⟨_, rfl, ?_⟩
 replace hd := Cf.up hd hbc
 clear hbc hHeld hC1 hC2 hp1 hp2
 refine hK.out _ _ (HS_ _ hd) (fun hHeld => ?_)
 clear hK K
 refine norm_ (a' := ?_) ?_ ?_
 rotate_left
 ·show Act.put _ (some 43) _ = _
  simp only [Act.put, List.setIfInBounds_toArray, List.set_cons_zero, List.set_cons_succ, i64_w, i32_w]
  rfl
 refine pure_ (i := 4) (N := some 44) (v := ?_) (a' := ?_) #[true, true, true, true, true] rfl rfl (by kernel_rfl) (fun _ _ _ h => h) (Or.inl ⟨by rfl, ?_⟩) ?_ ?_
 rotate_left
 ·intro w'
  first | (go_simp; with_reducible rfl) | (go_simp; (try unfold Instr.field); go_simp; (try simp only [asAgg]); go_simp; with_reducible rfl)
 rotate_left
 ·simp only [Act.put, List.setIfInBounds_toArray, List.set_cons_zero, List.set_cons_succ, i64_w, i32_w]
  rfl
 refine done_ (by kernel_rfl) ?_
 clear hHeld HS_
 have n0_ := Aside0.mk (Cf.up HB.out hd)
 have n1_ := Aside0.mk (blk_below B2.out hd)
 have n2_ := Aside0.mk (blk_below B3.out hd)
 have n3_ := Aside0.mk (Kd.R_below RW.out hd)
 have n4_ := Aside0.mk (blk_below BW.out hd)
 have n5_ := Aside0.mk (Kd.R_below RX.out hd)
 have n6_ := Aside0.mk (Kd.S_below SX.out hd)
 have n7_ := Aside0.mk (blk_below BX.out hd)
 have n8_ := Aside0.mk (Kd.R_below RY.out hd)
 have n9_ := Aside0.mk (Kd.S_below SY.out hd)
 have n10_ := Aside0.mk (blk_below BY.out hd)
 have n11_ := Aside0.mk (Kd.R_below RG.out hd)
 have n12_ := Aside0.mk (blk_below BG.out hd)
 clear HB B2 B3 RW BW RX SX BX RY SY BY RG BG
 have HB := n0_
 have B2 := n1_
 have B3 := n2_
 have RW := n3_
 have BW := n4_
 have RX := n5_
 have SX := n6_
 have BX := n7_
 have RY := n8_
 have SY := n9_
 have BY := n10_
 have RG := n11_
 have BG := n12_
 clear n0_ n1_ n2_ n3_ n4_ n5_ n6_ n7_ n8_ n9_ n10_ n11_ n12_
 have i14X := Aside0.mk (hd.size)
 clear hd
 go_wp2
 have HS_ : ∀ W, Below wq.heap.size wq W → (W.cell? ⟨wy.heap.size, 0, none⟩ = some (.int .i64 ab0) ∧ W.cell? ⟨wy.heap.size, 1, none⟩ = some (.slice Y1 mb1.length Yc1) ∧ W.cell? ⟨wy.heap.size, 2, none⟩ = some (.slice Y2 mb2.length Yc2) ∧ W.cell? ⟨w.heap.size + 1, 0, none⟩ = some (.int .i64 ab0) ∧ W.cell? ⟨w.heap.size + 1, 1, none⟩ = some (.slice Ab1 lb1.length cb1) ∧ W.cell? ⟨w.heap.size + 1, 2, none⟩ = some (.slice Ab2 lb2.length cb2)) := fun W hW => ⟨blk_cell (blk_below BY.out hW) 0, blk_cell (blk_below BY.out hW) 1, blk_cell (blk_below BY.out hW) 2, blk_cell (blk_below B3.out hW) 0, blk_cell (blk_below B3.out hW) 1, blk_cell (blk_below B3.out hW) 2⟩
 have hd : Below wq.heap.size wq wq.drew := below_drew1 (Below.refl _ _)
 refine start_ (n := 5) (S := fun w' => w'.cell? ⟨wy.heap.size, 0, none⟩ = some (.int .i64 ab0) ∧ w'.cell? ⟨wy.heap.size, 1, none⟩ = some (.slice Y1 mb1.length Yc1) ∧ w'.cell? ⟨wy.heap.size, 2, none⟩ = some (.slice Y2 mb2.length Yc2) ∧ w'.cell? ⟨w.heap.size + 1, 0, none⟩ = some (.int .i64 ab0) ∧ w'.cell? ⟨w.heap.size + 1, 1, none⟩ = some (.slice Ab1 lb1.length cb1) ∧ w'.cell? ⟨w.heap.size + 1, 2, none⟩ = some (.slice Ab2 lb2.length cb2)) (ds := []) #[false, false, false, false, false] (by kernel_rfl) rfl rfl (HS_ _ hd) (fun hHeld => ?_)
 generalize wq.drew = wd at hd hHeld ⊢
 refine take_ (i := 0) (N := some 45) (v := ?_) (a' := ?_) #[true, false, false, false, false] rfl rfl (by kernel_rfl) (fun _ _ _ h => h) (Or.inl ⟨by rfl, ?_⟩) hHeld ?_ ?_
 rotate_left
 ·rintro w' ⟨s0, s1, s2, s3, s4, s5⟩
  go_simp
  with_reducible rfl
 rotate_left
 ·simp only [Act.put, List.setIfInBounds_toArray, List.set_cons_zero, List.set_cons_succ, i64_w, i32_w]
  rfl
 refine take_ (i := 1) (N := some 46) (v := ?_) (a' := ?_) #[true, true, false, false, false] rfl rfl (by kernel_rfl) (fun _ _ _ h => h) (Or.inl ⟨by rfl, ?_⟩) hHeld ?_ ?_
 rotate_left
 ·rintro w' ⟨s0, s1, s2, s3, s4, s5⟩
  go_simp
  with_reducible rfl
 rotate_left
 ·simp only [Act.put, List.setIfInBounds_toArray, List.set_cons_zero, List.set_cons_succ, i64_w, i32_w]
  rfl
 refine one_ (i := 2) (N := some 47) #[true, true, true, false, false] rfl rfl (by kernel_rfl) (by decide) (fun K hK => ?_)
 refine goes_ Try.func14 (by kernel_rfl) rfl #[.agg #[.int .i64 ab0, .slice Ab1 lb1.length cb1, .slice Ab2 lb2.length cb2]] (by rfl) rfl rfl (by (try simp only [List.map_toArray, List.map_cons, List.map_nil]); first | done | rfl) ?_
 refine (hfb _ (Cf.up HB.out hd)).mono ?_
 rintro e_ wc ⟨v1_, v2_, rfl, hR_, hS_, hbc⟩
 obtain ⟨P1, p1, rfl⟩ := Kd.R_slice hR_
 obtain ⟨P2, p2, rfl⟩ := Kd.S_slice hS_
 obtain ⟨_, hp1, hC1⟩ := Kd.R_reads' hR_
 obtain ⟨_, hp2, hC2⟩ := Kd.S_reads' hS_
 clear hR_ hS_
 refine ⟨_, rfl, ?_⟩
 replace hd := Cf.up hd hbc
 clear hbc hHeld
 refine hK.out _ _ (HS_ _ hd) (fun hHeld => ?_)
 clear hK K
 refine norm_ (a' := ?_) ?_ ?_
 rotate_left
 ·show Act.put _ (some 47) _ = _
  simp only [Act.put, List.setIfInBounds_toArray, List.set_cons_zero, List.set_cons_succ, i64_w, i32_w]
  rfl
 refine one_ (i := 3) (N := some 48) #[true, true, true, true, false] rfl rfl (by kernel_rfl) (by decide) (fun K hK => ?_)
 refine goes_ Try.func16 (by kernel_rfl) rfl #[.agg #[.int .i64 ab0, .slice Y1 mb1.length Yc1, .slice Y2 mb2.length Yc2], .agg #[.int .i64 ab0, .slice P1 mb1.length p1, .slice P2 mb2.length p2]] (by rfl) rfl rfl (by (try simp only [List.map_toArray, List.map_cons, List.map_nil]); first | done | rfl) ?_
 refine (laws_eqConfig.calls k ab0 Y1 Yc1 mb1 Y2 Yc2 mb2 ab0 P1 p1 mb1 P2 p2 mb2 true _ (Kd.C_below (Kd.R_reads' RY.out).2.2 hd) (Kd.R_reads' RY.out).2.1 (Kd.C_below (Kd.S_reads' SY.out).2.2 hd) (Kd.S_reads' SY.out).2.1 hC1 hp1 hC2 hp2 EQB.out).mono ?_
 rintro e_ wr ⟨rfl, hbc⟩
 refine ⟨_, rfl, ?_⟩
 replace hd := Cf.up hd hbc
 clear hbc hHeld hC1 hC2 hp1 hp2
 refine hK.out _ _ (HS_ _ hd) (fun hHeld => ?_)
 clear hK K
 refine norm_ (a' := ?_) ?_ ?_
 rotate_left
 ·show Act.put _ (some 48) _ = _
  simp only [Act.put, List.setIfInBounds_toArray, List.set_cons_zero, List.set_cons_succ, i64_w, i32_w]
  rfl
 refine pure_ (i := 4) (N := some 49) (v := ?_) (a' := ?_) #[true, true, true, true, true] rfl rfl (by kernel_rfl) (fun _ _ _ h => h) (Or.inl ⟨by rfl, ?_⟩) ?_ ?_
 rotate_left
 ·intro w'
  first | (go_simp; with_reducible rfl) | (go_simp; (try unfold Instr.field); go_simp; (try simp only [asAgg]); go_simp; with_reducible rfl)
 rotate_left
 ·simp only [Act.put, List.setIfInBounds_toArray, List.set_cons_zero, List.set_cons_succ, i64_w, i32_w]
  rfl
 refine done_ (by kernel_rfl) ?_
 clear hHeld HS_
 have n0_ := Aside0.mk (Cf.up HB.out hd)
 have n1_ := Aside0.mk (blk_below B2.out hd)
 have n2_ := Aside0.mk (blk_below B3.out hd)
 have n3_ := Aside0.mk (Kd.R_below RW.out hd)
 have n4_ := Aside0.mk (blk_below BW.out hd)
 have n5_ := Aside0.mk (Kd.R_below RX.out hd)
 have n6_ := Aside0.mk (Kd.S_below SX.out hd)
 have n7_ := Aside0.mk (blk_below BX.out hd)
 have n8_ := Aside0.mk (Kd.R_below RY.out hd)
 have n9_ := Aside0.mk (Kd.S_below SY.out hd)
 have n10_ := Aside0.mk (blk_below BY.out hd)
 have n11_ := Aside0.mk (Kd.R_below RG.out hd)
 have n12_ := Aside0.mk (blk_below BG.out hd)
 clear HB B2 B3 RW BW RX SX BX RY SY BY RG BG
 have HB := n0_
 have B2 := n1_
 have B3 := n2_
 have RW := n3_
 have BW := n4_
 have RX := n5_
 have SX := n6_
 have BX := n7_
 have RY := n8_
 have SY := n9_
 have BY := n10_
 have RG := n11_
 have BG := n12_
 clear n0_ n1_ n2_ n3_ n4_ n5_ n6_ n7_ n8_ n9_ n10_ n11_ n12_
 have i14Y := Aside0.mk (hd.size)
 clear hd
 have x0 := blk_cell BX.out 0
 have x1 := blk_cell BX.out 1
 have x2 := blk_cell BX.out 2
 go_wp2_with fail
 refine (laws_markConfig.cfI aa0 _ _ ma1 ma2 1 mk1 (Dl.iv wz.heap.size wx.heap.size) (Dl.iv wz.heap.size wx.heap.size) w _ HB.out RX.out SX.out EM1.out).mono ?_
 rintro e_ wm1 ⟨rfl, hbm, hkm⟩
 clear x0 x1 x2
 clear RX
 clear SX
 have n0_ := Aside0.mk (hbm)
 have n1_ := Aside0.mk (blk_kept B2.out hkm (Dl.iv_no (by have h0_ := HSZ.out; have h1_ := i1.out; have h2_ := i2.out; have h3_ := iW1.out; have h4_ := iW0.out; have h5_ := iW2.out; have h6_ := iXa.out; have h7_ := iBXz.out; have h8_ := iYa.out; have h9_ := iBYz.out; have h10_ := iGa.out; have h11_ := iBGz.out; have h12_ := iEa.out; have h13_ := i14X.out; have h14_ := i14Y.out; omega)))
 have n2_ := Aside0.mk (blk_kept B3.out hkm (Dl.iv_no (by have h0_ := HSZ.out; have h1_ := i1.out; have h2_ := i2.out; have h3_ := iW1.out; have h4_ := iW0.out; have h5_ := iW2.out; have h6_ := iXa.out; have h7_ := iBXz.out; have h8_ := iYa.out; have h9_ := iBYz.out; have h10_ := iGa.out; have h11_ := iBGz.out; have h12_ := iEa.out; have h13_ := i14X.out; have h14_ := i14Y.out; omega)))
 have n3_ := Aside0.mk (Kd.R_kept RW.out hkm (Dl.iv_iv (by have h0_ := HSZ.out; have h1_ := i1.out; have h2_ := i2.out; have h3_ := iW1.out; have h4_ := iW0.out; have h5_ := iW2.out; have h6_ := iXa.out; have h7_ := iBXz.out; have h8_ := iYa.out; have h9_ := iBYz.out; have h10_ := iGa.out; have h11_ := iBGz.out; have h12_ := iEa.out; have h13_ := i14X.out; have h14_ := i14Y.out; omega)))
 have n4_ := Aside0.mk (blk_kept BW.out hkm (Dl.iv_no (by have h0_ := HSZ.out; have h1_ := i1.out; have h2_ := i2.out; have h3_ := iW1.out; have h4_ := iW0.out; have h5_ := iW2.out; have h6_ := iXa.out; have h7_ := iBXz.out; have h8_ := iYa.out; have h9_ := iBYz.out; have h10_ := iGa.out; have h11_ := iBGz.out; have h12_ := iEa.out; have h13_ := i14X.out; have h14_ := i14Y.out; omega)))
 have n5_ := Aside0.mk (blk_kept BX.out hkm (Dl.iv_no (by have h0_ := HSZ.out; have h1_ := i1.out; have h2_ := i2.out; have h3_ := iW1.out; have h4_ := iW0.out; have h5_ := iW2.out; have h6_ := iXa.out; have h7_ := iBXz.out; have h8_ := iYa.out; have h9_ := iBYz.out; have h10_ := iGa.out; have h11_ := iBGz.out; have h12_ := iEa.out; have h13_ := i14X.out; have h14_ := i14Y.out; omega)))
 have n6_ := Aside0.mk (Kd.R_kept RY.out hkm (Dl.iv_iv (by have h0_ := HSZ.out; have h1_ := i1.out; have h2_ := i2.out; have h3_ := iW1.out; have h4_ := iW0.out; have h5_ := iW2.out; have h6_ := iXa.out; have h7_ := iBXz.out; have h8_ := iYa.out; have h9_ := iBYz.out; have h10_ := iGa.out; have h11_ := iBGz.out; have h12_ := iEa.out; have h13_ := i14X.out; have h14_ := i14Y.out; omega)))
 have n7_ := Aside0.mk (Kd.S_kept SY.out hkm (Dl.iv_iv (by have h0_ := HSZ.out; have h1_ := i1.out; have h2_ := i2.out; have h3_ := iW1.out; have h4_ := iW0.out; have h5_ := iW2.out; have h6_ := iXa.out; have h7_ := iBXz.out; have h8_ := iYa.out; have h9_ := iBYz.out; have h10_ := iGa.out; have h11_ := iBGz.out; have h12_ := iEa.out; have h13_ := i14X.out; have h14_ := i14Y.out; omega)))
 have n8_ := Aside0.mk (blk_kept BY.out hkm (Dl.iv_no (by have h0_ := HSZ.out; have h1_ := i1.out; have h2_ := i2.out; have h3_ := iW1.out; have h4_ := iW0.out; have h5_ := iW2.out; have h6_ := iXa.out; have h7_ := iBXz.out; have h8_ := iYa.out; have h9_ := iBYz.out; have h10_ := iGa.out; have h11_ := iBGz.out; have h12_ := iEa.out; have h13_ := i14X.out; have h14_ := i14Y.out; omega)))
 have n9_ := Aside0.mk (Kd.R_kept RG.out hkm (Dl.iv_iv (by have h0_ := HSZ.out; have h1_ := i1.out; have h2_ := i2.out; have h3_ := iW1.out; have h4_ := iW0.out; have h5_ := iW2.out; have h6_ := iXa.out; have h7_ := iBXz.out; have h8_ := iYa.out; have h9_ := iBYz.out; have h10_ := iGa.out; have h11_ := iBGz.out; have h12_ := iEa.out; have h13_ := i14X.out; have h14_ := i14Y.out; omega)))
 have n10_ := Aside0.mk (blk_kept BG.out hkm (Dl.iv_no (by have h0_ := HSZ.out; have h1_ := i1.out; have h2_ := i2.out; have h3_ := iW1.out; have h4_ := iW0.out; have h5_ := iW2.out; have h6_ := iXa.out; have h7_ := iBXz.out; have h8_ := iYa.out; have h9_ := iBYz.out; have h10_ := iGa.out; have h11_ := iBGz.out; have h12_ := iEa.out; have h13_ := i14X.out; have h14_ := i14Y.out; omega)))
 clear HB B2 B3 RW BW BX RY SY BY RG BG
 have HB := n0_
 have B2 := n1_
 have B3 := n2_
 have RW := n3_
 have BW := n4_
 have BX := n5_
 have RY := n6_
 have SY := n7_
 have BY := n8_
 have RG := n9_
 have BG := n10_
 clear n0_ n1_ n2_ n3_ n4_ n5_ n6_ n7_ n8_ n9_ n10_
 have iMX := Aside0.mk (hkm.1)
 clear hbm hkm
 have x0 := blk_cell BY.out 0
 have x1 := blk_cell BY.out 1
 have x2 := blk_cell BY.out 2
 go_wp2_with fail
 refine (laws_markConfig.cfI ab0 _ _ mb1 mb2 mk1 mk2 (Dl.iv WX.heap.size wy.heap.size) (Dl.iv WX.heap.size wy.heap.size) w _ HB.out RY.out SY.out EM2.out).mono ?_
 rintro e_ wm2 ⟨rfl, hbm, hkm⟩
 clear x0 x1 x2
 clear RY
 clear SY
 have n0_ := Aside0.mk (hbm)
 have n1_ := Aside0.mk (blk_kept B2.out hkm (Dl.iv_no (by have h0_ := HSZ.out; have h1_ := i1.out; have h2_ := i2.out; have h3_ := iW1.out; have h4_ := iW0.out; have h5_ := iW2.out; have h6_ := iXa.out; have h7_ := iBXz.out; have h8_ := iYa.out; have h9_ := iBYz.out; have h10_ := iGa.out; have h11_ := iBGz.out; have h12_ := iEa.out; have h13_ := i14X.out; have h14_ := i14Y.out; have h15_ := iMX.out; omega)))
 have n2_ := Aside0.mk (blk_kept B3.out hkm (Dl.iv_no (by have h0_ := HSZ.out; have h1_ := i1.out; have h2_ := i2.out; have h3_ := iW1.out; have h4_ := iW0.out; have h5_ := iW2.out; have h6_ := iXa.out; have h7_ := iBXz.out; have h8_ := iYa.out; have h9_ := iBYz.out; have h10_ := iGa.out; have h11_ := iBGz.out; have h12_ := iEa.out; have h13_ := i14X.out; have h14_ := i14Y.out; have h15_ := iMX.out; omega)))
 have n3_ := Aside0.mk (Kd.R_kept RW.out hkm (Dl.iv_iv (by have h0_ := HSZ.out; have h1_ := i1.out; have h2_ := i2.out; have h3_ := iW1.out; have h4_ := iW0.out; have h5_ := iW2.out; have h6_ := iXa.out; have h7_ := iBXz.out; have h8_ := iYa.out; have h9_ := iBYz.out; have h10_ := iGa.out; have h11_ := iBGz.out; have h12_ := iEa.out; have h13_ := i14X.out; have h14_ := i14Y.out; have h15_ := iMX.out; omega)))
 have n4_ := Aside0.mk (blk_kept BW.out hkm (Dl.iv_no (by have h0_ := HSZ.out; have h1_ := i1.out; have h2_ := i2.out; have h3_ := iW1.out; have h4_ := iW0.out; have h5_ := iW2.out; have h6_ := iXa.out; have h7_ := iBXz.out; have h8_ := iYa.out; have h9_ := iBYz.out; have h10_ := iGa.out; have h11_ := iBGz.out; have h12_ := iEa.out; have h13_ := i14X.out; have h14_ := i14Y.out; have h15_ := iMX.out; omega)))
 have n5_ := Aside0.mk (blk_kept BX.out hkm (Dl.iv_no (by have h0_ := HSZ.out; have h1_ := i1.out; have h2_ := i2.out; have h3_ := iW1.out; have h4_ := iW0.out; have h5_ := iW2.out; have h6_ := iXa.out; have h7_ := iBXz.out; have h8_ := iYa.out; have h9_ := iBYz.out; have h10_ := iGa.out; have h11_ := iBGz.out; have h12_ := iEa.out; have h13_ := i14X.out; have h14_ := i14Y.out; have h15_ := iMX.out; omega)))
 have n6_ := Aside0.mk (blk_kept BY.out hkm (Dl.iv_no (by have h0_ := HSZ.out; have h1_ := i1.out; have h2_ := i2.out; have h3_ := iW1.out; have h4_ := iW0.out; have h5_ := iW2.out; have h6_ := iXa.out; have h7_ := iBXz.out; have h8_ := iYa.out; have h9_ := iBYz.out; have h10_ := iGa.out; have h11_ := iBGz.out; have h12_ := iEa.out; have h13_ := i14X.out; have h14_ := i14Y.out; have h15_ := iMX.out; omega)))
 have n7_ := Aside0.mk (Kd.R_kept RG.out hkm (Dl.iv_iv (by have h0_ := HSZ.out; have h1_ := i1.out; have h2_ := i2.out; have h3_ := iW1.out; have h4_ := iW0.out; have h5_ := iW2.out; have h6_ := iXa.out; have h7_ := iBXz.out; have h8_ := iYa.out; have h9_ := iBYz.out; have h10_ := iGa.out; have h11_ := iBGz.out; have h12_ := iEa.out; have h13_ := i14X.out; have h14_ := i14Y.out; have h15_ := iMX.out; omega)))
 have n8_ := Aside0.mk (blk_kept BG.out hkm (Dl.iv_no (by have h0_ := HSZ.out; have h1_ := i1.out; have h2_ := i2.out; have h3_ := iW1.out; have h4_ := iW0.out; have h5_ := iW2.out; have h6_ := iXa.out; have h7_ := iBXz.out; have h8_ := iYa.out; have h9_ := iBYz.out; have h10_ := iGa.out; have h11_ := iBGz.out; have h12_ := iEa.out; have h13_ := i14X.out; have h14_ := i14Y.out; have h15_ := iMX.out; omega)))
 clear HB B2 B3 RW BW BX BY RG BG
 have HB := n0_
 have B2 := n1_
 have B3 := n2_
 have RW := n3_
 have BW := n4_
 have BX := n5_
 have BY := n6_
 have RG := n7_
 have BG := n8_
 clear n0_ n1_ n2_ n3_ n4_ n5_ n6_ n7_ n8_
 have iMY := Aside0.mk (hkm.1)
 clear hbm hkm
 have hx2b : decide (mk2 < 0) = false := decide_eq_false (by omega)
 have x0 := blk_cell BG.out 0
 have x1 := blk_cell BG.out 1
 have y0 := blk_cell BW.out 0
 have y1 := blk_cell BW.out 1
 go_wp2_with fail
 refine (laws_eqIntsResult.calls k cc G1 Gc dd cc RWA RWc dd true _ (Kd.R_reads' RG.out).2.2 (Kd.R_reads' RG.out).2.1 (Kd.R_reads' RW.out).2.2 (Kd.R_reads' RW.out).2.1 EQD.out).mono ?_
 rintro e_ wf ⟨rfl, hb_⟩
 clear x0 x1
 clear y0 y1
 have n0_ := Aside0.mk (Cf.up HB.out hb_)
 have n1_ := Aside0.mk (blk_below B2.out hb_)
 have n2_ := Aside0.mk (blk_below B3.out hb_)
 have n3_ := Aside0.mk (Kd.R_below RW.out hb_)
 have n4_ := Aside0.mk (blk_below BW.out hb_)
 have n5_ := Aside0.mk (blk_below BX.out hb_)
 have n6_ := Aside0.mk (blk_below BY.out hb_)
 have n7_ := Aside0.mk (Kd.R_below RG.out hb_)
 have n8_ := Aside0.mk (blk_below BG.out hb_)
 clear HB B2 B3 RW BW BX BY RG BG
 have HB := n0_
 have B2 := n1_
 have B3 := n2_
 have RW := n3_
 have BW := n4_
 have BX := n5_
 have BY := n6_
 have RG := n7_
 have BG := n8_
 clear n0_ n1_ n2_ n3_ n4_ n5_ n6_ n7_ n8_
 have iFa := Aside0.mk (hb_.size)
 clear hb_ hx2b
 have x0 := blk_cell BG.out 0
 have x1 := blk_cell BG.out 1
 go_wp2_with fail
 refine (laws_markIntsResult.calls k cc (Dl.iv WY.heap.size wg.heap.size) (.slice G1 dd.length Gc) dd 1 m r2 w _ HB.out RG.out EMR.out).mono ?_
 rintro e_ wm3 ⟨rfl, hR_, hbm, hkm⟩
 clear x0 x1
 clear RG
 have n0_ := Aside0.mk (hbm)
 have n1_ := Aside0.mk (blk_kept B2.out hkm (Dl.iv_no1 (by have h0_ := HSZ.out; have h1_ := i1.out; have h2_ := i2.out; have h3_ := iW1.out; have h4_ := iW0.out; have h5_ := iW2.out; have h6_ := iXa.out; have h7_ := iBXz.out; have h8_ := iYa.out; have h9_ := iBYz.out; have h10_ := iGa.out; have h11_ := iBGz.out; have h12_ := iEa.out; have h13_ := i14X.out; have h14_ := i14Y.out; have h15_ := iMX.out; have h16_ := iMY.out; have h17_ := iFa.out; omega)))
 have n2_ := Aside0.mk (blk_kept B3.out hkm (Dl.iv_no1 (by have h0_ := HSZ.out; have h1_ := i1.out; have h2_ := i2.out; have h3_ := iW1.out; have h4_ := iW0.out; have h5_ := iW2.out; have h6_ := iXa.out; have h7_ := iBXz.out; have h8_ := iYa.out; have h9_ := iBYz.out; have h10_ := iGa.out; have h11_ := iBGz.out; have h12_ := iEa.out; have h13_ := i14X.out; have h14_ := i14Y.out; have h15_ := iMX.out; have h16_ := iMY.out; have h17_ := iFa.out; omega)))
 have n3_ := Aside0.mk (Kd.R_kept RW.out hkm (Dl.iv_iv1 (by have h0_ := HSZ.out; have h1_ := i1.out; have h2_ := i2.out; have h3_ := iW1.out; have h4_ := iW0.out; have h5_ := iW2.out; have h6_ := iXa.out; have h7_ := iBXz.out; have h8_ := iYa.out; have h9_ := iBYz.out; have h10_ := iGa.out; have h11_ := iBGz.out; have h12_ := iEa.out; have h13_ := i14X.out; have h14_ := i14Y.out; have h15_ := iMX.out; have h16_ := iMY.out; have h17_ := iFa.out; omega)))
 have n4_ := Aside0.mk (blk_kept BW.out hkm (Dl.iv_no1 (by have h0_ := HSZ.out; have h1_ := i1.out; have h2_ := i2.out; have h3_ := iW1.out; have h4_ := iW0.out; have h5_ := iW2.out; have h6_ := iXa.out; have h7_ := iBXz.out; have h8_ := iYa.out; have h9_ := iBYz.out; have h10_ := iGa.out; have h11_ := iBGz.out; have h12_ := iEa.out; have h13_ := i14X.out; have h14_ := i14Y.out; have h15_ := iMX.out; have h16_ := iMY.out; have h17_ := iFa.out; omega)))
 have n5_ := Aside0.mk (blk_kept BX.out hkm (Dl.iv_no1 (by have h0_ := HSZ.out; have h1_ := i1.out; have h2_ := i2.out; have h3_ := iW1.out; have h4_ := iW0.out; have h5_ := iW2.out; have h6_ := iXa.out; have h7_ := iBXz.out; have h8_ := iYa.out; have h9_ := iBYz.out; have h10_ := iGa.out; have h11_ := iBGz.out; have h12_ := iEa.out; have h13_ := i14X.out; have h14_ := i14Y.out; have h15_ := iMX.out; have h16_ := iMY.out; have h17_ := iFa.out; omega)))
 have n6_ := Aside0.mk (blk_kept BY.out hkm (Dl.iv_no1 (by have h0_ := HSZ.out; have h1_ := i1.out; have h2_ := i2.out; have h3_ := iW1.out; have h4_ := iW0.out; have h5_ := iW2.out; have h6_ := iXa.out; have h7_ := iBXz.out; have h8_ := iYa.out; have h9_ := iBYz.out; have h10_ := iGa.out; have h11_ := iBGz.out; have h12_ := iEa.out; have h13_ := i14X.out; have h14_ := i14Y.out; have h15_ := iMX.out; have h16_ := iMY.out; have h17_ := iFa.out; omega)))
 have n7_ := Aside0.mk (blk_kept BG.out hkm (Dl.iv_no1 (by have h0_ := HSZ.out; have h1_ := i1.out; have h2_ := i2.out; have h3_ := iW1.out; have h4_ := iW0.out; have h5_ := iW2.out; have h6_ := iXa.out; have h7_ := iBXz.out; have h8_ := iYa.out; have h9_ := iBYz.out; have h10_ := iGa.out; have h11_ := iBGz.out; have h12_ := iEa.out; have h13_ := i14X.out; have h14_ := i14Y.out; have h15_ := iMX.out; have h16_ := iMY.out; have h17_ := iFa.out; omega)))
 clear HB B2 B3 RW BW BX BY BG
 have HB := n0_
 have B2 := n1_
 have B3 := n2_
 have RW := n3_
 have BW := n4_
 have BX := n5_
 have BY := n6_
 have BG := n7_
 clear n0_ n1_ n2_ n3_ n4_ n5_ n6_ n7_
 have iMG := Aside0.mk (hkm.1)
 clear hbm hkm
 have RG := Aside0.mk hR_
 clear hR_
 have hmb : decide (m < 0) = false := decide_eq_false (by omega)
 have hmm : (m != m) = false := by simp
 have x0 := blk_cell BG.out 0
 have x1 := blk_cell BG.out 1
 have hheld := fun (W : World) (hC_ : Kd.C (Kd.int .i64) W G1 r2.length r2) (hc_ : dd.length ≤ Gc) => laws_heldIntsResult.calls k cc G1 Gc r2 1 m W hC_ (by rw [HR2.out]; exact hc_) EHD.out
 simp only [HR2.out] at hheld
 go_wp2_with fail
 refine (hheld _ (by have h_ := (Kd.R_reads' RG.out).2.2; rwa [HR2.out] at h_) (Kd.R_reads' RG.out).2.1).mono ?_
 rintro e_ wh ⟨rfl, hb_⟩
 clear hheld
 clear x0 x1
 have n0_ := Aside0.mk (Cf.up HB.out hb_)
 have n1_ := Aside0.mk (blk_below B2.out hb_)
 have n2_ := Aside0.mk (blk_below B3.out hb_)
 have n3_ := Aside0.mk (Kd.R_below RW.out hb_)
 have n4_ := Aside0.mk (blk_below BW.out hb_)
 have n5_ := Aside0.mk (blk_below BX.out hb_)
 have n6_ := Aside0.mk (blk_below BY.out hb_)
 have n7_ := Aside0.mk (blk_below BG.out hb_)
 have n8_ := Aside0.mk (Kd.R_below RG.out hb_)
 clear HB B2 B3 RW BW BX BY BG RG
 have HB := n0_
 have B2 := n1_
 have B3 := n2_
 have RW := n3_
 have BW := n4_
 have BX := n5_
 have BY := n6_
 have BG := n7_
 have RG := n8_
 clear n0_ n1_ n2_ n3_ n4_ n5_ n6_ n7_ n8_
 clear hb_
 go_wp2
 have HS_ : ∀ W, Below wh.heap.size wh W → (W.cell? ⟨w.heap.size, 0, none⟩ = some (.int .i64 aa0) ∧ W.cell? ⟨w.heap.size, 1, none⟩ = some (.slice Aa1 la1.length ca1) ∧ W.cell? ⟨w.heap.size, 2, none⟩ = some (.slice Aa2 la2.length ca2) ∧ W.cell? ⟨w.heap.size + 1, 0, none⟩ = some (.int .i64 ab0) ∧ W.cell? ⟨w.heap.size + 1, 1, none⟩ = some (.slice Ab1 lb1.length cb1) ∧ W.cell? ⟨w.heap.size + 1, 2, none⟩ = some (.slice Ab2 lb2.length cb2)) := fun W hW => ⟨blk_cell (blk_below B2.out hW) 0, blk_cell (blk_below B2.out hW) 1, blk_cell (blk_below B2.out hW) 2, blk_cell (blk_below B3.out hW) 0, blk_cell (blk_below B3.out hW) 1, blk_cell (blk_below B3.out hW) 2⟩
 have hd : Below wh.heap.size wh wh.drew := below_drew1 (Below.refl _ _)
 refine start_ (n := 7) (S := fun w' => w'.cell? ⟨w.heap.size, 0, none⟩ = some (.int .i64 aa0) ∧ w'.cell? ⟨w.heap.size, 1, none⟩ = some (.slice Aa1 la1.length ca1) ∧ w'.cell? ⟨w.heap.size, 2, none⟩ = some (.slice Aa2 la2.length ca2) ∧ w'.cell? ⟨w.heap.size + 1, 0, none⟩ = some (.int .i64 ab0) ∧ w'.cell? ⟨w.heap.size + 1, 1, none⟩ = some (.slice Ab1 lb1.length cb1) ∧ w'.cell? ⟨w.heap.size + 1, 2, none⟩ = some (.slice Ab2 lb2.length cb2)) (ds := []) #[false, false, false, false, false, false, false] (by kernel_rfl) rfl rfl (HS_ _ hd) (fun hHeld => ?_)
 generalize wh.drew = wd at hd hHeld ⊢
 refine take_ (i := 0) (N := some 75) (v := ?_) (a' := ?_) #[true, false, false, false, false, false, false] rfl rfl (by kernel_rfl) (fun _ _ _ h => h) (Or.inl ⟨by rfl, ?_⟩) hHeld ?_ ?_
 rotate_left
 ·rintro w' ⟨s0, s1, s2, s3, s4, s5⟩
  go_simp
  with_reducible rfl
 rotate_left
 ·simp only [Act.put, List.setIfInBounds_toArray, List.set_cons_zero, List.set_cons_succ, i64_w, i32_w]
  rfl
 refine take_ (i := 2) (N := some 77) (v := ?_) (a' := ?_) #[true, false, true, false, false, false, false] rfl rfl (by kernel_rfl) (fun _ _ _ h => h) (Or.inl ⟨by rfl, ?_⟩) hHeld ?_ ?_
 rotate_left
 ·rintro w' ⟨s0, s1, s2, s3, s4, s5⟩
  go_simp
  with_reducible rfl
 rotate_left
 ·simp only [Act.put, List.setIfInBounds_toArray, List.set_cons_zero, List.set_cons_succ, i64_w, i32_w]
  rfl
 refine join_ (σ := Value × Value × Value × Nat) 1 #[true, true, true, true, true, true, false] (fun s_ => [(76, s_.1), (78, s_.2.1), (79, .agg #[.int .i64 cc, s_.2.2.1]), (13, .pointer (some ⟨s_.2.2.2, 0, none⟩))]) (fun s_ w' => Below wh.heap.size wh w' ∧ Kd.R (Kd.int .i64) 2 w' wh.heap.size (fun _ => True) s_.2.2.1 dd ∧ w'.heap[s_.2.2.2]? = some (.cells #[.int .i64 0, .slice none 0 0] 76 (0, 0)) ∧ wh.heap.size ≤ s_.2.2.2) ?_ ?_
 rotate_left
 ·intro hCont
  refine two_ (i := 1) (j := 5) (Ni := some 76) (Nj := some 13) #[true, true, true, false, false, false, false] #[true, false, true, false, false, true, false] rfl rfl rfl rfl (by kernel_rfl) (by decide) (by decide) (fun K hK => ?_) (fun K hK => ?_)
  ·skip
   refine goes_ Try.func14 (by kernel_rfl) rfl #[.agg #[.int .i64 aa0, .slice Aa1 la1.length ca1, .slice Aa2 la2.length ca2]] (by rfl) rfl rfl (by (try simp only [List.map_toArray, List.map_cons, List.map_nil]); first | done | rfl) ?_
   refine (hfa _ (Cf.up HB.out hd)).mono ?_
   rintro e_ wc ⟨v1_, v2_, rfl, hR_, hS_, hbc⟩
   obtain ⟨P1, p1, rfl⟩ := Kd.R_slice hR_
   obtain ⟨P2, p2, rfl⟩ := Kd.S_slice hS_
   obtain ⟨_, hp1, hC1⟩ := Kd.R_reads' hR_
   obtain ⟨_, hp2, hC2⟩ := Kd.S_reads' hS_
   clear hR_ hS_
   refine ⟨_, rfl, ?_⟩
   replace hd := Cf.up hd hbc
   clear hbc hHeld
   refine hK.out _ _ (HS_ _ hd) (fun hHeld => ?_)
   clear hK K
   refine norm_ (a' := ?_) ?_ ?_
   rotate_left
   ·show Act.put _ (some 76) _ = _
    simp only [Act.put, List.setIfInBounds_toArray, List.set_cons_zero, List.set_cons_succ, i64_w, i32_w]
    rfl
   refine two_ (i := 3) (j := 5) (Ni := some 78) (Nj := some 13) #[true, true, true, true, false, false, false] #[true, true, true, false, false, true, false] rfl rfl rfl rfl (by kernel_rfl) (by decide) (by decide) (fun K hK => ?_) (fun K hK => ?_)
   ·skip
    refine goes_ Try.func14 (by kernel_rfl) rfl #[.agg #[.int .i64 ab0, .slice Ab1 lb1.length cb1, .slice Ab2 lb2.length cb2]] (by rfl) rfl rfl (by (try simp only [List.map_toArray, List.map_cons, List.map_nil]); first | done | rfl) ?_
    refine (hfb _ (Cf.up HB.out hd)).mono ?_
    rintro e_ wc2 ⟨v1_, v2_, rfl, hR_, hS_, hbc⟩
    obtain ⟨Q1, q1, rfl⟩ := Kd.R_slice hR_
    obtain ⟨Q2, q2, rfl⟩ := Kd.S_slice hS_
    obtain ⟨_, hq1, hC3⟩ := Kd.R_reads' hR_
    obtain ⟨_, hq2, hC4⟩ := Kd.S_reads' hS_
    clear hR_ hS_
    refine ⟨_, rfl, ?_⟩
    replace hC1 := Kd.C_below hC1 hbc
    replace hC2 := Kd.C_below hC2 hbc
    replace hd := Cf.up hd hbc
    clear hbc hHeld
    refine hK.out _ _ (HS_ _ hd) (fun hHeld => ?_)
    clear hK K
    refine norm_ (a' := ?_) ?_ ?_
    rotate_left
    ·show Act.put _ (some 78) _ = _
     simp only [Act.put, List.setIfInBounds_toArray, List.set_cons_zero, List.set_cons_succ, i64_w, i32_w]
     rfl
    refine two_ (i := 4) (j := 5) (Ni := some 79) (Nj := some 13) #[true, true, true, true, true, false, false] #[true, true, true, true, false, true, false] rfl rfl rfl rfl (by kernel_rfl) (by decide) (by decide) (fun K hK => ?_) (fun K hK => ?_)
    ·skip
     refine goes_ Try.func42 (by kernel_rfl) rfl #[.agg #[.int .i64 aa0, .slice P1 ma1.length p1, .slice P2 ma2.length p2], .agg #[.int .i64 ab0, .slice Q1 mb1.length q1, .slice Q2 mb2.length q2]] (by rfl) rfl rfl (by (try simp only [List.map_toArray, List.map_cons, List.map_nil]); first | done | rfl) ?_
     refine (him _ _ _ _ _ _ _ _ _ hC1 hp1 hC2 hC3 hq1 hC4).mono ?_
     rintro e_ wc3 ⟨u_, rfl, hU, hbc⟩
     clear hC1 hC2 hC3 hC4
     replace hU := Kd.R_lower hU hd.size
     refine ⟨_, rfl, ?_⟩
     replace hd := Cf.up hd hbc
     clear hbc hHeld
     refine hK.out _ _ (HS_ _ hd) (fun hHeld => ?_)
     clear hK K
     refine norm_ (a' := ?_) ?_ ?_
     rotate_left
     ·show Act.put _ (some 79) _ = _
      simp only [Act.put, List.setIfInBounds_toArray, List.set_cons_zero, List.set_cons_succ, i64_w, i32_w]
      rfl
     refine one_ (i := 5) (N := some 13) #[true, true, true, true, true, true, false] rfl rfl (by kernel_rfl) (by decide) (fun K hK => ?_)
     refine box_step ?hg (N := 13) ?hd (cs := #[.int .i64 0, .slice none 0 0]) (t := 76) ?hr ?_; (case hd => rfl); (case hg => rfl); (case hr => first | (go_simp; done) | (go_simp; rfl))
     intro gb hg_ wb hbox hbc
     have hge : wh.heap.size ≤ gb := by rw [hg_]; exact hd.size
     clear hg_
     replace hU := Kd.R_below hU hbc
     replace hd := Cf.up hd hbc
     clear hbc hHeld
     refine hK.out _ _ (HS_ _ hd) (fun hHeld => ?_)
     clear hK K
     refine norm_ (a' := ?_) ?_ ?_
     rotate_left
     ·show Act.put _ (some 13) _ = _
      simp only [Act.put, List.setIfInBounds_toArray, List.set_cons_zero, List.set_cons_succ, i64_w, i32_w]
      rfl
     exact norm_ (by simp only [putAll, Act.put, List.setIfInBounds_toArray, List.set_cons_zero, List.set_cons_succ]) (hCont (.agg #[.int .i64 aa0, .slice P1 ma1.length p1, .slice P2 ma2.length p2], .agg #[.int .i64 ab0, .slice Q1 mb1.length q1, .slice Q2 mb2.length q2], u_, gb) _ ⟨hd, hU, hbox, hge⟩)
    ·skip
     refine box_step ?hg (N := 13) ?hd (cs := #[.int .i64 0, .slice none 0 0]) (t := 76) ?hr ?_; (case hd => rfl); (case hg => rfl); (case hr => first | (go_simp; done) | (go_simp; rfl))
     intro gb hg_ wb hbox hbc
     have hge : wh.heap.size ≤ gb := by rw [hg_]; exact hd.size
     clear hg_
     replace hC1 := Kd.C_below hC1 hbc
     replace hC2 := Kd.C_below hC2 hbc
     replace hC3 := Kd.C_below hC3 hbc
     replace hC4 := Kd.C_below hC4 hbc
     replace hd := Cf.up hd hbc
     clear hbc hHeld
     refine hK.out _ _ (HS_ _ hd) (fun hHeld => ?_)
     clear hK K
     refine norm_ (a' := ?_) ?_ ?_
     rotate_left
     ·show Act.put _ (some 13) _ = _
      simp only [Act.put, List.setIfInBounds_toArray, List.set_cons_zero, List.set_cons_succ, i64_w, i32_w]
      rfl
     refine one_ (i := 4) (N := some 79) #[true, true, true, true, true, true, false] rfl rfl (by kernel_rfl) (by decide) (fun K hK => ?_)
     refine goes_ Try.func42 (by kernel_rfl) rfl #[.agg #[.int .i64 aa0, .slice P1 ma1.length p1, .slice P2 ma2.length p2], .agg #[.int .i64 ab0, .slice Q1 mb1.length q1, .slice Q2 mb2.length q2]] (by rfl) rfl rfl (by (try simp only [List.map_toArray, List.map_cons, List.map_nil]); first | done | rfl) ?_
     refine (him _ _ _ _ _ _ _ _ _ hC1 hp1 hC2 hC3 hq1 hC4).mono ?_
     rintro e_ wc3 ⟨u_, rfl, hU, hbc⟩
     clear hC1 hC2 hC3 hC4
     replace hU := Kd.R_lower hU hd.size
     refine ⟨_, rfl, ?_⟩
     replace hbox := blk_below hbox hbc
     replace hd := Cf.up hd hbc
     clear hbc hHeld
     refine hK.out _ _ (HS_ _ hd) (fun hHeld => ?_)
     clear hK K
     refine norm_ (a' := ?_) ?_ ?_
     rotate_left
     ·show Act.put _ (some 79) _ = _
      simp only [Act.put, List.setIfInBounds_toArray, List.set_cons_zero, List.set_cons_succ, i64_w, i32_w]
      rfl
     exact norm_ (by simp only [putAll, Act.put, List.setIfInBounds_toArray, List.set_cons_zero, List.set_cons_succ]) (hCont (.agg #[.int .i64 aa0, .slice P1 ma1.length p1, .slice P2 ma2.length p2], .agg #[.int .i64 ab0, .slice Q1 mb1.length q1, .slice Q2 mb2.length q2], u_, gb) _ ⟨hd, hU, hbox, hge⟩)
   ·skip
    refine box_step ?hg (N := 13) ?hd (cs := #[.int .i64 0, .slice none 0 0]) (t := 76) ?hr ?_; (case hd => rfl); (case hg => rfl); (case hr => first | (go_simp; done) | (go_simp; rfl))
    intro gb hg_ wb hbox hbc
    have hge : wh.heap.size ≤ gb := by rw [hg_]; exact hd.size
    clear hg_
    replace hC1 := Kd.C_below hC1 hbc
    replace hC2 := Kd.C_below hC2 hbc
    replace hd := Cf.up hd hbc
    clear hbc hHeld
    refine hK.out _ _ (HS_ _ hd) (fun hHeld => ?_)
    clear hK K
    refine norm_ (a' := ?_) ?_ ?_
    rotate_left
    ·show Act.put _ (some 13) _ = _
     simp only [Act.put, List.setIfInBounds_toArray, List.set_cons_zero, List.set_cons_succ, i64_w, i32_w]
     rfl
    refine one_ (i := 3) (N := some 78) #[true, true, true, true, false, true, false] rfl rfl (by kernel_rfl) (by decide) (fun K hK => ?_)
    refine goes_ Try.func14 (by kernel_rfl) rfl #[.agg #[.int .i64 ab0, .slice Ab1 lb1.length cb1, .slice Ab2 lb2.length cb2]] (by rfl) rfl rfl (by (try simp only [List.map_toArray, List.map_cons, List.map_nil]); first | done | rfl) ?_
    refine (hfb _ (Cf.up HB.out hd)).mono ?_
    rintro e_ wc2 ⟨v1_, v2_, rfl, hR_, hS_, hbc⟩
    obtain ⟨Q1, q1, rfl⟩ := Kd.R_slice hR_
    obtain ⟨Q2, q2, rfl⟩ := Kd.S_slice hS_
    obtain ⟨_, hq1, hC3⟩ := Kd.R_reads' hR_
    obtain ⟨_, hq2, hC4⟩ := Kd.S_reads' hS_
    clear hR_ hS_
    refine ⟨_, rfl, ?_⟩
    replace hC1 := Kd.C_below hC1 hbc
    replace hC2 := Kd.C_below hC2 hbc
    replace hbox := blk_below hbox hbc
    replace hd := Cf.up hd hbc
    clear hbc hHeld
    refine hK.out _ _ (HS_ _ hd) (fun hHeld => ?_)
    clear hK K
    refine norm_ (a' := ?_) ?_ ?_
    rotate_left
    ·show Act.put _ (some 78) _ = _
     simp only [Act.put, List.setIfInBounds_toArray, List.set_cons_zero, List.set_cons_succ, i64_w, i32_w]
     rfl
    refine one_ (i := 4) (N := some 79) #[true, true, true, true, true, true, false] rfl rfl (by kernel_rfl) (by decide) (fun K hK => ?_)
    refine goes_ Try.func42 (by kernel_rfl) rfl #[.agg #[.int .i64 aa0, .slice P1 ma1.length p1, .slice P2 ma2.length p2], .agg #[.int .i64 ab0, .slice Q1 mb1.length q1, .slice Q2 mb2.length q2]] (by rfl) rfl rfl (by (try simp only [List.map_toArray, List.map_cons, List.map_nil]); first | done | rfl) ?_
    refine (him _ _ _ _ _ _ _ _ _ hC1 hp1 hC2 hC3 hq1 hC4).mono ?_
    rintro e_ wc3 ⟨u_, rfl, hU, hbc⟩
    clear hC1 hC2 hC3 hC4
    replace hU := Kd.R_lower hU hd.size
    refine ⟨_, rfl, ?_⟩
    replace hbox := blk_below hbox hbc
    replace hd := Cf.up hd hbc
    clear hbc hHeld
    refine hK.out _ _ (HS_ _ hd) (fun hHeld => ?_)
    clear hK K
    refine norm_ (a' := ?_) ?_ ?_
    rotate_left
    ·show Act.put _ (some 79) _ = _
     simp only [Act.put, List.setIfInBounds_toArray, List.set_cons_zero, List.set_cons_succ, i64_w, i32_w]
     rfl
    exact norm_ (by simp only [putAll, Act.put, List.setIfInBounds_toArray, List.set_cons_zero, List.set_cons_succ]) (hCont (.agg #[.int .i64 aa0, .slice P1 ma1.length p1, .slice P2 ma2.length p2], .agg #[.int .i64 ab0, .slice Q1 mb1.length q1, .slice Q2 mb2.length q2], u_, gb) _ ⟨hd, hU, hbox, hge⟩)
  ·skip
   refine box_step ?hg (N := 13) ?hd (cs := #[.int .i64 0, .slice none 0 0]) (t := 76) ?hr ?_; (case hd => rfl); (case hg => rfl); (case hr => first | (go_simp; done) | (go_simp; rfl))
   intro gb hg_ wb hbox hbc
   have hge : wh.heap.size ≤ gb := by rw [hg_]; exact hd.size
   clear hg_
   replace hd := Cf.up hd hbc
   clear hbc hHeld
   refine hK.out _ _ (HS_ _ hd) (fun hHeld => ?_)
   clear hK K
   refine norm_ (a' := ?_) ?_ ?_
   rotate_left
   ·show Act.put _ (some 13) _ = _
    simp only [Act.put, List.setIfInBounds_toArray, List.set_cons_zero, List.set_cons_succ, i64_w, i32_w]
    rfl
   refine one_ (i := 1) (N := some 76) #[true, true, true, false, false, true, false] rfl rfl (by kernel_rfl) (by decide) (fun K hK => ?_)
   refine goes_ Try.func14 (by kernel_rfl) rfl #[.agg #[.int .i64 aa0, .slice Aa1 la1.length ca1, .slice Aa2 la2.length ca2]] (by rfl) rfl rfl (by (try simp only [List.map_toArray, List.map_cons, List.map_nil]); first | done | rfl) ?_
   refine (hfa _ (Cf.up HB.out hd)).mono ?_
   rintro e_ wc ⟨v1_, v2_, rfl, hR_, hS_, hbc⟩
   obtain ⟨P1, p1, rfl⟩ := Kd.R_slice hR_
   obtain ⟨P2, p2, rfl⟩ := Kd.S_slice hS_
   obtain ⟨_, hp1, hC1⟩ := Kd.R_reads' hR_
   obtain ⟨_, hp2, hC2⟩ := Kd.S_reads' hS_
   clear hR_ hS_
   refine ⟨_, rfl, ?_⟩
   replace hbox := blk_below hbox hbc
   replace hd := Cf.up hd hbc
   clear hbc hHeld
   refine hK.out _ _ (HS_ _ hd) (fun hHeld => ?_)
   clear hK K
   refine norm_ (a' := ?_) ?_ ?_
   rotate_left
   ·show Act.put _ (some 76) _ = _
    simp only [Act.put, List.setIfInBounds_toArray, List.set_cons_zero, List.set_cons_succ, i64_w, i32_w]
    rfl
   refine one_ (i := 3) (N := some 78) #[true, true, true, true, false, true, false] rfl rfl (by kernel_rfl) (by decide) (fun K hK => ?_)
   refine goes_ Try.func14 (by kernel_rfl) rfl #[.agg #[.int .i64 ab0, .slice Ab1 lb1.length cb1, .slice Ab2 lb2.length cb2]] (by rfl) rfl rfl (by (try simp only [List.map_toArray, List.map_cons, List.map_nil]); first | done | rfl) ?_
   refine (hfb _ (Cf.up HB.out hd)).mono ?_
   rintro e_ wc2 ⟨v1_, v2_, rfl, hR_, hS_, hbc⟩
   obtain ⟨Q1, q1, rfl⟩ := Kd.R_slice hR_
   obtain ⟨Q2, q2, rfl⟩ := Kd.S_slice hS_
   obtain ⟨_, hq1, hC3⟩ := Kd.R_reads' hR_
   obtain ⟨_, hq2, hC4⟩ := Kd.S_reads' hS_
   clear hR_ hS_
   refine ⟨_, rfl, ?_⟩
   replace hC1 := Kd.C_below hC1 hbc
   replace hC2 := Kd.C_below hC2 hbc
   replace hbox := blk_below hbox hbc
   replace hd := Cf.up hd hbc
   clear hbc hHeld
   refine hK.out _ _ (HS_ _ hd) (fun hHeld => ?_)
   clear hK K
   refine norm_ (a' := ?_) ?_ ?_
   rotate_left
   ·show Act.put _ (some 78) _ = _
    simp only [Act.put, List.setIfInBounds_toArray, List.set_cons_zero, List.set_cons_succ, i64_w, i32_w]
    rfl
   refine one_ (i := 4) (N := some 79) #[true, true, true, true, true, true, false] rfl rfl (by kernel_rfl) (by decide) (fun K hK => ?_)
   refine goes_ Try.func42 (by kernel_rfl) rfl #[.agg #[.int .i64 aa0, .slice P1 ma1.length p1, .slice P2 ma2.length p2], .agg #[.int .i64 ab0, .slice Q1 mb1.length q1, .slice Q2 mb2.length q2]] (by rfl) rfl rfl (by (try simp only [List.map_toArray, List.map_cons, List.map_nil]); first | done | rfl) ?_
   refine (him _ _ _ _ _ _ _ _ _ hC1 hp1 hC2 hC3 hq1 hC4).mono ?_
   rintro e_ wc3 ⟨u_, rfl, hU, hbc⟩
   clear hC1 hC2 hC3 hC4
   replace hU := Kd.R_lower hU hd.size
   refine ⟨_, rfl, ?_⟩
   replace hbox := blk_below hbox hbc
   replace hd := Cf.up hd hbc
   clear hbc hHeld
   refine hK.out _ _ (HS_ _ hd) (fun hHeld => ?_)
   clear hK K
   refine norm_ (a' := ?_) ?_ ?_
   rotate_left
   ·show Act.put _ (some 79) _ = _
    simp only [Act.put, List.setIfInBounds_toArray, List.set_cons_zero, List.set_cons_succ, i64_w, i32_w]
    rfl
   exact norm_ (by simp only [putAll, Act.put, List.setIfInBounds_toArray, List.set_cons_zero, List.set_cons_succ]) (hCont (.agg #[.int .i64 aa0, .slice P1 ma1.length p1, .slice P2 ma2.length p2], .agg #[.int .i64 ab0, .slice Q1 mb1.length q1, .slice Q2 mb2.length q2], u_, gb) _ ⟨hd, hU, hbox, hge⟩)
 clear hHeld hd
 rintro ⟨va_, vb_, u_, gH⟩ wd ⟨hd, hU, hbox, hge⟩
 have hHeld := HS_ _ hd
 obtain ⟨RHA, RHc, eu_⟩ := Kd.R_slice hU
 subst eu_
 refine norm_ (a' := ?_) ?_ ?_
 rotate_left
 ·simp only [putAll, Act.put, List.setIfInBounds_toArray, List.set_cons_zero, List.set_cons_succ]
  rfl
 refine one_ (i := 6) (N := none) #[true, true, true, true, true, true, true] rfl rfl (by kernel_rfl) (by decide) (fun K hK => ?_)
 have y0 := blk_cell hbox 0
 have y1 := blk_cell hbox 1
 have f0 := blk_frozen hbox 0
 have f1 := blk_frozen hbox 1
 refine skip_ (w1 := ?_) (by rfl) rfl ?_ ?_
 rotate_left
 ·go_simp
  rfl
 have hd2 : Below wh.heap.size wh ((wd.setCell ⟨gH, 0, none⟩ (.int .i64 cc)).setCell ⟨gH, 1, none⟩ (.slice RHA dd.length RHc)) := below_set (below_set hd hge) hge
 have hU2 := Dl.R_put2 hU hbox (.int .i64 cc) (.slice RHA dd.length RHc)
 have hbox2 := Dl.put2 hbox (.int .i64 cc) (.slice RHA dd.length RHc)
 refine hK.out _ _ (HS_ _ hd2) (fun hHeld => ?_)
 clear hK K hHeld HS_ y0 y1 f0 f1 hU hbox hd
 generalize ((wd.setCell ⟨gH, 0, none⟩ (.int .i64 cc)).setCell ⟨gH, 1, none⟩ (.slice RHA dd.length RHc)) = wz at hd2 hU2 hbox2 ⊢
 refine done_ (by kernel_rfl) ?_
 have n0_ := Aside0.mk (Cf.up HB.out hd2)
 have n1_ := Aside0.mk (blk_below B2.out hd2)
 have n2_ := Aside0.mk (blk_below B3.out hd2)
 have n3_ := Aside0.mk (Kd.R_below RW.out hd2)
 have n4_ := Aside0.mk (blk_below BW.out hd2)
 have n5_ := Aside0.mk (blk_below BX.out hd2)
 have n6_ := Aside0.mk (blk_below BY.out hd2)
 have n7_ := Aside0.mk (blk_below BG.out hd2)
 have n8_ := Aside0.mk (Kd.R_below RG.out hd2)
 clear HB B2 B3 RW BW BX BY BG RG
 have HB := n0_
 have B2 := n1_
 have B3 := n2_
 have RW := n3_
 have BW := n4_
 have BX := n5_
 have BY := n6_
 have BG := n7_
 have RG := n8_
 clear n0_ n1_ n2_ n3_ n4_ n5_ n6_ n7_ n8_
 have i30 := hd2.size
 have hgeW := Aside0.mk hge
 clear hd2 hge
 have RH := Aside0.mk hU2
 have BH := Aside0.mk hbox2
 clear hU2 hbox2
 have x0 := blk_cell BH.out 0
 have x1 := blk_cell BH.out 1
 have y0 := blk_cell BW.out 0
 have y1 := blk_cell BW.out 1
 go_wp2_with fail
 refine (laws_eqIntsResult.calls k cc RHA RHc dd cc RWA RWc dd true _ (Kd.R_reads' RH.out).2.2 (Kd.R_reads' RH.out).2.1 (Kd.R_reads' RW.out).2.2 (Kd.R_reads' RW.out).2.1 EQD.out).mono ?_
 rintro e_ wi ⟨rfl, hb_⟩
 clear x0 x1
 clear y0 y1
 have n0_ := Aside0.mk (Cf.up HB.out hb_)
 have n1_ := Aside0.mk (blk_below B2.out hb_)
 have n2_ := Aside0.mk (blk_below B3.out hb_)
 have n3_ := Aside0.mk (Kd.R_below RW.out hb_)
 have n4_ := Aside0.mk (blk_below BW.out hb_)
 have n5_ := Aside0.mk (blk_below BX.out hb_)
 have n6_ := Aside0.mk (blk_below BY.out hb_)
 have n7_ := Aside0.mk (blk_below BG.out hb_)
 have n8_ := Aside0.mk (Kd.R_below RG.out hb_)
 have n9_ := Aside0.mk (Kd.R_below RH.out hb_)
 have n10_ := Aside0.mk (blk_below BH.out hb_)
 clear HB B2 B3 RW BW BX BY BG RG RH BH
 have HB := n0_
 have B2 := n1_
 have B3 := n2_
 have RW := n3_
 have BW := n4_
 have BX := n5_
 have BY := n6_
 have BG := n7_
 have RG := n8_
 have RH := n9_
 have BH := n10_
 clear n0_ n1_ n2_ n3_ n4_ n5_ n6_ n7_ n8_ n9_ n10_
 clear hb_
 have x0 := blk_cell BG.out 0
 have x1 := blk_cell BG.out 1
 have hheld := fun (W : World) (hC_ : Kd.C (Kd.int .i64) W G1 r2.length r2) (hc_ : dd.length ≤ Gc) => laws_heldIntsResult.calls k cc G1 Gc r2 1 m W hC_ (by rw [HR2.out]; exact hc_) EHD.out
 simp only [HR2.out] at hheld
 go_wp2_with fail
 refine (hheld _ (by have h_ := (Kd.R_reads' RG.out).2.2; rwa [HR2.out] at h_) (Kd.R_reads' RG.out).2.1).mono ?_
 rintro e_ wj ⟨rfl, hb_⟩
 clear hheld
 clear x0 x1
 have n0_ := Aside0.mk (Cf.up HB.out hb_)
 have n1_ := Aside0.mk (blk_below B2.out hb_)
 have n2_ := Aside0.mk (blk_below B3.out hb_)
 have n3_ := Aside0.mk (Kd.R_below RW.out hb_)
 have n4_ := Aside0.mk (blk_below BW.out hb_)
 have n5_ := Aside0.mk (blk_below BX.out hb_)
 have n6_ := Aside0.mk (blk_below BY.out hb_)
 have n7_ := Aside0.mk (blk_below BG.out hb_)
 have n8_ := Aside0.mk (Kd.R_below RG.out hb_)
 have n9_ := Aside0.mk (Kd.R_below RH.out hb_)
 have n10_ := Aside0.mk (blk_below BH.out hb_)
 clear HB B2 B3 RW BW BX BY BG RG RH BH
 have HB := n0_
 have B2 := n1_
 have B3 := n2_
 have RW := n3_
 have BW := n4_
 have BX := n5_
 have BY := n6_
 have BG := n7_
 have RG := n8_
 have RH := n9_
 have BH := n10_
 clear n0_ n1_ n2_ n3_ n4_ n5_ n6_ n7_ n8_ n9_ n10_
 clear hb_
 go_wp2
 go_ret
 exact ⟨rfl, HB.out⟩
end Go.Proofs.Ytfmlhpoaipeoeaa.QFnExactDeltaOf
