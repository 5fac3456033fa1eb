-- MADE BY PROGRAM (qprint.py): walks of the functions that the law FnExactVipFor reaches. Lean checks it.
import Derived.Test.YtfmlhpoaipeoeaaQFnExactVipForx0
import Derived.Test.YtfmlhpoaipeoeaaQFnExactVipForx3
import Derived.Test.YtfmlhpoaipeoeaaIx
import Derived.StillTailTactics
namespace Go.Proofs.Ytfmlhpoaipeoeaa.QFnExactVipFor
open Go.RowKit Go.Proofs.YtfmlhpoaipeoeaaW.PrintWords Go.Proofs.YtfmlhpoaipeoeaaW.PrintLast Go.Proofs.YtfmlhpoaipeoeaaW.PrintMore
attribute [local go_sem] max2_int min2_int max_two min_two max_three min_three max_four min_four   -- for this text's walks alone
set_option linter.unusedVariables false
set_option linter.unusedSimpArgs false

/-! ### spec_l2Port: function 114 -/
def spec_l2Port.f (a0 : Int) : Option (Bool) := (spec_l1In.f a0 0 65535).bind fun t178 => (some t178)
set_option maxHeartbeats 8000000 in
set_option maxRecDepth 100000 in
theorem spec_l2Port.calls (a0 : Int) (r : Bool) (w : World) (h : spec_l2Port.f a0 = some r) :
    Calls Try.prog 114 #[.int .i64 a0] w fun e w' => e = .returned (.bool r) ∧ Drawn0 w w' := by
  have H : ((spec_l1In.f a0 0 65535).bind fun t178 => (some t178)) = some r := h
  clear h
  replace H := Option.bind_eq_some_iff.mp H
  obtain ⟨t178, A20, H⟩ := H
  replace H : (some t178) = some r := H
  have A2 := Aside0.mk A20
  clear A20
  obtain rfl := Option.some.inj H
  go_enter Try.func114, Try.ntmps114
  go_wp2_with (first | ((with_reducible refine gate_callee (f := 70) rfl ?_); refine goesL_ (some 4) rfl rfl Try.func70 (by kernel_rfl) rfl #[.int .i64 a0, .int .i64 0, .int .i64 65535] rfl (by (try simp only [List.map_toArray, List.map_cons, List.map_nil]); first | done | rfl | (simp only [List.length_drop, List.length_take]; rfl)) ?_; (with_reducible refine (spec_l1In.calls a0 0 65535 t178 _ A2.out).mono ?_); rintro e w' ⟨rfl, ⟨nd, rfl⟩⟩; refine ⟨_, rfl, ?_⟩))
  go_ret
  exact ⟨by first | rfl | (simp; done) | (simp [*]; done), by repeat (first | exact Drawn0.refl _ | apply Drawn0.step)⟩

/-! ### spec_l5Proto: function 134 -/
def spec_l5Proto.f (a0 : Int) : Option (Bool) := if a0 = 6 then (some true) else (some (a0 == 17))
set_option maxHeartbeats 8000000 in
set_option maxRecDepth 100000 in
theorem spec_l5Proto.calls (a0 : Int) (r : Bool) (w : World) (h : spec_l5Proto.f a0 = some r) :
    Calls Try.prog 134 #[.int .i64 a0] w fun e w' => e = .returned (.bool r) ∧ Drawn0 w w' := by
  have H : (if a0 = 6 then (some true) else (some (a0 == 17))) = some r := h
  clear h
  by_cases c2 : a0 = 6
  · rw [if_pos c2] at H
    have c2b0 : (a0 == 6) = true := beq_iff_eq.mpr c2
    have c2b1 : (a0 != 6) = false := bne_eq_false_iff_eq.mpr c2
    clear c2
    obtain rfl := Option.some.inj H
    go_enter Try.func134, Try.ntmps134
    go_wp2
    go_ret
    exact ⟨by first | rfl | (simp; done) | (simp [*]; done), by repeat (first | exact Drawn0.refl _ | apply Drawn0.step)⟩
  · rw [if_neg c2] at H
    have c2b0 : (a0 == 6) = false := beq_eq_false_iff_ne.mpr c2
    have c2b1 : (a0 != 6) = true := bne_iff_ne.mpr c2
    obtain rfl := Option.some.inj H
    go_enter Try.func134, Try.ntmps134
    go_wp2
    go_ret
    exact ⟨by first | rfl | (simp; done) | (simp [*]; done), by repeat (first | exact Drawn0.refl _ | apply Drawn0.step)⟩

/-! ### spec_l5Behind: function 135 -/
def spec_l5Behind.f (a0_0 : Int) (a0_1 : Int) (a0_2 : Int) (l0_3 : List Int) (a1_0 : Int) (a1_1 : Int) (a1_2 : Int) (l1_3 : List Int) : Option (Bool) := if a0_0 = a1_0 then (if a0_1 = a1_1 then (some (decide (a0_2 < a1_2))) else (some (decide (a0_1 < a1_1)))) else (some (decide (a0_0 < a1_0)))
set_option maxHeartbeats 8000000 in
set_option maxRecDepth 100000 in
theorem spec_l5Behind.calls (a0_0 : Int) (a0_1 : Int) (a0_2 : Int) (A0_3 : Option Addr) (c0_3 : Nat) (l0_3 : List Int) (a1_0 : Int) (a1_1 : Int) (a1_2 : Int) (A1_3 : Option Addr) (c1_3 : Nat) (l1_3 : List Int) (r : Bool) (w : World) (hr0_3 : Kd.C (Kd.int .i64) w A0_3 l0_3.length l0_3) (hc0_3 : l0_3.length ≤ c0_3) (hr1_3 : Kd.C (Kd.int .i64) w A1_3 l1_3.length l1_3) (hc1_3 : l1_3.length ≤ c1_3) (h : spec_l5Behind.f a0_0 a0_1 a0_2 l0_3 a1_0 a1_1 a1_2 l1_3 = some r) :
    Calls Try.prog 135 #[.agg #[.int .i64 a0_0, .int .i64 a0_1, .int .i64 a0_2, .slice A0_3 l0_3.length c0_3], .agg #[.int .i64 a1_0, .int .i64 a1_1, .int .i64 a1_2, .slice A1_3 l1_3.length c1_3]] w fun e w' => e = .returned (.bool r) ∧ Below w.heap.size w w' := by
  have hu64 := Try.underlying64
  have HR0_3 := Aside0.mk hr0_3
  have HC0_3 := Aside0.mk hc0_3
  clear hr0_3 hc0_3
  have HR1_3 := Aside0.mk hr1_3
  have HC1_3 := Aside0.mk hc1_3
  clear hr1_3 hc1_3
  have HB := Aside0.mk (Below.refl w.heap.size w)
  have H : (if a0_0 = a1_0 then (if a0_1 = a1_1 then (some (decide (a0_2 < a1_2))) else (some (decide (a0_1 < a1_1)))) else (some (decide (a0_0 < a1_0)))) = some r := h
  clear h
  by_cases c3 : a0_0 = a1_0
  · rw [if_pos c3] at H
    have c3b0 : (a0_0 == a1_0) = true := beq_iff_eq.mpr c3
    have c3b1 : (a0_0 != a1_0) = false := bne_eq_false_iff_eq.mpr c3
    clear c3
    by_cases c4 : a0_1 = a1_1
    · rw [if_pos c4] at H
      have c4b0 : (a0_1 == a1_1) = true := beq_iff_eq.mpr c4
      have c4b1 : (a0_1 != a1_1) = false := bne_eq_false_iff_eq.mpr c4
      clear c4
      obtain rfl := Option.some.inj H
      go_enter Try.func135, Try.ntmps135
      go_wp2_with (first | ((with_reducible refine gate_dst (N := 2) rfl ?_); refine box_event ?hg (N := 2) ?hd (cs := #[.int .i64 a0_0, .int .i64 a0_1, .int .i64 a0_2, .slice A0_3 l0_3.length c0_3]) (t := 64) ?hr ?_; (case hd => rfl); (case hg => rfl); (case hr => first | (go_simp; done) | (go_simp; rfl)); intro gb179 hg w5 hbox hb; have n0_ := Aside0.mk (below_step (by repeat (first | (with_reducible first | exact HB.out | apply below_alloc | apply pw_below_drewN | apply below_drew1) | exact HB.out)) hb); have n1_ := Aside0.mk (hbox); have n2_ := Aside0.mk ((by rw [hg]; exact (below_size (by repeat (first | (with_reducible first | exact HB.out | apply below_alloc | apply pw_below_drewN | apply below_drew1) | exact HB.out))) : w.heap.size ≤ gb179)); have n3_ := Aside0.mk ((by rw [hg]; exact (below_size (by repeat (first | (with_reducible first | exact HB.out | apply below_alloc | apply pw_below_drewN | apply below_drew1) | exact HB.out))) : w.heap.size ≤ gb179)); clear HB; have HB := n0_; have BK179 := n1_; have GW179 := n2_; have GE179 := n3_; clear n0_ n1_ n2_ n3_; clear hb hbox hg) | ((with_reducible refine gate_dst (N := 3) rfl ?_); refine box_event ?hg (N := 3) ?hd (cs := #[.int .i64 a1_0, .int .i64 a1_1, .int .i64 a1_2, .slice A1_3 l1_3.length c1_3]) (t := 64) ?hr ?_; (case hd => rfl); (case hg => rfl); (case hr => first | (go_simp; done) | (go_simp; rfl)); intro gb180 hg w6 hbox hb; have n0_ := Aside0.mk (blk_below (g := gb179) (o := .cells #[.int .i64 a0_0, .int .i64 a0_1, .int .i64 a0_2, .slice A0_3 l0_3.length c0_3] 64 (0, 0)) (by (with_reducible repeat (first | refine blk_drewN ?_ _ | refine blk_drew ?_ | refine blk_alloc ?_ _)); exact BK179.out) hb); have n1_ := Aside0.mk (below_step (by repeat (first | (with_reducible first | exact HB.out | apply below_alloc | apply pw_below_drewN | apply below_drew1 | refine below_set ?_ GE179.out) | exact HB.out)) hb); have n2_ := Aside0.mk (hbox); have n3_ := Aside0.mk ((by rw [hg]; exact (below_size (by repeat (first | (with_reducible first | exact HB.out | apply below_alloc | apply pw_below_drewN | apply below_drew1 | refine below_set ?_ GE179.out) | exact HB.out))) : w.heap.size ≤ gb180)); have n4_ := Aside0.mk ((by rw [hg]; exact (below_size (by repeat (first | (with_reducible first | exact HB.out | apply below_alloc | apply pw_below_drewN | apply below_drew1 | refine below_set ?_ GE179.out) | exact HB.out))) : w.heap.size ≤ gb180)); have n5_ := Aside0.mk ((by rw [hg]; exact Nat.ne_of_lt (blk_lt (g := gb179) (o := .cells #[.int .i64 a0_0, .int .i64 a0_1, .int .i64 a0_2, .slice A0_3 l0_3.length c0_3] 64 (0, 0)) (by (with_reducible repeat (first | refine blk_drewN ?_ _ | refine blk_drew ?_ | refine blk_alloc ?_ _)); exact BK179.out)) : gb179 ≠ gb180)); have n6_ := Aside0.mk ((by rw [hg]; exact Nat.ne_of_gt (blk_lt (g := gb179) (o := .cells #[.int .i64 a0_0, .int .i64 a0_1, .int .i64 a0_2, .slice A0_3 l0_3.length c0_3] 64 (0, 0)) (by (with_reducible repeat (first | refine blk_drewN ?_ _ | refine blk_drew ?_ | refine blk_alloc ?_ _)); exact BK179.out)) : gb180 ≠ gb179)); clear BK179; clear HB; have BK179 := n0_; have HB := n1_; have BK180 := n2_; have GW180 := n3_; have GE180 := n4_; have NB179_180 := n5_; have NB180_179 := n6_; clear n0_ n1_ n2_ n3_ n4_ n5_ n6_; clear hb hbox hg; have hnb7 := NB179_180.out; have hnc7 := NB180_179.out; have hcz8_0 : w6.cell? ⟨gb179, 0, none⟩ = some (.int .i64 a0_0) := (blk_cell BK179.out 0).trans rfl; have hcz8_1 : w6.cell? ⟨gb179, 1, none⟩ = some (.int .i64 a0_1) := (blk_cell BK179.out 1).trans rfl; have hcz8_2 : w6.cell? ⟨gb179, 2, none⟩ = some (.int .i64 a0_2) := (blk_cell BK179.out 2).trans rfl; have hcz8_3 : w6.cell? ⟨gb179, 3, none⟩ = some (.slice A0_3 l0_3.length c0_3) := (blk_cell BK179.out 3).trans rfl; have hfz8_0 := blk_frozen BK179.out 0; have hfz8_1 := blk_frozen BK179.out 1; have hfz8_2 := blk_frozen BK179.out 2; have hfz8_3 := blk_frozen BK179.out 3; have hcz9_0 : w6.cell? ⟨gb180, 0, none⟩ = some (.int .i64 a1_0) := (blk_cell BK180.out 0).trans rfl; have hcz9_1 : w6.cell? ⟨gb180, 1, none⟩ = some (.int .i64 a1_1) := (blk_cell BK180.out 1).trans rfl; have hcz9_2 : w6.cell? ⟨gb180, 2, none⟩ = some (.int .i64 a1_2) := (blk_cell BK180.out 2).trans rfl; have hcz9_3 : w6.cell? ⟨gb180, 3, none⟩ = some (.slice A1_3 l1_3.length c1_3) := (blk_cell BK180.out 3).trans rfl; have hfz9_0 := blk_frozen BK180.out 0; have hfz9_1 := blk_frozen BK180.out 1; have hfz9_2 := blk_frozen BK180.out 2; have hfz9_3 := blk_frozen BK180.out 3))
      go_ret
      exact ⟨by first | rfl | (simp [errW_none, errW_some] <;> rfl) | (simp [*, errW_none, errW_some] <;> rfl), by repeat (first | (with_reducible first | exact HB.out | apply below_alloc | apply pw_below_drewN | apply below_drew1 | refine below_set ?_ GE179.out | refine below_set ?_ GE180.out) | exact HB.out)⟩
    · rw [if_neg c4] at H
      have c4b0 : (a0_1 == a1_1) = false := beq_eq_false_iff_ne.mpr c4
      have c4b1 : (a0_1 != a1_1) = true := bne_iff_ne.mpr c4
      obtain rfl := Option.some.inj H
      go_enter Try.func135, Try.ntmps135
      go_wp2_with (first | ((with_reducible refine gate_dst (N := 2) rfl ?_); refine box_event ?hg (N := 2) ?hd (cs := #[.int .i64 a0_0, .int .i64 a0_1, .int .i64 a0_2, .slice A0_3 l0_3.length c0_3]) (t := 64) ?hr ?_; (case hd => rfl); (case hg => rfl); (case hr => first | (go_simp; done) | (go_simp; rfl)); intro gb179 hg w10 hbox hb; have n0_ := Aside0.mk (below_step (by repeat (first | (with_reducible first | exact HB.out | apply below_alloc | apply pw_below_drewN | apply below_drew1) | exact HB.out)) hb); have n1_ := Aside0.mk (hbox); have n2_ := Aside0.mk ((by rw [hg]; exact (below_size (by repeat (first | (with_reducible first | exact HB.out | apply below_alloc | apply pw_below_drewN | apply below_drew1) | exact HB.out))) : w.heap.size ≤ gb179)); have n3_ := Aside0.mk ((by rw [hg]; exact (below_size (by repeat (first | (with_reducible first | exact HB.out | apply below_alloc | apply pw_below_drewN | apply below_drew1) | exact HB.out))) : w.heap.size ≤ gb179)); clear HB; have HB := n0_; have BK179 := n1_; have GW179 := n2_; have GE179 := n3_; clear n0_ n1_ n2_ n3_; clear hb hbox hg) | ((with_reducible refine gate_dst (N := 3) rfl ?_); refine box_event ?hg (N := 3) ?hd (cs := #[.int .i64 a1_0, .int .i64 a1_1, .int .i64 a1_2, .slice A1_3 l1_3.length c1_3]) (t := 64) ?hr ?_; (case hd => rfl); (case hg => rfl); (case hr => first | (go_simp; done) | (go_simp; rfl)); intro gb180 hg w11 hbox hb; have n0_ := Aside0.mk (blk_below (g := gb179) (o := .cells #[.int .i64 a0_0, .int .i64 a0_1, .int .i64 a0_2, .slice A0_3 l0_3.length c0_3] 64 (0, 0)) (by (with_reducible repeat (first | refine blk_drewN ?_ _ | refine blk_drew ?_ | refine blk_alloc ?_ _)); exact BK179.out) hb); have n1_ := Aside0.mk (below_step (by repeat (first | (with_reducible first | exact HB.out | apply below_alloc | apply pw_below_drewN | apply below_drew1 | refine below_set ?_ GE179.out) | exact HB.out)) hb); have n2_ := Aside0.mk (hbox); have n3_ := Aside0.mk ((by rw [hg]; exact (below_size (by repeat (first | (with_reducible first | exact HB.out | apply below_alloc | apply pw_below_drewN | apply below_drew1 | refine below_set ?_ GE179.out) | exact HB.out))) : w.heap.size ≤ gb180)); have n4_ := Aside0.mk ((by rw [hg]; exact (below_size (by repeat (first | (with_reducible first | exact HB.out | apply below_alloc | apply pw_below_drewN | apply below_drew1 | refine below_set ?_ GE179.out) | exact HB.out))) : w.heap.size ≤ gb180)); have n5_ := Aside0.mk ((by rw [hg]; exact Nat.ne_of_lt (blk_lt (g := gb179) (o := .cells #[.int .i64 a0_0, .int .i64 a0_1, .int .i64 a0_2, .slice A0_3 l0_3.length c0_3] 64 (0, 0)) (by (with_reducible repeat (first | refine blk_drewN ?_ _ | refine blk_drew ?_ | refine blk_alloc ?_ _)); exact BK179.out)) : gb179 ≠ gb180)); have n6_ := Aside0.mk ((by rw [hg]; exact Nat.ne_of_gt (blk_lt (g := gb179) (o := .cells #[.int .i64 a0_0, .int .i64 a0_1, .int .i64 a0_2, .slice A0_3 l0_3.length c0_3] 64 (0, 0)) (by (with_reducible repeat (first | refine blk_drewN ?_ _ | refine blk_drew ?_ | refine blk_alloc ?_ _)); exact BK179.out)) : gb180 ≠ gb179)); clear BK179; clear HB; have BK179 := n0_; have HB := n1_; have BK180 := n2_; have GW180 := n3_; have GE180 := n4_; have NB179_180 := n5_; have NB180_179 := n6_; clear n0_ n1_ n2_ n3_ n4_ n5_ n6_; clear hb hbox hg; have hnb12 := NB179_180.out; have hnc12 := NB180_179.out; have hcz13_0 : w11.cell? ⟨gb179, 0, none⟩ = some (.int .i64 a0_0) := (blk_cell BK179.out 0).trans rfl; have hcz13_1 : w11.cell? ⟨gb179, 1, none⟩ = some (.int .i64 a0_1) := (blk_cell BK179.out 1).trans rfl; have hcz13_2 : w11.cell? ⟨gb179, 2, none⟩ = some (.int .i64 a0_2) := (blk_cell BK179.out 2).trans rfl; have hcz13_3 : w11.cell? ⟨gb179, 3, none⟩ = some (.slice A0_3 l0_3.length c0_3) := (blk_cell BK179.out 3).trans rfl; have hfz13_0 := blk_frozen BK179.out 0; have hfz13_1 := blk_frozen BK179.out 1; have hfz13_2 := blk_frozen BK179.out 2; have hfz13_3 := blk_frozen BK179.out 3; have hcz14_0 : w11.cell? ⟨gb180, 0, none⟩ = some (.int .i64 a1_0) := (blk_cell BK180.out 0).trans rfl; have hcz14_1 : w11.cell? ⟨gb180, 1, none⟩ = some (.int .i64 a1_1) := (blk_cell BK180.out 1).trans rfl; have hcz14_2 : w11.cell? ⟨gb180, 2, none⟩ = some (.int .i64 a1_2) := (blk_cell BK180.out 2).trans rfl; have hcz14_3 : w11.cell? ⟨gb180, 3, none⟩ = some (.slice A1_3 l1_3.length c1_3) := (blk_cell BK180.out 3).trans rfl; have hfz14_0 := blk_frozen BK180.out 0; have hfz14_1 := blk_frozen BK180.out 1; have hfz14_2 := blk_frozen BK180.out 2; have hfz14_3 := blk_frozen BK180.out 3))
      go_ret
      exact ⟨by first | rfl | (simp [errW_none, errW_some] <;> rfl) | (simp [*, errW_none, errW_some] <;> rfl), by repeat (first | (with_reducible first | exact HB.out | apply below_alloc | apply pw_below_drewN | apply below_drew1 | refine below_set ?_ GE179.out | refine below_set ?_ GE180.out) | exact HB.out)⟩
  · rw [if_neg c3] at H
    have c3b0 : (a0_0 == a1_0) = false := beq_eq_false_iff_ne.mpr c3
    have c3b1 : (a0_0 != a1_0) = true := bne_iff_ne.mpr c3
    obtain rfl := Option.some.inj H
    go_enter Try.func135, Try.ntmps135
    go_wp2_with (first | ((with_reducible refine gate_dst (N := 2) rfl ?_); refine box_event ?hg (N := 2) ?hd (cs := #[.int .i64 a0_0, .int .i64 a0_1, .int .i64 a0_2, .slice A0_3 l0_3.length c0_3]) (t := 64) ?hr ?_; (case hd => rfl); (case hg => rfl); (case hr => first | (go_simp; done) | (go_simp; rfl)); intro gb179 hg w15 hbox hb; have n0_ := Aside0.mk (below_step (by repeat (first | (with_reducible first | exact HB.out | apply below_alloc | apply pw_below_drewN | apply below_drew1) | exact HB.out)) hb); have n1_ := Aside0.mk (hbox); have n2_ := Aside0.mk ((by rw [hg]; exact (below_size (by repeat (first | (with_reducible first | exact HB.out | apply below_alloc | apply pw_below_drewN | apply below_drew1) | exact HB.out))) : w.heap.size ≤ gb179)); have n3_ := Aside0.mk ((by rw [hg]; exact (below_size (by repeat (first | (with_reducible first | exact HB.out | apply below_alloc | apply pw_below_drewN | apply below_drew1) | exact HB.out))) : w.heap.size ≤ gb179)); clear HB; have HB := n0_; have BK179 := n1_; have GW179 := n2_; have GE179 := n3_; clear n0_ n1_ n2_ n3_; clear hb hbox hg) | ((with_reducible refine gate_dst (N := 3) rfl ?_); refine box_event ?hg (N := 3) ?hd (cs := #[.int .i64 a1_0, .int .i64 a1_1, .int .i64 a1_2, .slice A1_3 l1_3.length c1_3]) (t := 64) ?hr ?_; (case hd => rfl); (case hg => rfl); (case hr => first | (go_simp; done) | (go_simp; rfl)); intro gb180 hg w16 hbox hb; have n0_ := Aside0.mk (blk_below (g := gb179) (o := .cells #[.int .i64 a0_0, .int .i64 a0_1, .int .i64 a0_2, .slice A0_3 l0_3.length c0_3] 64 (0, 0)) (by (with_reducible repeat (first | refine blk_drewN ?_ _ | refine blk_drew ?_ | refine blk_alloc ?_ _)); exact BK179.out) hb); have n1_ := Aside0.mk (below_step (by repeat (first | (with_reducible first | exact HB.out | apply below_alloc | apply pw_below_drewN | apply below_drew1 | refine below_set ?_ GE179.out) | exact HB.out)) hb); have n2_ := Aside0.mk (hbox); have n3_ := Aside0.mk ((by rw [hg]; exact (below_size (by repeat (first | (with_reducible first | exact HB.out | apply below_alloc | apply pw_below_drewN | apply below_drew1 | refine below_set ?_ GE179.out) | exact HB.out))) : w.heap.size ≤ gb180)); have n4_ := Aside0.mk ((by rw [hg]; exact (below_size (by repeat (first | (with_reducible first | exact HB.out | apply below_alloc | apply pw_below_drewN | apply below_drew1 | refine below_set ?_ GE179.out) | exact HB.out))) : w.heap.size ≤ gb180)); have n5_ := Aside0.mk ((by rw [hg]; exact Nat.ne_of_lt (blk_lt (g := gb179) (o := .cells #[.int .i64 a0_0, .int .i64 a0_1, .int .i64 a0_2, .slice A0_3 l0_3.length c0_3] 64 (0, 0)) (by (with_reducible repeat (first | refine blk_drewN ?_ _ | refine blk_drew ?_ | refine blk_alloc ?_ _)); exact BK179.out)) : gb179 ≠ gb180)); have n6_ := Aside0.mk ((by rw [hg]; exact Nat.ne_of_gt (blk_lt (g := gb179) (o := .cells #[.int .i64 a0_0, .int .i64 a0_1, .int .i64 a0_2, .slice A0_3 l0_3.length c0_3] 64 (0, 0)) (by (with_reducible repeat (first | refine blk_drewN ?_ _ | refine blk_drew ?_ | refine blk_alloc ?_ _)); exact BK179.out)) : gb180 ≠ gb179)); clear BK179; clear HB; have BK179 := n0_; have HB := n1_; have BK180 := n2_; have GW180 := n3_; have GE180 := n4_; have NB179_180 := n5_; have NB180_179 := n6_; clear n0_ n1_ n2_ n3_ n4_ n5_ n6_; clear hb hbox hg; have hnb17 := NB179_180.out; have hnc17 := NB180_179.out; have hcz18_0 : w16.cell? ⟨gb179, 0, none⟩ = some (.int .i64 a0_0) := (blk_cell BK179.out 0).trans rfl; have hcz18_1 : w16.cell? ⟨gb179, 1, none⟩ = some (.int .i64 a0_1) := (blk_cell BK179.out 1).trans rfl; have hcz18_2 : w16.cell? ⟨gb179, 2, none⟩ = some (.int .i64 a0_2) := (blk_cell BK179.out 2).trans rfl; have hcz18_3 : w16.cell? ⟨gb179, 3, none⟩ = some (.slice A0_3 l0_3.length c0_3) := (blk_cell BK179.out 3).trans rfl; have hfz18_0 := blk_frozen BK179.out 0; have hfz18_1 := blk_frozen BK179.out 1; have hfz18_2 := blk_frozen BK179.out 2; have hfz18_3 := blk_frozen BK179.out 3; have hcz19_0 : w16.cell? ⟨gb180, 0, none⟩ = some (.int .i64 a1_0) := (blk_cell BK180.out 0).trans rfl; have hcz19_1 : w16.cell? ⟨gb180, 1, none⟩ = some (.int .i64 a1_1) := (blk_cell BK180.out 1).trans rfl; have hcz19_2 : w16.cell? ⟨gb180, 2, none⟩ = some (.int .i64 a1_2) := (blk_cell BK180.out 2).trans rfl; have hcz19_3 : w16.cell? ⟨gb180, 3, none⟩ = some (.slice A1_3 l1_3.length c1_3) := (blk_cell BK180.out 3).trans rfl; have hfz19_0 := blk_frozen BK180.out 0; have hfz19_1 := blk_frozen BK180.out 1; have hfz19_2 := blk_frozen BK180.out 2; have hfz19_3 := blk_frozen BK180.out 3))
    go_ret
    exact ⟨by first | rfl | (simp [errW_none, errW_some] <;> rfl) | (simp [*, errW_none, errW_some] <;> rfl), by repeat (first | (with_reducible first | exact HB.out | apply below_alloc | apply pw_below_drewN | apply below_drew1 | refine below_set ?_ GE179.out | refine below_set ?_ GE180.out) | exact HB.out)⟩

-- NOT PRINTED: function 104 (spec_l5Vip)

-- NOT PRINTED: function 50 (spec_l5Fault)

/-! ### spec_l3Flow: function 66 -/
def spec_l3Flow.f (a0_0 : Int) (a0_1 : Int) (a0_2 : Int) (a0_3 : Int) (a0_4 : Int) : Option (Bool) := (spec_l2Address.f a0_0).bind fun t199 => (if t199 = true then ((spec_l2Address.f a0_1).bind fun t200 => (if t200 = true then (if a0_2 = 6 then ((spec_l2Port.f a0_3).bind fun t201 => (if t201 = true then ((spec_l2Port.f a0_4).bind fun t202 => (some t202)) else (some false))) else (if a0_2 = 17 then ((spec_l2Port.f a0_3).bind fun t203 => (if t203 = true then ((spec_l2Port.f a0_4).bind fun t204 => (some t204)) else (some false))) else (some false))) else (some false))) else (some false))
set_option maxHeartbeats 8000000 in
set_option maxRecDepth 100000 in
theorem spec_l3Flow.calls (a0_0 : Int) (a0_1 : Int) (a0_2 : Int) (a0_3 : Int) (a0_4 : Int) (r : Bool) (w : World) (h : spec_l3Flow.f a0_0 a0_1 a0_2 a0_3 a0_4 = some r) :
    Calls Try.prog 66 #[.agg #[.int .i64 a0_0, .int .i64 a0_1, .int .i64 a0_2, .int .i64 a0_3, .int .i64 a0_4]] w fun e w' => e = .returned (.bool r) ∧ Below w.heap.size w w' := by
  have hu47 := Try.underlying47
  have HB := Aside0.mk (Below.refl w.heap.size w)
  have H : ((spec_l2Address.f a0_0).bind fun t199 => (if t199 = true then ((spec_l2Address.f a0_1).bind fun t200 => (if t200 = true then (if a0_2 = 6 then ((spec_l2Port.f a0_3).bind fun t201 => (if t201 = true then ((spec_l2Port.f a0_4).bind fun t202 => (some t202)) else (some false))) else (if a0_2 = 17 then ((spec_l2Port.f a0_3).bind fun t203 => (if t203 = true then ((spec_l2Port.f a0_4).bind fun t204 => (some t204)) else (some false))) else (some false))) else (some false))) else (some false))) = some r := h
  clear h
  replace H := Option.bind_eq_some_iff.mp H
  obtain ⟨t199, A20, H⟩ := H
  replace H : (if t199 = true then ((spec_l2Address.f a0_1).bind fun t200 => (if t200 = true then (if a0_2 = 6 then ((spec_l2Port.f a0_3).bind fun t201 => (if t201 = true then ((spec_l2Port.f a0_4).bind fun t202 => (some t202)) else (some false))) else (if a0_2 = 17 then ((spec_l2Port.f a0_3).bind fun t203 => (if t203 = true then ((spec_l2Port.f a0_4).bind fun t204 => (some t204)) else (some false))) else (some false))) else (some false))) else (some false)) = some r := H
  have A2 := Aside0.mk A20
  clear A20
  by_cases c3 : t199 = true
  · subst c3
    have H1 : ((spec_l2Address.f a0_1).bind fun t200 => (if t200 = true then (if a0_2 = 6 then ((spec_l2Port.f a0_3).bind fun t201 => (if t201 = true then ((spec_l2Port.f a0_4).bind fun t202 => (some t202)) else (some false))) else (if a0_2 = 17 then ((spec_l2Port.f a0_3).bind fun t203 => (if t203 = true then ((spec_l2Port.f a0_4).bind fun t204 => (some t204)) else (some false))) else (some false))) else (some false))) = some r := by rw [if_pos rfl] at H; exact H
    clear H
    have H := H1
    clear H1
    replace H := Option.bind_eq_some_iff.mp H
    obtain ⟨t200, A40, H⟩ := H
    replace H : (if t200 = true then (if a0_2 = 6 then ((spec_l2Port.f a0_3).bind fun t201 => (if t201 = true then ((spec_l2Port.f a0_4).bind fun t202 => (some t202)) else (some false))) else (if a0_2 = 17 then ((spec_l2Port.f a0_3).bind fun t203 => (if t203 = true then ((spec_l2Port.f a0_4).bind fun t204 => (some t204)) else (some false))) else (some false))) else (some false)) = some r := H
    have A4 := Aside0.mk A40
    clear A40
    by_cases c5 : t200 = true
    · subst c5
      have H1 : (if a0_2 = 6 then ((spec_l2Port.f a0_3).bind fun t201 => (if t201 = true then ((spec_l2Port.f a0_4).bind fun t202 => (some t202)) else (some false))) else (if a0_2 = 17 then ((spec_l2Port.f a0_3).bind fun t203 => (if t203 = true then ((spec_l2Port.f a0_4).bind fun t204 => (some t204)) else (some false))) else (some false))) = some r := by rw [if_pos rfl] at H; exact H
      clear H
      have H := H1
      clear H1
      by_cases c6 : a0_2 = 6
      · rw [if_pos c6] at H
        have c6b0 : (a0_2 == 6) = true := beq_iff_eq.mpr c6
        have c6b1 : (a0_2 != 6) = false := bne_eq_false_iff_eq.mpr c6
        clear c6
        replace H := Option.bind_eq_some_iff.mp H
        obtain ⟨t201, A70, H⟩ := H
        replace H : (if t201 = true then ((spec_l2Port.f a0_4).bind fun t202 => (some t202)) else (some false)) = some r := H
        have A7 := Aside0.mk A70
        clear A70
        by_cases c8 : t201 = true
        · subst c8
          have H1 : ((spec_l2Port.f a0_4).bind fun t202 => (some t202)) = some r := by rw [if_pos rfl] at H; exact H
          clear H
          have H := H1
          clear H1
          replace H := Option.bind_eq_some_iff.mp H
          obtain ⟨t202, A90, H⟩ := H
          replace H : (some t202) = some r := H
          have A9 := Aside0.mk A90
          clear A90
          obtain rfl := Option.some.inj H
          go_enter Try.func66, Try.ntmps66
          go_wp2_with (first | ((with_reducible refine gate_dst (N := 1) rfl ?_); refine box_event ?hg (N := 1) ?hd (cs := #[.int .i64 a0_0, .int .i64 a0_1, .int .i64 a0_2, .int .i64 a0_3, .int .i64 a0_4]) (t := 47) ?hr ?_; (case hd => rfl); (case hg => rfl); (case hr => first | (go_simp; done) | (go_simp; rfl)); intro gb198 hg w10 hbox hb; have n0_ := Aside0.mk (below_step (by repeat (first | (with_reducible first | exact HB.out | apply below_alloc | apply pw_below_drewN | apply below_drew1) | exact HB.out)) hb); have n1_ := Aside0.mk (hbox); have n2_ := Aside0.mk ((by rw [hg]; exact (below_size (by repeat (first | (with_reducible first | exact HB.out | apply below_alloc | apply pw_below_drewN | apply below_drew1) | exact HB.out))) : w.heap.size ≤ gb198)); have n3_ := Aside0.mk ((by rw [hg]; exact (below_size (by repeat (first | (with_reducible first | exact HB.out | apply below_alloc | apply pw_below_drewN | apply below_drew1) | exact HB.out))) : w.heap.size ≤ gb198)); clear HB; have HB := n0_; have BK198 := n1_; have GW198 := n2_; have GE198 := n3_; clear n0_ n1_ n2_ n3_; clear hb hbox hg; have hcz11_0 : w10.cell? ⟨gb198, 0, none⟩ = some (.int .i64 a0_0) := (blk_cell BK198.out 0).trans rfl; have hcz11_1 : w10.cell? ⟨gb198, 1, none⟩ = some (.int .i64 a0_1) := (blk_cell BK198.out 1).trans rfl; have hcz11_2 : w10.cell? ⟨gb198, 2, none⟩ = some (.int .i64 a0_2) := (blk_cell BK198.out 2).trans rfl; have hcz11_3 : w10.cell? ⟨gb198, 3, none⟩ = some (.int .i64 a0_3) := (blk_cell BK198.out 3).trans rfl; have hcz11_4 : w10.cell? ⟨gb198, 4, none⟩ = some (.int .i64 a0_4) := (blk_cell BK198.out 4).trans rfl; have hfz11_0 := blk_frozen BK198.out 0; have hfz11_1 := blk_frozen BK198.out 1; have hfz11_2 := blk_frozen BK198.out 2; have hfz11_3 := blk_frozen BK198.out 3; have hfz11_4 := blk_frozen BK198.out 4) | ((with_reducible refine gate_callee (f := 113) rfl ?_); refine goesL_ (some 5) rfl rfl Try.func113 (by kernel_rfl) rfl #[.int .i64 a0_0] rfl (by (try simp only [List.map_toArray, List.map_cons, List.map_nil]); first | done | rfl | (simp only [List.length_drop, List.length_take]; rfl)) ?_; (with_reducible refine (spec_l2Address.calls a0_0 true _ A2.out).mono ?_); rintro e w' ⟨rfl, ⟨nd, rfl⟩⟩; refine ⟨_, rfl, ?_⟩) | (go_at_call 113; (with_reducible refine (spec_l2Address.calls a0_1 true _ A4.out).mono ?_); rintro e w' ⟨rfl, ⟨nd, rfl⟩⟩) | (go_at_call 114; (with_reducible refine (spec_l2Port.calls a0_3 true _ A7.out).mono ?_); rintro e w' ⟨rfl, ⟨nd, rfl⟩⟩) | (go_at_call 114; (with_reducible refine (spec_l2Port.calls a0_4 t202 _ A9.out).mono ?_); rintro e w' ⟨rfl, ⟨nd, rfl⟩⟩))
          go_ret
          exact ⟨by first | rfl | (simp [errW_none, errW_some] <;> rfl) | (simp [*, errW_none, errW_some] <;> rfl), by repeat (first | (with_reducible first | exact HB.out | apply below_alloc | apply pw_below_drewN | apply below_drew1 | refine below_set ?_ GE198.out) | exact HB.out)⟩
        · replace c8 := Bool.eq_false_iff.mpr c8
          subst c8
          have H1 : (some false) = some r := by rw [if_neg (show ¬ (false = true) by decide)] at H; exact H
          clear H
          have H := H1
          clear H1
          obtain rfl := Option.some.inj H
          go_enter Try.func66, Try.ntmps66
          go_wp2_with (first | ((with_reducible refine gate_dst (N := 1) rfl ?_); refine box_event ?hg (N := 1) ?hd (cs := #[.int .i64 a0_0, .int .i64 a0_1, .int .i64 a0_2, .int .i64 a0_3, .int .i64 a0_4]) (t := 47) ?hr ?_; (case hd => rfl); (case hg => rfl); (case hr => first | (go_simp; done) | (go_simp; rfl)); intro gb198 hg w12 hbox hb; have n0_ := Aside0.mk (below_step (by repeat (first | (with_reducible first | exact HB.out | apply below_alloc | apply pw_below_drewN | apply below_drew1) | exact HB.out)) hb); have n1_ := Aside0.mk (hbox); have n2_ := Aside0.mk ((by rw [hg]; exact (below_size (by repeat (first | (with_reducible first | exact HB.out | apply below_alloc | apply pw_below_drewN | apply below_drew1) | exact HB.out))) : w.heap.size ≤ gb198)); have n3_ := Aside0.mk ((by rw [hg]; exact (below_size (by repeat (first | (with_reducible first | exact HB.out | apply below_alloc | apply pw_below_drewN | apply below_drew1) | exact HB.out))) : w.heap.size ≤ gb198)); clear HB; have HB := n0_; have BK198 := n1_; have GW198 := n2_; have GE198 := n3_; clear n0_ n1_ n2_ n3_; clear hb hbox hg; have hcz13_0 : w12.cell? ⟨gb198, 0, none⟩ = some (.int .i64 a0_0) := (blk_cell BK198.out 0).trans rfl; have hcz13_1 : w12.cell? ⟨gb198, 1, none⟩ = some (.int .i64 a0_1) := (blk_cell BK198.out 1).trans rfl; have hcz13_2 : w12.cell? ⟨gb198, 2, none⟩ = some (.int .i64 a0_2) := (blk_cell BK198.out 2).trans rfl; have hcz13_3 : w12.cell? ⟨gb198, 3, none⟩ = some (.int .i64 a0_3) := (blk_cell BK198.out 3).trans rfl; have hcz13_4 : w12.cell? ⟨gb198, 4, none⟩ = some (.int .i64 a0_4) := (blk_cell BK198.out 4).trans rfl; have hfz13_0 := blk_frozen BK198.out 0; have hfz13_1 := blk_frozen BK198.out 1; have hfz13_2 := blk_frozen BK198.out 2; have hfz13_3 := blk_frozen BK198.out 3; have hfz13_4 := blk_frozen BK198.out 4) | ((with_reducible refine gate_callee (f := 113) rfl ?_); refine goesL_ (some 5) rfl rfl Try.func113 (by kernel_rfl) rfl #[.int .i64 a0_0] rfl (by (try simp only [List.map_toArray, List.map_cons, List.map_nil]); first | done | rfl | (simp only [List.length_drop, List.length_take]; rfl)) ?_; (with_reducible refine (spec_l2Address.calls a0_0 true _ A2.out).mono ?_); rintro e w' ⟨rfl, ⟨nd, rfl⟩⟩; refine ⟨_, rfl, ?_⟩) | (go_at_call 113; (with_reducible refine (spec_l2Address.calls a0_1 true _ A4.out).mono ?_); rintro e w' ⟨rfl, ⟨nd, rfl⟩⟩) | (go_at_call 114; (with_reducible refine (spec_l2Port.calls a0_3 false _ A7.out).mono ?_); rintro e w' ⟨rfl, ⟨nd, rfl⟩⟩))
          go_ret
          exact ⟨by first | rfl | (simp [errW_none, errW_some] <;> rfl) | (simp [*, errW_none, errW_some] <;> rfl), by repeat (first | (with_reducible first | exact HB.out | apply below_alloc | apply pw_below_drewN | apply below_drew1 | refine below_set ?_ GE198.out) | exact HB.out)⟩
      · rw [if_neg c6] at H
        have c6b0 : (a0_2 == 6) = false := beq_eq_false_iff_ne.mpr c6
        have c6b1 : (a0_2 != 6) = true := bne_iff_ne.mpr c6
        by_cases c14 : a0_2 = 17
        · rw [if_pos c14] at H
          have c14b0 : (a0_2 == 17) = true := beq_iff_eq.mpr c14
          have c14b1 : (a0_2 != 17) = false := bne_eq_false_iff_eq.mpr c14
          clear c14
          replace H := Option.bind_eq_some_iff.mp H
          obtain ⟨t203, A150, H⟩ := H
          replace H : (if t203 = true then ((spec_l2Port.f a0_4).bind fun t204 => (some t204)) else (some false)) = some r := H
          have A15 := Aside0.mk A150
          clear A150
          by_cases c16 : t203 = true
          · subst c16
            have H1 : ((spec_l2Port.f a0_4).bind fun t204 => (some t204)) = some r := by rw [if_pos rfl] at H; exact H
            clear H
            have H := H1
            clear H1
            replace H := Option.bind_eq_some_iff.mp H
            obtain ⟨t204, A170, H⟩ := H
            replace H : (some t204) = some r := H
            have A17 := Aside0.mk A170
            clear A170
            obtain rfl := Option.some.inj H
            go_enter Try.func66, Try.ntmps66
            go_wp2_with (first | ((with_reducible refine gate_dst (N := 1) rfl ?_); refine box_event ?hg (N := 1) ?hd (cs := #[.int .i64 a0_0, .int .i64 a0_1, .int .i64 a0_2, .int .i64 a0_3, .int .i64 a0_4]) (t := 47) ?hr ?_; (case hd => rfl); (case hg => rfl); (case hr => first | (go_simp; done) | (go_simp; rfl)); intro gb198 hg w18 hbox hb; have n0_ := Aside0.mk (below_step (by repeat (first | (with_reducible first | exact HB.out | apply below_alloc | apply pw_below_drewN | apply below_drew1) | exact HB.out)) hb); have n1_ := Aside0.mk (hbox); have n2_ := Aside0.mk ((by rw [hg]; exact (below_size (by repeat (first | (with_reducible first | exact HB.out | apply below_alloc | apply pw_below_drewN | apply below_drew1) | exact HB.out))) : w.heap.size ≤ gb198)); have n3_ := Aside0.mk ((by rw [hg]; exact (below_size (by repeat (first | (with_reducible first | exact HB.out | apply below_alloc | apply pw_below_drewN | apply below_drew1) | exact HB.out))) : w.heap.size ≤ gb198)); clear HB; have HB := n0_; have BK198 := n1_; have GW198 := n2_; have GE198 := n3_; clear n0_ n1_ n2_ n3_; clear hb hbox hg; have hcz19_0 : w18.cell? ⟨gb198, 0, none⟩ = some (.int .i64 a0_0) := (blk_cell BK198.out 0).trans rfl; have hcz19_1 : w18.cell? ⟨gb198, 1, none⟩ = some (.int .i64 a0_1) := (blk_cell BK198.out 1).trans rfl; have hcz19_2 : w18.cell? ⟨gb198, 2, none⟩ = some (.int .i64 a0_2) := (blk_cell BK198.out 2).trans rfl; have hcz19_3 : w18.cell? ⟨gb198, 3, none⟩ = some (.int .i64 a0_3) := (blk_cell BK198.out 3).trans rfl; have hcz19_4 : w18.cell? ⟨gb198, 4, none⟩ = some (.int .i64 a0_4) := (blk_cell BK198.out 4).trans rfl; have hfz19_0 := blk_frozen BK198.out 0; have hfz19_1 := blk_frozen BK198.out 1; have hfz19_2 := blk_frozen BK198.out 2; have hfz19_3 := blk_frozen BK198.out 3; have hfz19_4 := blk_frozen BK198.out 4) | ((with_reducible refine gate_callee (f := 113) rfl ?_); refine goesL_ (some 5) rfl rfl Try.func113 (by kernel_rfl) rfl #[.int .i64 a0_0] rfl (by (try simp only [List.map_toArray, List.map_cons, List.map_nil]); first | done | rfl | (simp only [List.length_drop, List.length_take]; rfl)) ?_; (with_reducible refine (spec_l2Address.calls a0_0 true _ A2.out).mono ?_); rintro e w' ⟨rfl, ⟨nd, rfl⟩⟩; refine ⟨_, rfl, ?_⟩) | (go_at_call 113; (with_reducible refine (spec_l2Address.calls a0_1 true _ A4.out).mono ?_); rintro e w' ⟨rfl, ⟨nd, rfl⟩⟩) | (go_at_call 114; (with_reducible refine (spec_l2Port.calls a0_3 true _ A15.out).mono ?_); rintro e w' ⟨rfl, ⟨nd, rfl⟩⟩) | (go_at_call 114; (with_reducible refine (spec_l2Port.calls a0_4 t204 _ A17.out).mono ?_); rintro e w' ⟨rfl, ⟨nd, rfl⟩⟩))
            go_ret
            exact ⟨by first | rfl | (simp [errW_none, errW_some] <;> rfl) | (simp [*, errW_none, errW_some] <;> rfl), by repeat (first | (with_reducible first | exact HB.out | apply below_alloc | apply pw_below_drewN | apply below_drew1 | refine below_set ?_ GE198.out) | exact HB.out)⟩
          · replace c16 := Bool.eq_false_iff.mpr c16
            subst c16
            have H1 : (some false) = some r := by rw [if_neg (show ¬ (false = true) by decide)] at H; exact H
            clear H
            have H := H1
            clear H1
            obtain rfl := Option.some.inj H
            go_enter Try.func66, Try.ntmps66
            go_wp2_with (first | ((with_reducible refine gate_dst (N := 1) rfl ?_); refine box_event ?hg (N := 1) ?hd (cs := #[.int .i64 a0_0, .int .i64 a0_1, .int .i64 a0_2, .int .i64 a0_3, .int .i64 a0_4]) (t := 47) ?hr ?_; (case hd => rfl); (case hg => rfl); (case hr => first | (go_simp; done) | (go_simp; rfl)); intro gb198 hg w20 hbox hb; have n0_ := Aside0.mk (below_step (by repeat (first | (with_reducible first | exact HB.out | apply below_alloc | apply pw_below_drewN | apply below_drew1) | exact HB.out)) hb); have n1_ := Aside0.mk (hbox); have n2_ := Aside0.mk ((by rw [hg]; exact (below_size (by repeat (first | (with_reducible first | exact HB.out | apply below_alloc | apply pw_below_drewN | apply below_drew1) | exact HB.out))) : w.heap.size ≤ gb198)); have n3_ := Aside0.mk ((by rw [hg]; exact (below_size (by repeat (first | (with_reducible first | exact HB.out | apply below_alloc | apply pw_below_drewN | apply below_drew1) | exact HB.out))) : w.heap.size ≤ gb198)); clear HB; have HB := n0_; have BK198 := n1_; have GW198 := n2_; have GE198 := n3_; clear n0_ n1_ n2_ n3_; clear hb hbox hg; have hcz21_0 : w20.cell? ⟨gb198, 0, none⟩ = some (.int .i64 a0_0) := (blk_cell BK198.out 0).trans rfl; have hcz21_1 : w20.cell? ⟨gb198, 1, none⟩ = some (.int .i64 a0_1) := (blk_cell BK198.out 1).trans rfl; have hcz21_2 : w20.cell? ⟨gb198, 2, none⟩ = some (.int .i64 a0_2) := (blk_cell BK198.out 2).trans rfl; have hcz21_3 : w20.cell? ⟨gb198, 3, none⟩ = some (.int .i64 a0_3) := (blk_cell BK198.out 3).trans rfl; have hcz21_4 : w20.cell? ⟨gb198, 4, none⟩ = some (.int .i64 a0_4) := (blk_cell BK198.out 4).trans rfl; have hfz21_0 := blk_frozen BK198.out 0; have hfz21_1 := blk_frozen BK198.out 1; have hfz21_2 := blk_frozen BK198.out 2; have hfz21_3 := blk_frozen BK198.out 3; have hfz21_4 := blk_frozen BK198.out 4) | ((with_reducible refine gate_callee (f := 113) rfl ?_); refine goesL_ (some 5) rfl rfl Try.func113 (by kernel_rfl) rfl #[.int .i64 a0_0] rfl (by (try simp only [List.map_toArray, List.map_cons, List.map_nil]); first | done | rfl | (simp only [List.length_drop, List.length_take]; rfl)) ?_; (with_reducible refine (spec_l2Address.calls a0_0 true _ A2.out).mono ?_); rintro e w' ⟨rfl, ⟨nd, rfl⟩⟩; refine ⟨_, rfl, ?_⟩) | (go_at_call 113; (with_reducible refine (spec_l2Address.calls a0_1 true _ A4.out).mono ?_); rintro e w' ⟨rfl, ⟨nd, rfl⟩⟩) | (go_at_call 114; (with_reducible refine (spec_l2Port.calls a0_3 false _ A15.out).mono ?_); rintro e w' ⟨rfl, ⟨nd, rfl⟩⟩))
            go_ret
            exact ⟨by first | rfl | (simp [errW_none, errW_some] <;> rfl) | (simp [*, errW_none, errW_some] <;> rfl), by repeat (first | (with_reducible first | exact HB.out | apply below_alloc | apply pw_below_drewN | apply below_drew1 | refine below_set ?_ GE198.out) | exact HB.out)⟩
        · rw [if_neg c14] at H
          have c14b0 : (a0_2 == 17) = false := beq_eq_false_iff_ne.mpr c14
          have c14b1 : (a0_2 != 17) = true := bne_iff_ne.mpr c14
          obtain rfl := Option.some.inj H
          go_enter Try.func66, Try.ntmps66
          go_wp2_with (first | ((with_reducible refine gate_dst (N := 1) rfl ?_); refine box_event ?hg (N := 1) ?hd (cs := #[.int .i64 a0_0, .int .i64 a0_1, .int .i64 a0_2, .int .i64 a0_3, .int .i64 a0_4]) (t := 47) ?hr ?_; (case hd => rfl); (case hg => rfl); (case hr => first | (go_simp; done) | (go_simp; rfl)); intro gb198 hg w22 hbox hb; have n0_ := Aside0.mk (below_step (by repeat (first | (with_reducible first | exact HB.out | apply below_alloc | apply pw_below_drewN | apply below_drew1) | exact HB.out)) hb); have n1_ := Aside0.mk (hbox); have n2_ := Aside0.mk ((by rw [hg]; exact (below_size (by repeat (first | (with_reducible first | exact HB.out | apply below_alloc | apply pw_below_drewN | apply below_drew1) | exact HB.out))) : w.heap.size ≤ gb198)); have n3_ := Aside0.mk ((by rw [hg]; exact (below_size (by repeat (first | (with_reducible first | exact HB.out | apply below_alloc | apply pw_below_drewN | apply below_drew1) | exact HB.out))) : w.heap.size ≤ gb198)); clear HB; have HB := n0_; have BK198 := n1_; have GW198 := n2_; have GE198 := n3_; clear n0_ n1_ n2_ n3_; clear hb hbox hg; have hcz23_0 : w22.cell? ⟨gb198, 0, none⟩ = some (.int .i64 a0_0) := (blk_cell BK198.out 0).trans rfl; have hcz23_1 : w22.cell? ⟨gb198, 1, none⟩ = some (.int .i64 a0_1) := (blk_cell BK198.out 1).trans rfl; have hcz23_2 : w22.cell? ⟨gb198, 2, none⟩ = some (.int .i64 a0_2) := (blk_cell BK198.out 2).trans rfl; have hcz23_3 : w22.cell? ⟨gb198, 3, none⟩ = some (.int .i64 a0_3) := (blk_cell BK198.out 3).trans rfl; have hcz23_4 : w22.cell? ⟨gb198, 4, none⟩ = some (.int .i64 a0_4) := (blk_cell BK198.out 4).trans rfl; have hfz23_0 := blk_frozen BK198.out 0; have hfz23_1 := blk_frozen BK198.out 1; have hfz23_2 := blk_frozen BK198.out 2; have hfz23_3 := blk_frozen BK198.out 3; have hfz23_4 := blk_frozen BK198.out 4) | ((with_reducible refine gate_callee (f := 113) rfl ?_); refine goesL_ (some 5) rfl rfl Try.func113 (by kernel_rfl) rfl #[.int .i64 a0_0] rfl (by (try simp only [List.map_toArray, List.map_cons, List.map_nil]); first | done | rfl | (simp only [List.length_drop, List.length_take]; rfl)) ?_; (with_reducible refine (spec_l2Address.calls a0_0 true _ A2.out).mono ?_); rintro e w' ⟨rfl, ⟨nd, rfl⟩⟩; refine ⟨_, rfl, ?_⟩) | (go_at_call 113; (with_reducible refine (spec_l2Address.calls a0_1 true _ A4.out).mono ?_); rintro e w' ⟨rfl, ⟨nd, rfl⟩⟩))
          go_ret
          exact ⟨by first | rfl | (simp [errW_none, errW_some] <;> rfl) | (simp [*, errW_none, errW_some] <;> rfl), by repeat (first | (with_reducible first | exact HB.out | apply below_alloc | apply pw_below_drewN | apply below_drew1 | refine below_set ?_ GE198.out) | exact HB.out)⟩
    · replace c5 := Bool.eq_false_iff.mpr c5
      subst c5
      have H1 : (some false) = some r := by rw [if_neg (show ¬ (false = true) by decide)] at H; exact H
      clear H
      have H := H1
      clear H1
      obtain rfl := Option.some.inj H
      go_enter Try.func66, Try.ntmps66
      go_wp2_with (first | ((with_reducible refine gate_dst (N := 1) rfl ?_); refine box_event ?hg (N := 1) ?hd (cs := #[.int .i64 a0_0, .int .i64 a0_1, .int .i64 a0_2, .int .i64 a0_3, .int .i64 a0_4]) (t := 47) ?hr ?_; (case hd => rfl); (case hg => rfl); (case hr => first | (go_simp; done) | (go_simp; rfl)); intro gb198 hg w24 hbox hb; have n0_ := Aside0.mk (below_step (by repeat (first | (with_reducible first | exact HB.out | apply below_alloc | apply pw_below_drewN | apply below_drew1) | exact HB.out)) hb); have n1_ := Aside0.mk (hbox); have n2_ := Aside0.mk ((by rw [hg]; exact (below_size (by repeat (first | (with_reducible first | exact HB.out | apply below_alloc | apply pw_below_drewN | apply below_drew1) | exact HB.out))) : w.heap.size ≤ gb198)); have n3_ := Aside0.mk ((by rw [hg]; exact (below_size (by repeat (first | (with_reducible first | exact HB.out | apply below_alloc | apply pw_below_drewN | apply below_drew1) | exact HB.out))) : w.heap.size ≤ gb198)); clear HB; have HB := n0_; have BK198 := n1_; have GW198 := n2_; have GE198 := n3_; clear n0_ n1_ n2_ n3_; clear hb hbox hg; have hcz25_0 : w24.cell? ⟨gb198, 0, none⟩ = some (.int .i64 a0_0) := (blk_cell BK198.out 0).trans rfl; have hcz25_1 : w24.cell? ⟨gb198, 1, none⟩ = some (.int .i64 a0_1) := (blk_cell BK198.out 1).trans rfl; have hcz25_2 : w24.cell? ⟨gb198, 2, none⟩ = some (.int .i64 a0_2) := (blk_cell BK198.out 2).trans rfl; have hcz25_3 : w24.cell? ⟨gb198, 3, none⟩ = some (.int .i64 a0_3) := (blk_cell BK198.out 3).trans rfl; have hcz25_4 : w24.cell? ⟨gb198, 4, none⟩ = some (.int .i64 a0_4) := (blk_cell BK198.out 4).trans rfl; have hfz25_0 := blk_frozen BK198.out 0; have hfz25_1 := blk_frozen BK198.out 1; have hfz25_2 := blk_frozen BK198.out 2; have hfz25_3 := blk_frozen BK198.out 3; have hfz25_4 := blk_frozen BK198.out 4) | ((with_reducible refine gate_callee (f := 113) rfl ?_); refine goesL_ (some 5) rfl rfl Try.func113 (by kernel_rfl) rfl #[.int .i64 a0_0] rfl (by (try simp only [List.map_toArray, List.map_cons, List.map_nil]); first | done | rfl | (simp only [List.length_drop, List.length_take]; rfl)) ?_; (with_reducible refine (spec_l2Address.calls a0_0 true _ A2.out).mono ?_); rintro e w' ⟨rfl, ⟨nd, rfl⟩⟩; refine ⟨_, rfl, ?_⟩) | (go_at_call 113; (with_reducible refine (spec_l2Address.calls a0_1 false _ A4.out).mono ?_); rintro e w' ⟨rfl, ⟨nd, rfl⟩⟩))
      go_ret
      exact ⟨by first | rfl | (simp [errW_none, errW_some] <;> rfl) | (simp [*, errW_none, errW_some] <;> rfl), by repeat (first | (with_reducible first | exact HB.out | apply below_alloc | apply pw_below_drewN | apply below_drew1 | refine below_set ?_ GE198.out) | exact HB.out)⟩
  · replace c3 := Bool.eq_false_iff.mpr c3
    subst c3
    have H1 : (some false) = some r := by rw [if_neg (show ¬ (false = true) by decide)] at H; exact H
    clear H
    have H := H1
    clear H1
    obtain rfl := Option.some.inj H
    go_enter Try.func66, Try.ntmps66
    go_wp2_with (first | ((with_reducible refine gate_dst (N := 1) rfl ?_); refine box_event ?hg (N := 1) ?hd (cs := #[.int .i64 a0_0, .int .i64 a0_1, .int .i64 a0_2, .int .i64 a0_3, .int .i64 a0_4]) (t := 47) ?hr ?_; (case hd => rfl); (case hg => rfl); (case hr => first | (go_simp; done) | (go_simp; rfl)); intro gb198 hg w26 hbox hb; have n0_ := Aside0.mk (below_step (by repeat (first | (with_reducible first | exact HB.out | apply below_alloc | apply pw_below_drewN | apply below_drew1) | exact HB.out)) hb); have n1_ := Aside0.mk (hbox); have n2_ := Aside0.mk ((by rw [hg]; exact (below_size (by repeat (first | (with_reducible first | exact HB.out | apply below_alloc | apply pw_below_drewN | apply below_drew1) | exact HB.out))) : w.heap.size ≤ gb198)); have n3_ := Aside0.mk ((by rw [hg]; exact (below_size (by repeat (first | (with_reducible first | exact HB.out | apply below_alloc | apply pw_below_drewN | apply below_drew1) | exact HB.out))) : w.heap.size ≤ gb198)); clear HB; have HB := n0_; have BK198 := n1_; have GW198 := n2_; have GE198 := n3_; clear n0_ n1_ n2_ n3_; clear hb hbox hg; have hcz27_0 : w26.cell? ⟨gb198, 0, none⟩ = some (.int .i64 a0_0) := (blk_cell BK198.out 0).trans rfl; have hcz27_1 : w26.cell? ⟨gb198, 1, none⟩ = some (.int .i64 a0_1) := (blk_cell BK198.out 1).trans rfl; have hcz27_2 : w26.cell? ⟨gb198, 2, none⟩ = some (.int .i64 a0_2) := (blk_cell BK198.out 2).trans rfl; have hcz27_3 : w26.cell? ⟨gb198, 3, none⟩ = some (.int .i64 a0_3) := (blk_cell BK198.out 3).trans rfl; have hcz27_4 : w26.cell? ⟨gb198, 4, none⟩ = some (.int .i64 a0_4) := (blk_cell BK198.out 4).trans rfl; have hfz27_0 := blk_frozen BK198.out 0; have hfz27_1 := blk_frozen BK198.out 1; have hfz27_2 := blk_frozen BK198.out 2; have hfz27_3 := blk_frozen BK198.out 3; have hfz27_4 := blk_frozen BK198.out 4) | ((with_reducible refine gate_callee (f := 113) rfl ?_); refine goesL_ (some 5) rfl rfl Try.func113 (by kernel_rfl) rfl #[.int .i64 a0_0] rfl (by (try simp only [List.map_toArray, List.map_cons, List.map_nil]); first | done | rfl | (simp only [List.length_drop, List.length_take]; rfl)) ?_; (with_reducible refine (spec_l2Address.calls a0_0 false _ A2.out).mono ?_); rintro e w' ⟨rfl, ⟨nd, rfl⟩⟩; refine ⟨_, rfl, ?_⟩))
    go_ret
    exact ⟨by first | rfl | (simp [errW_none, errW_some] <;> rfl) | (simp [*, errW_none, errW_some] <;> rfl), by repeat (first | (with_reducible first | exact HB.out | apply below_alloc | apply pw_below_drewN | apply below_drew1 | refine below_set ?_ GE198.out) | exact HB.out)⟩

/-! ### spec_l5For: function 67 -/
-- (by hand, below)

/-! ### spec_VipFor: function 20 -/
/-! #### the configuration's faults, in plain words -/
def Cf.inB (a lo hi : Int) : Bool := decide (a ≥ lo) && decide (a ≤ hi)
def Cf.prB (a : Int) : Bool := decide (a = 6) || decide (a = 17)
def Cf.isb (x : S36) : Bool := Cf.inB x.f0 1 999 && Cf.inB x.f1 0 4294967295 && Cf.inB x.f2 0 9 && Cf.inB x.f3 1 3
def Cf.beh (x y : S64) : Bool := if x.f0 = y.f0 then (if x.f1 = y.f1 then decide (x.f2 < y.f2) else decide (x.f1 < y.f1)) else decide (x.f0 < y.f0)
def Cf.named (n : Int) (b : S36) : Bool := b.f0 == n
def Cf.place (l : List S36) (n : Int) : Int := Go.Proofs.Ytfmlhpoaipeoeaa.Ix.ixFrom (Cf.named n) l 0
def Cf.gone (l : List S36) (n : Int) : Bool := decide (Cf.place l n < 0)
def Cf.falls (l : List Int) (j : Nat) : Bool := decide (1 ≤ j) && decide (l.getD j 0 ≤ l.getD (j - 1) 0)
def Cf.vok (x : S64) : Bool := Cf.inB x.f0 0 4294967295 && Cf.inB x.f1 0 65535 && Cf.prB x.f2
def Cf.vcode (l1 : List S36) (l2 : List S64) (i : Nat) : Int :=
  if Cf.vok (l2.getD i z64) = false then 3 else if (decide (0 < i) && !Cf.beh (l2.getD (i - 1) z64) (l2.getD i z64)) = true then 1 else if (l2.getD i z64).f3.any (Cf.gone l1) = true then 4
  else if (List.range (l2.getD i z64).f3.length).any (Cf.falls (l2.getD i z64).f3) = true then 1 else 0
def Cf.bcode (l1 : List S36) (i : Nat) : Int :=
  if Cf.isb (l1.getD i z36) = false then 3 else if (decide (0 < i) && decide ((l1.getD i z36).f0 ≤ (l1.getD (i - 1) z36).f0)) = true then 1 else 0
def Cf.first (g : Nat → Int) : Nat → Nat → Int
  | _, 0 => 0
  | i, m + 1 => if g i = 0 then Cf.first g (i + 1) m else g i
def Cf.code (v : Int) (l1 : List S36) (l2 : List S64) : Int :=
  if Cf.inB v 0 1000000 = false then 3 else if (decide ((l1.length : Int) > 8) || decide ((l2.length : Int) > 4)) = true then 2
  else if Cf.first (Cf.bcode l1) 0 l1.length = 0 then Cf.first (Cf.vcode l1 l2) 0 l2.length else Cf.first (Cf.bcode l1) 0 l1.length
theorem Cf.first_hit (g : Nat → Int) : ∀ (m i k : Nat), k < m → g (i + k) ≠ 0 → (∀ j, j < k → g (i + j) = 0) → Cf.first g i m = g (i + k)
  | 0, _, _, h, _, _ => absurd h (Nat.not_lt_zero _)
  | m + 1, i, 0, _, h, _ => by simp only [Cf.first]; rw [if_neg (by simpa using h)]; rfl
  | m + 1, i, k + 1, hk, h, hn => by
    have e : i + (k + 1) = (i + 1) + k := by omega
    simp only [Cf.first]; rw [if_pos (by have := hn 0 (by omega); simpa using this), e]
    exact Cf.first_hit g m (i + 1) k (by omega) (by rw [← e]; exact h) (fun j hj => by have := hn (j + 1) (by omega); rwa [show i + (j + 1) = i + 1 + j by omega] at this)
theorem Cf.first_miss (g : Nat → Int) : ∀ (m i : Nat), (∀ j, j < m → g (i + j) = 0) → Cf.first g i m = 0
  | 0, _, _ => rfl
  | m + 1, i, hn => by
    simp only [Cf.first]; rw [if_pos (by have := hn 0 (by omega); simpa using this)]
    exact Cf.first_miss g m (i + 1) (fun j hj => by have := hn (j + 1) (by omega); rwa [show i + (j + 1) = i + 1 + j by omega] at this)
theorem Cf.any_hit {α : Type} (p : α → Bool) (d : α) (l : List α) (k : Nat) (hk : k < l.length) (h : p (l.getD k d) = true) : l.any p = true := by
  rw [List.any_eq_true]
  refine ⟨l.getD k d, ?_, h⟩
  have e : l.getD k d = l[k] := by simp [List.getD, hk]
  rw [e]; exact List.getElem_mem hk
theorem Cf.any_miss {α : Type} (p : α → Bool) (d : α) (l : List α) (h : ∀ j, j < l.length → p (l.getD j d) = false) : l.any p = false := by
  rw [List.any_eq_false]
  intro x hx
  obtain ⟨j, hj, rfl⟩ := List.mem_iff_getElem.1 hx
  have := h j hj
  have e : l.getD j d = l[j] := by simp [List.getD, hj]
  rw [e] at this
  simp [this]
theorem Cf.range_hit (p : Nat → Bool) (n k : Nat) (hk : k < n) (h : p k = true) : (List.range n).any p = true := List.any_eq_true.2 ⟨k, List.mem_range.2 hk, h⟩
theorem Cf.range_miss (p : Nat → Bool) (n : Nat) (h : ∀ j, j < n → p j = false) : (List.range n).any p = false := List.any_eq_false.2 fun x hx => by simp [h x (List.mem_range.1 hx)]
theorem Cf.l1In_is (a lo hi : Int) : spec_l1In.f a lo hi = some (Cf.inB a lo hi) := by
  unfold spec_l1In.f Cf.inB
  by_cases h : a ≥ lo
  · rw [if_pos h]; simp [h]
  · rw [if_neg h]; simp [h]
theorem Cf.version_is (a : Int) : spec_l5Version.f a = some (Cf.inB a 0 1000000) := by unfold spec_l5Version.f; rw [Cf.l1In_is]; rfl
theorem Cf.addr_is (a : Int) : spec_l2Address.f a = some (Cf.inB a 0 4294967295) := by unfold spec_l2Address.f; rw [Cf.l1In_is]; rfl
theorem Cf.port_is (a : Int) : spec_l2Port.f a = some (Cf.inB a 0 65535) := by unfold spec_l2Port.f; rw [Cf.l1In_is]; rfl
theorem Cf.proto_is (a : Int) : spec_l5Proto.f a = some (Cf.prB a) := by
  unfold spec_l5Proto.f Cf.prB
  by_cases h : a = 6
  · rw [if_pos h]; simp [h]
  · rw [if_neg h]; simp [h]; rfl
theorem Cf.backend_is (x : S36) : spec_l5Backend.f x.f0 x.f1 x.f2 x.f3 x.f4 = some (Cf.isb x) := by
  unfold spec_l5Backend.f spec_l3Name.f Cf.isb
  simp only [Cf.addr_is, Cf.l1In_is, Option.bind_some]
  cases Cf.inB x.f0 1 999 <;> cases Cf.inB x.f1 0 4294967295 <;> cases Cf.inB x.f2 0 9 <;> rfl
theorem Cf.behind_is (x y : S64) : spec_l5Behind.f x.f0 x.f1 x.f2 x.f3 y.f0 y.f1 y.f2 y.f3 = some (Cf.beh x y) := by
  unfold spec_l5Behind.f Cf.beh
  split <;> (try split) <;> rfl
/-! #### walks by hand -/
set_option maxHeartbeats 2000000 in
/-- The place of a backend of a name. -/
theorem spec_l5At.cf (g : Nat) (A1 : Option Addr) (c1 : Nat) (l1 : List S36) (A2 : Option Addr) (n2 c2 : Nat) (v name : Int) (w : World) (hb : w.heap[g]? = some (.cells #[.int .i64 v, .slice A1 l1.length c1, .slice A2 n2 c2] 31 (0, 0))) (hr1 : Kd.C k36 w A1 l1.length l1) :
    Calls Try.prog 64 #[.pointer (some ⟨g, 0, none⟩), .int .i64 name] w fun e w' => e = .returned (.int .i64 (Cf.place l1 name)) ∧ Below w.heap.size w w' := by
  have hbig : l1.length ≤ 9223372036854775807 := by have := hr1.2.1; have hs : (k36).sz = 5 := rfl; (try simp only [maxLen] at this); (try rw [hs] at this); omega
  go_enter Try.func64, Try.ntmps64
  go_wp2
  go_loopg [5] l1.length (fun gg s5 wr => ∃ kk : Nat, kk ≤ l1.length ∧ l1.length - kk ≤ gg ∧ s5 = .int .i64 kk ∧ Aside (Below w.heap.size w wr) ∧ Aside (∀ j, j < kk → Cf.named name (l1.getD j z36) = false))
  case atStart => exact ⟨0, Nat.zero_le _, by omega, rfl, Below.refl _ w, fun j hj => absurd hj (Nat.not_lt_zero _)⟩
  case round =>
    obtain ⟨kk, hkk, hg, rfl, BW, AA⟩ := hrel
    have bk := blk_below hb BW.out
    have hz1 : wr.cell? ⟨g, 1, none⟩ = some (.slice A1 l1.length c1) := blk_cell bk 1
    clear bk
    by_cases hlt : kk < l1.length
    · have hltz : (kk : Int) < (l1.length : Int) := by omega
      obtain ⟨ad, eA, hx_0, hx_1, hx_2, hx_3, hx_4⟩ := at_T36 (Kd.C_below hr1 BW.out) (kk : Int) (by omega) hltz
      cases eA
      have hy : l1.getD kk z36 = rd_T36 l1 (kk : Int) := rfl
      generalize rd_T36 l1 (kk : Int) = y at hx_0 hx_1 hx_2 hx_3 hx_4 hy
      have B : Aside (l1.getD kk z36 = y) := hy
      clear hy
      simp only [Int.toNat_natCast] at hx_0 hx_1 hx_2 hx_3 hx_4
      cases hq : (y.f0 == name) with
      | true =>
        go_wp2
        go_ret
        refine ⟨?_, BW.out⟩
        unfold Cf.place
        rw [Go.Proofs.Ytfmlhpoaipeoeaa.Ix.ixFrom_hit (Cf.named name) z36 l1 0 kk hlt (by rw [B.out]; exact hq) AA.out]
        simp
      | false =>
        go_wp2
        go_roundg (l1.length - (kk + 1))
        case measure => omega
        case rel =>
          refine ⟨kk + 1, by omega, by omega, by go_num, BW, (show Aside _ from fun j hj => ?_)⟩
          by_cases e : j = kk
          · subst e
            rw [B.out]; exact hq
          · exact AA.out j (by omega)
    · have hltz : ¬ (kk : Int) < (l1.length : Int) := by omega
      have : kk = l1.length := by omega
      subst this
      go_wp2
      go_ret
      refine ⟨?_, BW.out⟩
      unfold Cf.place
      rw [Go.Proofs.Ytfmlhpoaipeoeaa.Ix.ixFrom_miss (Cf.named name) z36 l1 0 AA.out]
      rfl
theorem Cf.addr (a : Int) (w : World) : Calls Try.prog 113 #[.int .i64 a] w fun e w' => e = .returned (.bool (Cf.inB a 0 4294967295)) ∧ Below w.heap.size w w' := (spec_l2Address.calls a _ w (Cf.addr_is a)).mono (fun _ _ h => ⟨h.1, h.2.below⟩)
theorem Cf.port (a : Int) (w : World) : Calls Try.prog 114 #[.int .i64 a] w fun e w' => e = .returned (.bool (Cf.inB a 0 65535)) ∧ Below w.heap.size w w' := (spec_l2Port.calls a _ w (Cf.port_is a)).mono (fun _ _ h => ⟨h.1, h.2.below⟩)
theorem Cf.proto (a : Int) (w : World) : Calls Try.prog 134 #[.int .i64 a] w fun e w' => e = .returned (.bool (Cf.prB a)) ∧ Below w.heap.size w w' := (spec_l5Proto.calls a _ w (Cf.proto_is a)).mono (fun _ _ h => ⟨h.1, h.2.below⟩)
theorem Cf.up {w0 w w' : World} (h : Below w0.heap.size w0 w) (h' : Below w.heap.size w w') : Below w0.heap.size w0 w' := h.trans (h'.mono h.size)
set_option maxHeartbeats 8000000 in
set_option maxRecDepth 100000 in
/-- What is not right of a vip. -/
theorem spec_l5Vip.cf (g : Nat) (A1 : Option Addr) (c1 : Nat) (l1 : List S36) (A2 : Option Addr) (c2 : Nat) (l2 : List S64) (v : Int) (i : Nat) (w : World) (hb : w.heap[g]? = some (.cells #[.int .i64 v, .slice A1 l1.length c1, .slice A2 l2.length c2] 31 (0, 0))) (hr1 : Kd.C k36 w A1 l1.length l1) (hr2 : Kd.C k64 w A2 l2.length l2) (hi : i < l2.length) :
    Calls Try.prog 104 #[.pointer (some ⟨g, 0, none⟩), .int .i64 i] w fun e w' => e = .returned (.int .i64 (Cf.vcode l1 l2 i)) ∧ Below w.heap.size w w' := by
  have hu64 := Try.underlying64
  have hu31 := Try.underlying31
  have hbig : l2.length ≤ 9223372036854775807 := by have := hr2.2.1; have hs : (k64).sz = 4 := rfl; (try simp only [maxLen] at this); (try rw [hs] at this); omega
  have hz2 : w.cell? ⟨g, 2, none⟩ = some (.slice A2 l2.length c2) := blk_cell hb 2
  have hltz : (i : Int) < (l2.length : Int) := by omega
  obtain ⟨ad, A3, c3, eA, hx_0, hx_1, hx_2, hx_3, hl3, hC3⟩ := at_T64 hr2 (i : Int) (by omega) hltz
  have hy : l2.getD i z64 = rd_T64 l2 (i : Int) := rfl
  obtain ⟨r, hr⟩ : ∃ r, r = Cf.vcode l1 l2 i := ⟨_, rfl⟩
  rw [← hr]
  unfold Cf.vcode at hr
  rw [hy] at hr
  generalize rd_T64 l2 (i : Int) = x at hx_0 hx_1 hx_2 hx_3 hl3 hC3 hy hr
  simp only [Int.toNat_natCast] at hx_0 hx_1 hx_2 hx_3
  have hn3 : x.f3.length ≤ 9223372036854775807 := by have := hC3.2.1; have hs : (Kd.int .i64).sz = 1 := rfl; (try simp only [maxLen] at this); (try rw [hs] at this); omega
  obtain ⟨w1, hw1⟩ : ∃ W, W = w.alloc (.cells #[.int .i64 x.f0, .int .i64 x.f1, .int .i64 x.f2, .slice A3 x.f3.length c3] 64) := ⟨_, rfl⟩
  have hB1 : Below w.heap.size w w1 := by rw [hw1]; exact (Below.refl _ w).alloc (Nat.le_refl _) _
  have bv1 : w1.heap[w.heap.size]? = some (.cells #[.int .i64 x.f0, .int .i64 x.f1, .int .i64 x.f2, .slice A3 x.f3.length c3] 64 (0, 0)) := by rw [hw1]; exact blk_new w _
  have bg1 := blk_below hb hB1
  have hr11 := Kd.C_below hr1 hB1
  have hr21 := Kd.C_below hr2 hB1
  have hC31 := Kd.C_below hC3 hB1
  have D1 : Aside0 (w1.heap[g]? = some (.cells #[.int .i64 v, .slice A1 l1.length c1, .slice A2 l2.length c2] 31 (0, 0))) := ⟨bg1⟩
  have D2 : Aside0 (Kd.C k36 w1 A1 l1.length l1) := ⟨hr11⟩
  have D3 : Aside0 (Kd.C k64 w1 A2 l2.length l2) := ⟨hr21⟩
  have D4 : Aside0 ((Kd.int .i64).C w1 A3 x.f3.length x.f3) := ⟨hC31⟩
  have D5 : Aside0 (w1.heap[w.heap.size]? = some (.cells #[.int .i64 x.f0, .int .i64 x.f1, .int .i64 x.f2, .slice A3 x.f3.length c3] 64 (0, 0))) := ⟨bv1⟩
  have DB : Aside0 (Below w.heap.size w w1) := ⟨hB1⟩
  have DY : Aside0 (l2.getD i z64 = x) := ⟨hy⟩
  clear bg1 hr11 hr21 hC31 hB1 bv1 hr1 hr2 hC3 hb hy
  have h0 := Cf.addr x.f0
  have h1 := Cf.port x.f1
  have h2 := Cf.proto x.f2
  unfold Cf.vok at hr
  cases eA
  go_enter Try.func104, Try.ntmps104
  cases e0 : Cf.inB x.f0 0 4294967295 with
  | false =>
    simp only [e0] at h0
    go_wp2_with (go_at_call 113; refine (h0 _).mono ?_; rintro e w2 ⟨rfl, hb2⟩; rw [← hw1] at hb2)
    go_ret
    exact ⟨by rw [hr, e0]; rfl, Cf.up DB.out hb2⟩
  | true =>
    simp only [e0] at h0
    cases e1 : Cf.inB x.f1 0 65535 with
    | false =>
      simp only [e1] at h1
      go_wp2_with (first | (go_at_call 113; refine (h0 _).mono ?_; rintro e w2 ⟨rfl, hb2⟩; rw [← hw1] at hb2; have q1 := blk_cell (blk_below D5.out hb2) 1) | (go_at_call 114; refine (h1 _).mono ?_; rintro e w3 ⟨rfl, hb3⟩))
      go_ret
      exact ⟨by rw [hr, e0, e1]; rfl, Cf.up (Cf.up DB.out hb2) hb3⟩
    | true =>
      simp only [e1] at h1
      cases e2 : Cf.prB x.f2 with
      | false =>
        simp only [e2] at h2
        go_wp2_with (first | (go_at_call 113; refine (h0 _).mono ?_; rintro e w2 ⟨rfl, hb2⟩; rw [← hw1] at hb2; have q1 := blk_cell (blk_below D5.out hb2) 1) | (go_at_call 114; refine (h1 _).mono ?_; rintro e w3 ⟨rfl, hb3⟩; replace hb2 := Cf.up hb2 hb3; clear hb3; clear q1; have q2 := blk_cell (blk_below D5.out hb2) 2) | (go_at_call 134; refine (h2 _).mono ?_; rintro e w4 ⟨rfl, hb4⟩))
        go_ret
        exact ⟨by rw [hr, e0, e1, e2]; rfl, Cf.up (Cf.up DB.out hb2) hb4⟩
      | true =>
        simp only [e2] at h2
        rw [e0, e1, e2, if_neg (by simp)] at hr
        go_wp2_with (first | (go_at_call 113; refine (h0 _).mono ?_; rintro e w2 ⟨rfl, hb2⟩; rw [← hw1] at hb2; have q1 := blk_cell (blk_below D5.out hb2) 1) | (go_at_call 114; refine (h1 _).mono ?_; rintro e w3 ⟨rfl, hb3⟩; replace hb2 := Cf.up hb2 hb3; clear hb3; clear q1; have q2 := blk_cell (blk_below D5.out hb2) 2) | (go_at_call 134; refine (h2 _).mono ?_; rintro e w4 ⟨rfl, hb4⟩; replace hb2 := Cf.up hb2 hb4; clear hb4 q2))
        by_cases hi0 : 0 < i
        · have hg0 : decide ((0 : Int) < (i : Int)) = true := decide_eq_true (by omega)
          obtain ⟨j, hj⟩ : ∃ j, j = i - 1 := ⟨_, rfl⟩
          have hwj : IntKind.i64.wrap ((i : Int) - 1) = (j : Int) := by rw [IntKind.wrap_i64]; omega
          rw [← hj] at hr
          have hjl : (j : Int) < (l2.length : Int) := by omega
          have hjl0 : (0 : Int) ≤ (j : Int) := by omega
          obtain ⟨ad2, A5, c5, eB, px_0, px_1, px_2, px_3, pl3, pC3⟩ := at_T64 (Kd.C_below D3.out hb2) (j : Int) (by omega) (by omega)
          cases eB
          have py : l2.getD j z64 = rd_T64 l2 (j : Int) := rfl
          rw [py] at hr
          generalize rd_T64 l2 (j : Int) = y at px_0 px_1 px_2 px_3 pl3 pC3 py hr
          simp only [Int.toNat_natCast] at px_0 px_1 px_2 px_3
          have hz2' : w4.cell? ⟨g, 2, none⟩ = some (.slice (some ad) l2.length c2) := blk_cell (blk_below D1.out hb2) 2
          have bv := blk_below D5.out hb2
          have v0 := blk_cell bv 0
          have v1 := blk_cell bv 1
          have v2 := blk_cell bv 2
          have v3 := blk_cell bv 3
          have hbeh := fun (W : World) (hW : Below w4.heap.size w4 W) => spec_l5Behind.calls y.f0 y.f1 y.f2 A5 c5 y.f3 x.f0 x.f1 x.f2 A3 c3 x.f3 _ W (Kd.C_below pC3 hW) pl3 (Kd.C_below (Kd.C_below D4.out hb2) hW) hl3 (Cf.behind_is y x)
          clear hj py
          cases hbh : Cf.beh y x with
          | false =>
            simp only [hbh] at hbeh
            go_still_tail 12, (by kernel_rfl)
            change wpList _ _ _ _ _ w4.drew
            have hd : Below w4.heap.size w4 w4.drew := below_drew1 (Below.refl _ _)
            generalize w4.drew = wd at hd
            go_wp2_with (go_at_call 135; refine (hbeh _ hd).mono ?_; rintro e w5 ⟨rfl, hb5⟩)
            go_ret
            exact ⟨by rw [hr, hbh, decide_eq_true hi0]; rfl, Cf.up DB.out (Cf.up (Cf.up hb2 hd) hb5)⟩
          | true =>
            simp only [hbh] at hbeh
            go_still_tail 12, (by kernel_rfl)
            change wpList _ _ _ _ _ w4.drew
            have hd : Below w4.heap.size w4 w4.drew := below_drew1 (Below.refl _ _)
            generalize w4.drew = wd at hd
            rw [hbh, if_neg (by simp)] at hr
            go_wp2_with (go_at_call 135; refine (hbeh _ hd).mono ?_; rintro e w5 ⟨rfl, hb5⟩; replace hb2 := Cf.up (Cf.up hb2 hd) hb5; clear hb5 hd hbeh px_0 px_1 px_2 px_3 pl3 pC3 hz2' bv v0 v1 v2 v3)
            have HR := Aside0.mk hr
            clear hr
            go_wp2
            go_loopg [6] x.f3.length (fun gg s6 wr => ∃ kk : Nat, kk ≤ x.f3.length ∧ x.f3.length - kk ≤ gg ∧ s6 = .int .i64 kk ∧ Aside (Below w1.heap.size w1 wr) ∧ Aside (∀ j, j < kk → Cf.gone l1 (x.f3.getD j 0) = false))
            case atStart => exact ⟨0, Nat.zero_le _, by omega, rfl, hb2, fun j hj => absurd hj (Nat.not_lt_zero _)⟩
            case round =>
              clear hb2
              obtain ⟨kk, hkk, hg, rfl, BW, AA⟩ := hrel
              have v3 : wr.cell? ⟨w.heap.size, 3, none⟩ = some (.slice A3 x.f3.length c3) := blk_cell (blk_below D5.out BW.out) 3
              by_cases hlt : kk < x.f3.length
              · have hltz : (kk : Int) < (x.f3.length : Int) := by omega
                obtain ⟨an, eN, hn⟩ := Kd.at_int (Kd.C_below D4.out BW.out) (kk : Int) (by omega) hltz
                cases eN
                have hcall := spec_l5At.cf g A1 c1 l1 (some ad) l2.length c2 v (rd x.f3 (kk : Int)) wr (blk_below D1.out BW.out) (Kd.C_below D2.out BW.out)
                have hq0 : Cf.gone l1 (x.f3.getD kk 0) = decide (Cf.place l1 (rd x.f3 (kk : Int)) < 0) := rfl
                have HQ : Aside (Cf.gone l1 (x.f3.getD kk 0) = decide (Cf.place l1 (rd x.f3 (kk : Int)) < 0)) := hq0
                clear hq0
                simp only [Int.toNat_natCast] at hn
                cases hq : decide (Cf.place l1 (rd x.f3 (kk : Int)) < 0) with
                | true =>
                  go_wp2_with (go_at_call 64; refine hcall.mono ?_; rintro e w6 ⟨rfl, hb6⟩)
                  go_ret
                  refine ⟨?_, Cf.up DB.out (Cf.up BW.out hb6)⟩
                  rw [HR.out, if_pos (Cf.any_hit (Cf.gone l1) 0 x.f3 kk hlt (HQ.out.trans hq))]
                  try rfl
                | false =>
                  go_wp2_with (go_at_call 64; refine hcall.mono ?_; rintro e w6 ⟨rfl, hb6⟩)
                  go_roundg (x.f3.length - (kk + 1))
                  case measure => omega
                  case rel =>
                    refine ⟨kk + 1, by omega, by omega, by go_num, Cf.up BW.out hb6, (show Aside _ from fun j hj => ?_)⟩
                    by_cases e : j = kk
                    · subst e
                      exact HQ.out.trans hq
                    · exact AA.out j (by omega)
              · have hltz : ¬ (kk : Int) < (x.f3.length : Int) := by omega
                have : kk = x.f3.length := by omega
                subst this
                have hr := HR.out
                rw [if_neg (by rw [Cf.any_miss (Cf.gone l1) 0 x.f3 AA.out]; simp)] at hr
                clear HR
                have HR := Aside0.mk hr
                clear hr
                have BW0 : Aside0 (Below w1.heap.size w1 wr) := ⟨BW.out⟩
                clear AA BW hg hkk hlt
                go_wp2
                go_loopg [7] x.f3.length (fun gg s7 wr => ∃ kk : Nat, kk ≤ x.f3.length + 1 ∧ 1 ≤ kk ∧ x.f3.length - kk ≤ gg ∧ s7 = .int .i64 kk ∧ Aside (Below w1.heap.size w1 wr) ∧ Aside (∀ j, j < kk → j < x.f3.length → Cf.falls x.f3 j = false))
                case atStart => exact ⟨1, by omega, by omega, by omega, rfl, BW0.out, fun j hj _ => (show Cf.falls x.f3 j = false from by (obtain rfl : j = 0 := by omega); simp [Cf.falls])⟩
                case round =>
                  clear v3 BW0
                  obtain ⟨kk, hkk, hk1, hg, rfl, BW, AA⟩ := hrel
                  have v3 := blk_cell (blk_below D5.out BW.out) 3
                  by_cases hlt : kk < x.f3.length
                  · have hltz : (kk : Int) < (x.f3.length : Int) := by omega
                    obtain ⟨an, eN, hn⟩ := Kd.at_int (Kd.C_below D4.out BW.out) (kk : Int) (by omega) hltz
                    cases eN
                    obtain ⟨j, hj⟩ : ∃ j, j = kk - 1 := ⟨_, rfl⟩
                    have hwj : IntKind.i64.wrap ((kk : Int) - 1) = (j : Int) := by rw [IntKind.wrap_i64]; omega
                    have hjl : (j : Int) < (x.f3.length : Int) := by omega
                    obtain ⟨an2, eN2, hn2⟩ := Kd.at_int (Kd.C_below D4.out BW.out) (j : Int) (by omega) hjl
                    cases eN2
                    have HQ : Aside (Cf.falls x.f3 kk = decide (rd x.f3 (kk : Int) ≤ rd x.f3 (j : Int))) := (by
                      show Cf.falls x.f3 kk = _
                      unfold Cf.falls
                      rw [decide_eq_true hk1, ← hj]; rfl)
                    clear hj
                    simp only [Int.toNat_natCast] at hn hn2
                    cases hq : decide (rd x.f3 (kk : Int) ≤ rd x.f3 (j : Int)) with
                    | true =>
                      go_wp2
                      go_quiet (fail)
                      go_wp2
                      go_ret
                      refine ⟨?_, Cf.up DB.out (pw_below_drewN BW.out _)⟩
                      rw [HR.out, if_pos (Cf.range_hit (Cf.falls x.f3) x.f3.length kk hlt (HQ.out.trans hq))]
                      try rfl
                    | false =>
                      go_wp2
                      go_quiet (fail)
                      go_wp2
                      go_roundg (x.f3.length - (kk + 1))
                      case measure => omega
                      case rel =>
                        refine ⟨kk + 1, by omega, by omega, by omega, by go_num, pw_below_drewN BW.out _, (show Aside _ from fun j hj hl => ?_)⟩
                        by_cases e : j = kk
                        · subst e
                          exact HQ.out.trans hq
                        · exact AA.out j (by omega) hl
                  · have hltz : ¬ (kk : Int) < (x.f3.length : Int) := by omega
                    go_wp2
                    go_ret
                    refine ⟨?_, Cf.up DB.out BW.out⟩
                    rw [HR.out, if_neg (by rw [Cf.range_miss (Cf.falls x.f3) x.f3.length (fun j hj => AA.out j (by omega) hj)]; simp)]
                    try rfl
        · have hg0 : decide ((0 : Int) < (i : Int)) = false := decide_eq_false (by omega)
          rw [decide_eq_false hi0, if_neg (by simp)] at hr
          go_quiet (fail)
          have HR := Aside0.mk hr
          clear hr
          go_wp2
          go_loopg [6] x.f3.length (fun gg s6 wr => ∃ kk : Nat, kk ≤ x.f3.length ∧ x.f3.length - kk ≤ gg ∧ s6 = .int .i64 kk ∧ Aside (Below w1.heap.size w1 wr) ∧ Aside (∀ j, j < kk → Cf.gone l1 (x.f3.getD j 0) = false))
          case atStart => exact ⟨0, Nat.zero_le _, by omega, rfl, pw_below_drewN hb2 _, fun j hj => absurd hj (Nat.not_lt_zero _)⟩
          case round =>
            clear hb2
            obtain ⟨kk, hkk, hg, rfl, BW, AA⟩ := hrel
            have v3 : wr.cell? ⟨w.heap.size, 3, none⟩ = some (.slice A3 x.f3.length c3) := blk_cell (blk_below D5.out BW.out) 3
            by_cases hlt : kk < x.f3.length
            · have hltz : (kk : Int) < (x.f3.length : Int) := by omega
              obtain ⟨an, eN, hn⟩ := Kd.at_int (Kd.C_below D4.out BW.out) (kk : Int) (by omega) hltz
              cases eN
              have hcall := spec_l5At.cf g A1 c1 l1 (some ad) l2.length c2 v (rd x.f3 (kk : Int)) wr (blk_below D1.out BW.out) (Kd.C_below D2.out BW.out)
              have hq0 : Cf.gone l1 (x.f3.getD kk 0) = decide (Cf.place l1 (rd x.f3 (kk : Int)) < 0) := rfl
              have HQ : Aside (Cf.gone l1 (x.f3.getD kk 0) = decide (Cf.place l1 (rd x.f3 (kk : Int)) < 0)) := hq0
              clear hq0
              simp only [Int.toNat_natCast] at hn
              cases hq : decide (Cf.place l1 (rd x.f3 (kk : Int)) < 0) with
              | true =>
                go_wp2_with (go_at_call 64; refine hcall.mono ?_; rintro e w6 ⟨rfl, hb6⟩)
                go_ret
                refine ⟨?_, Cf.up DB.out (Cf.up BW.out hb6)⟩
                rw [HR.out, if_pos (Cf.any_hit (Cf.gone l1) 0 x.f3 kk hlt (HQ.out.trans hq))]
                try rfl
              | false =>
                go_wp2_with (go_at_call 64; refine hcall.mono ?_; rintro e w6 ⟨rfl, hb6⟩)
                go_roundg (x.f3.length - (kk + 1))
                case measure => omega
                case rel =>
                  refine ⟨kk + 1, by omega, by omega, by go_num, Cf.up BW.out hb6, (show Aside _ from fun j hj => ?_)⟩
                  by_cases e : j = kk
                  · subst e
                    exact HQ.out.trans hq
                  · exact AA.out j (by omega)
            · have hltz : ¬ (kk : Int) < (x.f3.length : Int) := by omega
              have : kk = x.f3.length := by omega
              subst this
              have hr := HR.out
              rw [if_neg (by rw [Cf.any_miss (Cf.gone l1) 0 x.f3 AA.out]; simp)] at hr
              clear HR
              have HR := Aside0.mk hr
              clear hr
              have BW0 : Aside0 (Below w1.heap.size w1 wr) := ⟨BW.out⟩
              clear AA BW hg hkk hlt
              go_wp2
              go_loopg [7] x.f3.length (fun gg s7 wr => ∃ kk : Nat, kk ≤ x.f3.length + 1 ∧ 1 ≤ kk ∧ x.f3.length - kk ≤ gg ∧ s7 = .int .i64 kk ∧ Aside (Below w1.heap.size w1 wr) ∧ Aside (∀ j, j < kk → j < x.f3.length → Cf.falls x.f3 j = false))
              case atStart => exact ⟨1, by omega, by omega, by omega, rfl, BW0.out, fun j hj _ => (show Cf.falls x.f3 j = false from by (obtain rfl : j = 0 := by omega); simp [Cf.falls])⟩
              case round =>
                clear v3 BW0
                obtain ⟨kk, hkk, hk1, hg, rfl, BW, AA⟩ := hrel
                have v3 := blk_cell (blk_below D5.out BW.out) 3
                by_cases hlt : kk < x.f3.length
                · have hltz : (kk : Int) < (x.f3.length : Int) := by omega
                  obtain ⟨an, eN, hn⟩ := Kd.at_int (Kd.C_below D4.out BW.out) (kk : Int) (by omega) hltz
                  cases eN
                  obtain ⟨j, hj⟩ : ∃ j, j = kk - 1 := ⟨_, rfl⟩
                  have hwj : IntKind.i64.wrap ((kk : Int) - 1) = (j : Int) := by rw [IntKind.wrap_i64]; omega
                  have hjl : (j : Int) < (x.f3.length : Int) := by omega
                  obtain ⟨an2, eN2, hn2⟩ := Kd.at_int (Kd.C_below D4.out BW.out) (j : Int) (by omega) hjl
                  cases eN2
                  have HQ : Aside (Cf.falls x.f3 kk = decide (rd x.f3 (kk : Int) ≤ rd x.f3 (j : Int))) := (by
                    show Cf.falls x.f3 kk = _
                    unfold Cf.falls
                    rw [decide_eq_true hk1, ← hj]; rfl)
                  clear hj
                  simp only [Int.toNat_natCast] at hn hn2
                  cases hq : decide (rd x.f3 (kk : Int) ≤ rd x.f3 (j : Int)) with
                  | true =>
                    go_wp2
                    go_quiet (fail)
                    go_wp2
                    go_ret
                    refine ⟨?_, Cf.up DB.out (pw_below_drewN BW.out _)⟩
                    rw [HR.out, if_pos (Cf.range_hit (Cf.falls x.f3) x.f3.length kk hlt (HQ.out.trans hq))]
                    try rfl
                  | false =>
                    go_wp2
                    go_quiet (fail)
                    go_wp2
                    go_roundg (x.f3.length - (kk + 1))
                    case measure => omega
                    case rel =>
                      refine ⟨kk + 1, by omega, by omega, by omega, by go_num, pw_below_drewN BW.out _, (show Aside _ from fun j hj hl => ?_)⟩
                      by_cases e : j = kk
                      · subst e
                        exact HQ.out.trans hq
                      · exact AA.out j (by omega) hl
                · have hltz : ¬ (kk : Int) < (x.f3.length : Int) := by omega
                  go_wp2
                  go_ret
                  refine ⟨?_, Cf.up DB.out BW.out⟩
                  rw [HR.out, if_neg (by rw [Cf.range_miss (Cf.falls x.f3) x.f3.length (fun j hj => AA.out j (by omega) hj)]; simp)]
                  try rfl
theorem Cf.vers (a : Int) (w : World) : Calls Try.prog 102 #[.int .i64 a] w fun e w' => e = .returned (.bool (Cf.inB a 0 1000000)) ∧ Below w.heap.size w w' := (spec_l5Version.calls a _ w (Cf.version_is a)).mono (fun _ _ h => ⟨h.1, h.2.below⟩)
theorem Cf.code_b {v : Int} {l1 : List S36} {l2 : List S64} {r : Int} (hr : r = Cf.code v l1 l2) (h0 : Cf.inB v 0 1000000 = true) (h1 : ¬ (l1.length : Int) > 8) (h2 : ¬ (l2.length : Int) > 4) : r = if Cf.first (Cf.bcode l1) 0 l1.length = 0 then Cf.first (Cf.vcode l1 l2) 0 l2.length else Cf.first (Cf.bcode l1) 0 l1.length := by
  rw [hr]; unfold Cf.code
  rw [h0, if_neg (by simp), if_neg (by rw [decide_eq_false h1, decide_eq_false h2]; simp)]
theorem Cf.code_hit {v : Int} {l1 : List S36} {l2 : List S64} {r : Int} (hr : r = if Cf.first (Cf.bcode l1) 0 l1.length = 0 then Cf.first (Cf.vcode l1 l2) 0 l2.length else Cf.first (Cf.bcode l1) 0 l1.length) (kk : Nat) (hk : kk < l1.length) (hn : Cf.bcode l1 kk ≠ 0) (h : ∀ j, j < kk → Cf.bcode l1 j = 0) : r = Cf.bcode l1 kk := by
  have e := Cf.first_hit (Cf.bcode l1) l1.length 0 kk hk (by simpa using hn) (fun j hj => by simpa using h j hj)
  rw [Nat.zero_add] at e
  rw [hr, e, if_neg hn]
theorem Cf.code_v {l1 : List S36} {l2 : List S64} {r : Int} (hr : r = if Cf.first (Cf.bcode l1) 0 l1.length = 0 then Cf.first (Cf.vcode l1 l2) 0 l2.length else Cf.first (Cf.bcode l1) 0 l1.length) (h : ∀ j, j < l1.length → Cf.bcode l1 j = 0) : r = Cf.first (Cf.vcode l1 l2) 0 l2.length := by
  rw [hr, if_pos (Cf.first_miss _ _ _ (fun j hj => by simpa using h j hj))]
theorem Cf.vhit {l1 : List S36} {l2 : List S64} {r : Int} (hr : r = Cf.first (Cf.vcode l1 l2) 0 l2.length) (kk : Nat) (hk : kk < l2.length) (hn : Cf.vcode l1 l2 kk ≠ 0) (h : ∀ j, j < kk → Cf.vcode l1 l2 j = 0) : r = Cf.vcode l1 l2 kk := by
  have e := Cf.first_hit (Cf.vcode l1 l2) l2.length 0 kk hk (by simpa using hn) (fun j hj => by simpa using h j hj)
  rw [Nat.zero_add] at e
  rw [hr, e]
theorem Cf.vmiss {l1 : List S36} {l2 : List S64} {r : Int} (hr : r = Cf.first (Cf.vcode l1 l2) 0 l2.length) (h : ∀ j, j < l2.length → Cf.vcode l1 l2 j = 0) : r = 0 := by
  rw [hr]; exact Cf.first_miss _ _ _ (fun j hj => by simpa using h j hj)
theorem Cf.bcode_3 {l1 : List S36} {i : Nat} (h : Cf.isb (l1.getD i z36) = false) : Cf.bcode l1 i = 3 := by unfold Cf.bcode; rw [if_pos h]
theorem Cf.bcode_1 {l1 : List S36} {i : Nat} (h : Cf.isb (l1.getD i z36) = true) (hi : 0 < i) (h1 : decide ((l1.getD i z36).f0 ≤ (l1.getD (i - 1) z36).f0) = true) : Cf.bcode l1 i = 1 := by unfold Cf.bcode; rw [if_neg (by rw [h]; simp), decide_eq_true hi, h1]; rfl
theorem Cf.bcode_0 {l1 : List S36} {i : Nat} (h : Cf.isb (l1.getD i z36) = true) (h1 : (decide (0 < i) && decide ((l1.getD i z36).f0 ≤ (l1.getD (i - 1) z36).f0)) = false) : Cf.bcode l1 i = 0 := by unfold Cf.bcode; rw [if_neg (by rw [h]; simp), h1]; rfl
set_option maxHeartbeats 8000000 in
set_option maxRecDepth 100000 in
/-- What is not right of a configuration. -/
theorem spec_l5Fault.cf (g : Nat) (A1 : Option Addr) (c1 : Nat) (l1 : List S36) (A2 : Option Addr) (c2 : Nat) (l2 : List S64) (v : Int) (w : World) (hb : w.heap[g]? = some (.cells #[.int .i64 v, .slice A1 l1.length c1, .slice A2 l2.length c2] 31 (0, 0))) (hr1 : Kd.C k36 w A1 l1.length l1) (hr2 : Kd.C k64 w A2 l2.length l2) :
    Calls Try.prog 50 #[.pointer (some ⟨g, 0, none⟩)] w fun e w' => e = .returned (.int .i64 (Cf.code v l1 l2)) ∧ Below w.heap.size w w' := by
  have hu36 := Try.underlying36
  have hu31 := Try.underlying31
  obtain ⟨r, hr⟩ : ∃ r, r = Cf.code v l1 l2 := ⟨_, rfl⟩
  rw [← hr]
  have hbig1 : l1.length ≤ 9223372036854775807 := by have := hr1.2.1; have hs : (k36).sz = 5 := rfl; (try simp only [maxLen] at this); (try rw [hs] at this); omega
  have hbig2 : l2.length ≤ 9223372036854775807 := by have := hr2.2.1; have hs : (k64).sz = 4 := rfl; (try simp only [maxLen] at this); (try rw [hs] at this); omega
  have z0 : w.cell? ⟨g, 0, none⟩ = some (.int .i64 v) := blk_cell hb 0
  have D1 : Aside0 (w.heap[g]? = some (.cells #[.int .i64 v, .slice A1 l1.length c1, .slice A2 l2.length c2] 31 (0, 0))) := ⟨hb⟩
  have D2 : Aside0 (Kd.C k36 w A1 l1.length l1) := ⟨hr1⟩
  have D3 : Aside0 (Kd.C k64 w A2 l2.length l2) := ⟨hr2⟩
  clear hb hr1 hr2
  have h0 := Cf.vers v
  go_enter Try.func50, Try.ntmps50
  cases e0 : Cf.inB v 0 1000000 with
  | false =>
    simp only [e0] at h0
    go_wp2_with (go_at_call 102; refine (h0 _).mono ?_; rintro e w2 ⟨rfl, hb2⟩)
    go_ret
    exact ⟨by rw [hr]; unfold Cf.code; rw [e0]; rfl, hb2⟩
  | true =>
    simp only [e0] at h0
    by_cases hm : (l1.length : Int) > 8
    · have hm0 : decide ((8 : Int) < (l1.length : Int)) = true := decide_eq_true hm
      go_wp2_with (go_at_call 102; refine (h0 _).mono ?_; rintro e w2 ⟨rfl, hb2⟩; have z1 := blk_cell (blk_below D1.out hb2) 1)
      go_ret
      exact ⟨by rw [hr]; unfold Cf.code; rw [e0, if_neg (by simp), if_pos (by rw [decide_eq_true hm]; rfl)]; rfl, hb2⟩
    have hm0 : decide ((8 : Int) < (l1.length : Int)) = false := decide_eq_false hm
    by_cases hm2 : (l2.length : Int) > 4
    · have hm20 : decide ((4 : Int) < (l2.length : Int)) = true := decide_eq_true hm2
      go_wp2_with (go_at_call 102; refine (h0 _).mono ?_; rintro e w2 ⟨rfl, hb2⟩; have z1 := blk_cell (blk_below D1.out hb2) 1; have z2 := blk_cell (blk_below D1.out hb2) 2)
      go_ret
      exact ⟨by rw [hr]; unfold Cf.code; rw [e0, if_neg (by simp), if_pos (by rw [decide_eq_true hm2]; simp)]; rfl, hb2⟩
    have hm20 : decide ((4 : Int) < (l2.length : Int)) = false := decide_eq_false hm2
    have HR := Aside0.mk (Cf.code_b hr e0 hm hm2)
    clear hr
    go_wp2_with (go_at_call 102; refine (h0 _).mono ?_; rintro e w2 ⟨rfl, hb2⟩; have z1 := blk_cell (blk_below D1.out hb2) 1; have z2 := blk_cell (blk_below D1.out hb2) 2)
    go_loopg [3] l1.length (fun gg s3 wr => ∃ kk : Nat, kk ≤ l1.length ∧ l1.length - kk ≤ gg ∧ s3 = .int .i64 kk ∧ Aside (Below w.heap.size w wr) ∧ Aside (∀ j, j < kk → Cf.bcode l1 j = 0))
    case atStart => exact ⟨0, Nat.zero_le _, by omega, rfl, hb2, fun j hj => absurd hj (Nat.not_lt_zero _)⟩
    case round =>
      clear z1 z2 hb2 h0
      obtain ⟨kk, hkk, hg, rfl, BW, AA⟩ := hrel
      have z1 : wr.cell? ⟨g, 1, none⟩ = some (.slice A1 l1.length c1) := blk_cell (blk_below D1.out BW.out) 1
      by_cases hlt : kk < l1.length
      · have hltz : (kk : Int) < (l1.length : Int) := by omega
        obtain ⟨ad, eA, hx_0, hx_1, hx_2, hx_3, hx_4⟩ := at_T36 (Kd.C_below D2.out BW.out) (kk : Int) (by omega) hltz
        cases eA
        have hy : l1.getD kk z36 = rd_T36 l1 (kk : Int) := rfl
        generalize rd_T36 l1 (kk : Int) = y at hx_0 hx_1 hx_2 hx_3 hx_4 hy
        have B : Aside (l1.getD kk z36 = y) := hy
        clear hy
        simp only [Int.toNat_natCast] at hx_0 hx_1 hx_2 hx_3 hx_4
        have hc := fun (W : World) => spec_l5Backend.calls y.f0 y.f1 y.f2 y.f3 y.f4 _ W (Cf.backend_is y)
        cases hq : Cf.isb y with
        | false =>
          simp only [hq] at hc
          go_wp2_with (go_at_call 103; refine (hc _).mono ?_; rintro e w3 ⟨rfl, hb3⟩)
          go_ret
          exact ⟨by rw [Cf.code_hit (v := v) HR.out kk hlt (by rw [Cf.bcode_3 (by rw [B.out]; exact hq)]; simp) AA.out, Cf.bcode_3 (by rw [B.out]; exact hq)]; rfl, Cf.up BW.out hb3⟩
        | true =>
          simp only [hq] at hc
          by_cases hk0 : 0 < kk
          · have hg0 : decide ((0 : Int) < (kk : Int)) = true := decide_eq_true (by omega)
            obtain ⟨j, hj⟩ : ∃ j, j = kk - 1 := ⟨_, rfl⟩
            have hwj : IntKind.i64.wrap ((kk : Int) - 1) = (j : Int) := by rw [IntKind.wrap_i64]; omega
            have hjl : (j : Int) < (l1.length : Int) := by omega
            have C : Aside (l1.getD (kk - 1) z36 = rd_T36 l1 (j : Int)) := (by rw [← hj]; rfl)
            clear hj
            cases hle : decide (y.f0 ≤ (rd_T36 l1 (j : Int)).f0) with
            | true =>
              go_wp2_with (go_at_call 103; refine (hc _).mono ?_; rintro e w3 ⟨rfl, hb3⟩; replace hb3 := Cf.up BW.out hb3; clear z1 hx_0 hx_1 hx_2 hx_3 hx_4; have z1 := blk_cell (blk_below D1.out hb3) 1; obtain ⟨ad1, eA1, hx_0, hx_1, hx_2, hx_3, hx_4⟩ := at_T36 (Kd.C_below D2.out hb3) (kk : Int) (by omega) hltz; cases eA1; obtain ⟨ad2, eA2, px_0, px_1, px_2, px_3, px_4⟩ := at_T36 (Kd.C_below D2.out hb3) (j : Int) (by omega) hjl; cases eA2; simp only [Int.toNat_natCast] at hx_0 px_0; have hy0 : (rd_T36 l1 (kk : Int)).f0 = y.f0 := (congrArg S36.f0 B.out); rw [hy0] at hx_0; clear hy0)
              go_quiet (fail)
              go_wp2
              go_ret
              have hbc : Cf.bcode l1 kk = 1 := Cf.bcode_1 (by rw [B.out]; exact hq) hk0 (by rw [B.out, C.out]; exact hle)
              exact ⟨by rw [Cf.code_hit (v := v) HR.out kk hlt (by rw [hbc]; simp) AA.out, hbc]; rfl, pw_below_drewN hb3 _⟩
            | false =>
              go_wp2_with (go_at_call 103; refine (hc _).mono ?_; rintro e w3 ⟨rfl, hb3⟩; replace hb3 := Cf.up BW.out hb3; clear z1 hx_0 hx_1 hx_2 hx_3 hx_4; have z1 := blk_cell (blk_below D1.out hb3) 1; obtain ⟨ad1, eA1, hx_0, hx_1, hx_2, hx_3, hx_4⟩ := at_T36 (Kd.C_below D2.out hb3) (kk : Int) (by omega) hltz; cases eA1; obtain ⟨ad2, eA2, px_0, px_1, px_2, px_3, px_4⟩ := at_T36 (Kd.C_below D2.out hb3) (j : Int) (by omega) hjl; cases eA2; simp only [Int.toNat_natCast] at hx_0 px_0; have hy0 : (rd_T36 l1 (kk : Int)).f0 = y.f0 := (congrArg S36.f0 B.out); rw [hy0] at hx_0; clear hy0)
              go_quiet (fail)
              go_wp2
              have hbc : Cf.bcode l1 kk = 0 := Cf.bcode_0 (by rw [B.out]; exact hq) (by rw [B.out, C.out, hle]; simp)
              go_roundg (l1.length - (kk + 1))
              case measure => omega
              case rel =>
                refine ⟨kk + 1, by omega, by omega, by go_num, pw_below_drewN hb3 _, (show Aside _ from fun j hj => ?_)⟩
                by_cases e : j = kk
                · subst e; exact hbc
                · exact AA.out j (by omega)
          · have hg0 : decide ((0 : Int) < (kk : Int)) = false := decide_eq_false (by omega)
            go_wp2_with (go_at_call 103; refine (hc _).mono ?_; rintro e w3 ⟨rfl, hb3⟩; replace hb3 := Cf.up BW.out hb3)
            go_quiet (fail)
            go_wp2
            have hbc : Cf.bcode l1 kk = 0 := Cf.bcode_0 (by rw [B.out]; exact hq) (by rw [decide_eq_false hk0]; rfl)
            go_roundg (l1.length - (kk + 1))
            case measure => omega
            case rel =>
              refine ⟨kk + 1, by omega, by omega, by go_num, pw_below_drewN hb3 _, (show Aside _ from fun j hj => ?_)⟩
              by_cases e : j = kk
              · subst e; exact hbc
              · exact AA.out j (by omega)
      · have hltz : ¬ (kk : Int) < (l1.length : Int) := by omega
        have : kk = l1.length := by omega
        subst this
        have HV := Aside0.mk (Cf.code_v HR.out AA.out)
        have BW0 : Aside0 (Below w.heap.size w wr) := ⟨BW.out⟩
        clear AA BW hg hkk hlt HR
        go_wp2
        go_loopg [4] l2.length (fun gg s4 wr => ∃ kk : Nat, kk ≤ l2.length ∧ l2.length - kk ≤ gg ∧ s4 = .int .i64 kk ∧ Aside (Below w.heap.size w wr) ∧ Aside (∀ j, j < kk → Cf.vcode l1 l2 j = 0))
        case atStart => exact ⟨0, Nat.zero_le _, by omega, rfl, BW0.out, fun j hj => absurd hj (Nat.not_lt_zero _)⟩
        case round =>
          clear z1 BW0
          obtain ⟨kk, hkk, hg, rfl, BW, AA⟩ := hrel
          have z2 := blk_cell (blk_below D1.out BW.out) 2
          by_cases hlt : kk < l2.length
          · have hltz : (kk : Int) < (l2.length : Int) := by omega
            have hc := spec_l5Vip.cf g A1 c1 l1 A2 c2 l2 v kk wr (blk_below D1.out BW.out) (Kd.C_below D2.out BW.out) (Kd.C_below D3.out BW.out) hlt
            obtain ⟨q, hq⟩ : ∃ q, q = Cf.vcode l1 l2 kk := ⟨_, rfl⟩
            rw [← hq] at hc
            have HQ := Aside0.mk hq
            clear hq
            by_cases hq0 : q = 0
            · have hq1 : (q != 0) = false := bne_eq_false_iff_eq.mpr hq0
              go_wp2_with (go_at_call 104; refine hc.mono ?_; rintro e w3 ⟨rfl, hb3⟩)
              go_roundg (l2.length - (kk + 1))
              case measure => omega
              case rel =>
                refine ⟨kk + 1, by omega, by omega, by go_num, Cf.up BW.out hb3, (show Aside _ from fun j hj => ?_)⟩
                by_cases e : j = kk
                · subst e; exact HQ.out.symm.trans hq0
                · exact AA.out j (by omega)
            · have hq1 : (q != 0) = true := bne_iff_ne.mpr hq0
              go_wp2_with (go_at_call 104; refine hc.mono ?_; rintro e w3 ⟨rfl, hb3⟩)
              go_ret
              exact ⟨by rw [Cf.vhit HV.out kk hlt (fun h => hq0 (HQ.out.trans h)) AA.out, ← HQ.out]; rfl, Cf.up BW.out hb3⟩
          · have hltz : ¬ (kk : Int) < (l2.length : Int) := by omega
            go_wp2
            go_ret
            exact ⟨by rw [Cf.vmiss HV.out (fun j hj => AA.out j (by omega))]; rfl, BW.out⟩
set_option maxHeartbeats 8000000 in
/-- What is not right of a configuration, the configuration handed over by value. -/
theorem spec_ConfigFault.cf (A1 : Option Addr) (c1 : Nat) (l1 : List S36) (A2 : Option Addr) (c2 : Nat) (l2 : List S64) (v : Int) (w : World) (hr1 : Kd.C k36 w A1 l1.length l1) (hr2 : Kd.C k64 w A2 l2.length l2) :
    Calls Try.prog 13 #[.agg #[.int .i64 v, .slice A1 l1.length c1, .slice A2 l2.length c2]] w fun e w' => e = .returned (.int .i64 (Cf.code v l1 l2)) ∧ Below w.heap.size w w' := by
  have hu31 := Try.underlying31
  obtain ⟨w1, hw1⟩ : ∃ W, W = w.alloc (.cells #[.int .i64 v, .slice A1 l1.length c1, .slice A2 l2.length c2] 31) := ⟨_, rfl⟩
  have hB1 : Below w.heap.size w w1 := by rw [hw1]; exact (Below.refl _ w).alloc (Nat.le_refl _) _
  have hcall := spec_l5Fault.cf w.heap.size A1 c1 l1 A2 c2 l2 v w1 (by rw [hw1]; exact blk_new w _) (Kd.C_below hr1 hB1) (Kd.C_below hr2 hB1)
  rw [hw1] at hcall
  go_enter Try.func13, Try.ntmps13
  go_wp2_with (go_at_call 50; refine hcall.mono ?_; rintro e w2 ⟨rfl, hb2⟩; rw [← hw1] at hb2)
  go_ret
  exact ⟨rfl, Cf.up hB1 hb2⟩
def Cf.flowB (a b c d e : Int) : Bool := Cf.inB a 0 4294967295 && (Cf.inB b 0 4294967295 && (Cf.prB c && (Cf.inB d 0 65535 && Cf.inB e 0 65535)))
def Cf.isVip (ta port pr : Int) (x : S64) : Bool := (x.f0 == ta) && ((x.f1 == port) && (x.f2 == pr))
def Cf.vplace (l : List S64) (ta port pr : Int) : Int := Go.Proofs.Ytfmlhpoaipeoeaa.Ix.ixFrom (Cf.isVip ta port pr) l 0
def Cf.vfcd (v : Int) (l1 : List S36) (l2 : List S64) (a b c d e : Int) : Int := if Cf.code v l1 l2 ≠ 0 then Cf.code v l1 l2 else if Cf.flowB a b c d e = false then 3 else if Cf.vplace l2 b e c < 0 then 4 else 0
def Cf.vfval (v : Int) (l1 : List S36) (l2 : List S64) (a b c d e : Int) : Int := if Cf.code v l1 l2 ≠ 0 then 0 else if Cf.flowB a b c d e = false then 0 else if Cf.vplace l2 b e c < 0 then 0 else Cf.vplace l2 b e c
theorem Cf.put2 {w : World} {g : Nat} {t : TypeId} {u0 u1 : Value} (h : w.heap[g]? = some (.cells #[u0, u1] t (0, 0))) (v0 v1 : Value) :
    ((w.setCell ⟨g, 0, none⟩ v0).setCell ⟨g, 1, none⟩ v1).heap[g]? = some (.cells #[v0, v1] t (0, 0)) := by
  refine blk_put (cs := #[v0, u1]) ?_ 1 _ rfl
  exact blk_put (cs := #[u0, u1]) h 0 _ rfl
theorem Cf.l3Flow_is (a b c d e : Int) : spec_l3Flow.f a b c d e = some (Cf.flowB a b c d e) := by
  unfold spec_l3Flow.f Cf.flowB
  simp only [Cf.addr_is, Cf.port_is, Option.bind_some]
  have hp : Cf.prB c = (decide (c = 6) || decide (c = 17)) := rfl
  rw [hp]
  generalize Cf.inB a 0 4294967295 = x1
  generalize Cf.inB b 0 4294967295 = x2
  generalize Cf.inB d 0 65535 = x4
  generalize Cf.inB e 0 65535 = x5
  by_cases h6 : c = 6
  · simp only [h6, if_true]; cases x1 <;> cases x2 <;> cases x4 <;> cases x5 <;> rfl
  · by_cases h7 : c = 17
    · simp only [h7]; cases x1 <;> cases x2 <;> cases x4 <;> cases x5 <;> rfl
    · simp only [h6, h7, if_false, decide_false]; cases x1 <;> cases x2 <;> cases x4 <;> cases x5 <;> rfl
theorem Cf.l3f (a b c d e : Int) (w : World) : Calls Try.prog 66 #[.agg #[.int .i64 a, .int .i64 b, .int .i64 c, .int .i64 d, .int .i64 e]] w fun e_ w' => e_ = .returned (.bool (Cf.flowB a b c d e)) ∧ Below w.heap.size w w' := (spec_l3Flow.calls a b c d e _ w (Cf.l3Flow_is a b c d e)).mono (fun _ _ h => ⟨h.1, by first | exact h.2 | exact h.2.below⟩)
set_option maxHeartbeats 4000000 in
set_option maxRecDepth 100000 in
/-- The place of the vip of a flow. -/
theorem spec_l5For.cf (g : Nat) (A1 : Option Addr) (n1 c1 : Nat) (A2 : Option Addr) (c2 : Nat) (l2 : List S64) (v a b c d e : Int) (w : World) (hb : w.heap[g]? = some (.cells #[.int .i64 v, .slice A1 n1 c1, .slice A2 l2.length c2] 31 (0, 0))) (hr2 : Kd.C k64 w A2 l2.length l2) :
    Calls Try.prog 67 #[.pointer (some ⟨g, 0, none⟩), .agg #[.int .i64 a, .int .i64 b, .int .i64 c, .int .i64 d, .int .i64 e]] w fun e' w' => e' = .returned (.int .i64 (Cf.vplace l2 b e c)) ∧ Below w.heap.size w w' := by
  have hu64 := Try.underlying64
  have hu47 := Try.underlying47
  have hbig : l2.length ≤ 9223372036854775807 := by have := hr2.2.1; have hs : (k64).sz = 4 := rfl; (try simp only [maxLen] at this); (try rw [hs] at this); omega
  obtain ⟨w1, hw1⟩ : ∃ W, W = w.alloc (.cells #[.int .i64 a, .int .i64 b, .int .i64 c, .int .i64 d, .int .i64 e] 47) := ⟨_, rfl⟩
  have hB1 : Below w.heap.size w w1 := by rw [hw1]; exact (Below.refl _ w).alloc (Nat.le_refl _) _
  have D1 : Aside0 (w1.heap[g]? = some (.cells #[.int .i64 v, .slice A1 n1 c1, .slice A2 l2.length c2] 31 (0, 0))) := ⟨blk_below hb hB1⟩
  have D3 : Aside0 (Kd.C k64 w1 A2 l2.length l2) := ⟨Kd.C_below hr2 hB1⟩
  have DF : Aside0 (w1.heap[w.heap.size]? = some (.cells #[.int .i64 a, .int .i64 b, .int .i64 c, .int .i64 d, .int .i64 e] 47 (0, 0))) := ⟨by rw [hw1]; exact blk_new w _⟩
  have DB : Aside0 (Below w.heap.size w w1) := ⟨hB1⟩
  clear hb hr2 hB1
  go_enter Try.func67, Try.ntmps67
  go_wp2
  go_loopg [5, 6] l2.length (fun gg s5 _ wr => ∃ kk : Nat, kk ≤ l2.length ∧ l2.length - kk ≤ gg ∧ s5 = .int .i64 kk ∧ Aside (Below w1.heap.size w1 wr) ∧ Aside (∀ j, j < kk → Cf.isVip b e c (l2.getD j z64) = false))
  case atStart => exact ⟨0, Nat.zero_le _, by omega, rfl, (show Below w1.heap.size w1 _ by rw [hw1]; exact Below.refl _ _), fun j hj => absurd hj (Nat.not_lt_zero _)⟩
  case round =>
    clear hw1
    obtain ⟨kk, hkk, hg, rfl, BW, AA⟩ := hrel
    have z2 : wr.cell? ⟨g, 2, none⟩ = some (.slice A2 l2.length c2) := blk_cell (blk_below D1.out BW.out) 2
    by_cases hlt : kk < l2.length
    · have hltz : (kk : Int) < (l2.length : Int) := by omega
      obtain ⟨ad, A3, c3, eA, hx_0, hx_1, hx_2, hx_3, hl3, hC3⟩ := at_T64 (Kd.C_below D3.out BW.out) (kk : Int) (by omega) hltz
      cases eA
      have hy : l2.getD kk z64 = rd_T64 l2 (kk : Int) := rfl
      generalize rd_T64 l2 (kk : Int) = y at hx_0 hx_1 hx_2 hx_3 hl3 hC3 hy
      have B : Aside (l2.getD kk z64 = y) := hy
      clear hy hC3 hl3
      simp only [Int.toNat_natCast] at hx_0 hx_1 hx_2 hx_3
      have HWB : Below wr.heap.size wr (wr.alloc (.cells #[.int .i64 y.f0, .int .i64 y.f1, .int .i64 y.f2, .slice A3 y.f3.length c3] 64)) := (Below.refl _ wr).alloc (Nat.le_refl _) _
      have hf := blk_below (blk_below DF.out BW.out) HWB
      have q1 := blk_cell hf 1
      have q2 := blk_cell hf 2
      have q4 := blk_cell hf 4
      clear hf
      cases h0 : (y.f0 == b) with
      | false =>
        have hv : Cf.isVip b e c y = false := by unfold Cf.isVip; rw [h0]; rfl
        go_wp2
        go_roundg (l2.length - (kk + 1))
        case measure => omega
        case rel =>
          refine ⟨kk + 1, by omega, by omega, by go_num, Cf.up BW.out HWB, (show Aside _ from fun j hj => ?_)⟩
          by_cases e : j = kk
          · subst e; rw [B.out]; exact hv
          · exact AA.out j (by omega)
      | true =>
        cases h1 : (y.f1 == e) with
        | false =>
          have hv : Cf.isVip b e c y = false := by unfold Cf.isVip; rw [h0, h1]; rfl
          go_wp2
          go_roundg (l2.length - (kk + 1))
          case measure => omega
          case rel =>
            refine ⟨kk + 1, by omega, by omega, by go_num, Cf.up BW.out HWB, (show Aside _ from fun j hj => ?_)⟩
            by_cases e : j = kk
            · subst e; rw [B.out]; exact hv
            · exact AA.out j (by omega)
        | true =>
          cases h2 : (y.f2 == c) with
          | false =>
            have hv : Cf.isVip b e c y = false := by unfold Cf.isVip; rw [h0, h1, h2]; rfl
            go_wp2
            go_roundg (l2.length - (kk + 1))
            case measure => omega
            case rel =>
              refine ⟨kk + 1, by omega, by omega, by go_num, Cf.up BW.out HWB, (show Aside _ from fun j hj => ?_)⟩
              by_cases e : j = kk
              · subst e; rw [B.out]; exact hv
              · exact AA.out j (by omega)
          | true =>
            have hv : Cf.isVip b e c y = true := by unfold Cf.isVip; rw [h0, h1, h2]; rfl
            go_wp2
            go_ret
            refine ⟨?_, Cf.up DB.out (Cf.up BW.out HWB)⟩
            unfold Cf.vplace
            rw [Go.Proofs.Ytfmlhpoaipeoeaa.Ix.ixFrom_hit (Cf.isVip b e c) z64 l2 0 kk hlt (by rw [B.out]; exact hv) AA.out]
            simp
    · have hltz : ¬ (kk : Int) < (l2.length : Int) := by omega
      have : kk = l2.length := by omega
      subst this
      go_wp2
      go_ret
      refine ⟨?_, Cf.up DB.out BW.out⟩
      unfold Cf.vplace
      rw [Go.Proofs.Ytfmlhpoaipeoeaa.Ix.ixFrom_miss (Cf.isVip b e c) z64 l2 0 AA.out]
      rfl
set_option maxHeartbeats 8000000 in
set_option maxRecDepth 100000 in
theorem spec_VipFor.cf (A1 : Option Addr) (c1 : Nat) (l1 : List S36) (A2 : Option Addr) (c2 : Nat) (l2 : List S64) (v a b c d e : Int) (w : World) (hr1 : Kd.C k36 w A1 l1.length l1) (hr2 : Kd.C k64 w A2 l2.length l2) :
    Calls Try.prog 20 #[.agg #[.int .i64 v, .slice A1 l1.length c1, .slice A2 l2.length c2], .agg #[.int .i64 a, .int .i64 b, .int .i64 c, .int .i64 d, .int .i64 e]] w fun e_ w' => e_ = .returned (.agg #[.int .i64 (Cf.vfcd v l1 l2 a b c d e), .int .i64 (Cf.vfval v l1 l2 a b c d e)]) ∧ Below w.heap.size w w' := by
  have hu31 := Try.underlying31
  have hu47 := Try.underlying47
  have hu45 := Try.underlying45
  obtain ⟨w1, hw1⟩ : ∃ W, W = ((w.alloc (.cells #[.int .i64 v, .slice A1 l1.length c1, .slice A2 l2.length c2] 31)).alloc (.cells #[.int .i64 a, .int .i64 b, .int .i64 c, .int .i64 d, .int .i64 e] 47)).alloc (.cells #[.int .i64 0, .int .i64 0] 45) := ⟨_, rfl⟩
  have hs1 : w1.heap.size = w.heap.size + 3 := by rw [hw1]; simp
  have hB1 : Below w.heap.size w w1 := by rw [hw1]; exact ((((Below.refl _ w).alloc (Nat.le_refl _) _).alloc (by simp) _).alloc (by simp; omega) _)
  have bg1 : w1.heap[w.heap.size]? = some (.cells #[.int .i64 v, .slice A1 l1.length c1, .slice A2 l2.length c2] 31 (0, 0)) := by rw [hw1]; exact blk_alloc (blk_alloc (blk_new w _) _) _
  have bf1 : w1.heap[w.heap.size + 1]? = some (.cells #[.int .i64 a, .int .i64 b, .int .i64 c, .int .i64 d, .int .i64 e] 47 (0, 0)) := by
    rw [hw1]
    have h_ := heap_alloc_new (w.alloc (.cells #[.int .i64 v, .slice A1 l1.length c1, .slice A2 l2.length c2] 31)) (.cells #[.int .i64 a, .int .i64 b, .int .i64 c, .int .i64 d, .int .i64 e] 47)
    rw [World.size_alloc] at h_
    exact blk_alloc h_ _
  have bk1 : w1.heap[w.heap.size + 2]? = some (.cells #[.int .i64 0, .int .i64 0] 45 (0, 0)) := by
    rw [hw1]
    have h_ := heap_alloc_new ((w.alloc (.cells #[.int .i64 v, .slice A1 l1.length c1, .slice A2 l2.length c2] 31)).alloc (.cells #[.int .i64 a, .int .i64 b, .int .i64 c, .int .i64 d, .int .i64 e] 47)) (.cells #[.int .i64 0, .int .i64 0] 45)
    rwa [World.size_alloc, World.size_alloc] at h_
  have hr11 := Kd.C_below hr1 hB1
  have hr21 := Kd.C_below hr2 hB1
  have hcallF := spec_l5Fault.cf w.heap.size A1 c1 l1 A2 c2 l2 v w1 bg1 hr11 hr21
  rw [hw1] at hcallF
  obtain ⟨q, hq⟩ : ∃ q, q = Cf.code v l1 l2 := ⟨_, rfl⟩
  rw [← hq] at hcallF
  obtain ⟨rc, hrc⟩ : ∃ r, r = Cf.vfcd v l1 l2 a b c d e := ⟨_, rfl⟩
  obtain ⟨rv, hrv⟩ : ∃ r, r = Cf.vfval v l1 l2 a b c d e := ⟨_, rfl⟩
  rw [← hrc, ← hrv]
  unfold Cf.vfcd at hrc
  unfold Cf.vfval at hrv
  rw [← hq] at hrc hrv
  clear hq
  have hcallL := fun (W : World) => Cf.l3f a b c d e W
  have hcallB := fun (W : World) (hW : Below w1.heap.size w1 W) => spec_l5For.cf w.heap.size A1 l1.length c1 A2 c2 l2 v a b c d e W (blk_below bg1 hW) (Kd.C_below hr21 hW)
  obtain ⟨p, hp⟩ : ∃ p, p = Cf.vplace l2 b e c := ⟨_, rfl⟩
  rw [← hp] at hrc hrv
  simp only [← hp] at hcallB
  clear hp
  obtain ⟨fl, hfl⟩ : ∃ p, p = Cf.flowB a b c d e := ⟨_, rfl⟩
  rw [← hfl] at hrc hrv
  simp only [← hfl] at hcallL
  clear hfl
  go_enter Try.func20, Try.ntmps20
  by_cases hq0 : q = 0
  · have hq1 : (q != 0) = false := bne_eq_false_iff_eq.mpr hq0
    have hq2 : (q == 0) = true := beq_iff_eq.mpr hq0
    rw [if_neg (by simp [hq0])] at hrc hrv
    cases fl with
    | false =>
      rw [if_pos rfl] at hrc hrv
      go_wp2_with (first
        | (go_at_call 50; refine hcallF.mono ?_; rintro e_ w2 ⟨rfl, hb2⟩; rw [← hw1] at hb2; clear hcallF; have m0 := blk_cell (blk_below bf1 hb2) 0; have m1 := blk_cell (blk_below bf1 hb2) 1; have m2 := blk_cell (blk_below bf1 hb2) 2; have m3 := blk_cell (blk_below bf1 hb2) 3; have m4 := blk_cell (blk_below bf1 hb2) 4; have bk4 := blk_below bk1 hb2; have y0 := blk_cell bk4 0; have f0 := blk_frozen bk4 0; have y1 := blk_cell bk4 1; have f1 := blk_frozen bk4 1)
        | (go_at_call 66; refine (hcallL _).mono ?_; rintro e_ w3 ⟨rfl, hb3⟩; replace hb2 := Cf.up hb2 hb3; clear hb3; clear m0 m1 m2 m3 m4 bk4 y0 y1 f0 f1; have m0 := blk_cell (blk_below bf1 hb2) 0; have m1 := blk_cell (blk_below bf1 hb2) 1; have m2 := blk_cell (blk_below bf1 hb2) 2; have m3 := blk_cell (blk_below bf1 hb2) 3; have m4 := blk_cell (blk_below bf1 hb2) 4; have bk4 := blk_below bk1 hb2; have y0 := blk_cell bk4 0; have f0 := blk_frozen bk4 0; have y1 := blk_cell bk4 1; have f1 := blk_frozen bk4 1))
      refine bodyPost_ret (results_cell_row rfl _ _ (w.heap.size + 2) 45 #[.int .i64 3, .int .i64 0] (0, 0) _ rfl (by exact Cf.put2 bk4 _ _) Try.underlying45 rfl (by kernel_rfl)) rfl ?_
      refine ⟨by rw [hrc, hrv], ?_⟩
      have := hb2.size
      repeat (refine below_set ?_ (by show _ ≤ w.heap.size + 2; omega))
      exact Cf.up hB1 hb2
    | true =>
      rw [if_neg (by simp)] at hrc hrv
      by_cases hp0 : p < 0
      · have hp1 : decide (p < 0) = true := decide_eq_true hp0
        rw [if_pos hp0] at hrc hrv
        go_wp2_with (first
          | (go_at_call 50; refine hcallF.mono ?_; rintro e_ w2 ⟨rfl, hb2⟩; rw [← hw1] at hb2; clear hcallF; have m0 := blk_cell (blk_below bf1 hb2) 0; have m1 := blk_cell (blk_below bf1 hb2) 1; have m2 := blk_cell (blk_below bf1 hb2) 2; have m3 := blk_cell (blk_below bf1 hb2) 3; have m4 := blk_cell (blk_below bf1 hb2) 4; have bk4 := blk_below bk1 hb2; have y0 := blk_cell bk4 0; have f0 := blk_frozen bk4 0; have y1 := blk_cell bk4 1; have f1 := blk_frozen bk4 1)
          | (go_at_call 66; refine (hcallL _).mono ?_; rintro e_ w3 ⟨rfl, hb3⟩; replace hb2 := Cf.up hb2 hb3; clear hb3; clear m0 m1 m2 m3 m4 bk4 y0 y1 f0 f1; have m0 := blk_cell (blk_below bf1 hb2) 0; have m1 := blk_cell (blk_below bf1 hb2) 1; have m2 := blk_cell (blk_below bf1 hb2) 2; have m3 := blk_cell (blk_below bf1 hb2) 3; have m4 := blk_cell (blk_below bf1 hb2) 4; have bk4 := blk_below bk1 hb2; have y0 := blk_cell bk4 0; have f0 := blk_frozen bk4 0; have y1 := blk_cell bk4 1; have f1 := blk_frozen bk4 1)
          | (go_at_call 67; refine (hcallB _ hb2).mono ?_; rintro e_ w4 ⟨rfl, hb4⟩; replace hb2 := Cf.up hb2 hb4; clear hb4; clear m0 m1 m2 m3 m4 bk4 y0 y1 f0 f1; have m0 := blk_cell (blk_below bf1 hb2) 0; have m1 := blk_cell (blk_below bf1 hb2) 1; have m2 := blk_cell (blk_below bf1 hb2) 2; have m3 := blk_cell (blk_below bf1 hb2) 3; have m4 := blk_cell (blk_below bf1 hb2) 4; have bk4 := blk_below bk1 hb2; have y0 := blk_cell bk4 0; have f0 := blk_frozen bk4 0; have y1 := blk_cell bk4 1; have f1 := blk_frozen bk4 1))
        refine bodyPost_ret (results_cell_row rfl _ _ (w.heap.size + 2) 45 #[.int .i64 4, .int .i64 0] (0, 0) _ rfl (by exact Cf.put2 bk4 _ _) Try.underlying45 rfl (by kernel_rfl)) rfl ?_
        refine ⟨by rw [hrc, hrv], ?_⟩
        have := hb2.size
        repeat (refine below_set ?_ (by show _ ≤ w.heap.size + 2; omega))
        exact Cf.up hB1 hb2
      · have hp1 : decide (p < 0) = false := decide_eq_false hp0
        rw [if_neg hp0] at hrc hrv
        go_wp2_with (first
          | (go_at_call 50; refine hcallF.mono ?_; rintro e_ w2 ⟨rfl, hb2⟩; rw [← hw1] at hb2; clear hcallF; have m0 := blk_cell (blk_below bf1 hb2) 0; have m1 := blk_cell (blk_below bf1 hb2) 1; have m2 := blk_cell (blk_below bf1 hb2) 2; have m3 := blk_cell (blk_below bf1 hb2) 3; have m4 := blk_cell (blk_below bf1 hb2) 4; have bk4 := blk_below bk1 hb2; have y0 := blk_cell bk4 0; have f0 := blk_frozen bk4 0; have y1 := blk_cell bk4 1; have f1 := blk_frozen bk4 1)
          | (go_at_call 66; refine (hcallL _).mono ?_; rintro e_ w3 ⟨rfl, hb3⟩; replace hb2 := Cf.up hb2 hb3; clear hb3; clear m0 m1 m2 m3 m4 bk4 y0 y1 f0 f1; have m0 := blk_cell (blk_below bf1 hb2) 0; have m1 := blk_cell (blk_below bf1 hb2) 1; have m2 := blk_cell (blk_below bf1 hb2) 2; have m3 := blk_cell (blk_below bf1 hb2) 3; have m4 := blk_cell (blk_below bf1 hb2) 4; have bk4 := blk_below bk1 hb2; have y0 := blk_cell bk4 0; have f0 := blk_frozen bk4 0; have y1 := blk_cell bk4 1; have f1 := blk_frozen bk4 1)
          | (go_at_call 67; refine (hcallB _ hb2).mono ?_; rintro e_ w4 ⟨rfl, hb4⟩; replace hb2 := Cf.up hb2 hb4; clear hb4; clear m0 m1 m2 m3 m4 bk4 y0 y1 f0 f1; have m0 := blk_cell (blk_below bf1 hb2) 0; have m1 := blk_cell (blk_below bf1 hb2) 1; have m2 := blk_cell (blk_below bf1 hb2) 2; have m3 := blk_cell (blk_below bf1 hb2) 3; have m4 := blk_cell (blk_below bf1 hb2) 4; have bk4 := blk_below bk1 hb2; have y0 := blk_cell bk4 0; have f0 := blk_frozen bk4 0; have y1 := blk_cell bk4 1; have f1 := blk_frozen bk4 1))
        refine bodyPost_ret (results_cell_row rfl _ _ (w.heap.size + 2) 45 #[.int .i64 0, .int .i64 p] (0, 0) _ rfl (by exact Cf.put2 bk4 _ _) Try.underlying45 rfl (by kernel_rfl)) rfl ?_
        refine ⟨by rw [hrc, hrv], ?_⟩
        have := hb2.size
        repeat (refine below_set ?_ (by show _ ≤ w.heap.size + 2; omega))
        exact Cf.up hB1 hb2
  · have hq1 : (q != 0) = true := bne_iff_ne.mpr hq0
    have hq2 : (q == 0) = false := beq_eq_false_iff_ne.mpr hq0
    rw [if_pos hq0] at hrc hrv
    go_wp2_with (first
      | (go_at_call 50; refine hcallF.mono ?_; rintro e_ w2 ⟨rfl, hb2⟩; rw [← hw1] at hb2; clear hcallF; have m0 := blk_cell (blk_below bf1 hb2) 0; have m1 := blk_cell (blk_below bf1 hb2) 1; have m2 := blk_cell (blk_below bf1 hb2) 2; have m3 := blk_cell (blk_below bf1 hb2) 3; have m4 := blk_cell (blk_below bf1 hb2) 4; have bk4 := blk_below bk1 hb2; have y0 := blk_cell bk4 0; have f0 := blk_frozen bk4 0; have y1 := blk_cell bk4 1; have f1 := blk_frozen bk4 1))
    refine bodyPost_ret (results_cell_row rfl _ _ (w.heap.size + 2) 45 #[.int .i64 q, .int .i64 0] (0, 0) _ rfl (by exact Cf.put2 bk4 _ _) Try.underlying45 rfl (by kernel_rfl)) rfl ?_
    refine ⟨by rw [hrc, hrv], ?_⟩
    have := hb2.size
    repeat (refine below_set ?_ (by show _ ≤ w.heap.size + 2; omega))
    exact Cf.up hB1 hb2
def spec_VipFor.f (a0_0 : Int) (l0_1 : List (S36)) (l0_2 : List (S64)) (a1_0 : Int) (a1_1 : Int) (a1_2 : Int) (a1_3 : Int) (a1_4 : Int) : Option (Int × Int) := some (Cf.vfcd a0_0 l0_1 l0_2 a1_0 a1_1 a1_2 a1_3 a1_4, Cf.vfval a0_0 l0_1 l0_2 a1_0 a1_1 a1_2 a1_3 a1_4)
theorem spec_VipFor.calls (a0_0 : Int) (A0_1 : Option Addr) (c0_1 : Nat) (l0_1 : List (S36)) (A0_2 : Option Addr) (c0_2 : Nat) (l0_2 : List (S64)) (a1_0 : Int) (a1_1 : Int) (a1_2 : Int) (a1_3 : Int) (a1_4 : Int) (r1 : Int) (r2 : Int) (w : World) (hr0_1 : Kd.C k36 w A0_1 l0_1.length l0_1) (hc0_1 : l0_1.length ≤ c0_1) (hr0_2 : Kd.C k64 w A0_2 l0_2.length l0_2) (hc0_2 : l0_2.length ≤ c0_2) (h : spec_VipFor.f a0_0 l0_1 l0_2 a1_0 a1_1 a1_2 a1_3 a1_4 = some (r1, r2)) :
    Calls Try.prog 20 #[.agg #[.int .i64 a0_0, .slice A0_1 l0_1.length c0_1, .slice A0_2 l0_2.length c0_2], .agg #[.int .i64 a1_0, .int .i64 a1_1, .int .i64 a1_2, .int .i64 a1_3, .int .i64 a1_4]] w fun e w' => e = .returned (.agg #[.int .i64 r1, .int .i64 r2]) ∧ Below w.heap.size w w' := by
  unfold spec_VipFor.f at h
  cases h
  exact spec_VipFor.cf A0_1 c0_1 l0_1 A0_2 c0_2 l0_2 a0_0 a1_0 a1_1 a1_2 a1_3 a1_4 w hr0_1 hr0_2

/-! ### laws_toFlow: function 21 -/
def laws_toFlow.f (a0_0 : Int) (a0_1 : Int) (a0_2 : Int) (a0_3 : Int) (a0_4 : Int) : Option (Int × Int × Int × Int × Int) := some (a0_0, a0_1, a0_2, a0_3, a0_4)
set_option maxHeartbeats 8000000 in
set_option maxRecDepth 100000 in
theorem laws_toFlow.calls (a0_0 : Int) (a0_1 : Int) (a0_2 : Int) (a0_3 : Int) (a0_4 : Int) (r1 : Int) (r2 : Int) (r3 : Int) (r4 : Int) (r5 : Int) (w : World) (h : laws_toFlow.f a0_0 a0_1 a0_2 a0_3 a0_4 = some (r1, r2, r3, r4, r5)) :
    Calls Try.prog 21 #[.agg #[.int .i64 a0_0, .int .i64 a0_1, .int .i64 a0_2, .int .i64 a0_3, .int .i64 a0_4]] w fun e w' => e = .returned (.agg #[.int .i64 r1, .int .i64 r2, .int .i64 r3, .int .i64 r4, .int .i64 r5]) ∧ Below w.heap.size w w' := by
  have hu43 := Try.underlying43
  have hu47 := Try.underlying47
  have HB := Aside0.mk (Below.refl w.heap.size w)
  have H : (some (a0_0, a0_1, a0_2, a0_3, a0_4)) = some (r1, r2, r3, r4, r5) := h
  clear h
  simp only [Option.some.injEq, Prod.mk.injEq] at H
  obtain ⟨rfl, rfl, rfl, rfl, rfl⟩ := H
  go_enter Try.func21, Try.ntmps21
  go_wp2_with (first | ((with_reducible refine gate_dst (N := 1) rfl ?_); refine box_event ?hg (N := 1) ?hd (cs := #[.int .i64 a0_0, .int .i64 a0_1, .int .i64 a0_2, .int .i64 a0_3, .int .i64 a0_4]) (t := 43) ?hr ?_; (case hd => rfl); (case hg => rfl); (case hr => first | (go_simp; done) | (go_simp; rfl)); intro gb211 hg w2 hbox hb; have n0_ := Aside0.mk (below_step (by repeat (first | (with_reducible first | exact HB.out | apply below_alloc | apply pw_below_drewN | apply below_drew1) | exact HB.out)) hb); have n1_ := Aside0.mk (hbox); have n2_ := Aside0.mk ((by rw [hg]; exact (below_size (by repeat (first | (with_reducible first | exact HB.out | apply below_alloc | apply pw_below_drewN | apply below_drew1) | exact HB.out))) : w.heap.size ≤ gb211)); have n3_ := Aside0.mk ((by rw [hg]; exact (below_size (by repeat (first | (with_reducible first | exact HB.out | apply below_alloc | apply pw_below_drewN | apply below_drew1) | exact HB.out))) : w.heap.size ≤ gb211)); clear HB; have HB := n0_; have BK211 := n1_; have GW211 := n2_; have GE211 := n3_; clear n0_ n1_ n2_ n3_; clear hb hbox hg) | ((with_reducible refine gate_dst (N := 2) rfl ?_); refine box_event ?hg (N := 2) ?hd (cs := #[.int .i64 0, .int .i64 0, .int .i64 0, .int .i64 0, .int .i64 0]) (t := 47) ?hr ?_; (case hd => rfl); (case hg => rfl); (case hr => first | (go_simp; done) | (go_simp; rfl)); intro gb212 hg w3 hbox hb; have n0_ := Aside0.mk (blk_below (g := gb211) (o := .cells #[.int .i64 a0_0, .int .i64 a0_1, .int .i64 a0_2, .int .i64 a0_3, .int .i64 a0_4] 43 (0, 0)) (by (with_reducible repeat (first | refine blk_drewN ?_ _ | refine blk_drew ?_ | refine blk_alloc ?_ _)); exact BK211.out) hb); have n1_ := Aside0.mk (below_step (by repeat (first | (with_reducible first | exact HB.out | apply below_alloc | apply pw_below_drewN | apply below_drew1 | refine below_set ?_ GE211.out) | exact HB.out)) hb); have n2_ := Aside0.mk (hbox); have n3_ := Aside0.mk ((by rw [hg]; exact (below_size (by repeat (first | (with_reducible first | exact HB.out | apply below_alloc | apply pw_below_drewN | apply below_drew1 | refine below_set ?_ GE211.out) | exact HB.out))) : w.heap.size ≤ gb212)); have n4_ := Aside0.mk ((by rw [hg]; exact (below_size (by repeat (first | (with_reducible first | exact HB.out | apply below_alloc | apply pw_below_drewN | apply below_drew1 | refine below_set ?_ GE211.out) | exact HB.out))) : w.heap.size ≤ gb212)); have n5_ := Aside0.mk ((by rw [hg]; exact Nat.ne_of_lt (blk_lt (g := gb211) (o := .cells #[.int .i64 a0_0, .int .i64 a0_1, .int .i64 a0_2, .int .i64 a0_3, .int .i64 a0_4] 43 (0, 0)) (by (with_reducible repeat (first | refine blk_drewN ?_ _ | refine blk_drew ?_ | refine blk_alloc ?_ _)); exact BK211.out)) : gb211 ≠ gb212)); have n6_ := Aside0.mk ((by rw [hg]; exact Nat.ne_of_gt (blk_lt (g := gb211) (o := .cells #[.int .i64 a0_0, .int .i64 a0_1, .int .i64 a0_2, .int .i64 a0_3, .int .i64 a0_4] 43 (0, 0)) (by (with_reducible repeat (first | refine blk_drewN ?_ _ | refine blk_drew ?_ | refine blk_alloc ?_ _)); exact BK211.out)) : gb212 ≠ gb211)); clear BK211; clear HB; have BK211 := n0_; have HB := n1_; have BK212 := n2_; have GW212 := n3_; have GE212 := n4_; have NB211_212 := n5_; have NB212_211 := n6_; clear n0_ n1_ n2_ n3_ n4_ n5_ n6_; clear hb hbox hg) | ((with_reducible refine gate_dst (N := 3) rfl ?_); refine box_event ?hg (N := 3) ?hd (cs := #[.int .i64 0, .int .i64 0, .int .i64 0, .int .i64 0, .int .i64 0]) (t := 47) ?hr ?_; (case hd => rfl); (case hg => rfl); (case hr => first | (go_simp; done) | (go_simp; rfl)); intro gb213 hg w4 hbox hb; have n0_ := Aside0.mk (blk_below (g := gb211) (o := .cells #[.int .i64 a0_0, .int .i64 a0_1, .int .i64 a0_2, .int .i64 a0_3, .int .i64 a0_4] 43 (0, 0)) (by (with_reducible repeat (first | refine blk_drewN ?_ _ | refine blk_drew ?_ | refine blk_alloc ?_ _)); exact BK211.out) hb); have n1_ := Aside0.mk (blk_below (g := gb212) (o := .cells #[.int .i64 0, .int .i64 0, .int .i64 0, .int .i64 0, .int .i64 0] 47 (0, 0)) (by (with_reducible repeat (first | refine blk_drewN ?_ _ | refine blk_drew ?_ | refine blk_alloc ?_ _)); exact BK212.out) hb); have n2_ := Aside0.mk (below_step (by repeat (first | (with_reducible first | exact HB.out | apply below_alloc | apply pw_below_drewN | apply below_drew1 | refine below_set ?_ GE211.out | refine below_set ?_ GE212.out) | exact HB.out)) hb); have n3_ := Aside0.mk (hbox); have n4_ := Aside0.mk ((by rw [hg]; exact (below_size (by repeat (first | (with_reducible first | exact HB.out | apply below_alloc | apply pw_below_drewN | apply below_drew1 | refine below_set ?_ GE211.out | refine below_set ?_ GE212.out) | exact HB.out))) : w.heap.size ≤ gb213)); have n5_ := Aside0.mk ((by rw [hg]; exact (below_size (by repeat (first | (with_reducible first | exact HB.out | apply below_alloc | apply pw_below_drewN | apply below_drew1 | refine below_set ?_ GE211.out | refine below_set ?_ GE212.out) | exact HB.out))) : w.heap.size ≤ gb213)); have n6_ := Aside0.mk ((by rw [hg]; exact Nat.ne_of_lt (blk_lt (g := gb211) (o := .cells #[.int .i64 a0_0, .int .i64 a0_1, .int .i64 a0_2, .int .i64 a0_3, .int .i64 a0_4] 43 (0, 0)) (by (with_reducible repeat (first | refine blk_drewN ?_ _ | refine blk_drew ?_ | refine blk_alloc ?_ _)); exact BK211.out)) : gb211 ≠ gb213)); have n7_ := Aside0.mk ((by rw [hg]; exact Nat.ne_of_gt (blk_lt (g := gb211) (o := .cells #[.int .i64 a0_0, .int .i64 a0_1, .int .i64 a0_2, .int .i64 a0_3, .int .i64 a0_4] 43 (0, 0)) (by (with_reducible repeat (first | refine blk_drewN ?_ _ | refine blk_drew ?_ | refine blk_alloc ?_ _)); exact BK211.out)) : gb213 ≠ gb211)); have n8_ := Aside0.mk ((by rw [hg]; exact Nat.ne_of_lt (blk_lt (g := gb212) (o := .cells #[.int .i64 0, .int .i64 0, .int .i64 0, .int .i64 0, .int .i64 0] 47 (0, 0)) (by (with_reducible repeat (first | refine blk_drewN ?_ _ | refine blk_drew ?_ | refine blk_alloc ?_ _)); exact BK212.out)) : gb212 ≠ gb213)); have n9_ := Aside0.mk ((by rw [hg]; exact Nat.ne_of_gt (blk_lt (g := gb212) (o := .cells #[.int .i64 0, .int .i64 0, .int .i64 0, .int .i64 0, .int .i64 0] 47 (0, 0)) (by (with_reducible repeat (first | refine blk_drewN ?_ _ | refine blk_drew ?_ | refine blk_alloc ?_ _)); exact BK212.out)) : gb213 ≠ gb212)); clear BK211; clear BK212; clear HB; have BK211 := n0_; have BK212 := n1_; have HB := n2_; have BK213 := n3_; have GW213 := n4_; have GE213 := n5_; have NB211_213 := n6_; have NB213_211 := n7_; have NB212_213 := n8_; have NB213_212 := n9_; clear n0_ n1_ n2_ n3_ n4_ n5_ n6_ n7_ n8_ n9_; clear hb hbox hg; have hnb5 := NB211_212.out; have hnc5 := NB212_211.out; have hnb6 := NB211_213.out; have hnc6 := NB213_211.out; have hcz7_0 : w4.cell? ⟨gb211, 0, none⟩ = some (.int .i64 a0_0) := (blk_cell BK211.out 0).trans rfl; have hcz7_1 : w4.cell? ⟨gb211, 1, none⟩ = some (.int .i64 a0_1) := (blk_cell BK211.out 1).trans rfl; have hcz7_2 : w4.cell? ⟨gb211, 2, none⟩ = some (.int .i64 a0_2) := (blk_cell BK211.out 2).trans rfl; have hcz7_3 : w4.cell? ⟨gb211, 3, none⟩ = some (.int .i64 a0_3) := (blk_cell BK211.out 3).trans rfl; have hcz7_4 : w4.cell? ⟨gb211, 4, none⟩ = some (.int .i64 a0_4) := (blk_cell BK211.out 4).trans rfl; have hfz7_0 := blk_frozen BK211.out 0; have hfz7_1 := blk_frozen BK211.out 1; have hfz7_2 := blk_frozen BK211.out 2; have hfz7_3 := blk_frozen BK211.out 3; have hfz7_4 := blk_frozen BK211.out 4; have hnb8 := NB213_212.out; have hnc8 := NB212_213.out; have hcz9_0 : w4.cell? ⟨gb213, 0, none⟩ = some (.int .i64 0) := (blk_cell BK213.out 0).trans rfl; have hcz9_1 : w4.cell? ⟨gb213, 1, none⟩ = some (.int .i64 0) := (blk_cell BK213.out 1).trans rfl; have hcz9_2 : w4.cell? ⟨gb213, 2, none⟩ = some (.int .i64 0) := (blk_cell BK213.out 2).trans rfl; have hcz9_3 : w4.cell? ⟨gb213, 3, none⟩ = some (.int .i64 0) := (blk_cell BK213.out 3).trans rfl; have hcz9_4 : w4.cell? ⟨gb213, 4, none⟩ = some (.int .i64 0) := (blk_cell BK213.out 4).trans rfl; have hfz9_0 := blk_frozen BK213.out 0; have hfz9_1 := blk_frozen BK213.out 1; have hfz9_2 := blk_frozen BK213.out 2; have hfz9_3 := blk_frozen BK213.out 3; have hfz9_4 := blk_frozen BK213.out 4; have hcz10_0 : w4.cell? ⟨gb212, 0, none⟩ = some (.int .i64 0) := (blk_cell BK212.out 0).trans rfl; have hcz10_1 : w4.cell? ⟨gb212, 1, none⟩ = some (.int .i64 0) := (blk_cell BK212.out 1).trans rfl; have hcz10_2 : w4.cell? ⟨gb212, 2, none⟩ = some (.int .i64 0) := (blk_cell BK212.out 2).trans rfl; have hcz10_3 : w4.cell? ⟨gb212, 3, none⟩ = some (.int .i64 0) := (blk_cell BK212.out 3).trans rfl; have hcz10_4 : w4.cell? ⟨gb212, 4, none⟩ = some (.int .i64 0) := (blk_cell BK212.out 4).trans rfl; have hfz10_0 := blk_frozen BK212.out 0; have hfz10_1 := blk_frozen BK212.out 1; have hfz10_2 := blk_frozen BK212.out 2; have hfz10_3 := blk_frozen BK212.out 3; have hfz10_4 := blk_frozen BK212.out 4))
  refine bodyPost_ret (results_cell_row rfl _ _ gb212 47 #[.int .i64 a0_0, .int .i64 a0_1, .int .i64 a0_2, .int .i64 a0_3, .int .i64 a0_4] (0, 0) _ rfl (by (with_reducible repeat (first | refine blk_drewN ?_ _ | refine blk_drew ?_ | refine blk_alloc ?_ _)); refine blk_put (cs := #[.int .i64 a0_0, .int .i64 a0_1, .int .i64 a0_2, .int .i64 a0_3, .int .i64 0]) ?_ 4 _ rfl; (with_reducible repeat (first | refine blk_drewN ?_ _ | refine blk_drew ?_ | refine blk_alloc ?_ _)); refine blk_put (cs := #[.int .i64 a0_0, .int .i64 a0_1, .int .i64 a0_2, .int .i64 0, .int .i64 0]) ?_ 3 _ rfl; (with_reducible repeat (first | refine blk_drewN ?_ _ | refine blk_drew ?_ | refine blk_alloc ?_ _)); refine blk_put (cs := #[.int .i64 a0_0, .int .i64 a0_1, .int .i64 0, .int .i64 0, .int .i64 0]) ?_ 2 _ rfl; (with_reducible repeat (first | refine blk_drewN ?_ _ | refine blk_drew ?_ | refine blk_alloc ?_ _)); refine blk_put (cs := #[.int .i64 a0_0, .int .i64 0, .int .i64 0, .int .i64 0, .int .i64 0]) ?_ 1 _ rfl; (with_reducible repeat (first | refine blk_drewN ?_ _ | refine blk_drew ?_ | refine blk_alloc ?_ _)); refine blk_put (cs := #[.int .i64 0, .int .i64 0, .int .i64 0, .int .i64 0, .int .i64 0]) ?_ 0 _ rfl; (with_reducible repeat (first | refine blk_drewN ?_ _ | refine blk_drew ?_ | refine blk_alloc ?_ _)); refine blk_far ?_ NB212_213.out _; (with_reducible repeat (first | refine blk_drewN ?_ _ | refine blk_drew ?_ | refine blk_alloc ?_ _)); refine blk_far ?_ NB212_213.out _; (with_reducible repeat (first | refine blk_drewN ?_ _ | refine blk_drew ?_ | refine blk_alloc ?_ _)); refine blk_far ?_ NB212_213.out _; (with_reducible repeat (first | refine blk_drewN ?_ _ | refine blk_drew ?_ | refine blk_alloc ?_ _)); refine blk_far ?_ NB212_213.out _; (with_reducible repeat (first | refine blk_drewN ?_ _ | refine blk_drew ?_ | refine blk_alloc ?_ _)); refine blk_far ?_ NB212_213.out _; (with_reducible repeat (first | refine blk_drewN ?_ _ | refine blk_drew ?_ | refine blk_alloc ?_ _)); exact BK212.out) Try.underlying47 rfl (by kernel_rfl)) rfl ?_
  exact ⟨by first | rfl | (simp [errW_none, errW_some] <;> rfl) | (simp [*, errW_none, errW_some] <;> rfl), by repeat (first | (with_reducible first | exact HB.out | apply below_alloc | apply pw_below_drewN | apply below_drew1 | refine below_set ?_ GE211.out | refine below_set ?_ GE212.out | refine below_set ?_ GE213.out) | exact HB.out)⟩

/-! ### impl_in: function 53 -/
def impl_in.f (a0 : Int) (a1 : Int) (a2 : Int) : Option (Bool) := if a0 ≥ a1 then (some (decide (a0 ≤ a2))) else (some false)
set_option maxHeartbeats 8000000 in
set_option maxRecDepth 100000 in
theorem impl_in.calls (a0 : Int) (a1 : Int) (a2 : Int) (r : Bool) (w : World) (h : impl_in.f a0 a1 a2 = some r) :
    Calls Try.prog 53 #[.int .i64 a0, .int .i64 a1, .int .i64 a2] w fun e w' => e = .returned (.bool r) ∧ Drawn0 w w' := by
  have H : (if a0 ≥ a1 then (some (decide (a0 ≤ a2))) else (some false)) = some r := h
  clear h
  by_cases c4 : a0 ≥ a1
  · rw [if_pos c4] at H
    have c4b0 : decide (a1 ≤ a0) = true := decide_eq_true c4
    clear c4
    obtain rfl := Option.some.inj H
    go_enter Try.func53, Try.ntmps53
    go_wp2
    go_ret
    exact ⟨by first | rfl | (simp; done) | (simp [*]; done), by repeat (first | exact Drawn0.refl _ | apply Drawn0.step)⟩
  · rw [if_neg c4] at H
    have c4b0 : decide (a1 ≤ a0) = false := decide_eq_false c4
    clear c4
    obtain rfl := Option.some.inj H
    go_enter Try.func53, Try.ntmps53
    go_wp2
    go_ret
    exact ⟨by first | rfl | (simp; done) | (simp [*]; done), by repeat (first | exact Drawn0.refl _ | apply Drawn0.step)⟩

/-! ### impl_isAddress: function 55 -/
def impl_isAddress.f (a0 : Int) : Option (Bool) := (impl_in.f a0 0 4294967295).bind fun t214 => (some t214)
set_option maxHeartbeats 8000000 in
set_option maxRecDepth 100000 in
theorem impl_isAddress.calls (a0 : Int) (r : Bool) (w : World) (h : impl_isAddress.f a0 = some r) :
    Calls Try.prog 55 #[.int .i64 a0] w fun e w' => e = .returned (.bool r) ∧ Drawn0 w w' := by
  have H : ((impl_in.f a0 0 4294967295).bind fun t214 => (some t214)) = some r := h
  clear h
  replace H := Option.bind_eq_some_iff.mp H
  obtain ⟨t214, A20, H⟩ := H
  replace H : (some t214) = some r := H
  have A2 := Aside0.mk A20
  clear A20
  obtain rfl := Option.some.inj H
  go_enter Try.func55, Try.ntmps55
  go_wp2_with (first | ((with_reducible refine gate_callee (f := 53) rfl ?_); refine goesL_ (some 4) rfl rfl Try.func53 (by kernel_rfl) rfl #[.int .i64 a0, .int .i64 0, .int .i64 4294967295] rfl (by (try simp only [List.map_toArray, List.map_cons, List.map_nil]); first | done | rfl | (simp only [List.length_drop, List.length_take]; rfl)) ?_; (with_reducible refine (impl_in.calls a0 0 4294967295 t214 _ A2.out).mono ?_); rintro e w' ⟨rfl, ⟨nd, rfl⟩⟩; refine ⟨_, rfl, ?_⟩))
  go_ret
  exact ⟨by first | rfl | (simp; done) | (simp [*]; done), by repeat (first | exact Drawn0.refl _ | apply Drawn0.step)⟩

/-! ### impl_isName: function 82 -/
def impl_isName.f (a0 : Int) : Option (Bool) := (impl_in.f a0 1 999).bind fun t215 => (some t215)
set_option maxHeartbeats 8000000 in
set_option maxRecDepth 100000 in
theorem impl_isName.calls (a0 : Int) (r : Bool) (w : World) (h : impl_isName.f a0 = some r) :
    Calls Try.prog 82 #[.int .i64 a0] w fun e w' => e = .returned (.bool r) ∧ Drawn0 w w' := by
  have H : ((impl_in.f a0 1 999).bind fun t215 => (some t215)) = some r := h
  clear h
  replace H := Option.bind_eq_some_iff.mp H
  obtain ⟨t215, A20, H⟩ := H
  replace H : (some t215) = some r := H
  have A2 := Aside0.mk A20
  clear A20
  obtain rfl := Option.some.inj H
  go_enter Try.func82, Try.ntmps82
  go_wp2_with (first | ((with_reducible refine gate_callee (f := 53) rfl ?_); refine goesL_ (some 4) rfl rfl Try.func53 (by kernel_rfl) rfl #[.int .i64 a0, .int .i64 1, .int .i64 999] rfl (by (try simp only [List.map_toArray, List.map_cons, List.map_nil]); first | done | rfl | (simp only [List.length_drop, List.length_take]; rfl)) ?_; (with_reducible refine (impl_in.calls a0 1 999 t215 _ A2.out).mono ?_); rintro e w' ⟨rfl, ⟨nd, rfl⟩⟩; refine ⟨_, rfl, ?_⟩))
  go_ret
  exact ⟨by first | rfl | (simp; done) | (simp [*]; done), by repeat (first | exact Drawn0.refl _ | apply Drawn0.step)⟩

/-! ### impl_isBackend: function 54 -/
def impl_isBackend.f (a0_0 : Int) (a0_1 : Int) (a0_2 : Int) (a0_3 : Int) (a0_4 : Bool) : Option (Bool) := (impl_isName.f a0_0).bind fun t217 => (if t217 = true then ((impl_isAddress.f a0_1).bind fun t218 => (if t218 = true then ((impl_in.f a0_2 0 9).bind fun t219 => (if t219 = true then ((impl_in.f a0_3 1 3).bind fun t220 => (some t220)) else (some false))) else (some false))) else (some false))
set_option maxHeartbeats 8000000 in
set_option maxRecDepth 100000 in
theorem impl_isBackend.calls (a0_0 : Int) (a0_1 : Int) (a0_2 : Int) (a0_3 : Int) (a0_4 : Bool) (r : Bool) (w : World) (h : impl_isBackend.f a0_0 a0_1 a0_2 a0_3 a0_4 = some r) :
    Calls Try.prog 54 #[.agg #[.int .i64 a0_0, .int .i64 a0_1, .int .i64 a0_2, .int .i64 a0_3, .bool a0_4]] w fun e w' => e = .returned (.bool r) ∧ Below w.heap.size w w' := by
  have hu36 := Try.underlying36
  have HB := Aside0.mk (Below.refl w.heap.size w)
  have H : ((impl_isName.f a0_0).bind fun t217 => (if t217 = true then ((impl_isAddress.f a0_1).bind fun t218 => (if t218 = true then ((impl_in.f a0_2 0 9).bind fun t219 => (if t219 = true then ((impl_in.f a0_3 1 3).bind fun t220 => (some t220)) else (some false))) else (some false))) else (some false))) = some r := h
  clear h
  replace H := Option.bind_eq_some_iff.mp H
  obtain ⟨t217, A20, H⟩ := H
  replace H : (if t217 = true then ((impl_isAddress.f a0_1).bind fun t218 => (if t218 = true then ((impl_in.f a0_2 0 9).bind fun t219 => (if t219 = true then ((impl_in.f a0_3 1 3).bind fun t220 => (some t220)) else (some false))) else (some false))) else (some false)) = some r := H
  have A2 := Aside0.mk A20
  clear A20
  by_cases c3 : t217 = true
  · subst c3
    have H1 : ((impl_isAddress.f a0_1).bind fun t218 => (if t218 = true then ((impl_in.f a0_2 0 9).bind fun t219 => (if t219 = true then ((impl_in.f a0_3 1 3).bind fun t220 => (some t220)) else (some false))) else (some false))) = some r := by rw [if_pos rfl] at H; exact H
    clear H
    have H := H1
    clear H1
    replace H := Option.bind_eq_some_iff.mp H
    obtain ⟨t218, A40, H⟩ := H
    replace H : (if t218 = true then ((impl_in.f a0_2 0 9).bind fun t219 => (if t219 = true then ((impl_in.f a0_3 1 3).bind fun t220 => (some t220)) else (some false))) else (some false)) = some r := H
    have A4 := Aside0.mk A40
    clear A40
    by_cases c5 : t218 = true
    · subst c5
      have H1 : ((impl_in.f a0_2 0 9).bind fun t219 => (if t219 = true then ((impl_in.f a0_3 1 3).bind fun t220 => (some t220)) else (some false))) = some r := by rw [if_pos rfl] at H; exact H
      clear H
      have H := H1
      clear H1
      replace H := Option.bind_eq_some_iff.mp H
      obtain ⟨t219, A60, H⟩ := H
      replace H : (if t219 = true then ((impl_in.f a0_3 1 3).bind fun t220 => (some t220)) else (some false)) = some r := H
      have A6 := Aside0.mk A60
      clear A60
      by_cases c7 : t219 = true
      · subst c7
        have H1 : ((impl_in.f a0_3 1 3).bind fun t220 => (some t220)) = some r := by rw [if_pos rfl] at H; exact H
        clear H
        have H := H1
        clear H1
        replace H := Option.bind_eq_some_iff.mp H
        obtain ⟨t220, A80, H⟩ := H
        replace H : (some t220) = some r := H
        have A8 := Aside0.mk A80
        clear A80
        obtain rfl := Option.some.inj H
        go_enter Try.func54, Try.ntmps54
        go_wp2_with (first | ((with_reducible refine gate_dst (N := 1) rfl ?_); refine box_event ?hg (N := 1) ?hd (cs := #[.int .i64 a0_0, .int .i64 a0_1, .int .i64 a0_2, .int .i64 a0_3, .bool a0_4]) (t := 36) ?hr ?_; (case hd => rfl); (case hg => rfl); (case hr => first | (go_simp; done) | (go_simp; rfl)); intro gb216 hg w9 hbox hb; have n0_ := Aside0.mk (below_step (by repeat (first | (with_reducible first | exact HB.out | apply below_alloc | apply pw_below_drewN | apply below_drew1) | exact HB.out)) hb); have n1_ := Aside0.mk (hbox); have n2_ := Aside0.mk ((by rw [hg]; exact (below_size (by repeat (first | (with_reducible first | exact HB.out | apply below_alloc | apply pw_below_drewN | apply below_drew1) | exact HB.out))) : w.heap.size ≤ gb216)); have n3_ := Aside0.mk ((by rw [hg]; exact (below_size (by repeat (first | (with_reducible first | exact HB.out | apply below_alloc | apply pw_below_drewN | apply below_drew1) | exact HB.out))) : w.heap.size ≤ gb216)); clear HB; have HB := n0_; have BK216 := n1_; have GW216 := n2_; have GE216 := n3_; clear n0_ n1_ n2_ n3_; clear hb hbox hg; have hcz10_0 : w9.cell? ⟨gb216, 0, none⟩ = some (.int .i64 a0_0) := (blk_cell BK216.out 0).trans rfl; have hcz10_1 : w9.cell? ⟨gb216, 1, none⟩ = some (.int .i64 a0_1) := (blk_cell BK216.out 1).trans rfl; have hcz10_2 : w9.cell? ⟨gb216, 2, none⟩ = some (.int .i64 a0_2) := (blk_cell BK216.out 2).trans rfl; have hcz10_3 : w9.cell? ⟨gb216, 3, none⟩ = some (.int .i64 a0_3) := (blk_cell BK216.out 3).trans rfl; have hcz10_4 : w9.cell? ⟨gb216, 4, none⟩ = some (.bool a0_4) := (blk_cell BK216.out 4).trans rfl; have hfz10_0 := blk_frozen BK216.out 0; have hfz10_1 := blk_frozen BK216.out 1; have hfz10_2 := blk_frozen BK216.out 2; have hfz10_3 := blk_frozen BK216.out 3; have hfz10_4 := blk_frozen BK216.out 4) | ((with_reducible refine gate_callee (f := 82) rfl ?_); refine goesL_ (some 5) rfl rfl Try.func82 (by kernel_rfl) rfl #[.int .i64 a0_0] rfl (by (try simp only [List.map_toArray, List.map_cons, List.map_nil]); first | done | rfl | (simp only [List.length_drop, List.length_take]; rfl)) ?_; (with_reducible refine (impl_isName.calls a0_0 true _ A2.out).mono ?_); rintro e w' ⟨rfl, ⟨nd, rfl⟩⟩; refine ⟨_, rfl, ?_⟩) | (go_at_call 55; (with_reducible refine (impl_isAddress.calls a0_1 true _ A4.out).mono ?_); rintro e w' ⟨rfl, ⟨nd, rfl⟩⟩) | (go_at_call 53; (with_reducible refine (impl_in.calls a0_2 0 9 true _ A6.out).mono ?_); rintro e w' ⟨rfl, ⟨nd, rfl⟩⟩) | (go_at_call 53; (with_reducible refine (impl_in.calls a0_3 1 3 t220 _ A8.out).mono ?_); rintro e w' ⟨rfl, ⟨nd, rfl⟩⟩))
        go_ret
        exact ⟨by first | rfl | (simp [errW_none, errW_some] <;> rfl) | (simp [*, errW_none, errW_some] <;> rfl), by repeat (first | (with_reducible first | exact HB.out | apply below_alloc | apply pw_below_drewN | apply below_drew1 | refine below_set ?_ GE216.out) | exact HB.out)⟩
      · replace c7 := Bool.eq_false_iff.mpr c7
        subst c7
        have H1 : (some false) = some r := by rw [if_neg (show ¬ (false = true) by decide)] at H; exact H
        clear H
        have H := H1
        clear H1
        obtain rfl := Option.some.inj H
        go_enter Try.func54, Try.ntmps54
        go_wp2_with (first | ((with_reducible refine gate_dst (N := 1) rfl ?_); refine box_event ?hg (N := 1) ?hd (cs := #[.int .i64 a0_0, .int .i64 a0_1, .int .i64 a0_2, .int .i64 a0_3, .bool a0_4]) (t := 36) ?hr ?_; (case hd => rfl); (case hg => rfl); (case hr => first | (go_simp; done) | (go_simp; rfl)); intro gb216 hg w11 hbox hb; have n0_ := Aside0.mk (below_step (by repeat (first | (with_reducible first | exact HB.out | apply below_alloc | apply pw_below_drewN | apply below_drew1) | exact HB.out)) hb); have n1_ := Aside0.mk (hbox); have n2_ := Aside0.mk ((by rw [hg]; exact (below_size (by repeat (first | (with_reducible first | exact HB.out | apply below_alloc | apply pw_below_drewN | apply below_drew1) | exact HB.out))) : w.heap.size ≤ gb216)); have n3_ := Aside0.mk ((by rw [hg]; exact (below_size (by repeat (first | (with_reducible first | exact HB.out | apply below_alloc | apply pw_below_drewN | apply below_drew1) | exact HB.out))) : w.heap.size ≤ gb216)); clear HB; have HB := n0_; have BK216 := n1_; have GW216 := n2_; have GE216 := n3_; clear n0_ n1_ n2_ n3_; clear hb hbox hg; have hcz12_0 : w11.cell? ⟨gb216, 0, none⟩ = some (.int .i64 a0_0) := (blk_cell BK216.out 0).trans rfl; have hcz12_1 : w11.cell? ⟨gb216, 1, none⟩ = some (.int .i64 a0_1) := (blk_cell BK216.out 1).trans rfl; have hcz12_2 : w11.cell? ⟨gb216, 2, none⟩ = some (.int .i64 a0_2) := (blk_cell BK216.out 2).trans rfl; have hcz12_3 : w11.cell? ⟨gb216, 3, none⟩ = some (.int .i64 a0_3) := (blk_cell BK216.out 3).trans rfl; have hcz12_4 : w11.cell? ⟨gb216, 4, none⟩ = some (.bool a0_4) := (blk_cell BK216.out 4).trans rfl; have hfz12_0 := blk_frozen BK216.out 0; have hfz12_1 := blk_frozen BK216.out 1; have hfz12_2 := blk_frozen BK216.out 2; have hfz12_3 := blk_frozen BK216.out 3; have hfz12_4 := blk_frozen BK216.out 4) | ((with_reducible refine gate_callee (f := 82) rfl ?_); refine goesL_ (some 5) rfl rfl Try.func82 (by kernel_rfl) rfl #[.int .i64 a0_0] rfl (by (try simp only [List.map_toArray, List.map_cons, List.map_nil]); first | done | rfl | (simp only [List.length_drop, List.length_take]; rfl)) ?_; (with_reducible refine (impl_isName.calls a0_0 true _ A2.out).mono ?_); rintro e w' ⟨rfl, ⟨nd, rfl⟩⟩; refine ⟨_, rfl, ?_⟩) | (go_at_call 55; (with_reducible refine (impl_isAddress.calls a0_1 true _ A4.out).mono ?_); rintro e w' ⟨rfl, ⟨nd, rfl⟩⟩) | (go_at_call 53; (with_reducible refine (impl_in.calls a0_2 0 9 false _ A6.out).mono ?_); rintro e w' ⟨rfl, ⟨nd, rfl⟩⟩))
        go_ret
        exact ⟨by first | rfl | (simp [errW_none, errW_some] <;> rfl) | (simp [*, errW_none, errW_some] <;> rfl), by repeat (first | (with_reducible first | exact HB.out | apply below_alloc | apply pw_below_drewN | apply below_drew1 | refine below_set ?_ GE216.out) | exact HB.out)⟩
    · replace c5 := Bool.eq_false_iff.mpr c5
      subst c5
      have H1 : (some false) = some r := by rw [if_neg (show ¬ (false = true) by decide)] at H; exact H
      clear H
      have H := H1
      clear H1
      obtain rfl := Option.some.inj H
      go_enter Try.func54, Try.ntmps54
      go_wp2_with (first | ((with_reducible refine gate_dst (N := 1) rfl ?_); refine box_event ?hg (N := 1) ?hd (cs := #[.int .i64 a0_0, .int .i64 a0_1, .int .i64 a0_2, .int .i64 a0_3, .bool a0_4]) (t := 36) ?hr ?_; (case hd => rfl); (case hg => rfl); (case hr => first | (go_simp; done) | (go_simp; rfl)); intro gb216 hg w13 hbox hb; have n0_ := Aside0.mk (below_step (by repeat (first | (with_reducible first | exact HB.out | apply below_alloc | apply pw_below_drewN | apply below_drew1) | exact HB.out)) hb); have n1_ := Aside0.mk (hbox); have n2_ := Aside0.mk ((by rw [hg]; exact (below_size (by repeat (first | (with_reducible first | exact HB.out | apply below_alloc | apply pw_below_drewN | apply below_drew1) | exact HB.out))) : w.heap.size ≤ gb216)); have n3_ := Aside0.mk ((by rw [hg]; exact (below_size (by repeat (first | (with_reducible first | exact HB.out | apply below_alloc | apply pw_below_drewN | apply below_drew1) | exact HB.out))) : w.heap.size ≤ gb216)); clear HB; have HB := n0_; have BK216 := n1_; have GW216 := n2_; have GE216 := n3_; clear n0_ n1_ n2_ n3_; clear hb hbox hg; have hcz14_0 : w13.cell? ⟨gb216, 0, none⟩ = some (.int .i64 a0_0) := (blk_cell BK216.out 0).trans rfl; have hcz14_1 : w13.cell? ⟨gb216, 1, none⟩ = some (.int .i64 a0_1) := (blk_cell BK216.out 1).trans rfl; have hcz14_2 : w13.cell? ⟨gb216, 2, none⟩ = some (.int .i64 a0_2) := (blk_cell BK216.out 2).trans rfl; have hcz14_3 : w13.cell? ⟨gb216, 3, none⟩ = some (.int .i64 a0_3) := (blk_cell BK216.out 3).trans rfl; have hcz14_4 : w13.cell? ⟨gb216, 4, none⟩ = some (.bool a0_4) := (blk_cell BK216.out 4).trans rfl; have hfz14_0 := blk_frozen BK216.out 0; have hfz14_1 := blk_frozen BK216.out 1; have hfz14_2 := blk_frozen BK216.out 2; have hfz14_3 := blk_frozen BK216.out 3; have hfz14_4 := blk_frozen BK216.out 4) | ((with_reducible refine gate_callee (f := 82) rfl ?_); refine goesL_ (some 5) rfl rfl Try.func82 (by kernel_rfl) rfl #[.int .i64 a0_0] rfl (by (try simp only [List.map_toArray, List.map_cons, List.map_nil]); first | done | rfl | (simp only [List.length_drop, List.length_take]; rfl)) ?_; (with_reducible refine (impl_isName.calls a0_0 true _ A2.out).mono ?_); rintro e w' ⟨rfl, ⟨nd, rfl⟩⟩; refine ⟨_, rfl, ?_⟩) | (go_at_call 55; (with_reducible refine (impl_isAddress.calls a0_1 false _ A4.out).mono ?_); rintro e w' ⟨rfl, ⟨nd, rfl⟩⟩))
      go_ret
      exact ⟨by first | rfl | (simp [errW_none, errW_some] <;> rfl) | (simp [*, errW_none, errW_some] <;> rfl), by repeat (first | (with_reducible first | exact HB.out | apply below_alloc | apply pw_below_drewN | apply below_drew1 | refine below_set ?_ GE216.out) | exact HB.out)⟩
  · replace c3 := Bool.eq_false_iff.mpr c3
    subst c3
    have H1 : (some false) = some r := by rw [if_neg (show ¬ (false = true) by decide)] at H; exact H
    clear H
    have H := H1
    clear H1
    obtain rfl := Option.some.inj H
    go_enter Try.func54, Try.ntmps54
    go_wp2_with (first | ((with_reducible refine gate_dst (N := 1) rfl ?_); refine box_event ?hg (N := 1) ?hd (cs := #[.int .i64 a0_0, .int .i64 a0_1, .int .i64 a0_2, .int .i64 a0_3, .bool a0_4]) (t := 36) ?hr ?_; (case hd => rfl); (case hg => rfl); (case hr => first | (go_simp; done) | (go_simp; rfl)); intro gb216 hg w15 hbox hb; have n0_ := Aside0.mk (below_step (by repeat (first | (with_reducible first | exact HB.out | apply below_alloc | apply pw_below_drewN | apply below_drew1) | exact HB.out)) hb); have n1_ := Aside0.mk (hbox); have n2_ := Aside0.mk ((by rw [hg]; exact (below_size (by repeat (first | (with_reducible first | exact HB.out | apply below_alloc | apply pw_below_drewN | apply below_drew1) | exact HB.out))) : w.heap.size ≤ gb216)); have n3_ := Aside0.mk ((by rw [hg]; exact (below_size (by repeat (first | (with_reducible first | exact HB.out | apply below_alloc | apply pw_below_drewN | apply below_drew1) | exact HB.out))) : w.heap.size ≤ gb216)); clear HB; have HB := n0_; have BK216 := n1_; have GW216 := n2_; have GE216 := n3_; clear n0_ n1_ n2_ n3_; clear hb hbox hg; have hcz16_0 : w15.cell? ⟨gb216, 0, none⟩ = some (.int .i64 a0_0) := (blk_cell BK216.out 0).trans rfl; have hcz16_1 : w15.cell? ⟨gb216, 1, none⟩ = some (.int .i64 a0_1) := (blk_cell BK216.out 1).trans rfl; have hcz16_2 : w15.cell? ⟨gb216, 2, none⟩ = some (.int .i64 a0_2) := (blk_cell BK216.out 2).trans rfl; have hcz16_3 : w15.cell? ⟨gb216, 3, none⟩ = some (.int .i64 a0_3) := (blk_cell BK216.out 3).trans rfl; have hcz16_4 : w15.cell? ⟨gb216, 4, none⟩ = some (.bool a0_4) := (blk_cell BK216.out 4).trans rfl; have hfz16_0 := blk_frozen BK216.out 0; have hfz16_1 := blk_frozen BK216.out 1; have hfz16_2 := blk_frozen BK216.out 2; have hfz16_3 := blk_frozen BK216.out 3; have hfz16_4 := blk_frozen BK216.out 4) | ((with_reducible refine gate_callee (f := 82) rfl ?_); refine goesL_ (some 5) rfl rfl Try.func82 (by kernel_rfl) rfl #[.int .i64 a0_0] rfl (by (try simp only [List.map_toArray, List.map_cons, List.map_nil]); first | done | rfl | (simp only [List.length_drop, List.length_take]; rfl)) ?_; (with_reducible refine (impl_isName.calls a0_0 false _ A2.out).mono ?_); rintro e w' ⟨rfl, ⟨nd, rfl⟩⟩; refine ⟨_, rfl, ?_⟩))
    go_ret
    exact ⟨by first | rfl | (simp [errW_none, errW_some] <;> rfl) | (simp [*, errW_none, errW_some] <;> rfl), by repeat (first | (with_reducible first | exact HB.out | apply below_alloc | apply pw_below_drewN | apply below_drew1 | refine below_set ?_ GE216.out) | exact HB.out)⟩

/-! ### impl_isPort: function 56 -/
def impl_isPort.f (a0 : Int) : Option (Bool) := (impl_in.f a0 0 65535).bind fun t221 => (some t221)
set_option maxHeartbeats 8000000 in
set_option maxRecDepth 100000 in
theorem impl_isPort.calls (a0 : Int) (r : Bool) (w : World) (h : impl_isPort.f a0 = some r) :
    Calls Try.prog 56 #[.int .i64 a0] w fun e w' => e = .returned (.bool r) ∧ Drawn0 w w' := by
  have H : ((impl_in.f a0 0 65535).bind fun t221 => (some t221)) = some r := h
  clear h
  replace H := Option.bind_eq_some_iff.mp H
  obtain ⟨t221, A20, H⟩ := H
  replace H : (some t221) = some r := H
  have A2 := Aside0.mk A20
  clear A20
  obtain rfl := Option.some.inj H
  go_enter Try.func56, Try.ntmps56
  go_wp2_with (first | ((with_reducible refine gate_callee (f := 53) rfl ?_); refine goesL_ (some 4) rfl rfl Try.func53 (by kernel_rfl) rfl #[.int .i64 a0, .int .i64 0, .int .i64 65535] rfl (by (try simp only [List.map_toArray, List.map_cons, List.map_nil]); first | done | rfl | (simp only [List.length_drop, List.length_take]; rfl)) ?_; (with_reducible refine (impl_in.calls a0 0 65535 t221 _ A2.out).mono ?_); rintro e w' ⟨rfl, ⟨nd, rfl⟩⟩; refine ⟨_, rfl, ?_⟩))
  go_ret
  exact ⟨by first | rfl | (simp; done) | (simp [*]; done), by repeat (first | exact Drawn0.refl _ | apply Drawn0.step)⟩

/-! ### impl_isProto: function 57 -/
def impl_isProto.f (a0 : Int) : Option (Bool) := if a0 = 6 then (some true) else (some (a0 == 17))
set_option maxHeartbeats 8000000 in
set_option maxRecDepth 100000 in
theorem impl_isProto.calls (a0 : Int) (r : Bool) (w : World) (h : impl_isProto.f a0 = some r) :
    Calls Try.prog 57 #[.int .i64 a0] w fun e w' => e = .returned (.bool r) ∧ Drawn0 w w' := by
  have H : (if a0 = 6 then (some true) else (some (a0 == 17))) = some r := h
  clear h
  by_cases c2 : a0 = 6
  · rw [if_pos c2] at H
    have c2b0 : (a0 == 6) = true := beq_iff_eq.mpr c2
    have c2b1 : (a0 != 6) = false := bne_eq_false_iff_eq.mpr c2
    clear c2
    obtain rfl := Option.some.inj H
    go_enter Try.func57, Try.ntmps57
    go_wp2
    go_ret
    exact ⟨by first | rfl | (simp; done) | (simp [*]; done), by repeat (first | exact Drawn0.refl _ | apply Drawn0.step)⟩
  · rw [if_neg c2] at H
    have c2b0 : (a0 == 6) = false := beq_eq_false_iff_ne.mpr c2
    have c2b1 : (a0 != 6) = true := bne_iff_ne.mpr c2
    obtain rfl := Option.some.inj H
    go_enter Try.func57, Try.ntmps57
    go_wp2
    go_ret
    exact ⟨by first | rfl | (simp; done) | (simp [*]; done), by repeat (first | exact Drawn0.refl _ | apply Drawn0.step)⟩

/-! ### cmp_Or_int: function 107 -/
def cmp_Or_int.l0 : Nat → Int → List Int → Int → Int → Option (Int)
  | 0, _, _, _, _ => none
  | k + 1, x3, x6, x7, x8 => if x8 < x7 then (if 0 ≤ x8 then (if x8 < (x6.length : Int) then (if (rd x6 x8) = x3 then (cmp_Or_int.l0 k x3 x6 x7 (wrap64 (x8 + 1))) else (some (rd x6 x8))) else (none)) else (none)) else (some x3)
def cmp_Or_int.f (k : Nat) (l0 : List Int) : Option (Int) := cmp_Or_int.l0 k 0 l0 (l0.length : Int) 0
theorem cmp_Or_int.mono_l : ∀ k, (∀ y0 y1 y2 y3, LeO (cmp_Or_int.l0 k y0 y1 y2 y3) (cmp_Or_int.l0 (k + 1) y0 y1 y2 y3))
  | 0 => fun _ _ _ _ r h => by simp [cmp_Or_int.l0] at h
  | k + 1 => by
    have ih0 := cmp_Or_int.mono_l k
    · intro y0 y1 y2 y3
      unfold cmp_Or_int.l0
      repeat' first
      | (with_reducible exact ih0 _ _ _ _)
      | (with_reducible exact LeO.refl _)
      | (with_reducible exact LeO.none _)
      | (with_reducible refine LeO.ite ?_ ?_)
      | (with_reducible refine LeO.bind ?_ (fun _ => ?_))
      | exact ih0 _ _ _ _
      | exact LeO.none _
      | refine LeO.ite ?_ ?_
      | refine LeO.bind ?_ (fun _ => ?_)
theorem cmp_Or_int.mono : ∀ a0 k, LeO (cmp_Or_int.f k a0) (cmp_Or_int.f (k + 1) a0) := by
  intro a0 k
  have ih0 := cmp_Or_int.mono_l k
  unfold cmp_Or_int.f
  repeat' first
      | (with_reducible exact ih0 _ _ _ _)
      | (with_reducible exact LeO.refl _)
      | (with_reducible exact LeO.none _)
      | (with_reducible refine LeO.ite ?_ ?_)
      | (with_reducible refine LeO.bind ?_ (fun _ => ?_))
      | exact ih0 _ _ _ _
      | exact LeO.none _
      | refine LeO.ite ?_ ?_
      | refine LeO.bind ?_ (fun _ => ?_)
set_option maxHeartbeats 8000000 in
set_option maxRecDepth 100000 in
theorem cmp_Or_int.calls (k : Nat) (A0 : Option Addr) (c0 : Nat) (l0 : List Int) (r : Int) (w : World) (hr0 : Kd.C (Kd.int .i64) w A0 l0.length l0) (hc0 : l0.length ≤ c0) (h : cmp_Or_int.f k l0 = some r) :
    Calls Try.prog 107 #[.slice A0 l0.length c0] w fun e w' => e = .returned (.int .i64 r) ∧ Drawn0 w w' := by
  have HR0 := Aside0.mk hr0
  have HC0 := Aside0.mk hc0
  clear hr0 hc0
  have H : (cmp_Or_int.l0 k 0 l0 (l0.length : Int) 0) = some r := h
  clear h
  have H' := Aside0.mk H
  clear H
  go_enter Try.func107, Try.ntmps107
  go_wp2
  go_loopg [8] k (fun kq v8 w' => ∃ (x8_1 : Int), v8 = .int .i64 x8_1 ∧ Aside0 (cmp_Or_int.l0 kq 0 l0 (l0.length : Int) x8_1 = some r) ∧ Aside0 (kq ≤ k) ∧ Drawn0 w w')
  case atStart => exact ⟨(0), (by first | rfl | (simp; done) | (simp [*]; done)), H', ⟨Nat.le_refl _⟩, by repeat (first | exact Drawn0.refl _ | apply Drawn0.step)⟩
  case round =>
    clear H'
    try clear c1
    obtain ⟨x8_1, rfl, HA, HK1, ⟨m1, rfl⟩⟩ := hrel
    cases gk with
    | zero => exact absurd HA.out (by simp [cmp_Or_int.l0])
    | succ k1 =>
      have H := HA.out
      clear HA
      simp only [cmp_Or_int.l0] at H
      by_cases c2 : x8_1 < (l0.length : Int)
      · rw [if_pos c2] at H
        have c2b0 : decide (x8_1 < (l0.length : Int)) = true := decide_eq_true c2
        clear c2
        by_cases c3 : 0 ≤ x8_1
        · rw [if_pos c3] at H
          have c3b0 : decide (0 ≤ x8_1) = true := decide_eq_true c3
          clear c3
          by_cases c4 : x8_1 < (l0.length : Int)
          · rw [if_pos c4] at H
            have c4b0 : decide (x8_1 < (l0.length : Int)) = true := decide_eq_true c4
            clear c4
            by_cases c5 : (rd l0 x8_1) = 0
            · rw [if_pos c5] at H
              have c5b0 : ((rd l0 x8_1) == 0) = true := beq_iff_eq.mpr c5
              have c5b1 : ((rd l0 x8_1) != 0) = false := bne_eq_false_iff_eq.mpr c5
              clear c5
              have H' := Aside0.mk H
              clear H
              have p222 : 0 ≤ (x8_1 : Int) := of_decide_eq_true (by first | (with_reducible assumption) | assumption)
              have q222 : x8_1 < (l0.length : Int) := of_decide_eq_true (by first | (with_reducible assumption) | assumption)
              obtain ⟨ad222, e222, hx222_0⟩ := Kd.at_int HR0.out x8_1 p222 q222
              cases e222
              replace p222 := eq_true p222
              replace q222 := eq_true q222
              go_wp2
              go_roundg k1
              case measure => have := HK1.out; omega
              case rel => exact ⟨(wrap64 (x8_1 + 1)), (by first | rfl | (simp; done) | (simp [*]; done)), H', ⟨by have := HK1.out; omega⟩, by repeat (first | exact Drawn0.refl _ | apply Drawn0.step)⟩
            · rw [if_neg c5] at H
              have c5b0 : ((rd l0 x8_1) == 0) = false := beq_eq_false_iff_ne.mpr c5
              have c5b1 : ((rd l0 x8_1) != 0) = true := bne_iff_ne.mpr c5
              obtain rfl := Option.some.inj H
              have p222 : 0 ≤ (x8_1 : Int) := of_decide_eq_true (by first | (with_reducible assumption) | assumption)
              have q222 : x8_1 < (l0.length : Int) := of_decide_eq_true (by first | (with_reducible assumption) | assumption)
              obtain ⟨ad222, e222, hx222_0⟩ := Kd.at_int HR0.out x8_1 p222 q222
              cases e222
              replace p222 := eq_true p222
              replace q222 := eq_true q222
              go_wp2
              go_ret
              exact ⟨by first | rfl | (simp; done) | (simp [*]; done), by repeat (first | exact Drawn0.refl _ | apply Drawn0.step)⟩
          · rw [if_neg c4] at H
            exact absurd H (by simp)
        · rw [if_neg c3] at H
          exact absurd H (by simp)
      · rw [if_neg c2] at H
        have c2b0 : decide (x8_1 < (l0.length : Int)) = false := decide_eq_false c2
        clear c2
        obtain rfl := Option.some.inj H
        go_wp2
        go_ret
        exact ⟨by first | rfl | (simp; done) | (simp [*]; done), by repeat (first | exact Drawn0.refl _ | apply Drawn0.step)⟩

/-! ### cmp_isNaN_int64: function 137 -/
def cmp_isNaN_int64.f (a0 : Int) : Option (Bool) := some (a0 != a0)
set_option maxHeartbeats 8000000 in
set_option maxRecDepth 100000 in
theorem cmp_isNaN_int64.calls (a0 : Int) (r : Bool) (w : World) (h : cmp_isNaN_int64.f a0 = some r) :
    Calls Try.prog 137 #[.int .i64 a0] w fun e w' => e = .returned (.bool r) ∧ Drawn0 w w' := by
  have H : (some (a0 != a0)) = some r := h
  clear h
  obtain rfl := Option.some.inj H
  go_enter Try.func137, Try.ntmps137
  go_wp2
  go_ret
  exact ⟨by first | rfl | (simp; done) | (simp [*]; done), by repeat (first | exact Drawn0.refl _ | apply Drawn0.step)⟩

end Go.Proofs.Ytfmlhpoaipeoeaa.QFnExactVipFor
