-- MADE BY PROGRAM (wip/dr/assemble2.py) out of walks by hand. Lean checks it.
import Derived.Test.YtfmlhpoaipeoeaaQFnDeltasyj
import Derived.Test.YtfmlhpoaipeoeaaIx
import Derived.StillTailTactics
namespace Go.Proofs.Ytfmlhpoaipeoeaa.QFnDeltas
open Go.RowKit Go.Proofs.YtfmlhpoaipeoeaaW.PrintWords Go.Proofs.YtfmlhpoaipeoeaaW.PrintLast Go.Proofs.YtfmlhpoaipeoeaaW.PrintMore
attribute [local go_sem] max2_int min2_int max_two min_two max_three min_three max_four min_four   -- for this text's walks alone
set_option linter.unusedVariables false
set_option linter.unusedSimpArgs false
/-! ### spec_l5Number: function 150 -/
def spec_l5Number.j0 : Nat → Int → Bool → Int → Int → Int → Int → Int → Int → Option (Bool)
 | 0, _, _, _, _, _, _, _, _ => none
 | k + 1, x4, x5, x467000, x467001, x467002, x467003, x467004, x467005 => if x5 = true then ((spec_l1In.f x467004 0 9).bind fun t467 => (some t467)) else (if x4 = 3 then ((spec_l1In.f x467004 1 3).bind fun t468 => (some t468)) else (if x4 = 9 then ((spec_l1In.f x467004 0 1).bind fun t469 => (some t469)) else ((spec_l2Port.f x467004).bind fun t470 => (some t470))))
def spec_l5Number.f (k : Nat) (a0_0 : Int) (a0_1 : Int) (a0_2 : Int) (a0_3 : Int) (a0_4 : Int) (a0_5 : Int) : Option (Bool) := if a0_0 = 1 then (spec_l5Number.j0 k a0_0 (a0_0 == 1) a0_0 a0_1 a0_2 a0_3 a0_4 a0_5) else (spec_l5Number.j0 k a0_0 (a0_0 == 2) a0_0 a0_1 a0_2 a0_3 a0_4 a0_5)
theorem spec_l5Number.mono_l : ∀ k, (∀ y0 y1 y2 y3 y4 y5 y6 y7, LeO (spec_l5Number.j0 k y0 y1 y2 y3 y4 y5 y6 y7) (spec_l5Number.j0 (k + 1) y0 y1 y2 y3 y4 y5 y6 y7))
 | 0 => fun _ _ _ _ _ _ _ _ r h => by simp [spec_l5Number.j0] at h
 | k + 1 => by
  have ih0 := spec_l5Number.mono_l k
  ·intro y0 y1 y2 y3 y4 y5 y6 y7
   unfold spec_l5Number.j0
   repeat' first
   | (with_reducible exact ih0 _ _ _ _ _ _ _ _)
   | (with_reducible exact LeO.refl _)
   | (with_reducible exact LeO.none _)
   | (with_reducible refine LeO.ite ?_ ?_)
   | (with_reducible refine LeO.bind ?_ (fun _ => ?_))
   | exact ih0 _ _ _ _ _ _ _ _
   | exact LeO.none _
   | refine LeO.ite ?_ ?_
   | refine LeO.bind ?_ (fun _ => ?_)
theorem spec_l5Number.mono : ∀ a0 a1 a2 a3 a4 a5 k, LeO (spec_l5Number.f k a0 a1 a2 a3 a4 a5) (spec_l5Number.f (k + 1) a0 a1 a2 a3 a4 a5) := by
 intro a0 a1 a2 a3 a4 a5 k
 have ih0 := spec_l5Number.mono_l k
 unfold spec_l5Number.f
 repeat' first
   | (with_reducible exact ih0 _ _ _ _ _ _ _ _)
   | (with_reducible exact LeO.refl _)
   | (with_reducible exact LeO.none _)
   | (with_reducible refine LeO.ite ?_ ?_)
   | (with_reducible refine LeO.bind ?_ (fun _ => ?_))
   | exact ih0 _ _ _ _ _ _ _ _
   | exact LeO.none _
   | refine LeO.ite ?_ ?_
   | refine LeO.bind ?_ (fun _ => ?_)
set_option maxHeartbeats 8000000 in
set_option maxRecDepth 100000 in
theorem spec_l5Number.calls (k : Nat) (a0_0 : Int) (a0_1 : Int) (a0_2 : Int) (a0_3 : Int) (a0_4 : Int) (a0_5 : Int) (r : Bool) (w : World) (h : spec_l5Number.f k a0_0 a0_1 a0_2 a0_3 a0_4 a0_5 = some r) :
  Calls Try.prog 150 #[.agg #[.int .i64 a0_0, .int .i64 a0_1, .int .i64 a0_2, .int .i64 a0_3, .int .i64 a0_4, .int .i64 a0_5]] w fun e w' => e = .returned (.bool r) ∧ Below w.heap.size w w' := by
 have hu128 := Try.underlying128
 have HB := Aside0.mk (Below.refl w.heap.size w)
 have H : (if a0_0 = 1 then (spec_l5Number.j0 k a0_0 (a0_0 == 1) a0_0 a0_1 a0_2 a0_3 a0_4 a0_5) else (spec_l5Number.j0 k a0_0 (a0_0 == 2) a0_0 a0_1 a0_2 a0_3 a0_4 a0_5)) = some r := h
 clear h
 have HC2 := Aside0.mk H
 clear H
 go_enter Try.func150, Try.ntmps150
 go_upto_if 5 with (first | ((with_reducible refine gate_dst (N := 1) rfl ?_); refine box_event ?hg (N := 1) ?hd (cs := #[.int .i64 a0_0, .int .i64 a0_1, .int .i64 a0_2, .int .i64 a0_3, .int .i64 a0_4, .int .i64 a0_5]) (t := 128) ?hr ?_; (case hd => rfl); (case hg => rfl); (case hr => first | (go_simp; done) | (go_simp; rfl)); intro gb466 hg w3 hbox hb; have n0_ := Aside0.mk (below_step (by repeat (first | (with_reducible first | exact HB.out | apply below_alloc | apply pw_below_drewN | apply below_drew1) | exact HB.out)) hb); have n1_ := Aside0.mk (hbox); have n2_ := Aside0.mk ((by rw [hg]; exact (below_size (by repeat (first | (with_reducible first | exact HB.out | apply below_alloc | apply pw_below_drewN | apply below_drew1) | exact HB.out))) : w.heap.size ≤ gb466)); have n3_ := Aside0.mk ((by rw [hg]; exact (below_size (by repeat (first | (with_reducible first | exact HB.out | apply below_alloc | apply pw_below_drewN | apply below_drew1) | exact HB.out))) : w.heap.size ≤ gb466)); clear HB; have HB := n0_; have BK466 := n1_; have GW466 := n2_; have GE466 := n3_; clear n0_ n1_ n2_ n3_; clear hb hbox hg; have hcz4_0 : w3.cell? ⟨gb466, 0, none⟩ = some (.int .i64 a0_0) := (blk_cell BK466.out 0).trans rfl; have hcz4_1 : w3.cell? ⟨gb466, 1, none⟩ = some (.int .i64 a0_1) := (blk_cell BK466.out 1).trans rfl; have hcz4_2 : w3.cell? ⟨gb466, 2, none⟩ = some (.int .i64 a0_2) := (blk_cell BK466.out 2).trans rfl; have hcz4_3 : w3.cell? ⟨gb466, 3, none⟩ = some (.int .i64 a0_3) := (blk_cell BK466.out 3).trans rfl; have hcz4_4 : w3.cell? ⟨gb466, 4, none⟩ = some (.int .i64 a0_4) := (blk_cell BK466.out 4).trans rfl; have hcz4_5 : w3.cell? ⟨gb466, 5, none⟩ = some (.int .i64 a0_5) := (blk_cell BK466.out 5).trans rfl; have hfz4_0 := blk_frozen BK466.out 0; have hfz4_1 := blk_frozen BK466.out 1; have hfz4_2 := blk_frozen BK466.out 2; have hfz4_3 := blk_frozen BK466.out 3; have hfz4_4 := blk_frozen BK466.out 4; have hfz4_5 := blk_frozen BK466.out 5))
 (try simp only [Act.put, List.setIfInBounds_toArray, List.set_cons_zero, List.set_cons_succ])
 go_cut [5] (fun v5 wc => ∃ (kq : Nat) (x5_1 : Bool), v5 = .bool x5_1 ∧ Aside0 (spec_l5Number.j0 kq a0_0 x5_1 a0_0 a0_1 a0_2 a0_3 a0_4 a0_5 = some r) ∧ Aside0 (kq ≤ k) ∧ Aside0 (wc.heap[gb466]? = some (.cells #[.int .i64 a0_0, .int .i64 a0_1, .int .i64 a0_2, .int .i64 a0_3, .int .i64 a0_4, .int .i64 a0_5] 128 (0, 0))) ∧ Aside0 (Below w.heap.size w wc))
 case first =>
  have H := HC2.out
  clear HC2
  by_cases c5 : a0_0 = 1
  ·rw [if_pos c5] at H
   have c5b0 : (a0_0 == 1) = true := beq_iff_eq.mpr c5
   have c5b1 : (a0_0 != 1) = false := bne_eq_false_iff_eq.mpr c5
   clear c5
   (first | rw [c5b0] | (simp only [i64_w, i32_w]; rw [c5b0]) | skip)
   have H' := Aside0.mk H
   clear H
   go_wp2
   go_meet
   case rel => exact ⟨_, ((a0_0 == 1)), (by first | rfl | (simp; done) | (simp [*]; done)), H', ⟨by first | omega | exact Nat.le_refl _⟩, ⟨by (with_reducible repeat (first | refine blk_drewN ?_ _ | refine blk_drew ?_ | refine blk_alloc ?_ _)); exact BK466.out⟩, ⟨by repeat (first | (with_reducible first | exact HB.out | apply below_alloc | apply pw_below_drewN | apply below_drew1 | refine below_set ?_ GE466.out) | exact HB.out)⟩⟩
  ·rw [if_neg c5] at H
   have c5b0 : (a0_0 == 1) = false := beq_eq_false_iff_ne.mpr c5
   have c5b1 : (a0_0 != 1) = true := bne_iff_ne.mpr c5
   (first | rw [c5b0] | (simp only [i64_w, i32_w]; rw [c5b0]) | skip)
   have H' := Aside0.mk H
   clear H
   go_wp2
   go_meet
   case rel => exact ⟨_, ((a0_0 == 2)), (by first | rfl | (simp; done) | (simp [*]; done)), H', ⟨by first | omega | exact Nat.le_refl _⟩, ⟨by (with_reducible repeat (first | refine blk_drewN ?_ _ | refine blk_drew ?_ | refine blk_alloc ?_ _)); exact BK466.out⟩, ⟨by repeat (first | (with_reducible first | exact HB.out | apply below_alloc | apply pw_below_drewN | apply below_drew1 | refine below_set ?_ GE466.out) | exact HB.out)⟩⟩
 case rest =>
  clear HC2
  try clear c1
  try clear p2
  try clear c5
  try clear c5b0
  try clear c5b1
  try clear hcz4_0
  try clear hcz4_1
  try clear hcz4_2
  try clear hcz4_3
  try clear hcz4_4
  try clear hcz4_5
  try clear hfz4_0
  try clear hfz4_1
  try clear hfz4_2
  try clear hfz4_3
  try clear hfz4_4
  try clear hfz4_5
  obtain ⟨kq, x5_1, rfl, HA, HJ1, BK466, HB⟩ := hcut
  cases kq with
  | zero => exact absurd HA.out (by simp [spec_l5Number.j0])
  | succ kj1 =>
   have H := HA.out
   clear HA
   simp only [spec_l5Number.j0] at H
   by_cases c6 : x5_1 = true
   ·subst c6
    have H1 : ((spec_l1In.f a0_4 0 9).bind fun t467 => (some t467)) = some r := by rw [if_pos rfl] at H; exact H
    clear H
    have H := H1
    clear H1
    replace H := Option.bind_eq_some_iff.mp H
    obtain ⟨t467, A70, H⟩ := H
    replace H : (some t467) = some r := H
    have A7 := Aside0.mk A70
    clear A70
    obtain rfl := Option.some.inj H
    have hcz8_0 : wc.cell? ⟨gb466, 0, none⟩ = some (.int .i64 a0_0) := (blk_cell BK466.out 0).trans rfl
    have hcz8_1 : wc.cell? ⟨gb466, 1, none⟩ = some (.int .i64 a0_1) := (blk_cell BK466.out 1).trans rfl
    have hcz8_2 : wc.cell? ⟨gb466, 2, none⟩ = some (.int .i64 a0_2) := (blk_cell BK466.out 2).trans rfl
    have hcz8_3 : wc.cell? ⟨gb466, 3, none⟩ = some (.int .i64 a0_3) := (blk_cell BK466.out 3).trans rfl
    have hcz8_4 : wc.cell? ⟨gb466, 4, none⟩ = some (.int .i64 a0_4) := (blk_cell BK466.out 4).trans rfl
    have hcz8_5 : wc.cell? ⟨gb466, 5, none⟩ = some (.int .i64 a0_5) := (blk_cell BK466.out 5).trans rfl
    have hfz8_0 := blk_frozen BK466.out 0
    have hfz8_1 := blk_frozen BK466.out 1
    have hfz8_2 := blk_frozen BK466.out 2
    have hfz8_3 := blk_frozen BK466.out 3
    have hfz8_4 := blk_frozen BK466.out 4
    have hfz8_5 := blk_frozen BK466.out 5
    go_wp2_with (first | ((with_reducible refine gate_callee (f := 70) rfl ?_); refine goesL_ (some 10) rfl rfl Try.func70 (by kernel_rfl) rfl #[.int .i64 a0_4, .int .i64 0, .int .i64 9] rfl (by (try simp only [List.map_toArray, List.map_cons, List.map_nil]); first | done | rfl | (simp only [List.length_drop, List.length_take]; rfl)) ?_; (with_reducible refine (spec_l1In.calls a0_4 0 9 t467 _ A7.out).mono ?_); rintro e w' ⟨rfl, ⟨nd, rfl⟩⟩; refine ⟨_, rfl, ?_⟩))
    go_ret
    exact ⟨by first | rfl | (simp [errW_none, errW_some] <;> rfl) | (simp [*, errW_none, errW_some] <;> rfl), by repeat (first | (with_reducible first | exact HB.out | apply below_alloc | apply pw_below_drewN | apply below_drew1 | refine below_set ?_ GE466.out) | exact HB.out)⟩
   ·replace c6 := Bool.eq_false_iff.mpr c6
    subst c6
    have H1 : (if a0_0 = 3 then ((spec_l1In.f a0_4 1 3).bind fun t468 => (some t468)) else (if a0_0 = 9 then ((spec_l1In.f a0_4 0 1).bind fun t469 => (some t469)) else ((spec_l2Port.f a0_4).bind fun t470 => (some t470)))) = some r := by rw [if_neg (show ¬ (false = true) by decide)] at H; exact H
    clear H
    have H := H1
    clear H1
    by_cases c9 : a0_0 = 3
    ·rw [if_pos c9] at H
     have c9b0 : (a0_0 == 3) = true := beq_iff_eq.mpr c9
     have c9b1 : (a0_0 != 3) = false := bne_eq_false_iff_eq.mpr c9
     clear c9
     replace H := Option.bind_eq_some_iff.mp H
     obtain ⟨t468, A100, H⟩ := H
     replace H : (some t468) = some r := H
     have A10 := Aside0.mk A100
     clear A100
     obtain rfl := Option.some.inj H
     have hcz11_0 : wc.cell? ⟨gb466, 0, none⟩ = some (.int .i64 a0_0) := (blk_cell BK466.out 0).trans rfl
     have hcz11_1 : wc.cell? ⟨gb466, 1, none⟩ = some (.int .i64 a0_1) := (blk_cell BK466.out 1).trans rfl
     have hcz11_2 : wc.cell? ⟨gb466, 2, none⟩ = some (.int .i64 a0_2) := (blk_cell BK466.out 2).trans rfl
     have hcz11_3 : wc.cell? ⟨gb466, 3, none⟩ = some (.int .i64 a0_3) := (blk_cell BK466.out 3).trans rfl
     have hcz11_4 : wc.cell? ⟨gb466, 4, none⟩ = some (.int .i64 a0_4) := (blk_cell BK466.out 4).trans rfl
     have hcz11_5 : wc.cell? ⟨gb466, 5, none⟩ = some (.int .i64 a0_5) := (blk_cell BK466.out 5).trans rfl
     have hfz11_0 := blk_frozen BK466.out 0
     have hfz11_1 := blk_frozen BK466.out 1
     have hfz11_2 := blk_frozen BK466.out 2
     have hfz11_3 := blk_frozen BK466.out 3
     have hfz11_4 := blk_frozen BK466.out 4
     have hfz11_5 := blk_frozen BK466.out 5
     go_wp2_with (first | ((with_reducible refine gate_callee (f := 70) rfl ?_); refine goesL_ (some 15) rfl rfl Try.func70 (by kernel_rfl) rfl #[.int .i64 a0_4, .int .i64 1, .int .i64 3] rfl (by (try simp only [List.map_toArray, List.map_cons, List.map_nil]); first | done | rfl | (simp only [List.length_drop, List.length_take]; rfl)) ?_; (with_reducible refine (spec_l1In.calls a0_4 1 3 t468 _ A10.out).mono ?_); rintro e w' ⟨rfl, ⟨nd, rfl⟩⟩; refine ⟨_, rfl, ?_⟩))
     go_ret
     exact ⟨by first | rfl | (simp [errW_none, errW_some] <;> rfl) | (simp [*, errW_none, errW_some] <;> rfl), by repeat (first | (with_reducible first | exact HB.out | apply below_alloc | apply pw_below_drewN | apply below_drew1 | refine below_set ?_ GE466.out) | exact HB.out)⟩
    ·rw [if_neg c9] at H
     have c9b0 : (a0_0 == 3) = false := beq_eq_false_iff_ne.mpr c9
     have c9b1 : (a0_0 != 3) = true := bne_iff_ne.mpr c9
     by_cases c12 : a0_0 = 9
     ·rw [if_pos c12] at H
      have c12b0 : (a0_0 == 9) = true := beq_iff_eq.mpr c12
      have c12b1 : (a0_0 != 9) = false := bne_eq_false_iff_eq.mpr c12
      clear c12
      replace H := Option.bind_eq_some_iff.mp H
      obtain ⟨t469, A130, H⟩ := H
      replace H : (some t469) = some r := H
      have A13 := Aside0.mk A130
      clear A130
      obtain rfl := Option.some.inj H
      have hcz14_0 : wc.cell? ⟨gb466, 0, none⟩ = some (.int .i64 a0_0) := (blk_cell BK466.out 0).trans rfl
      have hcz14_1 : wc.cell? ⟨gb466, 1, none⟩ = some (.int .i64 a0_1) := (blk_cell BK466.out 1).trans rfl
      have hcz14_2 : wc.cell? ⟨gb466, 2, none⟩ = some (.int .i64 a0_2) := (blk_cell BK466.out 2).trans rfl
      have hcz14_3 : wc.cell? ⟨gb466, 3, none⟩ = some (.int .i64 a0_3) := (blk_cell BK466.out 3).trans rfl
      have hcz14_4 : wc.cell? ⟨gb466, 4, none⟩ = some (.int .i64 a0_4) := (blk_cell BK466.out 4).trans rfl
      have hcz14_5 : wc.cell? ⟨gb466, 5, none⟩ = some (.int .i64 a0_5) := (blk_cell BK466.out 5).trans rfl
      have hfz14_0 := blk_frozen BK466.out 0
      have hfz14_1 := blk_frozen BK466.out 1
      have hfz14_2 := blk_frozen BK466.out 2
      have hfz14_3 := blk_frozen BK466.out 3
      have hfz14_4 := blk_frozen BK466.out 4
      have hfz14_5 := blk_frozen BK466.out 5
      go_wp2_with (first | ((with_reducible refine gate_callee (f := 70) rfl ?_); refine goesL_ (some 20) rfl rfl Try.func70 (by kernel_rfl) rfl #[.int .i64 a0_4, .int .i64 0, .int .i64 1] rfl (by (try simp only [List.map_toArray, List.map_cons, List.map_nil]); first | done | rfl | (simp only [List.length_drop, List.length_take]; rfl)) ?_; (with_reducible refine (spec_l1In.calls a0_4 0 1 t469 _ A13.out).mono ?_); rintro e w' ⟨rfl, ⟨nd, rfl⟩⟩; refine ⟨_, rfl, ?_⟩))
      go_ret
      exact ⟨by first | rfl | (simp [errW_none, errW_some] <;> rfl) | (simp [*, errW_none, errW_some] <;> rfl), by repeat (first | (with_reducible first | exact HB.out | apply below_alloc | apply pw_below_drewN | apply below_drew1 | refine below_set ?_ GE466.out) | exact HB.out)⟩
     ·rw [if_neg c12] at H
      have c12b0 : (a0_0 == 9) = false := beq_eq_false_iff_ne.mpr c12
      have c12b1 : (a0_0 != 9) = true := bne_iff_ne.mpr c12
      replace H := Option.bind_eq_some_iff.mp H
      obtain ⟨t470, A150, H⟩ := H
      replace H : (some t470) = some r := H
      have A15 := Aside0.mk A150
      clear A150
      obtain rfl := Option.some.inj H
      have hcz16_0 : wc.cell? ⟨gb466, 0, none⟩ = some (.int .i64 a0_0) := (blk_cell BK466.out 0).trans rfl
      have hcz16_1 : wc.cell? ⟨gb466, 1, none⟩ = some (.int .i64 a0_1) := (blk_cell BK466.out 1).trans rfl
      have hcz16_2 : wc.cell? ⟨gb466, 2, none⟩ = some (.int .i64 a0_2) := (blk_cell BK466.out 2).trans rfl
      have hcz16_3 : wc.cell? ⟨gb466, 3, none⟩ = some (.int .i64 a0_3) := (blk_cell BK466.out 3).trans rfl
      have hcz16_4 : wc.cell? ⟨gb466, 4, none⟩ = some (.int .i64 a0_4) := (blk_cell BK466.out 4).trans rfl
      have hcz16_5 : wc.cell? ⟨gb466, 5, none⟩ = some (.int .i64 a0_5) := (blk_cell BK466.out 5).trans rfl
      have hfz16_0 := blk_frozen BK466.out 0
      have hfz16_1 := blk_frozen BK466.out 1
      have hfz16_2 := blk_frozen BK466.out 2
      have hfz16_3 := blk_frozen BK466.out 3
      have hfz16_4 := blk_frozen BK466.out 4
      have hfz16_5 := blk_frozen BK466.out 5
      go_wp2_with (first | ((with_reducible refine gate_callee (f := 114) rfl ?_); refine goesL_ (some 23) rfl rfl Try.func114 (by kernel_rfl) rfl #[.int .i64 a0_4] rfl (by (try simp only [List.map_toArray, List.map_cons, List.map_nil]); first | done | rfl | (simp only [List.length_drop, List.length_take]; rfl)) ?_; (with_reducible refine (spec_l2Port.calls a0_4 t470 _ A15.out).mono ?_); rintro e w' ⟨rfl, ⟨nd, rfl⟩⟩; refine ⟨_, rfl, ?_⟩))
      go_ret
      exact ⟨by first | rfl | (simp [errW_none, errW_some] <;> rfl) | (simp [*, errW_none, errW_some] <;> rfl), by repeat (first | (with_reducible first | exact HB.out | apply below_alloc | apply pw_below_drewN | apply below_drew1 | refine below_set ?_ GE466.out) | exact HB.out)⟩

namespace Dr
theorem number_ex (x0 x1 x2 x3 x4 x5 : Int) : ∃ b, spec_l5Number.f 3 x0 x1 x2 x3 x4 x5 = some b := by
 have hp : ∀ a, ∃ b, spec_l2Port.f a = some b := fun a => ⟨_, Cf.port_is a⟩
 have hi : ∀ a lo hi, ∃ b, spec_l1In.f a lo hi = some b := fun a lo hi => ⟨_, Cf.l1In_is a lo hi⟩
 have hj : ∀ b, ∃ r, spec_l5Number.j0 3 x0 b x0 x1 x2 x3 x4 x5 = some r := by
  intro b
  simp only [spec_l5Number.j0]
  obtain ⟨r1, e1⟩ := hi x4 0 9
  obtain ⟨r2, e2⟩ := hi x4 1 3
  obtain ⟨r3, e3⟩ := hi x4 0 1
  obtain ⟨r4, e4⟩ := hp x4
  simp only [e1, e2, e3, e4, Option.bind_some]
  repeat' split
  all_goals exact ⟨_, rfl⟩
 unfold spec_l5Number.f
 split <;> exact hj _
end Dr
set_option maxHeartbeats 32000000 in
set_option maxRecDepth 100000 in
/-- What is wrong with a command: some number. -/
theorem spec_CmdFault.cf (x0 x1 x2 x3 x4 x5 : Int) (w : World) :
  Calls Try.prog 129 #[.agg #[.int .i64 x0, .int .i64 x1, .int .i64 x2, .int .i64 x3, .int .i64 x4, .int .i64 x5]] w fun e w' => (∃ q : Int, e = .returned (.int .i64 q)) ∧ Below w.heap.size w w' := by
 have hu128 := Try.underlying128
 obtain ⟨q0, q1, q2, q3, hq⟩ := Dr.Needs_is x0
 obtain ⟨b4, hb4⟩ := Dr.number_ex x0 x1 x2 x3 x4 x5
 obtain ⟨b0, hb0⟩ : ∃ b, b = Cf.inB x0 1 9 := ⟨_, rfl⟩
 obtain ⟨b1, hb1⟩ : ∃ b, b = Cf.inB x1 0 1000000 := ⟨_, rfl⟩
 obtain ⟨b3, hb3⟩ : ∃ b, b = Cf.inB x3 0 4294967295 := ⟨_, rfl⟩
 obtain ⟨b5, hb5⟩ : ∃ b, b = Cf.prB x5 := ⟨_, rfl⟩
 obtain ⟨b2, hb2⟩ : ∃ b, spec_l3Name.f x2 = some b := ⟨_, by unfold spec_l3Name.f; rw [Cf.l1In_is]; rfl⟩
 have H70 := Aside0.mk (fun (W : World) => by have h := Cf.l1in x0 1 9 W; rw [← hb0] at h; exact h)
 have H131 := Aside0.mk (fun (W : World) => (spec_l5Needs.calls x0 q0 q1 q2 q3 W hq).mono (fun _ _ h => (⟨h.1, h.2.below⟩ : _ ∧ Below W.heap.size W _)))
 have H102 := Aside0.mk (fun (W : World) => (spec_l5Version.calls x1 b1 W (by rw [hb1]; exact Cf.version_is x1)).mono (fun _ _ h => (⟨h.1, h.2.below⟩ : _ ∧ Below W.heap.size W _)))
 have H133 := Aside0.mk (fun (W : World) => (spec_l3Name.calls x2 b2 W hb2).mono (fun _ _ h => (⟨h.1, h.2.below⟩ : _ ∧ Below W.heap.size W _)))
 have H113 := Aside0.mk (fun (W : World) => (spec_l2Address.calls x3 b3 W (by rw [hb3]; exact Cf.addr_is x3)).mono (fun _ _ h => (⟨h.1, h.2.below⟩ : _ ∧ Below W.heap.size W _)))
 have H150 := Aside0.mk (fun (W : World) => spec_l5Number.calls 3 x0 x1 x2 x3 x4 x5 b4 W hb4)
 have H134 := Aside0.mk (fun (W : World) => (spec_l5Proto.calls x5 b5 W (by rw [hb5]; exact Cf.proto_is x5)).mono (fun _ _ h => (⟨h.1, h.2.below⟩ : _ ∧ Below W.heap.size W _)))
 clear hq hb4 hb0 hb1 hb3 hb5 hb2
 have HX := Aside0.mk (blk_new w (.cells #[.int .i64 x0, .int .i64 x1, .int .i64 x2, .int .i64 x3, .int .i64 x4, .int .i64 x5] 128))
 have HD := Aside0.mk ((Below.refl _ w).alloc (Nat.le_refl _) (.cells #[.int .i64 x0, .int .i64 x1, .int .i64 x2, .int .i64 x3, .int .i64 x4, .int .i64 x5] 128))
 have z0 := blk_cell HX.out 0
 have z1 := blk_cell HX.out 1
 have z2 := blk_cell HX.out 2
 have z3 := blk_cell HX.out 3
 have z4 := blk_cell HX.out 4
 have z5 := blk_cell HX.out 5
 obtain ⟨eE, hE⟩ : ∃ e, (x1 != -1) = e := ⟨_, rfl⟩
 go_enter Try.func129, Try.ntmps129
 cases b0
 ·go_wp2_with (first | (go_at_call 70; refine (H70.out _).mono ?_; rintro e_ w_ ⟨rfl, hb_⟩; have HX' := Aside0.mk (blk_below HX.out hb_); have HD' := Aside0.mk (Dr.up HD.out hb_); clear HX HD hb_; clear z0 z1 z2 z3 z4 z5; have HX := HX'; have HD := HD'; clear HX' HD'; have z0 := blk_cell HX.out 0; have z1 := blk_cell HX.out 1; have z2 := blk_cell HX.out 2; have z3 := blk_cell HX.out 3; have z4 := blk_cell HX.out 4; have z5 := blk_cell HX.out 5) | (go_at_call 131; refine (H131.out _).mono ?_; rintro e_ w_ ⟨rfl, hb_⟩; have HX' := Aside0.mk (blk_below HX.out hb_); have HD' := Aside0.mk (Dr.up HD.out hb_); clear HX HD hb_; clear z0 z1 z2 z3 z4 z5; have HX := HX'; have HD := HD'; clear HX' HD'; have z0 := blk_cell HX.out 0; have z1 := blk_cell HX.out 1; have z2 := blk_cell HX.out 2; have z3 := blk_cell HX.out 3; have z4 := blk_cell HX.out 4; have z5 := blk_cell HX.out 5) | (go_at_call 102; refine (H102.out _).mono ?_; rintro e_ w_ ⟨rfl, hb_⟩; have HX' := Aside0.mk (blk_below HX.out hb_); have HD' := Aside0.mk (Dr.up HD.out hb_); clear HX HD hb_; clear z0 z1 z2 z3 z4 z5; have HX := HX'; have HD := HD'; clear HX' HD'; have z0 := blk_cell HX.out 0; have z1 := blk_cell HX.out 1; have z2 := blk_cell HX.out 2; have z3 := blk_cell HX.out 3; have z4 := blk_cell HX.out 4; have z5 := blk_cell HX.out 5) | (go_at_call 133; refine (H133.out _).mono ?_; rintro e_ w_ ⟨rfl, hb_⟩; have HX' := Aside0.mk (blk_below HX.out hb_); have HD' := Aside0.mk (Dr.up HD.out hb_); clear HX HD hb_; clear z0 z1 z2 z3 z4 z5; have HX := HX'; have HD := HD'; clear HX' HD'; have z0 := blk_cell HX.out 0; have z1 := blk_cell HX.out 1; have z2 := blk_cell HX.out 2; have z3 := blk_cell HX.out 3; have z4 := blk_cell HX.out 4; have z5 := blk_cell HX.out 5) | (go_at_call 113; refine (H113.out _).mono ?_; rintro e_ w_ ⟨rfl, hb_⟩; have HX' := Aside0.mk (blk_below HX.out hb_); have HD' := Aside0.mk (Dr.up HD.out hb_); clear HX HD hb_; clear z0 z1 z2 z3 z4 z5; have HX := HX'; have HD := HD'; clear HX' HD'; have z0 := blk_cell HX.out 0; have z1 := blk_cell HX.out 1; have z2 := blk_cell HX.out 2; have z3 := blk_cell HX.out 3; have z4 := blk_cell HX.out 4; have z5 := blk_cell HX.out 5) | (go_at_call 150; refine (H150.out _).mono ?_; rintro e_ w_ ⟨rfl, hb_⟩; have HX' := Aside0.mk (blk_below HX.out hb_); have HD' := Aside0.mk (Dr.up HD.out hb_); clear HX HD hb_; clear z0 z1 z2 z3 z4 z5; have HX := HX'; have HD := HD'; clear HX' HD'; have z0 := blk_cell HX.out 0; have z1 := blk_cell HX.out 1; have z2 := blk_cell HX.out 2; have z3 := blk_cell HX.out 3; have z4 := blk_cell HX.out 4; have z5 := blk_cell HX.out 5) | (go_at_call 134; refine (H134.out _).mono ?_; rintro e_ w_ ⟨rfl, hb_⟩; have HX' := Aside0.mk (blk_below HX.out hb_); have HD' := Aside0.mk (Dr.up HD.out hb_); clear HX HD hb_; clear z0 z1 z2 z3 z4 z5; have HX := HX'; have HD := HD'; clear HX' HD'; have z0 := blk_cell HX.out 0; have z1 := blk_cell HX.out 1; have z2 := blk_cell HX.out 2; have z3 := blk_cell HX.out 3; have z4 := blk_cell HX.out 4; have z5 := blk_cell HX.out 5))
  go_ret
  exact ⟨⟨_, rfl⟩, HD.out⟩
 go_upto_region 4 with (first | (go_at_call 70; refine (H70.out _).mono ?_; rintro e_ w_ ⟨rfl, hb_⟩; have HX' := Aside0.mk (blk_below HX.out hb_); have HD' := Aside0.mk (Dr.up HD.out hb_); clear HX HD hb_; clear z0 z1 z2 z3 z4 z5; have HX := HX'; have HD := HD'; clear HX' HD'; have z0 := blk_cell HX.out 0; have z1 := blk_cell HX.out 1; have z2 := blk_cell HX.out 2; have z3 := blk_cell HX.out 3; have z4 := blk_cell HX.out 4; have z5 := blk_cell HX.out 5) | (go_at_call 131; refine (H131.out _).mono ?_; rintro e_ w_ ⟨rfl, hb_⟩; have HX' := Aside0.mk (blk_below HX.out hb_); have HD' := Aside0.mk (Dr.up HD.out hb_); clear HX HD hb_; clear z0 z1 z2 z3 z4 z5; have HX := HX'; have HD := HD'; clear HX' HD'; have z0 := blk_cell HX.out 0; have z1 := blk_cell HX.out 1; have z2 := blk_cell HX.out 2; have z3 := blk_cell HX.out 3; have z4 := blk_cell HX.out 4; have z5 := blk_cell HX.out 5) | (go_at_call 102; refine (H102.out _).mono ?_; rintro e_ w_ ⟨rfl, hb_⟩; have HX' := Aside0.mk (blk_below HX.out hb_); have HD' := Aside0.mk (Dr.up HD.out hb_); clear HX HD hb_; clear z0 z1 z2 z3 z4 z5; have HX := HX'; have HD := HD'; clear HX' HD'; have z0 := blk_cell HX.out 0; have z1 := blk_cell HX.out 1; have z2 := blk_cell HX.out 2; have z3 := blk_cell HX.out 3; have z4 := blk_cell HX.out 4; have z5 := blk_cell HX.out 5) | (go_at_call 133; refine (H133.out _).mono ?_; rintro e_ w_ ⟨rfl, hb_⟩; have HX' := Aside0.mk (blk_below HX.out hb_); have HD' := Aside0.mk (Dr.up HD.out hb_); clear HX HD hb_; clear z0 z1 z2 z3 z4 z5; have HX := HX'; have HD := HD'; clear HX' HD'; have z0 := blk_cell HX.out 0; have z1 := blk_cell HX.out 1; have z2 := blk_cell HX.out 2; have z3 := blk_cell HX.out 3; have z4 := blk_cell HX.out 4; have z5 := blk_cell HX.out 5) | (go_at_call 113; refine (H113.out _).mono ?_; rintro e_ w_ ⟨rfl, hb_⟩; have HX' := Aside0.mk (blk_below HX.out hb_); have HD' := Aside0.mk (Dr.up HD.out hb_); clear HX HD hb_; clear z0 z1 z2 z3 z4 z5; have HX := HX'; have HD := HD'; clear HX' HD'; have z0 := blk_cell HX.out 0; have z1 := blk_cell HX.out 1; have z2 := blk_cell HX.out 2; have z3 := blk_cell HX.out 3; have z4 := blk_cell HX.out 4; have z5 := blk_cell HX.out 5) | (go_at_call 150; refine (H150.out _).mono ?_; rintro e_ w_ ⟨rfl, hb_⟩; have HX' := Aside0.mk (blk_below HX.out hb_); have HD' := Aside0.mk (Dr.up HD.out hb_); clear HX HD hb_; clear z0 z1 z2 z3 z4 z5; have HX := HX'; have HD := HD'; clear HX' HD'; have z0 := blk_cell HX.out 0; have z1 := blk_cell HX.out 1; have z2 := blk_cell HX.out 2; have z3 := blk_cell HX.out 3; have z4 := blk_cell HX.out 4; have z5 := blk_cell HX.out 5) | (go_at_call 134; refine (H134.out _).mono ?_; rintro e_ w_ ⟨rfl, hb_⟩; have HX' := Aside0.mk (blk_below HX.out hb_); have HD' := Aside0.mk (Dr.up HD.out hb_); clear HX HD hb_; clear z0 z1 z2 z3 z4 z5; have HX := HX'; have HD := HD'; clear HX' HD'; have z0 := blk_cell HX.out 0; have z1 := blk_cell HX.out 1; have z2 := blk_cell HX.out 2; have z3 := blk_cell HX.out 3; have z4 := blk_cell HX.out 4; have z5 := blk_cell HX.out 5))
 (try simp only [Act.put, List.setIfInBounds_toArray, List.set_cons_zero, List.set_cons_succ])
 go_cut [3, 4, 5, 6, 62] (fun v3 v4 v5 v6 v62 wc => ∃ u0 u1 u2 u3 x62 : Bool, v3 = .bool u0 ∧ v4 = .bool u1 ∧ v5 = .bool u2 ∧ v6 = .bool u3 ∧ v62 = .bool x62 ∧ Aside0 (wc.heap[w.heap.size]? = some (.cells #[.int .i64 x0, .int .i64 x1, .int .i64 x2, .int .i64 x3, .int .i64 x4, .int .i64 x5] 128 (0, 0))) ∧ Aside0 (Below w.heap.size w wc))
 case first =>
  go_wp2_with (first | (go_at_call 70; refine (H70.out _).mono ?_; rintro e_ w_ ⟨rfl, hb_⟩; have HX' := Aside0.mk (blk_below HX.out hb_); have HD' := Aside0.mk (Dr.up HD.out hb_); clear HX HD hb_; clear z0 z1 z2 z3 z4 z5; have HX := HX'; have HD := HD'; clear HX' HD'; have z0 := blk_cell HX.out 0; have z1 := blk_cell HX.out 1; have z2 := blk_cell HX.out 2; have z3 := blk_cell HX.out 3; have z4 := blk_cell HX.out 4; have z5 := blk_cell HX.out 5) | (go_at_call 131; refine (H131.out _).mono ?_; rintro e_ w_ ⟨rfl, hb_⟩; have HX' := Aside0.mk (blk_below HX.out hb_); have HD' := Aside0.mk (Dr.up HD.out hb_); clear HX HD hb_; clear z0 z1 z2 z3 z4 z5; have HX := HX'; have HD := HD'; clear HX' HD'; have z0 := blk_cell HX.out 0; have z1 := blk_cell HX.out 1; have z2 := blk_cell HX.out 2; have z3 := blk_cell HX.out 3; have z4 := blk_cell HX.out 4; have z5 := blk_cell HX.out 5) | (go_at_call 102; refine (H102.out _).mono ?_; rintro e_ w_ ⟨rfl, hb_⟩; have HX' := Aside0.mk (blk_below HX.out hb_); have HD' := Aside0.mk (Dr.up HD.out hb_); clear HX HD hb_; clear z0 z1 z2 z3 z4 z5; have HX := HX'; have HD := HD'; clear HX' HD'; have z0 := blk_cell HX.out 0; have z1 := blk_cell HX.out 1; have z2 := blk_cell HX.out 2; have z3 := blk_cell HX.out 3; have z4 := blk_cell HX.out 4; have z5 := blk_cell HX.out 5) | (go_at_call 133; refine (H133.out _).mono ?_; rintro e_ w_ ⟨rfl, hb_⟩; have HX' := Aside0.mk (blk_below HX.out hb_); have HD' := Aside0.mk (Dr.up HD.out hb_); clear HX HD hb_; clear z0 z1 z2 z3 z4 z5; have HX := HX'; have HD := HD'; clear HX' HD'; have z0 := blk_cell HX.out 0; have z1 := blk_cell HX.out 1; have z2 := blk_cell HX.out 2; have z3 := blk_cell HX.out 3; have z4 := blk_cell HX.out 4; have z5 := blk_cell HX.out 5) | (go_at_call 113; refine (H113.out _).mono ?_; rintro e_ w_ ⟨rfl, hb_⟩; have HX' := Aside0.mk (blk_below HX.out hb_); have HD' := Aside0.mk (Dr.up HD.out hb_); clear HX HD hb_; clear z0 z1 z2 z3 z4 z5; have HX := HX'; have HD := HD'; clear HX' HD'; have z0 := blk_cell HX.out 0; have z1 := blk_cell HX.out 1; have z2 := blk_cell HX.out 2; have z3 := blk_cell HX.out 3; have z4 := blk_cell HX.out 4; have z5 := blk_cell HX.out 5) | (go_at_call 150; refine (H150.out _).mono ?_; rintro e_ w_ ⟨rfl, hb_⟩; have HX' := Aside0.mk (blk_below HX.out hb_); have HD' := Aside0.mk (Dr.up HD.out hb_); clear HX HD hb_; clear z0 z1 z2 z3 z4 z5; have HX := HX'; have HD := HD'; clear HX' HD'; have z0 := blk_cell HX.out 0; have z1 := blk_cell HX.out 1; have z2 := blk_cell HX.out 2; have z3 := blk_cell HX.out 3; have z4 := blk_cell HX.out 4; have z5 := blk_cell HX.out 5) | (go_at_call 134; refine (H134.out _).mono ?_; rintro e_ w_ ⟨rfl, hb_⟩; have HX' := Aside0.mk (blk_below HX.out hb_); have HD' := Aside0.mk (Dr.up HD.out hb_); clear HX HD hb_; clear z0 z1 z2 z3 z4 z5; have HX := HX'; have HD := HD'; clear HX' HD'; have z0 := blk_cell HX.out 0; have z1 := blk_cell HX.out 1; have z2 := blk_cell HX.out 2; have z3 := blk_cell HX.out 3; have z4 := blk_cell HX.out 4; have z5 := blk_cell HX.out 5))
  all_goals
   go_meet
   case rel => exact ⟨_, _, _, _, _, rfl, rfl, rfl, rfl, rfl, HX, HD⟩
 case rest =>
  clear HX HD hE H70 H131 H102 H133 H113 H150 H134 z0 z1 z2 z3 z4 z5
  obtain ⟨u0, u1, u2, u3, x62, rfl, rfl, rfl, rfl, rfl, HX, HD⟩ := hcut
  cases x62
  rotate_left
  ·go_wp2
   go_ret
   exact ⟨⟨_, rfl⟩, HD.out⟩
  have z0 := blk_cell HX.out 0
  have z1 := blk_cell HX.out 1
  have z2 := blk_cell HX.out 2
  have z3 := blk_cell HX.out 3
  have z4 := blk_cell HX.out 4
  have z5 := blk_cell HX.out 5
  go_upto_region 6 with (fail)
  (try simp only [Act.put, List.setIfInBounds_toArray, List.set_cons_zero, List.set_cons_succ])
  go_cut [3, 4, 5, 6, 96] (fun v3 v4 v5 v6 v96 wc => ∃ x96 : Bool, v96 = .bool x96 ∧ Aside0 (Below w.heap.size w wc))
  case first =>
   obtain ⟨n2, h2⟩ : ∃ e, (x2 != 0) = e := ⟨_, rfl⟩
   obtain ⟨n3, h3⟩ : ∃ e, (x3 != 0) = e := ⟨_, rfl⟩
   obtain ⟨n4, h4⟩ : ∃ e, (x4 != 0) = e := ⟨_, rfl⟩
   obtain ⟨n5, h5⟩ : ∃ e, (x5 != 0) = e := ⟨_, rfl⟩
   go_wp2
   all_goals
    go_meet
    case rel => exact ⟨_, rfl, HD⟩
  case rest =>
   clear HX HD z0 z1 z2 z3 z4 z5
   obtain ⟨x96, rfl, HD⟩ := hcut
   cases x96
   ·go_wp2
    go_ret
    exact ⟨⟨_, rfl⟩, HD.out⟩
   ·go_wp2
    go_ret
    exact ⟨⟨_, rfl⟩, HD.out⟩
namespace Dr
theorem code_len {v : Int} {l1 : List S36} {l2 : List S64} (h : Cf.code v l1 l2 = 0) : l1.length ≤ 8 ∧ l2.length ≤ 4 := by
 unfold Cf.code at h
 split at h
 ·cases h
 ·split at h
  ·cases h
  ·rename_i hg
   simp only [Bool.or_eq_true, decide_eq_true_eq, not_or] at hg
   omega
theorem aerr2 {w w6 : World} {M : Nat} (h : Below w.heap.size w w6) (q : Int) :
  APost w M (.returned (.agg #[.int .i64 q, .int .i64 0, .slice none 0 0, .slice none 0 0])) ((((w6.setCell ⟨w.heap.size + 1 + 1, 0, none⟩ (.int .i64 q)).setCell ⟨w.heap.size + 1 + 1, 1, none⟩ (.int .i64 0)).setCell ⟨w.heap.size + 1 + 1, 2, none⟩ (.slice none 0 0)).setCell ⟨w.heap.size + 1 + 1, 3, none⟩ (.slice none 0 0)) :=
 ⟨q, 0, .slice none 0 0, .slice none 0 0, [], [], rfl, Kd.R_nil _ _ _ _ _, Kd.R_nil _ _ _ _ _, by simp, by simp, fun y hy => by simp at hy, below_set (below_set (below_set (below_set h (by omega)) (by omega)) (by omega)) (by omega)⟩
theorem afin2 {w w1 w6 : World} {M : Nat} {s1 s2 u0 u1 u2 u3 : Value} {l1 : List S36} {l2 : List S64} (hs : w.heap.size ≤ w1.heap.size) (hB : Below w.heap.size w w6) (h4 : Kd.R k36 36 w6 w1.heap.size (fun _ => True) s1 l1) (h5 : Kd.R k64 64 w6 w1.heap.size (fun _ => True) s2 l2) (hk : w6.heap[w.heap.size + 1 + 1]? = some (.cells #[u0, u1, u2, u3] 125 (0, 0))) (h1 : l1.length ≤ 8) (h2 : l2.length ≤ 4) (hm : ∀ y, y ∈ l2 → y.f3.length ≤ M + 1) (q v' : Int) :
  APost w M (.returned (.agg #[.int .i64 q, .int .i64 v', s1, s2])) ((((w6.setCell ⟨w.heap.size + 1 + 1, 0, none⟩ (.int .i64 q)).setCell ⟨w.heap.size + 1 + 1, 1, none⟩ (.int .i64 v')).setCell ⟨w.heap.size + 1 + 1, 2, none⟩ s1).setCell ⟨w.heap.size + 1 + 1, 3, none⟩ s2) :=
 ⟨q, v', s1, s2, l1, l2, rfl, Kd.R_lower (R_put4 h4 hk (by decide) _ _ _ _) hs, Kd.R_lower (R_put4 h5 hk (by decide) _ _ _ _) hs, h1, h2, hm, below_set (below_set (below_set (below_set hB (by omega)) (by omega)) (by omega)) (by omega)⟩
end Dr
set_option maxHeartbeats 16000000 in
set_option maxRecDepth 100000 in
/-- A command done to a configuration, if both are right. -/
theorem spec_ApplyCmd.cf (A1 : Option Addr) (c1 : Nat) (l1 : List S36) (A2 : Option Addr) (c2 : Nat) (l2 : List S64) (v x0 x1 x2 x3 x4 x5 : Int) (M : Nat) (w : World) (hr1 : Kd.C k36 w A1 l1.length l1) (hc1 : l1.length ≤ c1) (hr2 : Kd.C k64 w A2 l2.length l2) (hc2 : l2.length ≤ c2) (hM : M ≤ 1000) (hm : ∀ y, y ∈ l2 → y.f3.length ≤ M) :
  Calls Try.prog 99 #[.agg #[.int .i64 v, .slice A1 l1.length c1, .slice A2 l2.length c2], .agg #[.int .i64 x0, .int .i64 x1, .int .i64 x2, .int .i64 x3, .int .i64 x4, .int .i64 x5]] w fun e w' => Dr.APost w M e w' := by
 have hu31 := Try.underlying31
 have hu125 := Try.underlying125
 have hu128 := Try.underlying128
 obtain ⟨w1, hw1⟩ : ∃ W, W = ((w.alloc (.cells #[.int .i64 v, .slice A1 l1.length c1, .slice A2 l2.length c2] 31)).alloc (.cells #[.int .i64 x0, .int .i64 x1, .int .i64 x2, .int .i64 x3, .int .i64 x4, .int .i64 x5] 128)).alloc (.cells #[.int .i64 0, .int .i64 0, .slice none 0 0, .slice none 0 0] 125) := ⟨_, rfl⟩
 have hB1 : Below w.heap.size w w1 := by rw [hw1]; exact ((((Below.refl _ w).alloc (Nat.le_refl _) _).alloc (by simp) _).alloc (by simp; omega) _)
 have bc1 : w1.heap[w.heap.size]? = some (.cells #[.int .i64 v, .slice A1 l1.length c1, .slice A2 l2.length c2] 31 (0, 0)) := by rw [hw1]; exact blk_alloc (blk_alloc (blk_new w _) _) _
 have bx1 : w1.heap[w.heap.size + 1]? = some (.cells #[.int .i64 x0, .int .i64 x1, .int .i64 x2, .int .i64 x3, .int .i64 x4, .int .i64 x5] 128 (0, 0)) := by
  rw [hw1]
  refine blk_alloc ?_ _
  have h_ := heap_alloc_new (w.alloc (.cells #[.int .i64 v, .slice A1 l1.length c1, .slice A2 l2.length c2] 31)) (.cells #[.int .i64 x0, .int .i64 x1, .int .i64 x2, .int .i64 x3, .int .i64 x4, .int .i64 x5] 128)
  rwa [World.size_alloc] at h_
 have bk1 : w1.heap[w.heap.size + 1 + 1]? = some (.cells #[.int .i64 0, .int .i64 0, .slice none 0 0, .slice none 0 0] 125 (0, 0)) := by
  rw [hw1]
  have h_ := heap_alloc_new ((w.alloc (.cells #[.int .i64 v, .slice A1 l1.length c1, .slice A2 l2.length c2] 31)).alloc (.cells #[.int .i64 x0, .int .i64 x1, .int .i64 x2, .int .i64 x3, .int .i64 x4, .int .i64 x5] 128)) (.cells #[.int .i64 0, .int .i64 0, .slice none 0 0, .slice none 0 0] 125)
  rwa [World.size_alloc, World.size_alloc] at h_
 have hF := spec_l5Fault.cf w.heap.size A1 c1 l1 A2 c2 l2 v w1 bc1 (Kd.C_below hr1 hB1) (Kd.C_below hr2 hB1)
 rw [hw1] at hF
 have hlen := Dr.code_len (v := v) (l1 := l1) (l2 := l2)
 obtain ⟨q, hq⟩ : ∃ q, q = Cf.code v l1 l2 := ⟨_, rfl⟩
 rw [← hq] at hF hlen
 clear hq
 have HB1 := Aside0.mk hB1
 have HC1 := Aside0.mk bc1
 have HX1 := Aside0.mk bx1
 have HK1 := Aside0.mk bk1
 have HM := Aside0.mk hm
 have HR1 := Aside0.mk hr1
 have HR2 := Aside0.mk hr2
 clear hm hr1 hr2 hB1 bc1 bx1 bk1
 go_enter Try.func99, Try.ntmps99
 by_cases hq0 : q = 0
 rotate_left
 ·have hq1 : (q != 0) = true := bne_iff_ne.mpr hq0
  clear hq0 hlen
  go_wp2_with (go_at_call 50; refine hF.mono ?_; rintro e w2 ⟨rfl, hb2⟩; rw [← hw1] at hb2; clear hF; have HK2 := Aside0.mk (blk_below HK1.out hb2); have HD2 := Aside0.mk (Dr.up HB1.out hb2); clear hb2; have y0 := blk_cell HK2.out 0; have f0 := blk_frozen HK2.out 0; have y1 := blk_cell HK2.out 1; have f1 := blk_frozen HK2.out 1; have y2 := blk_cell HK2.out 2; have f2 := blk_frozen HK2.out 2; have y3 := blk_cell HK2.out 3; have f3 := blk_frozen HK2.out 3)
  refine bodyPost_ret (results_cell_row rfl _ _ (w.heap.size + 1 + 1) 125 #[.int .i64 q, .int .i64 0, .slice none 0 0, .slice none 0 0] (0, 0) _ rfl (by exact Dr.put4 HK2.out _ _ _ _) Try.underlying125 rfl (by kernel_rfl)) rfl ?_
  exact Dr.aerr2 HD2.out q
 have hq1 : (q != 0) = false := bne_eq_false_iff_eq.mpr hq0
 obtain ⟨hl1, hl2⟩ := hlen hq0
 clear hq0 hlen
 go_wp2_with (go_at_call 50; refine hF.mono ?_; rintro e w2 ⟨rfl, hb2⟩; rw [← hw1] at hb2; clear hF; have HX2 := Aside0.mk (blk_below HX1.out hb2); have HB2 := Aside0.mk hb2; clear hb2; have z0 := blk_cell HX2.out 0; have z1 := blk_cell HX2.out 1; have z2 := blk_cell HX2.out 2; have z3 := blk_cell HX2.out 3; have z4 := blk_cell HX2.out 4; have z5 := blk_cell HX2.out 5)
 refine (spec_CmdFault.cf x0 x1 x2 x3 x4 x5 w2).mono ?_
 rintro e w3 ⟨⟨k, rfl⟩, hb3⟩
 have HB3 := Aside0.mk (Dr.up HB2.out hb3)
 clear hb3 HB2 HX2 z0 z1 z2 z3 z4 z5
 have HD3 := Aside0.mk (Dr.up HB1.out HB3.out)
 have HK3 := Aside0.mk (blk_below HK1.out HB3.out)
 by_cases hk0 : k = 0
 rotate_left
 ·have hk1 : (k != 0) = true := bne_iff_ne.mpr hk0
  clear hk0
  have y0 := blk_cell HK3.out 0
  have f0 := blk_frozen HK3.out 0
  have y1 := blk_cell HK3.out 1
  have f1 := blk_frozen HK3.out 1
  have y2 := blk_cell HK3.out 2
  have f2 := blk_frozen HK3.out 2
  have y3 := blk_cell HK3.out 3
  have f3 := blk_frozen HK3.out 3
  go_wp2
  refine bodyPost_ret (results_cell_row rfl _ _ (w.heap.size + 1 + 1) 125 #[.int .i64 k, .int .i64 0, .slice none 0 0, .slice none 0 0] (0, 0) _ rfl (by exact Dr.put4 HK3.out _ _ _ _) Try.underlying125 rfl (by kernel_rfl)) rfl ?_
  exact Dr.aerr2 HD3.out k
 have hk1 : (k != 0) = false := bne_eq_false_iff_eq.mpr hk0
 clear hk0
 have HX3 := Aside0.mk (blk_below HX1.out HB3.out)
 have HC3 := Aside0.mk (blk_below HC1.out HB3.out)
 have z0 := blk_cell HX3.out 0
 have z1 := blk_cell HX3.out 1
 have z2 := blk_cell HX3.out 2
 have z3 := blk_cell HX3.out 3
 have z4 := blk_cell HX3.out 4
 have z5 := blk_cell HX3.out 5
 have a0 := blk_cell HC3.out 0
 have a1 := blk_cell HC3.out 1
 have a2 := blk_cell HC3.out 2
 have hap := spec_l5Apply.cf A1 c1 l1 A2 c2 l2 v x0 x1 x2 x3 x4 x5 M w3 (Kd.C_below HR1.out HD3.out) hc1 (Kd.C_below HR2.out HD3.out) hc2 hl1 hl2 hM HM.out
 go_wp2_with (go_at_call 130; refine hap.mono ?_; rintro e w4 ⟨r, v', s1, s2, l1', l2', rfl, hR1, hR2, k1, k2, k3, hb4⟩; clear hap; obtain ⟨D1, d1, t1⟩ := Kd.R_slice hR1; subst t1; obtain ⟨D2, d2, t2⟩ := Kd.R_slice hR2; subst t2; have HK4 := Aside0.mk (blk_below HK3.out hb4); have HD4 := Aside0.mk (Dr.up HD3.out hb4); have HR3 := Aside0.mk hR1; have HR4 := Aside0.mk hR2; clear hb4 hR1 hR2 z0 z1 z2 z3 z4 z5 a0 a1 a2; have y0 := blk_cell HK4.out 0; have f0 := blk_frozen HK4.out 0; have y1 := blk_cell HK4.out 1; have f1 := blk_frozen HK4.out 1; have y2 := blk_cell HK4.out 2; have f2 := blk_frozen HK4.out 2; have y3 := blk_cell HK4.out 3; have f3 := blk_frozen HK4.out 3)
 refine bodyPost_ret (results_cell_row rfl _ _ (w.heap.size + 1 + 1) 125 #[.int .i64 r, .int .i64 v', .slice D1 l1'.length d1, .slice D2 l2'.length d2] (0, 0) _ rfl (by exact Dr.put4 HK4.out _ _ _ _) Try.underlying125 rfl (by kernel_rfl)) rfl ?_
 exact Dr.afin2 HD3.out.size HD4.out HR3.out HR4.out HK4.out k1 k2 k3 r v'
namespace Dr
/-- Two rows of a configuration, all newer than n. -/
def Rt (n : Nat) (W : World) (s1 s2 : Value) (l1 : List S36) (l2 : List S64) (N1 N2 M : Nat) : Prop :=
 Kd.R k36 36 W n (fun _ => True) s1 l1 ∧ Kd.R k64 64 W n (fun _ => True) s2 l2 ∧ l1.length ≤ N1 ∧ l2.length ≤ N2 ∧ ∀ y, y ∈ l2 → y.f3.length ≤ M
theorem Rt.below {n : Nat} {W W' : World} {s1 s2 : Value} {l1 : List S36} {l2 : List S64} {N1 N2 M : Nat} (h : Rt n W s1 s2 l1 l2 N1 N2 M) (hb : Below W.heap.size W W') : Rt n W' s1 s2 l1 l2 N1 N2 M :=
 ⟨Kd.R_below h.1 hb, Kd.R_below h.2.1 hb, h.2.2⟩
theorem Rt.keep {w0 W W' : World} {n g : Nat} {code : List Int} {b : Nat} {s1 s2 : Value} {l1 : List S36} {l2 : List S64} {N1 N2 M : Nat} (h : Rt n W s1 s2 l1 l2 N1 N2 M) (hs : Sr w0 W g code b) (hk : KeepBut W W' g none) : Rt n W' s1 s2 l1 l2 N1 N2 M :=
 ⟨keepR hs h.1 (by decide) hk, keepR hs h.2.1 (by decide) hk, h.2.2⟩
theorem Rt.put4 {n : Nat} {W : World} {s1 s2 u0 u1 u2 u3 : Value} {l1 : List S36} {l2 : List S64} {N1 N2 M gb : Nat} (h : Rt n W s1 s2 l1 l2 N1 N2 M) (hb : W.heap[gb]? = some (.cells #[u0, u1, u2, u3] 125 (0, 0))) (v0 v1 v2 v3 : Value) :
  Rt n ((((W.setCell ⟨gb, 0, none⟩ v0).setCell ⟨gb, 1, none⟩ v1).setCell ⟨gb, 2, none⟩ v2).setCell ⟨gb, 3, none⟩ v3) s1 s2 l1 l2 N1 N2 M :=
 ⟨R_put4 h.1 hb (by decide) _ _ _ _, R_put4 h.2.1 hb (by decide) _ _ _ _, h.2.2⟩
theorem Rt.set {n : Nat} {W : World} {s1 s2 : Value} {l1 : List S36} {l2 : List S64} {N1 N2 M a j : Nat} {cs : Array Value} (h : Rt n W s1 s2 l1 l2 N1 N2 M) (hb : W.heap[a]? = some (.cells cs 31 (0, 0))) (v : Value) : Rt n (W.setCell ⟨a, j, none⟩ v) s1 s2 l1 l2 N1 N2 M :=
 ⟨Kd.R_set h.1 hb (by decide) j v, Kd.R_set h.2.1 hb (by decide) j v, h.2.2⟩
/-- Two rows of a configuration, all between the call's entry and n. -/
def Ra (w : World) (n : Nat) (W : World) (s1 s2 : Value) (l1 : List S36) (l2 : List S64) : Prop :=
 Kd.R k36 36 W w.heap.size (fun k => k < n) s1 l1 ∧ Kd.R k64 64 W w.heap.size (fun k => k < n) s2 l2 ∧ l1.length ≤ 9 ∧ l2.length ≤ 5 ∧ ∀ y, y ∈ l2 → y.f3.length ≤ 24
theorem keepRo {w0 W W' : World} {g : Nat} {code : List Int} {b : Nat} (h : Sr w0 W g code b) {α : Type} {d : Kd α} {e base : Nat} {ok : Nat → Prop} {v : Value} {xs : List α} (ho : d.R e W base ok v xs) (ht : ∀ q, q ∈ e :: d.E → q ≠ 148) (hk : KeepBut W W' g none) : d.R e W' base ok v xs :=
 Kd.R_mono (Kd.R_keep (h.apart ho ht) hk (fun _ hk => hk.2)) (fun _ h => h.1)
theorem Ra.below {w W W' : World} {n : Nat} {s1 s2 : Value} {l1 : List S36} {l2 : List S64} (h : Ra w n W s1 s2 l1 l2) (hb : Below W.heap.size W W') : Ra w n W' s1 s2 l1 l2 :=
 ⟨Kd.R_below h.1 hb, Kd.R_below h.2.1 hb, h.2.2⟩
theorem Ra.keep {w0 w W W' : World} {n g : Nat} {code : List Int} {b : Nat} {s1 s2 : Value} {l1 : List S36} {l2 : List S64} (h : Ra w n W s1 s2 l1 l2) (hs : Sr w0 W g code b) (hk : KeepBut W W' g none) : Ra w n W' s1 s2 l1 l2 :=
 ⟨keepRo hs h.1 (by decide) hk, keepRo hs h.2.1 (by decide) hk, h.2.2⟩
theorem Ra.set {w W : World} {n : Nat} {s1 s2 : Value} {l1 : List S36} {l2 : List S64} {a j : Nat} {cs : Array Value} {t : TypeId} (h : Ra w n W s1 s2 l1 l2) (hb : W.heap[a]? = some (.cells cs t (0, 0))) (ht1 : ∀ q, q ∈ 36 :: k36.E → q ≠ t) (ht2 : ∀ q, q ∈ 64 :: k64.E → q ≠ t) (v : Value) : Ra w n (W.setCell ⟨a, j, none⟩ v) s1 s2 l1 l2 :=
 ⟨Kd.R_set h.1 hb ht1 j v, Kd.R_set h.2.1 hb ht2 j v, h.2.2⟩
theorem Rs.ra {w W : World} {s1 s2 : Value} {l1 : List S36} {l2 : List S64} (h : Rs w W s1 s2 l1 l2 9 5 24) : Ra w W.heap.size W s1 s2 l1 l2 :=
 ⟨Kd.R_mono (Kd.R_bound h.1) (fun _ h => h.2.2.1), Kd.R_mono (Kd.R_bound h.2.1) (fun _ h => h.2.2.1), h.2.2⟩
/-- Two drawn configurations in boxes, beside the source of the draws; the result boxes are still empty. -/
def Dg (w W : World) (g : Nat) (code : List Int) (b n c5 c : Nat) (u : Int) (s1 s2 : Value) (k1 : List S36) (k2 : List S64) (v : Int) (t1 t2 : Value) (l1 : List S36) (l2 : List S64) (M : Nat) : Prop :=
 Sr w W g code b ∧ KeepBut w W g none ∧ (w.heap.size + 1 < c5 ∧ w.heap.size + 1 < c ∧ c5 ≠ c ∧ w.heap.size ≤ n ∧ n ≤ W.heap.size) ∧ W.heap[w.heap.size]? = some (.cells #[.int .i64 0, .slice none 0 0, .slice none 0 0] 31 (0, 0)) ∧ W.heap[w.heap.size + 1]? = some (.cells #[.int .i64 0, .slice none 0 0, .slice none 0 0] 31 (0, 0)) ∧ W.heap[c5]? = some (.cells #[.int .i64 u, s1, s2] 31 (0, 0)) ∧ W.heap[c]? = some (.cells #[.int .i64 v, t1, t2] 31 (0, 0)) ∧ Ra w n W s1 s2 k1 k2 ∧ Rt n W t1 t2 l1 l2 9 5 M
section
variable {w W W' : World} {g : Nat} {code : List Int} {b n c5 c : Nat} {u v : Int} {s1 s2 t1 t2 : Value} {k1 l1 : List S36} {k2 l2 : List S64} {M : Nat}
theorem Dg.held (h : Dg w W g code b n c5 c u s1 s2 k1 k2 v t1 t2 l1 l2 M) : W.cell? ⟨c, 0, none⟩ = some (.int .i64 v) ∧ W.cell? ⟨c, 1, none⟩ = some t1 ∧ W.cell? ⟨c, 2, none⟩ = some t2 :=
 ⟨blk_cell h.2.2.2.2.2.2.1 0, blk_cell h.2.2.2.2.2.2.1 1, blk_cell h.2.2.2.2.2.2.1 2⟩
theorem Dg.below (h : Dg w W g code b n c5 c u s1 s2 k1 k2 v t1 t2 l1 l2 M) (hb : Below W.heap.size W W') : Dg w W' g code b n c5 c u s1 s2 k1 k2 v t1 t2 l1 l2 M := by
 obtain ⟨h1, h2, ⟨p1, p2, p3, p4, p5⟩, h4, h5, h6, h7, h8, h9⟩ := h
 exact ⟨h1.below hb, h2.trans (KeepBut.of_below hb g none) (.inl rfl), ⟨p1, p2, p3, p4, Nat.le_trans p5 hb.size⟩, blk_below h4 hb, blk_below h5 hb, blk_below h6 hb, blk_below h7 hb, h8.below hb, h9.below hb⟩
theorem Dg.keep {b' : Nat} (h : Dg w W g code b n c5 c u s1 s2 k1 k2 v t1 t2 l1 l2 M) (hs : Sr w W' g code b') (hk : KeepBut W W' g none) : Dg w W' g code b' n c5 c u s1 s2 k1 k2 v t1 t2 l1 l2 M := by
 obtain ⟨h1, h2, ⟨p1, p2, p3, p4, p5⟩, h4, h5, h6, h7, h8, h9⟩ := h
 exact ⟨hs, h2.trans hk (.inl rfl), ⟨p1, p2, p3, p4, Nat.le_trans p5 hk.1⟩, keepB h1 h4 (by decide) hk, keepB h1 h5 (by decide) hk, keepB h1 h6 (by decide) hk, keepB h1 h7 (by decide) hk, h8.keep h1 hk, h9.keep h1 hk⟩
theorem Dg.le {b' M' : Nat} (h : Dg w W g code b n c5 c u s1 s2 k1 k2 v t1 t2 l1 l2 M) (hb : b ≤ b') (hM : M ≤ M') : Dg w W g code b' n c5 c u s1 s2 k1 k2 v t1 t2 l1 l2 M' := by
 obtain ⟨h1, h2, h3, h4, h5, h6, h7, h8, h9, h10, h11, h12, h13⟩ := h
 exact ⟨h1.le hb, h2, h3, h4, h5, h6, h7, h8, h9, h10, h11, h12, fun y hy => Nat.le_trans (h13 y hy) hM⟩
theorem Dg.off {a j : Nat} {cs : Array Value} (h : Dg w W g code b n c5 c u s1 s2 k1 k2 v t1 t2 l1 l2 M) (hb : W.heap[a]? = some (.cells cs 125 (0, 0))) (ha : w.heap.size ≤ a) (x : Value) : Dg w (W.setCell ⟨a, j, none⟩ x) g code b n c5 c u s1 s2 k1 k2 v t1 t2 l1 l2 M := by
 obtain ⟨h1, h2, ⟨p1, p2, p3, p4, p5⟩, h4, h5, h6, h7, h8, h9⟩ := h
 have kk := keep_far h2 (p := ⟨a, j, none⟩) ha x
 refine ⟨h1.far (h1.ne_blk hb (by decide)) ha x, kk, ⟨p1, p2, p3, p4, ?_⟩, blk_far h4 (ne_ty h4 hb (by decide)) x, blk_far h5 (ne_ty h5 hb (by decide)) x, blk_far h6 (ne_ty h6 hb (by decide)) x, blk_far h7 (ne_ty h7 hb (by decide)) x, h8.set hb (by decide) (by decide) x, ⟨Kd.R_set h9.1 hb (by decide) j x, Kd.R_set h9.2.1 hb (by decide) j x, h9.2.2⟩⟩
 rw [World.size_setCell]; exact p5
theorem Dg.put4 {gb : Nat} {u0 u1 u2 u3 : Value} (h : Dg w W g code b n c5 c u s1 s2 k1 k2 v t1 t2 l1 l2 M) (hb : W.heap[gb]? = some (.cells #[u0, u1, u2, u3] 125 (0, 0))) (ha : w.heap.size ≤ gb) (v0 v1 v2 v3 : Value) :
  Dg w ((((W.setCell ⟨gb, 0, none⟩ v0).setCell ⟨gb, 1, none⟩ v1).setCell ⟨gb, 2, none⟩ v2).setCell ⟨gb, 3, none⟩ v3) g code b n c5 c u s1 s2 k1 k2 v t1 t2 l1 l2 M := by
 have n1 := blk_put (cs := #[u0, u1, u2, u3]) hb 0 v0 rfl
 have n2 := blk_put (cs := #[v0, u1, u2, u3]) n1 1 v1 rfl
 have n3 := blk_put (cs := #[v0, v1, u2, u3]) n2 2 v2 rfl
 exact (((h.off hb ha v0).off n1 ha v1).off n2 ha v2).off n3 ha v3
/-- One cell of the second configuration's box. -/
theorem Dg.cell {j : Nat} {v' : Int} {t1' t2' x : Value} {l1' : List S36} {l2' : List S64} {M' : Nat} (h : Dg w W g code b n c5 c u s1 s2 k1 k2 v t1 t2 l1 l2 M) (e : (#[.int .i64 v, t1, t2] : Array Value).setIfInBounds j x = #[.int .i64 v', t1', t2']) (hR : Rt n W t1' t2' l1' l2' 9 5 M') : Dg w (W.setCell ⟨c, j, none⟩ x) g code b n c5 c u s1 s2 k1 k2 v' t1' t2' l1' l2' M' := by
 obtain ⟨h1, h2, ⟨p1, p2, p3, p4, p5⟩, h4, h5, h6, h7, h8, h9⟩ := h
 refine ⟨h1.far (h1.ne_blk h7 (by decide)) (by show _ ≤ c; omega) x, keep_far h2 (by show _ ≤ c; omega) x, ⟨p1, p2, p3, p4, ?_⟩, blk_far h4 (by show _ ≠ c; omega) x, blk_far h5 (by show _ ≠ c; omega) x, blk_far h6 p3 x, blk_put h7 j x e, h8.set h7 (by decide) (by decide) x, hR.set h7 x⟩
 rw [World.size_setCell]; exact p5
theorem Dg.fill {v' : Int} {t1' t2' : Value} {l1' : List S36} {l2' : List S64} {M' : Nat} (h : Dg w W g code b n c5 c u s1 s2 k1 k2 v t1 t2 l1 l2 M) (hR : Rt n W t1' t2' l1' l2' 9 5 M') : Dg w (((W.setCell ⟨c, 0, none⟩ (.int .i64 v')).setCell ⟨c, 1, none⟩ t1').setCell ⟨c, 2, none⟩ t2') g code b n c5 c u s1 s2 k1 k2 v' t1' t2' l1' l2' M' := by
 have q0 := h.cell (j := 0) (v' := v') (t1' := t1) (t2' := t2) (x := .int .i64 v') rfl h.2.2.2.2.2.2.2.2
 have r0 := hR.set (j := 0) h.2.2.2.2.2.2.1 (.int .i64 v')
 have q1 := q0.cell (j := 1) (v' := v') (t1' := t1') (t2' := t2) (x := t1') (l1' := l1') (l2' := l2) (M' := M) rfl ⟨r0.1, q0.2.2.2.2.2.2.2.2.2.1, r0.2.2.1, q0.2.2.2.2.2.2.2.2.2.2.2⟩
 have r1 := r0.set (j := 1) q0.2.2.2.2.2.2.1 t1'
 exact q1.cell (j := 2) (v' := v') (t1' := t1') (t2' := t2') (x := t2') rfl r1
theorem applyD {A1 A2 : Option Addr} {c1 c2 : Nat} (h : Dg w W g code b n c5 c u s1 s2 k1 k2 v (.slice A1 l1.length c1) (.slice A2 l2.length c2) l1 l2 M) (hM : M ≤ 1000) (x0 x1 x2 x3 x4 x5 : Int) :
  Calls Try.prog 99 #[.agg #[.int .i64 v, .slice A1 l1.length c1, .slice A2 l2.length c2], .agg #[.int .i64 x0, .int .i64 x1, .int .i64 x2, .int .i64 x3, .int .i64 x4, .int .i64 x5]] W fun e w' => ∃ (q v' : Int) (s1 s2 : Value) (l1' : List S36) (l2' : List S64), e = .returned (.agg #[.int .i64 q, .int .i64 v', s1, s2]) ∧ Rt n w' s1 s2 l1' l2' 8 4 (M + 1) ∧ Below W.heap.size W w' := by
 obtain ⟨h1, h2, ⟨p1, p2, p3, p4, p5⟩, h4, h5, h6, h7, h8, h9, h10, h11, h12, h13⟩ := h
 have r1 := Kd.R_reads' h9
 have r2 := Kd.R_reads' h10
 refine (spec_ApplyCmd.cf A1 c1 l1 A2 c2 l2 v x0 x1 x2 x3 x4 x5 M W r1.2.2 r1.2.1 r2.2.2 r2.2.1 hM h13).mono ?_
 rintro e w' ⟨q, v', s1, s2, l1', l2', rfl, hR1, hR2, q1, q2, q3, hb⟩
 exact ⟨q, v', s1, s2, l1', l2', rfl, ⟨Kd.R_lower hR1 p5, Kd.R_lower hR2 p5, q1, q2, q3⟩, hb⟩
/-- The second configuration, another copy of the first. -/
theorem copyD {B1 B2 : Option Addr} {e1 e2 : Nat} (h : Dg w W g code b n c5 c u (.slice B1 k1.length e1) (.slice B2 k2.length e2) k1 k2 v t1 t2 l1 l2 M) :
  Calls Try.prog 98 #[.agg #[.int .i64 u, .slice B1 k1.length e1, .slice B2 k2.length e2]] W fun e w' => ∃ s1 s2, e = .returned (.agg #[.int .i64 u, s1, s2]) ∧ Rt n w' s1 s2 k1 k2 9 5 24 ∧ Below W.heap.size W w' := by
 obtain ⟨h1, h2, ⟨p1, p2, p3, p4, p5⟩, h4, h5, h6, h7, ⟨h8, h9, h10, h11, h12⟩, h13⟩ := h
 have r1 := Kd.R_reads' h8
 have r2 := Kd.R_reads' h9
 refine (copy B1 e1 k1 B2 e2 k2 u W r1.2.2 r1.2.1 r2.2.2 r2.2.1 h10 h11 (fun y hy => Nat.le_trans (h12 y hy) (by omega))).mono ?_
 rintro e w' ⟨s1, s2, rfl, hR1, hR2, hb⟩
 exact ⟨s1, s2, rfl, ⟨Kd.R_lower hR1 p5, Kd.R_lower hR2 p5, h10, h11, h12⟩, hb⟩
/-- The first configuration drawn. -/
theorem Dg.one {w1 w2 : World} (hB : Below w.heap.size w w1) (hs1 : w1.heap.size = w.heap.size + 2 ∨ w.heap.size + 2 ≤ w1.heap.size) (hR : Rs w1 w2 s1 s2 k1 k2 9 5 24) : Ra w w2.heap.size (w2.alloc (.cells #[.int .i64 u, s1, s2] 31)) s1 s2 k1 k2 := by
 have h : Rs w w2 s1 s2 k1 k2 9 5 24 := ⟨Kd.R_lower hR.1 (by omega), Kd.R_lower hR.2.1 (by omega), hR.2.2⟩
 exact h.ra.below (below_alloc (Below.refl _ _) _)
end
end Dr
namespace Dr
section
variable {w W W' : World} {g : Nat} {code : List Int} {b n c5 c : Nat} {u v : Int} {s1 s2 t1 t2 : Value} {k1 l1 : List S36} {k2 l2 : List S64} {M : Nat}
theorem Dg.held6 (h : Dg w W g code b n c5 c u s1 s2 k1 k2 v t1 t2 l1 l2 M) : W.cell? ⟨c5, 0, none⟩ = some (.int .i64 u) ∧ W.cell? ⟨c5, 1, none⟩ = some s1 ∧ W.cell? ⟨c5, 2, none⟩ = some s2 ∧ W.cell? ⟨c, 0, none⟩ = some (.int .i64 v) ∧ W.cell? ⟨c, 1, none⟩ = some t1 ∧ W.cell? ⟨c, 2, none⟩ = some t2 :=
 ⟨blk_cell h.2.2.2.2.2.1 0, blk_cell h.2.2.2.2.2.1 1, blk_cell h.2.2.2.2.2.1 2, h.held⟩
theorem far3 {W : World} {a m : Nat} {cs : Array Value} {t : TypeId} {x0 x1 x2 : Value} (h : W.heap[a]? = some (.cells cs t (0, 0))) (hn : a ≠ m := by omega) : (((W.setCell ⟨m, 0, none⟩ x0).setCell ⟨m, 1, none⟩ x1).setCell ⟨m, 2, none⟩ x2).heap[a]? = some (.cells cs t (0, 0)) :=
 blk_far (p := ⟨m, 2, none⟩) (blk_far (p := ⟨m, 1, none⟩) (blk_far (p := ⟨m, 0, none⟩) h hn x0) hn x1) hn x2
/-- The first result written. -/
theorem Dg.first {x0 x1 x2 : Value} (h : Dg w W g code b n c5 c u s1 s2 k1 k2 v t1 t2 l1 l2 M) :
  ((((W.setCell ⟨w.heap.size, 0, none⟩ x0).setCell ⟨w.heap.size, 1, none⟩ x1).setCell ⟨w.heap.size, 2, none⟩ x2).cell? ⟨c5, 0, none⟩ = some (.int .i64 u) ∧ (((W.setCell ⟨w.heap.size, 0, none⟩ x0).setCell ⟨w.heap.size, 1, none⟩ x1).setCell ⟨w.heap.size, 2, none⟩ x2).cell? ⟨c5, 1, none⟩ = some s1 ∧ (((W.setCell ⟨w.heap.size, 0, none⟩ x0).setCell ⟨w.heap.size, 1, none⟩ x1).setCell ⟨w.heap.size, 2, none⟩ x2).cell? ⟨c5, 2, none⟩ = some s2 ∧ (((W.setCell ⟨w.heap.size, 0, none⟩ x0).setCell ⟨w.heap.size, 1, none⟩ x1).setCell ⟨w.heap.size, 2, none⟩ x2).cell? ⟨c, 0, none⟩ = some (.int .i64 v) ∧ (((W.setCell ⟨w.heap.size, 0, none⟩ x0).setCell ⟨w.heap.size, 1, none⟩ x1).setCell ⟨w.heap.size, 2, none⟩ x2).cell? ⟨c, 1, none⟩ = some t1 ∧ (((W.setCell ⟨w.heap.size, 0, none⟩ x0).setCell ⟨w.heap.size, 1, none⟩ x1).setCell ⟨w.heap.size, 2, none⟩ x2).cell? ⟨c, 2, none⟩ = some t2) ∧
  (((W.setCell ⟨w.heap.size, 0, none⟩ x0).setCell ⟨w.heap.size, 1, none⟩ x1).setCell ⟨w.heap.size, 2, none⟩ x2).heap[w.heap.size]? = some (.cells #[x0, x1, x2] 31 (0, 0)) ∧
  (((W.setCell ⟨w.heap.size, 0, none⟩ x0).setCell ⟨w.heap.size, 1, none⟩ x1).setCell ⟨w.heap.size, 2, none⟩ x2).heap[w.heap.size + 1]? = some (.cells #[.int .i64 0, .slice none 0 0, .slice none 0 0] 31 (0, 0)) := by
 obtain ⟨h1, h2, ⟨p1, p2, p3, p4, p5⟩, h4, h5, h6, h7, h8, h9⟩ := h
 have q5 := far3 (m := w.heap.size) (x0 := x0) (x1 := x1) (x2 := x2) h6
 have q6 := far3 (m := w.heap.size) (x0 := x0) (x1 := x1) (x2 := x2) h7
 exact ⟨⟨blk_cell q5 0, blk_cell q5 1, blk_cell q5 2, blk_cell q6 0, blk_cell q6 1, blk_cell q6 2⟩, put3 h4 x0 x1 x2, far3 h5⟩
theorem Rt.le {n : Nat} {N1 N2 N1' N2' M' : Nat} (h : Rt n W t1 t2 l1 l2 N1 N2 M) (h1 : N1 ≤ N1') (h2 : N2 ≤ N2') (h3 : M ≤ M') : Rt n W t1 t2 l1 l2 N1' N2' M' :=
 ⟨h.1, h.2.1, Nat.le_trans h.2.2.1 h1, Nat.le_trans h.2.2.2.1 h2, fun y hy => Nat.le_trans (h.2.2.2.2 y hy) h3⟩
/-- The second configuration drawn, and put into a box. -/
theorem Dg.make {w4 w5 : World} {b' : Nat} (hK : KeepBut w w4 g none) (g1 : w4.heap[w.heap.size]? = some (.cells #[.int .i64 0, .slice none 0 0, .slice none 0 0] 31 (0, 0))) (g2 : w4.heap[w.heap.size + 1]? = some (.cells #[.int .i64 0, .slice none 0 0, .slice none 0 0] 31 (0, 0))) (g3 : w4.heap[c5]? = some (.cells #[.int .i64 u, s1, s2] 31 (0, 0))) (hA : Ra w n w4 s1 s2 k1 k2) (h4 : Sr w w4 g code b) (hT : Rs w4 w5 t1 t2 l1 l2 9 5 24) (h5 : Sr w w5 g code b') (hk : KeepBut w4 w5 g none) (p1 : w.heap.size + 1 < c5) (p2 : c5 < w4.heap.size) (p3 : w.heap.size ≤ n) (p4 : n ≤ w4.heap.size) :
  Dg w (w5.alloc (.cells #[.int .i64 v, t1, t2] 31)) g code b' n c5 w5.heap.size u s1 s2 k1 k2 v t1 t2 l1 l2 24 := by
 have ha := below_alloc (Below.refl w5.heap.size w5) (.cells #[.int .i64 v, t1, t2] 31)
 have hsz := hk.1
 have hz : (w5.alloc (.cells #[.int .i64 v, t1, t2] 31)).heap.size = w5.heap.size + 1 := by simp
 refine ⟨h5.below ha, (hK.trans hk (.inl rfl)).trans (KeepBut.of_below ha g none) (.inl rfl), ⟨p1, by omega, by omega, p3, by omega⟩, blk_below (keepB h4 g1 (by decide) hk) ha, blk_below (keepB h4 g2 (by decide) hk) ha, blk_below (keepB h4 g3 (by decide) hk) ha, blk_new w5 _, (hA.keep h4 hk).below ha, ?_⟩
 exact Rt.below ⟨Kd.R_lower hT.1 p4, Kd.R_lower hT.2.1 p4, hT.2.2⟩ ha
/-- What the draw comes to: two configurations within bounds, their rows apart. -/
def EPost (w : World) (e : Ending) (w' : World) : Prop := ∃ (u : Int) (s1 s2 : Value) (v : Int) (t1 t2 : Value) (k1 : List S36) (k2 : List S64) (l1 : List S36) (l2 : List S64), e = .returned (.tuple #[.agg #[.int .i64 u, s1, s2], .agg #[.int .i64 v, t1, t2]]) ∧ Kd.R k36 36 w' w.heap.size (fun k_ => some k_ ≠ t1.ownBlock) s1 k1 ∧ Kd.R k64 64 w' w.heap.size (fun k_ => some k_ ≠ t2.ownBlock) s2 k2 ∧ Kd.R k36 36 w' w.heap.size (fun k_ => some k_ ≠ s1.ownBlock) t1 l1 ∧ Kd.R k64 64 w' w.heap.size (fun k_ => some k_ ≠ s2.ownBlock) t2 l2 ∧ k1.length ≤ 9 ∧ k2.length ≤ 5 ∧ (∀ y, y ∈ k2 → y.f3.length ≤ 25) ∧ l1.length ≤ 9 ∧ l2.length ≤ 5 ∧ (∀ y, y ∈ l2 → y.f3.length ≤ 25) ∧ Below w.heap.size w w'
theorem Dg.post (h : Dg w W g code b n c5 c u s1 s2 k1 k2 v t1 t2 l1 l2 25) : EPost w (.returned (.tuple #[.agg #[.int .i64 u, s1, s2], .agg #[.int .i64 v, t1, t2]])) ((((((W.setCell ⟨w.heap.size, 0, none⟩ (.int .i64 u)).setCell ⟨w.heap.size, 1, none⟩ s1).setCell ⟨w.heap.size, 2, none⟩ s2).setCell ⟨w.heap.size + 1, 0, none⟩ (.int .i64 v)).setCell ⟨w.heap.size + 1, 1, none⟩ t1).setCell ⟨w.heap.size + 1, 2, none⟩ t2) := by
 obtain ⟨hh6, hb1, hb2⟩ := Dg.first (x0 := .int .i64 u) (x1 := s1) (x2 := s2) h
 obtain ⟨h1, h2, ⟨p1, p2, p3, p4, p5⟩, h4, h5, h6, h7, ⟨a1, a2, a3, a4, a5⟩, r1, r2, r3, r4, r5⟩ := h
 have k0 := blk_put (cs := #[.int .i64 0, .slice none 0 0, .slice none 0 0]) h4 0 (.int .i64 u) rfl
 have k1' := blk_put (cs := #[.int .i64 u, .slice none 0 0, .slice none 0 0]) k0 1 s1 rfl
 have j0 := blk_put (cs := #[.int .i64 0, .slice none 0 0, .slice none 0 0]) hb2 0 (.int .i64 v) rfl
 have j1 := blk_put (cs := #[.int .i64 v, .slice none 0 0, .slice none 0 0]) j0 1 t1 rfl
 have S : ∀ {α : Type} {d : Kd α} {e : Nat} {base : Nat} {ok : Nat → Prop} {x : Value} {xs : List α}, (∀ q, q ∈ e :: d.E → q ≠ 31) → d.R e W base ok x xs → d.R e ((((((W.setCell ⟨w.heap.size, 0, none⟩ (.int .i64 u)).setCell ⟨w.heap.size, 1, none⟩ s1).setCell ⟨w.heap.size, 2, none⟩ s2).setCell ⟨w.heap.size + 1, 0, none⟩ (.int .i64 v)).setCell ⟨w.heap.size + 1, 1, none⟩ t1).setCell ⟨w.heap.size + 1, 2, none⟩ t2) base ok x xs := fun ht hR =>
  Kd.R_set (Kd.R_set (Kd.R_set (Kd.R_set (Kd.R_set (Kd.R_set hR h4 ht 0 _) k0 ht 1 _) k1' ht 2 _) hb2 ht 0 _) j0 ht 1 _) j1 ht 2 _
 have o1 : ∀ k, t1.ownBlock = some k → n ≤ k := Kd.R_base r1
 have o2 : ∀ k, t2.ownBlock = some k → n ≤ k := Kd.R_base r2
 have q1 : ∀ k, s1.ownBlock = some k → k < n := fun k hk => a1.1 k hk
 have q2 : ∀ k, s2.ownBlock = some k → k < n := fun k hk => a2.1 k hk
 refine ⟨u, s1, s2, v, t1, t2, k1, k2, l1, l2, rfl, ?_, ?_, ?_, ?_, a3, a4, fun y hy => Nat.le_trans (a5 y hy) (by omega), r3, r4, r5, ?_⟩
 ·exact Kd.R_mono (S (by decide) a1) (fun k hk he => by have := o1 k he.symm; omega)
 ·exact Kd.R_mono (S (by decide) a2) (fun k hk he => by have := o2 k he.symm; omega)
 ·exact Kd.R_mono (Kd.R_lower (Kd.R_bound (S (by decide) r1)) p4) (fun k hk he => by have := q1 k he.symm; omega)
 ·exact Kd.R_mono (Kd.R_lower (Kd.R_bound (S (by decide) r2)) p4) (fun k hk he => by have := q2 k he.symm; omega)
 ·exact below_set (below_set (below_set (below_set (below_set (below_set h1.2.2.1 (Nat.le_refl _)) (Nat.le_refl _)) (Nat.le_refl _)) (by omega)) (by omega)) (by omega)
end
end Dr
set_option maxHeartbeats 32000000 in
set_option maxRecDepth 100000 in
/-- The arguments of DeltaOf are drawn. -/
theorem spec_DrawDeltaOf.cf (A0 : Option Addr) (c0 : Nat) (code : List Int) (w : World) (hr0 : Kd.C (Kd.int .u8) w A0 code.length code) (hc0 : code.length ≤ c0) (hb : Dr.IsBytes code) (hn : code.length ≤ 2097152) :
  Calls Try.prog 46 #[.slice A0 code.length c0] w fun e w' => Dr.EPost w e w' := by
 have hu31 := Try.underlying31
 have hu125 := Try.underlying125
 obtain ⟨w1, hw1⟩ : ∃ W, W = (w.alloc (.cells #[.int .i64 0, .slice none 0 0, .slice none 0 0] 31)).alloc (.cells #[.int .i64 0, .slice none 0 0, .slice none 0 0] 31) := ⟨_, rfl⟩
 have hB1 : Below w.heap.size w w1 := by rw [hw1]; exact (((Below.refl _ w).alloc (Nat.le_refl _) _).alloc (by simp) _)
 have hs1 : w1.heap.size = w.heap.size + 2 := by rw [hw1]; simp
 have b1 : w1.heap[w.heap.size]? = some (.cells #[.int .i64 0, .slice none 0 0, .slice none 0 0] 31 (0, 0)) := by rw [hw1]; exact blk_alloc (blk_new w _) _
 have b2 : w1.heap[w.heap.size + 1]? = some (.cells #[.int .i64 0, .slice none 0 0, .slice none 0 0] 31 (0, 0)) := by
  rw [hw1]
  have h_ := heap_alloc_new (w.alloc (.cells #[.int .i64 0, .slice none 0 0, .slice none 0 0] 31)) (.cells #[.int .i64 0, .slice none 0 0, .slice none 0 0] 31)
  rwa [World.size_alloc] at h_
 have hsrc := spec_l1Source.calls A0 c0 code code 0 w w1 hB1 hr0 hc0 rfl
 rw [hw1] at hsrc
 have HB1 := Aside0.mk hB1
 have K1 := Aside0.mk b1
 have K2 := Aside0.mk b2
 have HCD := Aside0.mk (⟨hb, hn⟩ : Dr.IsBytes code ∧ code.length ≤ 2097152)
 clear hb hn hB1 hr0 hc0 b1 b2
 go_enter Try.func46, Try.ntmps46
 go_wp2_with (go_at_call 79; refine hsrc.mono ?_; rintro e w2 ⟨g, rfl, hi, hb, hb2⟩; rw [← hw1] at hb2; clear hsrc; have HS2 := Aside0.mk (⟨HCD.out.1, HCD.out.2, hb, 0, hi, by omega, by omega⟩ : Dr.Sr w w2 g code 0); have J1 := Aside0.mk (blk_below K1.out hb2); have J2 := Aside0.mk (blk_below K2.out hb2); have hs2 : w.heap.size + 2 ≤ w2.heap.size := (by have := hb2.size; omega); have HB2 := Aside0.mk hb; clear hi hb hb2 K1 K2 HB1)
 refine (spec_l5Bent.cf g code 0 w w2 HS2.out (by omega)).mono ?_
 rintro e w3 ⟨u, s1, s2, k1, k2, rfl, hR, hs3, hk3⟩
 obtain ⟨B1, e1, q1⟩ := Kd.R_slice hR.1
 subst q1
 obtain ⟨B2, e2, q2⟩ := Kd.R_slice hR.2.1
 subst q2
 have J1 := Aside0.mk (Dr.keepB HS2.out J1.out (by decide) hk3)
 have J2 := Aside0.mk (Dr.keepB HS2.out J2.out (by decide) hk3)
 have HA := Aside0.mk (Dr.Dg.one (u := u) HB2.out (.inr hs2) hR)
 have hsz := hk3.1
 obtain ⟨w4, hw4⟩ : ∃ W, W = w3.alloc (.cells #[.int .i64 u, .slice B1 k1.length e1, .slice B2 k2.length e2] 31) := ⟨_, rfl⟩
 have ha := below_alloc (Below.refl w3.heap.size w3) (.cells #[.int .i64 u, .slice B1 k1.length e1, .slice B2 k2.length e2] 31)
 have N1 := blk_new w3 (.cells #[.int .i64 u, .slice B1 k1.length e1, .slice B2 k2.length e2] 31)
 have hs4 := hs3.below ha
 have g1 := blk_below J1.out ha
 have g2 := blk_below J2.out ha
 have hk4 : KeepBut w (w3.alloc (.cells #[.int .i64 u, .slice B1 k1.length e1, .slice B2 k2.length e2] 31)) g none := ((KeepBut.of_below HB2.out g none).trans hk3 (.inl rfl)).trans (KeepBut.of_below ha g none) (.inl rfl)
 have hz4 : (w3.alloc (.cells #[.int .i64 u, .slice B1 k1.length e1, .slice B2 k2.length e2] 31)).heap.size = w3.heap.size + 1 := by simp
 obtain ⟨c5, hc5⟩ : ∃ c, c = w3.heap.size := ⟨_, rfl⟩
 have hbent := spec_l5Bent.cf g code 246 w _ hs4 (by omega)
 rw [← hw4] at hs4 g1 g2 hk4 N1 HA hz4 hbent
 rw [← hc5] at N1 HA hz4
 have HS4 := Aside0.mk hs4
 have G1 := Aside0.mk g1
 have G2 := Aside0.mk g2
 have G3 := Aside0.mk N1
 have HK4 := Aside0.mk hk4
 have hc2 : w.heap.size + 1 < c5 := by omega
 clear ha hs4 g1 g2 N1 hk4 J1 J2 hR hs3 hk3 HS2
 go_wp2_with (fail)
 rw [← hw4, ← hc5]
 clear hw4 hc5
 refine hbent.mono ?_
 rintro e w5 ⟨v, t1, t2, l1, l2, rfl, hT, hs5, hk5⟩
 obtain ⟨A1, c1, q1⟩ := Kd.R_slice hT.1
 subst q1
 obtain ⟨A2, c2, q2⟩ := Kd.R_slice hT.2.1
 subst q2
 have HC := Aside0.mk (Dr.Dg.make (v := v) HK4.out G1.out G2.out G3.out HA.out HS4.out hT hs5 hk5 hc2 (by omega) (by omega) (by omega))
 obtain ⟨n, hn⟩ : ∃ n, n = c5 := ⟨_, rfl⟩
 obtain ⟨c, hc⟩ : ∃ c, c = w5.heap.size := ⟨_, rfl⟩
 obtain ⟨w6, hw6⟩ : ∃ W, W = w5.alloc (.cells #[.int .i64 v, .slice A1 l1.length c1, .slice A2 l2.length c2] 31) := ⟨_, rfl⟩
 replace HC : Aside0 (Dr.Dg w w6 g code (246 + 246) n c5 c u (.slice B1 k1.length e1) (.slice B2 k2.length e2) k1 k2 v (.slice A1 l1.length c1) (.slice A2 l2.length c2) l1 l2 24) := by rw [hn, hc, hw6]; exact HC
 clear hT hs5 hk5 HK4 G1 G2 G3 HA HS4 hbent hc2 hn hz4 hsz
 go_upto_if 15 with (go_at_call 97; rw [← hw6]; refine (Dr.chance HC.out.1 (by omega) 2 (by omega)).mono ?_; rintro e w7 ⟨bc, rfl, hs_, hk_⟩; have HC7 := Aside0.mk (Dr.Dg.keep HC.out hs_ hk_); clear hs_ hk_ HC)
 rw [← hc]
 clear hw6 hc
 (try simp only [Act.put, List.setIfInBounds_toArray, List.set_cons_zero, List.set_cons_succ])
 go_cut [] (fun wc => ∃ (v : Int) (t1 t2 : Value) (l1 : List S36) (l2 : List S64), Aside0 (Dr.Dg w wc g code 520 n c5 c u (.slice B1 k1.length e1) (.slice B2 k2.length e2) k1 k2 v t1 t2 l1 l2 25))
 case first =>
  cases bc
  ·go_wp2
   go_meet
   case rel => exact ⟨_, _, _, _, _, ⟨Dr.Dg.le HC7.out (by omega) (by omega)⟩⟩
  obtain ⟨x0, x1, x2, _, _, _⟩ := Dr.Dg.held6 HC7.out
  go_wp2_with (fail)
  refine (Dr.copyD HC7.out).mono ?_
  rintro e w8 ⟨r1, r2, rfl, hN, hb8⟩
  have hC8 := Dr.Dg.below HC7.out hb8
  obtain ⟨D1, d1, q1⟩ := Kd.R_slice hN.1
  subst q1
  obtain ⟨D2, d2, q2⟩ := Kd.R_slice hN.2.1
  subst q2
  obtain ⟨z0, z1, z2⟩ := Dr.Dg.held hC8
  have zf0 := blk_frozen hC8.2.2.2.2.2.2.1 0
  have zf1 := blk_frozen hC8.2.2.2.2.2.2.1 1
  have zf2 := blk_frozen hC8.2.2.2.2.2.2.1 2
  have HF := Aside0.mk (Dr.Dg.fill (v' := u) hC8 hN)
  clear hC8 hN hb8 HC7 x0 x1 x2
  obtain ⟨wr, hwr⟩ : ∃ W, W = ((w8.setCell ⟨c, 0, none⟩ (.int .i64 u)).setCell ⟨c, 1, none⟩ (.slice D1 k1.length d1)).setCell ⟨c, 2, none⟩ (.slice D2 k2.length d2) := ⟨_, rfl⟩
  rw [← hwr] at HF
  go_wp2
  rw [← hwr]
  clear hwr z0 z1 z2 zf0 zf1 zf2
  obtain ⟨b', hb'⟩ : ∃ b' : Nat, b' = 246 + 246 + 1 := ⟨_, rfl⟩
  obtain ⟨M, hM⟩ : ∃ M : Nat, M = 24 := ⟨_, rfl⟩
  obtain ⟨v, A1, c1, l1, A2, c2, l2, HC⟩ : ∃ (v : Int) (A1 : Option Addr) (c1 : Nat) (l1 : List S36) (A2 : Option Addr) (c2 : Nat) (l2 : List S64), Aside0 (Dr.Dg w wr g code b' n c5 c u (.slice B1 k1.length e1) (.slice B2 k2.length e2) k1 k2 v (.slice A1 l1.length c1) (.slice A2 l2.length c2) l1 l2 M) := ⟨u, D1, d1, k1, D2, d2, k2, ⟨by rw [hb', hM]; exact HF.out⟩⟩
  clear HF
  have hC := Dr.Dg.below HC.out (below_drew1 (Below.refl _ _))
  refine start_ (n := 6) (S := fun w' => w'.cell? ⟨c, 0, none⟩ = some (.int .i64 v) ∧ w'.cell? ⟨c, 1, none⟩ = some (.slice A1 l1.length c1) ∧ w'.cell? ⟨c, 2, none⟩ = some (.slice A2 l2.length c2)) (ds := []) (Mk 6 0) (by kernel_rfl) rfl rfl (Dr.Dg.held hC) (fun hHeld => ?_)
  generalize wr.drew = wd at hC hHeld ⊢
  clear HC
  refine pure_ (i := 1) (N := some 19) (v := ?_) (a' := ?_) (Mk 6 2) rfl rfl (by kernel_rfl) (fun _ _ _ h => h) (Or.inl ⟨by rfl, ?_⟩) ?_ ?_
  rotate_left
  ·intro w'
   first | (go_simp; with_reducible rfl) | (go_simp; (try unfold Instr.field); go_simp; (try simp only [asAgg]); go_simp; with_reducible rfl)
  rotate_left
  ·simp only [Act.put, List.setIfInBounds_toArray, List.set_cons_zero, List.set_cons_succ, i64_w, i32_w]
   rfl
  refine take_ (i := 0) (N := some 18) (v := ?_) (a' := ?_) (Mk 6 3) rfl rfl (by kernel_rfl) (fun _ _ _ h => h) (Or.inl ⟨by rfl, ?_⟩) hHeld ?_ ?_
  rotate_left
  ·rintro w' ⟨s0, s1, s2⟩
   go_simp
   with_reducible rfl
  rotate_left
  ·simp only [Act.put, List.setIfInBounds_toArray, List.set_cons_zero, List.set_cons_succ, i64_w, i32_w]
   rfl
  refine join_ (σ := Value × Value × Nat) 1 (Mk 6 31) (fun s_ => [(20, s_.1), (21, s_.2.1), (7, .pointer (some ⟨s_.2.2, 0, none⟩))]) (fun s_ w' => Dr.Dg w w' g code (b' + 10) n c5 c u (.slice B1 k1.length e1) (.slice B2 k2.length e2) k1 k2 v (.slice A1 l1.length c1) (.slice A2 l2.length c2) l1 l2 M ∧ (∃ (q v' : Int) (s1' s2' : Value) (l1' : List S36) (l2' : List S64), s_.2.1 = .agg #[.int .i64 q, .int .i64 v', s1', s2'] ∧ Dr.Rt n w' s1' s2' l1' l2' 8 4 (M + 1)) ∧ w'.heap[s_.2.2]? = some (.cells #[.int .i64 0, .int .i64 0, .slice none 0 0, .slice none 0 0] 125 (0, 0)) ∧ w.heap.size ≤ s_.2.2) ?_ ?_
  rotate_left
  ·intro hCont
   refine two_ (i := 2) (j := 4) (Ni := some 20) (Nj := some 7) (Mk 6 7) (Mk 6 19) rfl rfl rfl rfl (by kernel_rfl) (by decide) (by decide) (fun K hK => ?_) (fun K hK => ?_)
   ·skip
    refine goes_ Try.func100 (by kernel_rfl) rfl #[.pointer (some ⟨g, 0, none⟩)] (by rfl) rfl rfl (by (try simp only [List.map_toArray, List.map_cons, List.map_nil]); first | done | rfl) ?_
    refine (spec_l5Cmd.cf g code _ w _ hC.1 (by omega)).mono ?_
    rintro e_ wc ⟨x0, x1, x2, x3, x4, x5, rfl, hs_, hk_⟩
    refine ⟨_, rfl, ?_⟩
    replace hC := Dr.Dg.keep hC hs_ hk_
    clear hs_ hk_
    refine hK.out _ _ (Dr.Dg.held hC) (fun hHeld => ?_)
    clear hK K
    refine norm_ (a' := ?_) ?_ ?_
    rotate_left
    ·show Act.put _ (some 20) _ = _
     simp only [Act.put, List.setIfInBounds_toArray, List.set_cons_zero, List.set_cons_succ, i64_w, i32_w]
     rfl
    refine two_ (i := 3) (j := 4) (Ni := some 21) (Nj := some 7) (Mk 6 15) (Mk 6 23) rfl rfl rfl rfl (by kernel_rfl) (by decide) (by decide) (fun K hK => ?_) (fun K hK => ?_)
    ·skip
     refine goes_ Try.func99 (by kernel_rfl) rfl #[.agg #[.int .i64 v, .slice A1 l1.length c1, .slice A2 l2.length c2], .agg #[.int .i64 x0, .int .i64 x1, .int .i64 x2, .int .i64 x3, .int .i64 x4, .int .i64 x5]] (by rfl) rfl rfl (by (try simp only [List.map_toArray, List.map_cons, List.map_nil]); first | done | rfl) ?_
     refine (Dr.applyD hC (by omega) x0 x1 x2 x3 x4 x5).mono ?_
     rintro e_ wc ⟨q, v', s1', s2', l1', l2', rfl, hN, hb_⟩
     refine ⟨_, rfl, ?_⟩
     replace hC := Dr.Dg.below hC hb_
     clear hb_
     refine hK.out _ _ (Dr.Dg.held hC) (fun hHeld => ?_)
     clear hK K
     refine norm_ (a' := ?_) ?_ ?_
     rotate_left
     ·show Act.put _ (some 21) _ = _
      simp only [Act.put, List.setIfInBounds_toArray, List.set_cons_zero, List.set_cons_succ, i64_w, i32_w]
      rfl
     refine one_ (i := 4) (N := some 7) (Mk 6 31) rfl rfl (by kernel_rfl) (by decide) (fun K hK => ?_)
     refine box_step ?hg (N := 7) ?hd (cs := #[.int .i64 0, .int .i64 0, .slice none 0 0, .slice none 0 0]) (t := 125) ?hr ?_; (case hd => rfl); (case hg => rfl); (case hr => first | (go_simp; done) | (go_simp; rfl))
     intro gb hg_ wb hbox hbb
     have hgb : w.heap.size ≤ gb := by rw [hg_]; exact hC.2.1.1
     replace hN := Dr.Rt.below hN hbb
     replace hC := Dr.Dg.below hC hbb
     clear hbb hg_
     refine hK.out _ _ (Dr.Dg.held hC) (fun hHeld => ?_)
     clear hK K
     refine norm_ (a' := ?_) ?_ ?_
     rotate_left
     ·show Act.put _ (some 7) _ = _
      simp only [Act.put, List.setIfInBounds_toArray, List.set_cons_zero, List.set_cons_succ, i64_w, i32_w]
      rfl
     exact norm_ (by simp only [putAll, Act.put, List.setIfInBounds_toArray, List.set_cons_zero, List.set_cons_succ]) (hCont (.agg #[.int .i64 x0, .int .i64 x1, .int .i64 x2, .int .i64 x3, .int .i64 x4, .int .i64 x5], _, gb) _ ⟨hC, ⟨q, v', s1', s2', l1', l2', rfl, hN⟩, hbox, hgb⟩)
    ·skip
     refine box_step ?hg (N := 7) ?hd (cs := #[.int .i64 0, .int .i64 0, .slice none 0 0, .slice none 0 0]) (t := 125) ?hr ?_; (case hd => rfl); (case hg => rfl); (case hr => first | (go_simp; done) | (go_simp; rfl))
     intro gb hg_ wb hbox hbb
     have hgb : w.heap.size ≤ gb := by rw [hg_]; exact hC.2.1.1
     replace hC := Dr.Dg.below hC hbb
     clear hbb hg_
     refine hK.out _ _ (Dr.Dg.held hC) (fun hHeld => ?_)
     clear hK K
     refine norm_ (a' := ?_) ?_ ?_
     rotate_left
     ·show Act.put _ (some 7) _ = _
      simp only [Act.put, List.setIfInBounds_toArray, List.set_cons_zero, List.set_cons_succ, i64_w, i32_w]
      rfl
     refine one_ (i := 3) (N := some 21) (Mk 6 31) rfl rfl (by kernel_rfl) (by decide) (fun K hK => ?_)
     refine goes_ Try.func99 (by kernel_rfl) rfl #[.agg #[.int .i64 v, .slice A1 l1.length c1, .slice A2 l2.length c2], .agg #[.int .i64 x0, .int .i64 x1, .int .i64 x2, .int .i64 x3, .int .i64 x4, .int .i64 x5]] (by rfl) rfl rfl (by (try simp only [List.map_toArray, List.map_cons, List.map_nil]); first | done | rfl) ?_
     refine (Dr.applyD hC (by omega) x0 x1 x2 x3 x4 x5).mono ?_
     rintro e_ wc ⟨q, v', s1', s2', l1', l2', rfl, hN, hb_⟩
     refine ⟨_, rfl, ?_⟩
     replace hbox := blk_below hbox hb_
     replace hC := Dr.Dg.below hC hb_
     clear hb_
     refine hK.out _ _ (Dr.Dg.held hC) (fun hHeld => ?_)
     clear hK K
     refine norm_ (a' := ?_) ?_ ?_
     rotate_left
     ·show Act.put _ (some 21) _ = _
      simp only [Act.put, List.setIfInBounds_toArray, List.set_cons_zero, List.set_cons_succ, i64_w, i32_w]
      rfl
     exact norm_ (by simp only [putAll, Act.put, List.setIfInBounds_toArray, List.set_cons_zero, List.set_cons_succ]) (hCont (.agg #[.int .i64 x0, .int .i64 x1, .int .i64 x2, .int .i64 x3, .int .i64 x4, .int .i64 x5], _, gb) _ ⟨hC, ⟨q, v', s1', s2', l1', l2', rfl, hN⟩, hbox, hgb⟩)
   ·skip
    refine box_step ?hg (N := 7) ?hd (cs := #[.int .i64 0, .int .i64 0, .slice none 0 0, .slice none 0 0]) (t := 125) ?hr ?_; (case hd => rfl); (case hg => rfl); (case hr => first | (go_simp; done) | (go_simp; rfl))
    intro gb hg_ wb hbox hbb
    have hgb : w.heap.size ≤ gb := by rw [hg_]; exact hC.2.1.1
    replace hC := Dr.Dg.below hC hbb
    clear hbb hg_
    refine hK.out _ _ (Dr.Dg.held hC) (fun hHeld => ?_)
    clear hK K
    refine norm_ (a' := ?_) ?_ ?_
    rotate_left
    ·show Act.put _ (some 7) _ = _
     simp only [Act.put, List.setIfInBounds_toArray, List.set_cons_zero, List.set_cons_succ, i64_w, i32_w]
     rfl
    refine one_ (i := 2) (N := some 20) (Mk 6 23) rfl rfl (by kernel_rfl) (by decide) (fun K hK => ?_)
    refine goes_ Try.func100 (by kernel_rfl) rfl #[.pointer (some ⟨g, 0, none⟩)] (by rfl) rfl rfl (by (try simp only [List.map_toArray, List.map_cons, List.map_nil]); first | done | rfl) ?_
    refine (spec_l5Cmd.cf g code _ w _ hC.1 (by omega)).mono ?_
    rintro e_ wc ⟨x0, x1, x2, x3, x4, x5, rfl, hs_, hk_⟩
    refine ⟨_, rfl, ?_⟩
    replace hbox := Dr.keepB hC.1 hbox (by decide) hk_
    replace hC := Dr.Dg.keep hC hs_ hk_
    clear hs_ hk_
    refine hK.out _ _ (Dr.Dg.held hC) (fun hHeld => ?_)
    clear hK K
    refine norm_ (a' := ?_) ?_ ?_
    rotate_left
    ·show Act.put _ (some 20) _ = _
     simp only [Act.put, List.setIfInBounds_toArray, List.set_cons_zero, List.set_cons_succ, i64_w, i32_w]
     rfl
    refine one_ (i := 3) (N := some 21) (Mk 6 31) rfl rfl (by kernel_rfl) (by decide) (fun K hK => ?_)
    refine goes_ Try.func99 (by kernel_rfl) rfl #[.agg #[.int .i64 v, .slice A1 l1.length c1, .slice A2 l2.length c2], .agg #[.int .i64 x0, .int .i64 x1, .int .i64 x2, .int .i64 x3, .int .i64 x4, .int .i64 x5]] (by rfl) rfl rfl (by (try simp only [List.map_toArray, List.map_cons, List.map_nil]); first | done | rfl) ?_
    refine (Dr.applyD hC (by omega) x0 x1 x2 x3 x4 x5).mono ?_
    rintro e_ wc ⟨q, v', s1', s2', l1', l2', rfl, hN, hb_⟩
    refine ⟨_, rfl, ?_⟩
    replace hbox := blk_below hbox hb_
    replace hC := Dr.Dg.below hC hb_
    clear hb_
    refine hK.out _ _ (Dr.Dg.held hC) (fun hHeld => ?_)
    clear hK K
    refine norm_ (a' := ?_) ?_ ?_
    rotate_left
    ·show Act.put _ (some 21) _ = _
     simp only [Act.put, List.setIfInBounds_toArray, List.set_cons_zero, List.set_cons_succ, i64_w, i32_w]
     rfl
    exact norm_ (by simp only [putAll, Act.put, List.setIfInBounds_toArray, List.set_cons_zero, List.set_cons_succ]) (hCont (.agg #[.int .i64 x0, .int .i64 x1, .int .i64 x2, .int .i64 x3, .int .i64 x4, .int .i64 x5], _, gb) _ ⟨hC, ⟨q, v', s1', s2', l1', l2', rfl, hN⟩, hbox, hgb⟩)
  clear hHeld hC
  rintro ⟨t15, t16, gb⟩ wj ⟨hC, ⟨q, v', s1', s2', l1', l2', e16, hN⟩, hbox, hgb⟩
  simp only at e16 hbox hgb
  subst e16
  have hHeld := Dr.Dg.held hC
  obtain ⟨E1, d1, t1⟩ := Kd.R_slice hN.1
  subst t1
  obtain ⟨E2, d2, t2⟩ := Kd.R_slice hN.2.1
  subst t2
  refine norm_ (a' := ?_) ?_ ?_
  rotate_left
  ·simp only [putAll, Act.put, List.setIfInBounds_toArray, List.set_cons_zero, List.set_cons_succ]
   rfl
  refine one_ (i := 5) (N := none) (Mk 6 63) rfl rfl (by kernel_rfl) (by decide) (fun K hK => ?_)
  have y0 := blk_cell hbox 0
  have f0 := blk_frozen hbox 0
  have y1 := blk_cell hbox 1
  have f1 := blk_frozen hbox 1
  have y2 := blk_cell hbox 2
  have f2 := blk_frozen hbox 2
  have y3 := blk_cell hbox 3
  have f3 := blk_frozen hbox 3
  refine skip_ (w1 := ?_) (by rfl) rfl ?_ ?_
  rotate_left
  ·go_simp
   rfl
  have hC6 := Dr.Dg.put4 hC hbox hgb (.int .i64 q) (.int .i64 v') (.slice E1 l1'.length d1) (.slice E2 l2'.length d2)
  have hN6 := Dr.Rt.put4 hN hbox (.int .i64 q) (.int .i64 v') (.slice E1 l1'.length d1) (.slice E2 l2'.length d2)
  have hb6 := Dr.put4 hbox (.int .i64 q) (.int .i64 v') (.slice E1 l1'.length d1) (.slice E2 l2'.length d2)
  refine hK.out _ _ (Dr.Dg.held hC6) (fun hHeld => ?_)
  clear hK K hHeld y0 y1 y2 y3 f0 f1 f2 f3 hbox hC hN
  generalize ((((wj.setCell ⟨gb, 0, none⟩ (.int .i64 q)).setCell ⟨gb, 1, none⟩ (.int .i64 v')).setCell ⟨gb, 2, none⟩ (.slice E1 l1'.length d1)).setCell ⟨gb, 3, none⟩ (.slice E2 l2'.length d2)) = w6 at hC6 hN6 hb6 ⊢
  refine done_ (by kernel_rfl) ?_
  obtain ⟨z0, z1, z2⟩ := Dr.Dg.held hC6
  have zf0 := blk_frozen hC6.2.2.2.2.2.2.1 0
  have zf1 := blk_frozen hC6.2.2.2.2.2.2.1 1
  have zf2 := blk_frozen hC6.2.2.2.2.2.2.1 2
  have y0 := blk_cell hb6 0
  have y1 := blk_cell hb6 1
  have y2 := blk_cell hb6 2
  have y3 := blk_cell hb6 3
  have HC6 := Aside0.mk hC6
  have HN6 := Aside0.mk hN6
  clear hC6 hN6 hb6
  by_cases hq : q = 0
  ·have hq1 : (q == 0) = true := beq_iff_eq.mpr hq
   clear hq
   go_wp2
   go_meet
   case rel => exact ⟨_, _, _, _, _, ⟨Dr.Dg.le (Dr.Dg.fill HC6.out (Dr.Rt.le HN6.out (N1' := 9) (N2' := 5) (by omega) (by omega) (Nat.le_refl _))) (by omega) (by omega)⟩⟩
  ·have hq1 : (q == 0) = false := beq_eq_false_iff_ne.mpr hq
   clear hq
   go_wp2
   go_meet
   case rel => exact ⟨_, _, _, _, _, ⟨Dr.Dg.le HC6.out (by omega) (by omega)⟩⟩
 case rest =>
  clear HC7
  obtain ⟨v, t1, t2, l1, l2, HC⟩ := hcut
  obtain ⟨A1, c1, q1⟩ := Kd.R_slice HC.out.2.2.2.2.2.2.2.2.1
  subst q1
  obtain ⟨A2, c2, q2⟩ := Kd.R_slice HC.out.2.2.2.2.2.2.2.2.2.1
  subst q2
  go_wp2
  have hC := Dr.Dg.below HC.out (below_drew1 (Below.refl _ _))
  refine start_ (n := 4) (S := fun w' => w'.cell? ⟨c5, 0, none⟩ = some (.int .i64 u) ∧ w'.cell? ⟨c5, 1, none⟩ = some (.slice B1 k1.length e1) ∧ w'.cell? ⟨c5, 2, none⟩ = some (.slice B2 k2.length e2) ∧ w'.cell? ⟨c, 0, none⟩ = some (.int .i64 v) ∧ w'.cell? ⟨c, 1, none⟩ = some (.slice A1 l1.length c1) ∧ w'.cell? ⟨c, 2, none⟩ = some (.slice A2 l2.length c2)) (ds := [3]) (Mk 4 0) (by kernel_rfl) rfl rfl (Dr.Dg.held6 hC) (fun hHeld => ?_)
  generalize wc.drew = wd at hC hHeld ⊢
  clear HC
  refine take_ (i := 0) (N := some 27) (v := ?_) (a' := ?_) (Mk 4 1) rfl rfl (by kernel_rfl) (fun _ _ _ h => h) (Or.inl ⟨by rfl, ?_⟩) hHeld ?_ ?_
  rotate_left
  ·rintro w' ⟨s0, s1, s2, s3, s4, s5⟩
   go_simp
   with_reducible rfl
  rotate_left
  ·simp only [Act.put, List.setIfInBounds_toArray, List.set_cons_zero, List.set_cons_succ, i64_w, i32_w]
   rfl
  refine take_ (i := 1) (N := some 28) (v := ?_) (a' := ?_) (Mk 4 3) rfl rfl (by kernel_rfl) (fun _ _ _ h => h) (Or.inl ⟨by rfl, ?_⟩) hHeld ?_ ?_
  rotate_left
  ·rintro w' ⟨s0, s1, s2, s3, s4, s5⟩
   go_simp
   with_reducible rfl
  rotate_left
  ·simp only [Act.put, List.setIfInBounds_toArray, List.set_cons_zero, List.set_cons_succ, i64_w, i32_w]
   rfl
  refine one_ (i := 2) (N := none) (Mk 4 7) rfl rfl (by kernel_rfl) (by decide) (fun K hK => ?_)
  have y0 := blk_cell hC.2.2.2.1 0
  have f0 := blk_frozen hC.2.2.2.1 0
  have y1 := blk_cell hC.2.2.2.1 1
  have f1 := blk_frozen hC.2.2.2.1 1
  have y2 := blk_cell hC.2.2.2.1 2
  have f2 := blk_frozen hC.2.2.2.1 2
  refine skip_ (w1 := ?_) (by rfl) rfl ?_ ?_
  rotate_left
  ·go_simp
   rfl
  obtain ⟨hh6, hb1, hb2⟩ := Dr.Dg.first hC
  refine hK.out _ _ hh6 (fun hHeld => ?_)
  clear hK K y0 y1 y2 f0 f1 f2
  refine last_ (i := 3) (N := none) (Mk 4 15) rfl rfl (by kernel_rfl) (by decide) (fun K hK => ?_)
  have y0 := blk_cell hb2 0
  have f0 := blk_frozen hb2 0
  have y1 := blk_cell hb2 1
  have f1 := blk_frozen hb2 1
  have y2 := blk_cell hb2 2
  have f2 := blk_frozen hb2 2
  refine skip_ (w1 := ?_) (by rfl) rfl ?_ ?_
  rotate_left
  ·go_simp
   rfl
  refine hK.out _ _ ?_
  clear hK K y0 y1 y2 f0 f1 f2
  refine done_ (by kernel_rfl) ?_
  try go_wp2
  refine bodyPost_ret (results_cc rfl _ _ w.heap.size (w.heap.size + 1) 31 31 #[.int .i64 u, .slice B1 k1.length e1, .slice B2 k2.length e2] #[.int .i64 v, .slice A1 l1.length c1, .slice A2 l2.length c2] (0, 0) (0, 0) _ _ rfl (Dr.far3 hb1) Try.underlying31 rfl (by kernel_rfl) rfl (Dr.put3 hb2 _ _ _) Try.underlying31 rfl (by kernel_rfl)) rfl ?_
  exact Dr.Dg.post hC
end Go.Proofs.Ytfmlhpoaipeoeaa.QFnDeltas
