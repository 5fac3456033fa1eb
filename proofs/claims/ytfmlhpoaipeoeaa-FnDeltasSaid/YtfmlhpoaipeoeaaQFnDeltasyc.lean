-- MADE BY PROGRAM (wip/dr/assemble2.py) out of walks by hand. Lean checks it.
import Derived.Test.YtfmlhpoaipeoeaaQFnDeltasya
import Derived.Laws.StructEq
import Derived.Test.YtfmlhpoaipeoeaaShelf
import Derived.Test.YtfmlhpoaipeoeaaIx
import Derived.StillTailTactics
namespace Go.Proofs.Ytfmlhpoaipeoeaa.QFnDeltas
open Go.RowKit Go.Proofs.YtfmlhpoaipeoeaaW.PrintWords Go.Proofs.YtfmlhpoaipeoeaaW.PrintLast Go.Proofs.YtfmlhpoaipeoeaaW.PrintMore
attribute [local go_sem] max2_int min2_int max_two min_two max_three min_three max_four min_four   -- for this text's walks alone
set_option linter.unusedVariables false
set_option linter.unusedSimpArgs false
attribute [local go_sem high] eqA36
/-! ### impl_Backend_126: function 126 -/
def impl_Backend_126.l0 : Nat → List (S36) → Int → Int → Int → Int → Int → Int → Bool → Option (Int)
 | 0, _, _, _, _, _, _, _, _ => none
 | k + 1, x0, x7, x8, x218000, x218001, x218002, x218003, x218004 => if x8 < x7 then (if 0 ≤ x8 then (if x8 < (x0.length : Int) then (if (x218000 == ((rd_T36 x0 x8).f0) && (x218001 == ((rd_T36 x0 x8).f1) && (x218002 == ((rd_T36 x0 x8).f2) && (x218003 == ((rd_T36 x0 x8).f3) && (x218004 == ((rd_T36 x0 x8).f4)))))) = true then (some x8) else (impl_Backend_126.l0 k x0 x7 (wrap64 (x8 + 1)) x218000 x218001 x218002 x218003 x218004)) else (none)) else (none)) else (some (-1))
def impl_Backend_126.f (k : Nat) (l0 : List (S36)) (a1_0 : Int) (a1_1 : Int) (a1_2 : Int) (a1_3 : Int) (a1_4 : Bool) : Option (Int) := impl_Backend_126.l0 k l0 (l0.length : Int) 0 a1_0 a1_1 a1_2 a1_3 a1_4
theorem impl_Backend_126.mono_l : ∀ k, (∀ y0 y1 y2 y3 y4 y5 y6 y7, LeO (impl_Backend_126.l0 k y0 y1 y2 y3 y4 y5 y6 y7) (impl_Backend_126.l0 (k + 1) y0 y1 y2 y3 y4 y5 y6 y7))
 | 0 => fun _ _ _ _ _ _ _ _ r h => by simp [impl_Backend_126.l0] at h
 | k + 1 => by
  have ih0 := impl_Backend_126.mono_l k
  ·intro y0 y1 y2 y3 y4 y5 y6 y7
   unfold impl_Backend_126.l0
   repeat' first
   | (with_reducible exact ih0 _ _ _ _ _ _ _ _)
   | (with_reducible exact LeO.refl _)
   | (with_reducible exact LeO.none _)
   | (with_reducible refine LeO.ite ?_ ?_)
   | (with_reducible refine LeO.bind ?_ (fun _ => ?_))
   | exact ih0 _ _ _ _ _ _ _ _
   | exact LeO.none _
   | refine LeO.ite ?_ ?_
   | refine LeO.bind ?_ (fun _ => ?_)
theorem impl_Backend_126.mono : ∀ a0 a1 a2 a3 a4 a5 k, LeO (impl_Backend_126.f k a0 a1 a2 a3 a4 a5) (impl_Backend_126.f (k + 1) a0 a1 a2 a3 a4 a5) := by
 intro a0 a1 a2 a3 a4 a5 k
 have ih0 := impl_Backend_126.mono_l k
 unfold impl_Backend_126.f
 repeat' first
   | (with_reducible exact ih0 _ _ _ _ _ _ _ _)
   | (with_reducible exact LeO.refl _)
   | (with_reducible exact LeO.none _)
   | (with_reducible refine LeO.ite ?_ ?_)
   | (with_reducible refine LeO.bind ?_ (fun _ => ?_))
   | exact ih0 _ _ _ _ _ _ _ _
   | exact LeO.none _
   | refine LeO.ite ?_ ?_
   | refine LeO.bind ?_ (fun _ => ?_)
set_option maxHeartbeats 8000000 in
set_option maxRecDepth 100000 in
theorem impl_Backend_126.calls (k : Nat) (A0 : Option Addr) (c0 : Nat) (l0 : List (S36)) (a1_0 : Int) (a1_1 : Int) (a1_2 : Int) (a1_3 : Int) (a1_4 : Bool) (r : Int) (w : World) (hr0 : Kd.C k36 w A0 l0.length l0) (hc0 : l0.length ≤ c0) (h : impl_Backend_126.f k l0 a1_0 a1_1 a1_2 a1_3 a1_4 = some r) :
  Calls Try.prog 126 #[.slice A0 l0.length c0, .agg #[.int .i64 a1_0, .int .i64 a1_1, .int .i64 a1_2, .int .i64 a1_3, .bool a1_4]] w fun e w' => e = .returned (.int .i64 r) ∧ Below w.heap.size w w' := by
 have hu36 := Try.underlying36
 have HR0 := Aside0.mk hr0
 have HC0 := Aside0.mk hc0
 clear hr0 hc0
 have HB := Aside0.mk (Below.refl w.heap.size w)
 have H : (impl_Backend_126.l0 k l0 (l0.length : Int) 0 a1_0 a1_1 a1_2 a1_3 a1_4) = some r := h
 clear h
 have H' := Aside0.mk H
 clear H
 go_enter Try.func126, Try.ntmps126
 go_wp2_with (first | ((with_reducible refine gate_dst (N := 3) rfl ?_); refine box_event ?hg (N := 3) ?hd (cs := #[.int .i64 a1_0, .int .i64 a1_1, .int .i64 a1_2, .int .i64 a1_3, .bool a1_4]) (t := 36) ?hr ?_; (case hd => rfl); (case hg => rfl); (case hr => first | (go_simp; done) | (go_simp; rfl)); intro gb217 hg w3 hbox hb; have n0_ := Aside0.mk (below_step (by repeat (first | (with_reducible first | exact HB.out | apply below_alloc | apply pw_below_drewN | apply below_drew1) | exact HB.out)) hb); have n1_ := Aside0.mk (hbox); have n2_ := Aside0.mk ((by rw [hg]; exact (below_size (by repeat (first | (with_reducible first | exact HB.out | apply below_alloc | apply pw_below_drewN | apply below_drew1) | exact HB.out))) : w.heap.size ≤ gb217)); have n3_ := Aside0.mk ((by rw [hg]; exact (below_size (by repeat (first | (with_reducible first | exact HB.out | apply below_alloc | apply pw_below_drewN | apply below_drew1) | exact HB.out))) : w.heap.size ≤ gb217)); clear HB; have HB := n0_; have BK217 := n1_; have GW217 := n2_; have GE217 := n3_; clear n0_ n1_ n2_ n3_; clear hb hbox hg))
 repeat (go_quiet (first | ((with_reducible refine gate_dst (N := 3) rfl ?_); refine box_event ?hg (N := 3) ?hd (cs := #[.int .i64 a1_0, .int .i64 a1_1, .int .i64 a1_2, .int .i64 a1_3, .bool a1_4]) (t := 36) ?hr ?_; (case hd => rfl); (case hg => rfl); (case hr => first | (go_simp; done) | (go_simp; rfl)); intro gb217 hg w3 hbox hb; have n0_ := Aside0.mk (below_step (by repeat (first | (with_reducible first | exact HB.out | apply below_alloc | apply pw_below_drewN | apply below_drew1) | exact HB.out)) hb); have n1_ := Aside0.mk (hbox); have n2_ := Aside0.mk ((by rw [hg]; exact (below_size (by repeat (first | (with_reducible first | exact HB.out | apply below_alloc | apply pw_below_drewN | apply below_drew1) | exact HB.out))) : w.heap.size ≤ gb217)); have n3_ := Aside0.mk ((by rw [hg]; exact (below_size (by repeat (first | (with_reducible first | exact HB.out | apply below_alloc | apply pw_below_drewN | apply below_drew1) | exact HB.out))) : w.heap.size ≤ gb217)); clear HB; have HB := n0_; have BK217 := n1_; have GW217 := n2_; have GE217 := n3_; clear n0_ n1_ n2_ n3_; clear hb hbox hg)); try go_wp2_with (first | ((with_reducible refine gate_dst (N := 3) rfl ?_); refine box_event ?hg (N := 3) ?hd (cs := #[.int .i64 a1_0, .int .i64 a1_1, .int .i64 a1_2, .int .i64 a1_3, .bool a1_4]) (t := 36) ?hr ?_; (case hd => rfl); (case hg => rfl); (case hr => first | (go_simp; done) | (go_simp; rfl)); intro gb217 hg w3 hbox hb; have n0_ := Aside0.mk (below_step (by repeat (first | (with_reducible first | exact HB.out | apply below_alloc | apply pw_below_drewN | apply below_drew1) | exact HB.out)) hb); have n1_ := Aside0.mk (hbox); have n2_ := Aside0.mk ((by rw [hg]; exact (below_size (by repeat (first | (with_reducible first | exact HB.out | apply below_alloc | apply pw_below_drewN | apply below_drew1) | exact HB.out))) : w.heap.size ≤ gb217)); have n3_ := Aside0.mk ((by rw [hg]; exact (below_size (by repeat (first | (with_reducible first | exact HB.out | apply below_alloc | apply pw_below_drewN | apply below_drew1) | exact HB.out))) : w.heap.size ≤ gb217)); clear HB; have HB := n0_; have BK217 := n1_; have GW217 := n2_; have GE217 := n3_; clear n0_ n1_ n2_ n3_; clear hb hbox hg)))
 go_loopg [8] k (fun kq v8 w' => ∃ (x8_1 : Int), v8 = .int .i64 x8_1 ∧ Aside0 (impl_Backend_126.l0 kq l0 (l0.length : Int) x8_1 a1_0 a1_1 a1_2 a1_3 a1_4 = some r) ∧ Aside0 (kq ≤ k) ∧ Aside0 (w'.heap[gb217]? = some (.cells #[.int .i64 a1_0, .int .i64 a1_1, .int .i64 a1_2, .int .i64 a1_3, .bool a1_4] 36 (0, 0))) ∧ Aside0 (Below w.heap.size w w'))
 case atStart => exact ⟨(0), (by first | rfl | (simp; done) | (simp [*]; done)), H', ⟨Nat.le_refl _⟩, ⟨by (with_reducible repeat (first | refine blk_drewN ?_ _ | refine blk_drew ?_ | refine blk_alloc ?_ _)); exact BK217.out⟩, ⟨by repeat (first | (with_reducible first | exact HB.out | apply below_alloc | apply pw_below_drewN | apply below_drew1 | refine below_set ?_ GE217.out) | exact HB.out)⟩⟩
 case round =>
  clear H'
  try clear c1
  try clear p2
  obtain ⟨x8_1, rfl, HA, HK1, BK217, HB⟩ := hrel
  cases gk with
  | zero => exact absurd HA.out (by simp [impl_Backend_126.l0])
  | succ k1 =>
   have H := HA.out
   clear HA
   simp only [impl_Backend_126.l0] at H
   by_cases c4 : x8_1 < (l0.length : Int)
   ·rw [if_pos c4] at H
    have c4b0 : decide (x8_1 < (l0.length : Int)) = true := decide_eq_true c4
    clear c4
    by_cases c5 : 0 ≤ x8_1
    ·rw [if_pos c5] at H
     have c5b0 : decide (0 ≤ x8_1) = true := decide_eq_true c5
     clear c5
     by_cases c6 : x8_1 < (l0.length : Int)
     ·rw [if_pos c6] at H
      have c6b0 : decide (x8_1 < (l0.length : Int)) = true := decide_eq_true c6
      clear c6
      by_cases c7 : (a1_0 == ((rd_T36 l0 x8_1).f0) && (a1_1 == ((rd_T36 l0 x8_1).f1) && (a1_2 == ((rd_T36 l0 x8_1).f2) && (a1_3 == ((rd_T36 l0 x8_1).f3) && (a1_4 == ((rd_T36 l0 x8_1).f4)))))) = true
      ·rw [if_pos c7] at H
       have c7b0 : (a1_0 == ((rd_T36 l0 x8_1).f0) && (a1_1 == ((rd_T36 l0 x8_1).f1) && (a1_2 == ((rd_T36 l0 x8_1).f2) && (a1_3 == ((rd_T36 l0 x8_1).f3) && (a1_4 == ((rd_T36 l0 x8_1).f4)))))) = true := c7
       (try (have c7b1 : decide (a1_0 = ((rd_T36 l0 x8_1).f0) && (a1_1 == ((rd_T36 l0 x8_1).f1) && (a1_2 == ((rd_T36 l0 x8_1).f2) && (a1_3 == ((rd_T36 l0 x8_1).f3) && (a1_4 == ((rd_T36 l0 x8_1).f4)))))) = true := by simpa using c7))
       (try (have c7b2 : (a1_0 == ((rd_T36 l0 x8_1).f0) && (a1_1 == ((rd_T36 l0 x8_1).f1) && (a1_2 == ((rd_T36 l0 x8_1).f2) && (a1_3 == ((rd_T36 l0 x8_1).f3) && (a1_4 == ((rd_T36 l0 x8_1).f4)))))) = true := by simpa using c7))
       clear c7
       obtain rfl := Option.some.inj H
       have hcz8_0 : wr.cell? ⟨gb217, 0, none⟩ = some (.int .i64 a1_0) := (blk_cell BK217.out 0).trans rfl
       have hcz8_1 : wr.cell? ⟨gb217, 1, none⟩ = some (.int .i64 a1_1) := (blk_cell BK217.out 1).trans rfl
       have hcz8_2 : wr.cell? ⟨gb217, 2, none⟩ = some (.int .i64 a1_2) := (blk_cell BK217.out 2).trans rfl
       have hcz8_3 : wr.cell? ⟨gb217, 3, none⟩ = some (.int .i64 a1_3) := (blk_cell BK217.out 3).trans rfl
       have hcz8_4 : wr.cell? ⟨gb217, 4, none⟩ = some (.bool a1_4) := (blk_cell BK217.out 4).trans rfl
       have hfz8_0 := blk_frozen BK217.out 0
       have hfz8_1 := blk_frozen BK217.out 1
       have hfz8_2 := blk_frozen BK217.out 2
       have hfz8_3 := blk_frozen BK217.out 3
       have hfz8_4 := blk_frozen BK217.out 4
       have p218 : 0 ≤ (x8_1 : Int) := of_decide_eq_true (by first | (with_reducible assumption) | assumption)
       have q218 : x8_1 < (l0.length : Int) := of_decide_eq_true (by first | (with_reducible assumption) | assumption)
       obtain ⟨ad218, e218, hx218_0, hx218_1, hx218_2, hx218_3, hx218_4⟩ := at_T36 HR0.out x8_1 p218 q218
       cases e218
       replace hx218_0 := (HB.out.cell (World.block_lt_of_cell? w _ hx218_0)).trans hx218_0
       replace hx218_1 := (HB.out.cell (World.block_lt_of_cell? w _ hx218_1)).trans hx218_1
       replace hx218_2 := (HB.out.cell (World.block_lt_of_cell? w _ hx218_2)).trans hx218_2
       replace hx218_3 := (HB.out.cell (World.block_lt_of_cell? w _ hx218_3)).trans hx218_3
       replace hx218_4 := (HB.out.cell (World.block_lt_of_cell? w _ hx218_4)).trans hx218_4
       replace p218 := eq_true p218
       replace q218 := eq_true q218
       go_wp2
       repeat (go_quiet (fail); try go_wp2)
       go_ret
       exact ⟨by first | rfl | (simp [errW_none, errW_some] <;> rfl) | (simp [*, errW_none, errW_some] <;> rfl), by repeat (first | (with_reducible first | exact HB.out | apply below_alloc | apply pw_below_drewN | apply below_drew1 | refine below_set ?_ GE217.out) | exact HB.out)⟩
      ·rw [if_neg c7] at H
       have c7b0 : (a1_0 == ((rd_T36 l0 x8_1).f0) && (a1_1 == ((rd_T36 l0 x8_1).f1) && (a1_2 == ((rd_T36 l0 x8_1).f2) && (a1_3 == ((rd_T36 l0 x8_1).f3) && (a1_4 == ((rd_T36 l0 x8_1).f4)))))) = false := by simpa using c7
       (try (have c7b1 : decide (a1_0 = ((rd_T36 l0 x8_1).f0) && (a1_1 == ((rd_T36 l0 x8_1).f1) && (a1_2 == ((rd_T36 l0 x8_1).f2) && (a1_3 == ((rd_T36 l0 x8_1).f3) && (a1_4 == ((rd_T36 l0 x8_1).f4)))))) = false := by simpa using c7))
       (try (have c7b2 : (a1_0 == ((rd_T36 l0 x8_1).f0) && (a1_1 == ((rd_T36 l0 x8_1).f1) && (a1_2 == ((rd_T36 l0 x8_1).f2) && (a1_3 == ((rd_T36 l0 x8_1).f3) && (a1_4 == ((rd_T36 l0 x8_1).f4)))))) = false := by simpa using c7))
       (try (have c7b3 : ¬ (a1_0 = ((rd_T36 l0 x8_1).f0) && (a1_1 == ((rd_T36 l0 x8_1).f1) && (a1_2 == ((rd_T36 l0 x8_1).f2) && (a1_3 == ((rd_T36 l0 x8_1).f3) && (a1_4 == ((rd_T36 l0 x8_1).f4)))))) := by simpa using c7))
       clear c7
       have H' := Aside0.mk H
       clear H
       have hcz9_0 : wr.cell? ⟨gb217, 0, none⟩ = some (.int .i64 a1_0) := (blk_cell BK217.out 0).trans rfl
       have hcz9_1 : wr.cell? ⟨gb217, 1, none⟩ = some (.int .i64 a1_1) := (blk_cell BK217.out 1).trans rfl
       have hcz9_2 : wr.cell? ⟨gb217, 2, none⟩ = some (.int .i64 a1_2) := (blk_cell BK217.out 2).trans rfl
       have hcz9_3 : wr.cell? ⟨gb217, 3, none⟩ = some (.int .i64 a1_3) := (blk_cell BK217.out 3).trans rfl
       have hcz9_4 : wr.cell? ⟨gb217, 4, none⟩ = some (.bool a1_4) := (blk_cell BK217.out 4).trans rfl
       have hfz9_0 := blk_frozen BK217.out 0
       have hfz9_1 := blk_frozen BK217.out 1
       have hfz9_2 := blk_frozen BK217.out 2
       have hfz9_3 := blk_frozen BK217.out 3
       have hfz9_4 := blk_frozen BK217.out 4
       have p218 : 0 ≤ (x8_1 : Int) := of_decide_eq_true (by first | (with_reducible assumption) | assumption)
       have q218 : x8_1 < (l0.length : Int) := of_decide_eq_true (by first | (with_reducible assumption) | assumption)
       obtain ⟨ad218, e218, hx218_0, hx218_1, hx218_2, hx218_3, hx218_4⟩ := at_T36 HR0.out x8_1 p218 q218
       cases e218
       replace hx218_0 := (HB.out.cell (World.block_lt_of_cell? w _ hx218_0)).trans hx218_0
       replace hx218_1 := (HB.out.cell (World.block_lt_of_cell? w _ hx218_1)).trans hx218_1
       replace hx218_2 := (HB.out.cell (World.block_lt_of_cell? w _ hx218_2)).trans hx218_2
       replace hx218_3 := (HB.out.cell (World.block_lt_of_cell? w _ hx218_3)).trans hx218_3
       replace hx218_4 := (HB.out.cell (World.block_lt_of_cell? w _ hx218_4)).trans hx218_4
       replace p218 := eq_true p218
       replace q218 := eq_true q218
       go_wp2
       repeat (go_quiet (fail); try go_wp2)
       go_roundg k1
       case measure => have := HK1.out; omega
       case rel => exact ⟨(wrap64 (x8_1 + 1)), (by first | rfl | (simp; done) | (simp [*]; done)), H', ⟨by have := HK1.out; omega⟩, ⟨by (with_reducible repeat (first | refine blk_drewN ?_ _ | refine blk_drew ?_ | refine blk_alloc ?_ _)); exact BK217.out⟩, ⟨by repeat (first | (with_reducible first | exact HB.out | apply below_alloc | apply pw_below_drewN | apply below_drew1 | refine below_set ?_ GE217.out) | exact HB.out)⟩⟩
     ·rw [if_neg c6] at H
      exact absurd H (by simp)
    ·rw [if_neg c5] at H
     exact absurd H (by simp)
   ·rw [if_neg c4] at H
    have c4b0 : decide (x8_1 < (l0.length : Int)) = false := decide_eq_false c4
    clear c4
    obtain rfl := Option.some.inj H
    go_wp2
    repeat (go_quiet (fail); try go_wp2)
    go_ret
    exact ⟨by first | rfl | (simp [errW_none, errW_some] <;> rfl) | (simp [*, errW_none, errW_some] <;> rfl), by repeat (first | (with_reducible first | exact HB.out | apply below_alloc | apply pw_below_drewN | apply below_drew1 | refine below_set ?_ GE217.out) | exact HB.out)⟩

/-! ### impl_Backend_91: function 91 -/
def impl_Backend_91.f (k : Nat) (l0 : List (S36)) (a1_0 : Int) (a1_1 : Int) (a1_2 : Int) (a1_3 : Int) (a1_4 : Bool) : Option (Bool) := (impl_Backend_126.f k l0 a1_0 a1_1 a1_2 a1_3 a1_4).bind fun t220 => (some (decide (t220 ≥ 0)))
theorem impl_Backend_91.mono : ∀ a0 a1 a2 a3 a4 a5 k, LeO (impl_Backend_91.f k a0 a1 a2 a3 a4 a5) (impl_Backend_91.f (k + 1) a0 a1 a2 a3 a4 a5) := by
 intro a0 a1 a2 a3 a4 a5 k
 unfold impl_Backend_91.f
 repeat' first
   | (with_reducible exact impl_Backend_126.mono _ _ _ _ _ _ _)
   | (with_reducible exact LeO.refl _)
   | (with_reducible exact LeO.none _)
   | (with_reducible refine LeO.ite ?_ ?_)
   | (with_reducible refine LeO.bind ?_ (fun _ => ?_))
   | exact impl_Backend_126.mono _ _ _ _ _ _ _
   | exact LeO.none _
   | refine LeO.ite ?_ ?_
   | refine LeO.bind ?_ (fun _ => ?_)
set_option maxHeartbeats 8000000 in
set_option maxRecDepth 100000 in
theorem impl_Backend_91.calls (k : Nat) (A0 : Option Addr) (c0 : Nat) (l0 : List (S36)) (a1_0 : Int) (a1_1 : Int) (a1_2 : Int) (a1_3 : Int) (a1_4 : Bool) (r : Bool) (w : World) (hr0 : Kd.C k36 w A0 l0.length l0) (hc0 : l0.length ≤ c0) (h : impl_Backend_91.f k l0 a1_0 a1_1 a1_2 a1_3 a1_4 = some r) :
  Calls Try.prog 91 #[.slice A0 l0.length c0, .agg #[.int .i64 a1_0, .int .i64 a1_1, .int .i64 a1_2, .int .i64 a1_3, .bool a1_4]] w fun e w' => e = .returned (.bool r) ∧ Below w.heap.size w w' := by
 have hu36 := Try.underlying36
 have HR0 := Aside0.mk hr0
 have HC0 := Aside0.mk hc0
 clear hr0 hc0
 have HB := Aside0.mk (Below.refl w.heap.size w)
 have H : ((impl_Backend_126.f k l0 a1_0 a1_1 a1_2 a1_3 a1_4).bind fun t220 => (some (decide (t220 ≥ 0)))) = some r := h
 clear h
 replace H := Option.bind_eq_some_iff.mp H
 obtain ⟨t220, A30, H⟩ := H
 replace H : (some (decide (t220 ≥ 0))) = some r := H
 have A3 := Aside0.mk A30
 clear A30
 obtain rfl := Option.some.inj H
 go_enter Try.func91, Try.ntmps91
 go_wp2_with (first | ((with_reducible refine gate_dst (N := 3) rfl ?_); refine box_event ?hg (N := 3) ?hd (cs := #[.int .i64 a1_0, .int .i64 a1_1, .int .i64 a1_2, .int .i64 a1_3, .bool a1_4]) (t := 36) ?hr ?_; (case hd => rfl); (case hg => rfl); (case hr => first | (go_simp; done) | (go_simp; rfl)); intro gb219 hg w4 hbox hb; have n0_ := Aside0.mk (below_step (by repeat (first | (with_reducible first | exact HB.out | apply below_alloc | apply pw_below_drewN | apply below_drew1) | exact HB.out)) hb); have n1_ := Aside0.mk (hbox); have n2_ := Aside0.mk ((by rw [hg]; exact (below_size (by repeat (first | (with_reducible first | exact HB.out | apply below_alloc | apply pw_below_drewN | apply below_drew1) | exact HB.out))) : w.heap.size ≤ gb219)); have n3_ := Aside0.mk ((by rw [hg]; exact (below_size (by repeat (first | (with_reducible first | exact HB.out | apply below_alloc | apply pw_below_drewN | apply below_drew1) | exact HB.out))) : w.heap.size ≤ gb219)); clear HB; have HB := n0_; have BK219 := n1_; have GW219 := n2_; have GE219 := n3_; clear n0_ n1_ n2_ n3_; clear hb hbox hg; have hcz5_0 : w4.cell? ⟨gb219, 0, none⟩ = some (.int .i64 a1_0) := (blk_cell BK219.out 0).trans rfl; have hcz5_1 : w4.cell? ⟨gb219, 1, none⟩ = some (.int .i64 a1_1) := (blk_cell BK219.out 1).trans rfl; have hcz5_2 : w4.cell? ⟨gb219, 2, none⟩ = some (.int .i64 a1_2) := (blk_cell BK219.out 2).trans rfl; have hcz5_3 : w4.cell? ⟨gb219, 3, none⟩ = some (.int .i64 a1_3) := (blk_cell BK219.out 3).trans rfl; have hcz5_4 : w4.cell? ⟨gb219, 4, none⟩ = some (.bool a1_4) := (blk_cell BK219.out 4).trans rfl; have hfz5_0 := blk_frozen BK219.out 0; have hfz5_1 := blk_frozen BK219.out 1; have hfz5_2 := blk_frozen BK219.out 2; have hfz5_3 := blk_frozen BK219.out 3; have hfz5_4 := blk_frozen BK219.out 4) | ((with_reducible refine gate_callee (f := 126) rfl ?_); refine goesL_ (some 7) rfl rfl Try.func126 (by kernel_rfl) rfl #[.slice A0 l0.length c0, .agg #[.int .i64 a1_0, .int .i64 a1_1, .int .i64 a1_2, .int .i64 a1_3, .bool a1_4]] rfl (by (try simp only [List.map_toArray, List.map_cons, List.map_nil]); first | done | rfl | (simp only [List.length_drop, List.length_take]; rfl)) ?_; (with_reducible refine (impl_Backend_126.calls k _ _ l0 a1_0 a1_1 a1_2 a1_3 a1_4 t220 _ ?side1 ?side2 A3.out).mono ?_); (case side1 => repeat (first | exact (Kd.C_below HR0.out HB.out) | (with_reducible refine Kd.C_alloc ?_ _) | (with_reducible refine Kd.C_drewN ?_ _) | (with_reducible refine Kd.C_drew ?_))); (case side2 => exact HC0.out); rintro e w6 ⟨rfl, hb⟩; refine ⟨_, rfl, ?_⟩; have n0_ := Aside0.mk (blk_below (g := gb219) (o := .cells #[.int .i64 a1_0, .int .i64 a1_1, .int .i64 a1_2, .int .i64 a1_3, .bool a1_4] 36 (0, 0)) (by (with_reducible repeat (first | refine blk_drewN ?_ _ | refine blk_drew ?_ | refine blk_alloc ?_ _)); exact BK219.out) hb); have n1_ := Aside0.mk (below_step (by repeat (first | (with_reducible first | exact HB.out | apply below_alloc | apply pw_below_drewN | apply below_drew1 | refine below_set ?_ GE219.out) | exact HB.out)) hb); clear BK219; clear HB; have BK219 := n0_; have HB := n1_; clear n0_ n1_; (try clear hb); (try clear hb2); (try clear hk); (try clear hi)))
 go_ret
 exact ⟨by first | rfl | (simp [errW_none, errW_some] <;> rfl) | (simp [*, errW_none, errW_some] <;> rfl), by repeat (first | (with_reducible first | exact HB.out | apply below_alloc | apply pw_below_drewN | apply below_drew1 | refine below_set ?_ GE219.out) | exact HB.out)⟩

/-! ### impl_DeltaOf: function 42 -/
set_option maxHeartbeats 2000000 in
/-- slices.IndexFunc over such a slice, whatever the function value, if it says p of each element and turns nothing that lay. -/
theorem Cf.bk.ix_calls (p : S36 → Bool) (g : Nat) (lb : Array Value) (eg : ∀ args w, (callFunc g args).run Try.prog w = .ok (.enter g args) w) (A0 : Option Addr) (c0 : Nat) (l0 : List (S36)) (w : World) (hr0 : Kd.C k36 w A0 l0.length l0) (hc0 : l0.length ≤ c0)
  (hp : ∀ (W : World) (x : S36), Below w.heap.size w W → Calls Try.prog g (#[.agg #[.int .i64 x.f0, .int .i64 x.f1, .int .i64 x.f2, .int .i64 x.f3, .bool x.f4]] ++ lb) W fun e w' => e = .returned (.bool (p x)) ∧ Below w.heap.size w w') :
  Calls Try.prog 110 #[.slice A0 l0.length c0, .func (.func g) #[] lb] w fun e w' => e = .returned (.int .i64 (Go.Proofs.Ytfmlhpoaipeoeaa.Ix.ixFrom p l0 0)) ∧ Below w.heap.size w w' := by
 have hbig : l0.length ≤ 9223372036854775807 := by have := hr0.2.1; have hs : (k36).sz = 5 := rfl; (try simp only [maxLen] at this); (try rw [hs] at this); omega
 go_enter Try.func110, Try.ntmps110
 go_wp2
 go_loopg [5, 8] l0.length (fun gg _ s8 wr => ∃ kk : Nat, kk ≤ l0.length ∧ l0.length - kk ≤ gg ∧ s8 = .int .i64 kk ∧ Aside (Below w.heap.size w wr) ∧ Aside (∀ j, j < kk → p (l0.getD j z36) = false))
 case atStart => exact ⟨0, Nat.zero_le _, by omega, rfl, Below.refl _ w, fun j hj => absurd hj (Nat.not_lt_zero _)⟩
 case round =>
  obtain ⟨kk, hkk, hg, rfl, BW, AA⟩ := hrel
  by_cases hlt : kk < l0.length
  ·have hltz : (kk : Int) < (l0.length : Int) := by omega
   obtain ⟨ad, eA, hx_0, hx_1, hx_2, hx_3, hx_4⟩ := at_T36 (Kd.C_below hr0 BW.out) (kk : Int) (by omega) hltz
   cases eA
   have hcall := hp wr (rd_T36 l0 (kk : Int)) BW.out
   have hy : l0.getD kk z36 = rd_T36 l0 (kk : Int) := rfl
   generalize rd_T36 l0 (kk : Int) = y at hx_0 hx_1 hx_2 hx_3 hx_4 hcall hy
   have B : Aside (l0.getD kk z36 = y) := hy
   clear hy hp
   simp only [Int.toNat_natCast] at hx_0 hx_1 hx_2 hx_3 hx_4
   cases hq : p y with
   | true =>
    rw [hq] at hcall
    go_wp2_with (go_at_fn g; refine hcall.mono ?_; rintro e w' ⟨rfl, hb'⟩)
    go_ret
    refine ⟨?_, hb'⟩
    rw [Go.Proofs.Ytfmlhpoaipeoeaa.Ix.ixFrom_hit p z36 l0 0 kk hlt (by rw [B.out]; exact hq) AA.out]
    simp
   | false =>
    rw [hq] at hcall
    go_wp2_with (go_at_fn g; refine hcall.mono ?_; rintro e w' ⟨rfl, hb'⟩)
    go_roundg (l0.length - (kk + 1))
    case measure => omega
    case rel =>
     refine ⟨kk + 1, by omega, by omega, by go_num, hb', (show Aside _ from fun j hj => ?_)⟩
     by_cases e : j = kk
     ·subst e
      rw [B.out]; exact hq
     ·exact AA.out j (by omega)
  ·have hltz : ¬ (kk : Int) < (l0.length : Int) := by omega
   have : kk = l0.length := by omega
   subst this
   go_wp2
   go_ret
   refine ⟨?_, BW.out⟩
   rw [Go.Proofs.Ytfmlhpoaipeoeaa.Ix.ixFrom_miss p z36 l0 0 AA.out]
   rfl
set_option maxHeartbeats 2000000 in
/-- slices.IndexFunc over such a slice, whatever the function value, if it says p of each element and turns nothing that lay. -/
theorem Cf.nm.ix_calls (p : Int → Bool) (g : Nat) (lb : Array Value) (eg : ∀ args w, (callFunc g args).run Try.prog w = .ok (.enter g args) w) (A0 : Option Addr) (c0 : Nat) (l0 : List Int) (w : World) (hr0 : Kd.C (Kd.int .i64) w A0 l0.length l0) (hc0 : l0.length ≤ c0)
  (hp : ∀ (W : World) (x : Int), Below w.heap.size w W → Calls Try.prog g (#[.int .i64 x] ++ lb) W fun e w' => e = .returned (.bool (p x)) ∧ Below w.heap.size w w') :
  Calls Try.prog 109 #[.slice A0 l0.length c0, .func (.func g) #[] lb] w fun e w' => e = .returned (.int .i64 (Go.Proofs.Ytfmlhpoaipeoeaa.Ix.ixFrom p l0 0)) ∧ Below w.heap.size w w' := by
 have hbig : l0.length ≤ 9223372036854775807 := by have := hr0.2.1; have hs : (Kd.int .i64).sz = 1 := rfl; (try simp only [maxLen] at this); (try rw [hs] at this); omega
 go_enter Try.func109, Try.ntmps109
 go_wp2
 go_loopg [5, 8] l0.length (fun gg _ s8 wr => ∃ kk : Nat, kk ≤ l0.length ∧ l0.length - kk ≤ gg ∧ s8 = .int .i64 kk ∧ Aside (Below w.heap.size w wr) ∧ Aside (∀ j, j < kk → p (l0.getD j 0) = false))
 case atStart => exact ⟨0, Nat.zero_le _, by omega, rfl, Below.refl _ w, fun j hj => absurd hj (Nat.not_lt_zero _)⟩
 case round =>
  obtain ⟨kk, hkk, hg, rfl, BW, AA⟩ := hrel
  by_cases hlt : kk < l0.length
  ·have hltz : (kk : Int) < (l0.length : Int) := by omega
   obtain ⟨ad, eA, hx_0⟩ := Kd.at_int (Kd.C_below hr0 BW.out) (kk : Int) (by omega) hltz
   cases eA
   have hcall := hp wr (rd l0 (kk : Int)) BW.out
   have hy : l0.getD kk 0 = rd l0 (kk : Int) := rfl
   generalize rd l0 (kk : Int) = y at hx_0 hcall hy
   have B : Aside (l0.getD kk 0 = y) := hy
   clear hy hp
   simp only [Int.toNat_natCast] at hx_0
   cases hq : p y with
   | true =>
    rw [hq] at hcall
    go_wp2_with (go_at_fn g; refine hcall.mono ?_; rintro e w' ⟨rfl, hb'⟩)
    go_ret
    refine ⟨?_, hb'⟩
    rw [Go.Proofs.Ytfmlhpoaipeoeaa.Ix.ixFrom_hit p 0 l0 0 kk hlt (by rw [B.out]; exact hq) AA.out]
    simp
   | false =>
    rw [hq] at hcall
    go_wp2_with (go_at_fn g; refine hcall.mono ?_; rintro e w' ⟨rfl, hb'⟩)
    go_roundg (l0.length - (kk + 1))
    case measure => omega
    case rel =>
     refine ⟨kk + 1, by omega, by omega, by go_num, hb', (show Aside _ from fun j hj => ?_)⟩
     by_cases e : j = kk
     ·subst e
      rw [B.out]; exact hq
     ·exact AA.out j (by omega)
  ·have hltz : ¬ (kk : Int) < (l0.length : Int) := by omega
   have : kk = l0.length := by omega
   subst this
   go_wp2
   go_ret
   refine ⟨?_, BW.out⟩
   rw [Go.Proofs.Ytfmlhpoaipeoeaa.Ix.ixFrom_miss p 0 l0 0 AA.out]
   rfl
set_option maxHeartbeats 2000000 in
/-- slices.ContainsFunc over such a slice. -/
theorem Cf.nm.has_calls (p : Int → Bool) (g : Nat) (lb : Array Value) (eg : ∀ args w, (callFunc g args).run Try.prog w = .ok (.enter g args) w) (A0 : Option Addr) (c0 : Nat) (l0 : List Int) (w : World) (hr0 : Kd.C (Kd.int .i64) w A0 l0.length l0) (hc0 : l0.length ≤ c0)
  (hp : ∀ (W : World) (x : Int), Below w.heap.size w W → Calls Try.prog g (#[.int .i64 x] ++ lb) W fun e w' => e = .returned (.bool (p x)) ∧ Below w.heap.size w w') :
  Calls Try.prog 59 #[.slice A0 l0.length c0, .func (.func g) #[] lb] w fun e w' => e = .returned (.bool (l0.any p)) ∧ Below w.heap.size w w' := by
 rw [← Go.Proofs.Ytfmlhpoaipeoeaa.Ix.ixFrom_ge p l0 0 (by omega)]
 have hcon := Cf.nm.ix_calls p g lb eg A0 c0 l0 w hr0 hc0 hp
 clear hp
 go_enter Try.func59, Try.ntmps59
 go_wp2_with (go_at_call 109; refine hcon.mono ?_; rintro e w' ⟨rfl, hb'⟩)
 go_ret
 exact ⟨rfl, hb'⟩
set_option maxHeartbeats 2000000 in
/-- backend's closure: is a backend of the name that lies in a box? -/
theorem Cf.clo (q : Nat) (n : Int) (w : World) (hq : w.cell? ⟨q, 0, none⟩ = some (.int .i64 n)) (x : S36) (hql : q < w.heap.size) :
  Calls Try.prog 111 #[.agg #[.int .i64 x.f0, .int .i64 x.f1, .int .i64 x.f2, .int .i64 x.f3, .bool x.f4], .pointer (some ⟨q, 0, none⟩)] w fun e w' => e = .returned (.bool (Cf.named n x)) ∧ Below w.heap.size w w' := by
 have hu36 := Try.underlying36
 have hB1 : Below w.heap.size w (w.alloc (.cells #[.int .i64 x.f0, .int .i64 x.f1, .int .i64 x.f2, .int .i64 x.f3, .bool x.f4] 36)) := (Below.refl _ w).alloc (Nat.le_refl _) _
 have hq1 := (hB1.cell (p := ⟨q, 0, none⟩) hql).trans hq
 go_enter Try.func111, Try.ntmps111
 go_wp2
 go_ret
 exact ⟨rfl, hB1⟩
set_option maxHeartbeats 2000000 in
/-- The place of a backend of a name. -/
theorem impl_backend.cf (g : Nat) (A1 : Option Addr) (c1 : Nat) (l1 : List S36) (A2 : Option Addr) (n2 c2 : Nat) (v name : Int) (w : World) (hb : w.heap[g]? = some (.cells #[.int .i64 v, .slice A1 l1.length c1, .slice A2 n2 c2] 31 (0, 0))) (hr1 : Kd.C k36 w A1 l1.length l1) (hc1 : l1.length ≤ c1) :
  Calls Try.prog 61 #[.pointer (some ⟨g, 0, none⟩), .int .i64 name] w fun e w' => e = .returned (.int .i64 (Cf.place l1 name)) ∧ Below w.heap.size w w' := by
 obtain ⟨w1, hw1⟩ : ∃ W, W = w.alloc (.cells #[.int .i64 name] 2) := ⟨_, rfl⟩
 have hB1 : Below w.heap.size w w1 := by rw [hw1]; exact (Below.refl _ w).alloc (Nat.le_refl _) _
 have hs1 : w1.heap.size = w.heap.size + 1 := by rw [hw1]; simp
 have hq1 : w1.cell? ⟨w.heap.size, 0, none⟩ = some (.int .i64 name) := by rw [hw1]; exact blk_cell (blk_new w _) 0
 have hz1 : w.cell? ⟨g, 1, none⟩ = some (.slice A1 l1.length c1) := blk_cell hb 1
 have hz1' : (w.alloc (.cells #[.int .i64 name] 2)).cell? ⟨g, 1, none⟩ = some (.slice A1 l1.length c1) := by rw [← hw1]; exact blk_cell (blk_below hb hB1) 1
 have hcall := Cf.bk.ix_calls (Cf.named name) 111 #[.pointer (some ⟨w.heap.size, 0, none⟩)] (enters_of Try.func111 (by kernel_rfl) rfl) A1 c1 l1 w1 (Kd.C_below hr1 hB1) hc1 (fun W x hW => show Calls Try.prog 111 #[.agg #[.int .i64 x.f0, .int .i64 x.f1, .int .i64 x.f2, .int .i64 x.f3, .bool x.f4], .pointer (some ⟨w.heap.size, 0, none⟩)] W _ from (Cf.clo w.heap.size name W ((hW.cell (p := ⟨w.heap.size, 0, none⟩) (by show w.heap.size < w1.heap.size; omega)).trans hq1) x (by have := hW.size; omega)).mono fun e w' hh => ⟨hh.1, Cf.up hW hh.2⟩)
 rw [hw1] at hcall
 go_enter Try.func61, Try.ntmps61
 go_wp2_with (go_at_call 110; refine hcall.mono ?_; rintro e w2 ⟨rfl, hb2⟩; rw [← hw1] at hb2)
 go_ret
 exact ⟨rfl, Cf.up hB1 hb2⟩
set_option maxHeartbeats 2000000 in
/-- ConfigFault's closure: is there no backend of a name? -/
theorem Cf.clo2 (g : Nat) (A1 : Option Addr) (c1 : Nat) (l1 : List S36) (A2 : Option Addr) (n2 c2 : Nat) (v name : Int) (w : World) (hb : w.heap[g]? = some (.cells #[.int .i64 v, .slice A1 l1.length c1, .slice A2 n2 c2] 31 (0, 0))) (hr1 : Kd.C k36 w A1 l1.length l1) (hc1 : l1.length ≤ c1) :
  Calls Try.prog 60 #[.int .i64 name, .pointer (some ⟨g, 0, none⟩)] w fun e w' => e = .returned (.bool (Cf.gone l1 name)) ∧ Below w.heap.size w w' := by
 have hcall := fun (W : World) (hW : Below w.heap.size w W) => impl_backend.cf g A1 c1 l1 A2 n2 c2 v name W (blk_below hb hW) (Kd.C_below hr1 hW) hc1
 have hcall0 := hcall w (Below.refl _ _)
 clear hcall
 unfold Cf.gone
 go_enter Try.func60, Try.ntmps60
 go_wp2_with (go_at_call 61; refine hcall0.mono ?_; rintro e w2 ⟨rfl, hb2⟩)
 go_ret
 exact ⟨rfl, hb2⟩
/-- Is one of the names no backend's? -/
theorem Cf.hasgone (g : Nat) (A1 : Option Addr) (c1 : Nat) (l1 : List S36) (A2 : Option Addr) (n2 c2 : Nat) (v : Int) (A3 : Option Addr) (c3 : Nat) (l3 : List Int) (w : World) (hb : w.heap[g]? = some (.cells #[.int .i64 v, .slice A1 l1.length c1, .slice A2 n2 c2] 31 (0, 0))) (hr1 : Kd.C k36 w A1 l1.length l1) (hc1 : l1.length ≤ c1) (hr3 : Kd.C (Kd.int .i64) w A3 l3.length l3) (hc3 : l3.length ≤ c3) :
  Calls Try.prog 59 #[.slice A3 l3.length c3, .func (.func 60) #[] #[.pointer (some ⟨g, 0, none⟩)]] w fun e w' => e = .returned (.bool (l3.any (Cf.gone l1))) ∧ Below w.heap.size w w' :=
 Cf.nm.has_calls (Cf.gone l1) 60 #[.pointer (some ⟨g, 0, none⟩)] (enters_of Try.func60 (by kernel_rfl) rfl) A3 c3 l3 w hr3 hc3 (fun W x hW => show Calls Try.prog 60 #[.int .i64 x, .pointer (some ⟨g, 0, none⟩)] W _ from (Cf.clo2 g A1 c1 l1 A2 n2 c2 v x W (blk_below hb hW) (Kd.C_below hr1 hW) hc1).mono fun e w' hh => ⟨hh.1, Cf.up hW hh.2⟩)
theorem Cf.bind_s {α β : Type} (x : α) (f : α → Option β) : (some x).bind f = f x := rfl
theorem Cf.w64 {n : Int} (h0 : -9223372036854775808 ≤ n) (h1 : n ≤ 9223372036854775807) : wrap64 n = n := by unfold wrap64; omega
theorem Cf.in_is (a lo hi : Int) : impl_in.f a lo hi = some (Cf.inB a lo hi) := by
 unfold impl_in.f Cf.inB
 by_cases h : a ≥ lo
 ·rw [if_pos h]; simp [h]
 ·rw [if_neg h]; simp [h]
theorem Cf.iaddr_is (a : Int) : impl_isAddress.f a = some (Cf.inB a 0 4294967295) := by unfold impl_isAddress.f; rw [Cf.in_is]; rfl
theorem Cf.iport_is (a : Int) : impl_isPort.f a = some (Cf.inB a 0 65535) := by unfold impl_isPort.f; rw [Cf.in_is]; rfl
theorem Cf.iproto_is (a : Int) : impl_isProto.f a = some (Cf.prB a) := by
 unfold impl_isProto.f Cf.prB
 by_cases h : a = 6
 ·rw [if_pos h]; simp [h]
 ·rw [if_neg h]; simp [h]; rfl
theorem Cf.ibackend_is (x : S36) : impl_isBackend.f x.f0 x.f1 x.f2 x.f3 x.f4 = some (Cf.isb x) := by
 unfold impl_isBackend.f impl_isName.f Cf.isb
 simp only [Cf.iaddr_is, Cf.in_is, Option.bind_some]
 cases Cf.inB x.f0 1 999 <;> cases Cf.inB x.f1 0 4294967295 <;> cases Cf.inB x.f2 0 9 <;> rfl
theorem Cf.Compare_is (a b : Int) : cmp_Compare_int64.f a b = some (if a < b then -1 else if a > b then 1 else 0) := by
 unfold cmp_Compare_int64.f cmp_isNaN_int64.f
 rw [Cf.bind_s, Cf.bind_s, bne_self_eq_false, bne_self_eq_false, if_neg (by decide), if_neg (by decide)]
 by_cases h : a < b
 ·rw [if_pos h, if_pos h]
 ·rw [if_neg h, if_neg h]
  by_cases h2 : a > b
  ·rw [if_pos h2, if_pos h2]
  ·rw [if_neg h2, if_neg h2]
theorem Cf.Or_is (a b c : Int) : cmp_Or_int.f 4 [a, b, c] = some (if a = 0 then (if b = 0 then c else b) else a) := by
 have w0 : wrap64 ((0 : Int) + 1) = 1 := Cf.w64 (by omega) (by omega)
 have w1 : wrap64 ((1 : Int) + 1) = 2 := Cf.w64 (by omega) (by omega)
 have w2 : wrap64 ((2 : Int) + 1) = 3 := Cf.w64 (by omega) (by omega)
 have r0 : rd [a, b, c] 0 = a := rfl
 have r1 : rd [a, b, c] 1 = b := rfl
 have r2 : rd [a, b, c] 2 = c := rfl
 unfold cmp_Or_int.f
 rw [cmp_Or_int.l0.eq_2, if_pos (by simp), if_pos (by omega), if_pos (by simp), r0, w0]
 by_cases h0 : a = 0
 ·rw [if_pos h0, if_pos h0, cmp_Or_int.l0.eq_2, if_pos (by simp), if_pos (by omega), if_pos (by simp), r1, w1]
  by_cases h1 : b = 0
  ·rw [if_pos h1, if_pos h1, cmp_Or_int.l0.eq_2, if_pos (by simp), if_pos (by omega), if_pos (by simp), r2, w2]
   by_cases h2 : c = 0
   ·rw [if_pos h2, cmp_Or_int.l0.eq_2, if_neg (by simp), h2]
   ·rw [if_neg h2]
  ·rw [if_neg h1, if_neg h1]
 ·rw [if_neg h0, if_neg h0]
def Cf.cmp (a b : Int) : Int := if a < b then -1 else if a > b then 1 else 0
def Cf.cmpV (x y : S64) : Int := if Cf.cmp x.f0 y.f0 = 0 then (if Cf.cmp x.f1 y.f1 = 0 then Cf.cmp x.f2 y.f2 else Cf.cmp x.f1 y.f1) else Cf.cmp x.f0 y.f0
theorem Cf.compare_is (x y : S64) : impl_compareVip.f 4 x.f0 x.f1 x.f2 x.f3 y.f0 y.f1 y.f2 y.f3 = some (Cf.cmpV x y) := by
 unfold impl_compareVip.f
 rw [Cf.Compare_is, Cf.bind_s, Cf.Compare_is, Cf.bind_s, Cf.Compare_is, Cf.bind_s, Cf.Or_is, Cf.bind_s]; rfl
theorem Cf.cmp_beh (x y : S64) : decide (0 ≤ Cf.cmpV x y) = !Cf.beh x y := by
 unfold Cf.cmpV Cf.beh Cf.cmp
 rcases Int.lt_trichotomy x.f0 y.f0 with h | h | h
 ·rw [if_pos h, if_neg (by omega), if_neg (by omega), decide_eq_true h]; rfl
 ·rw [if_neg (show ¬ x.f0 < y.f0 by omega), if_neg (show ¬ x.f0 > y.f0 by omega), if_pos rfl, if_pos h]
  rcases Int.lt_trichotomy x.f1 y.f1 with h | h | h
  ·rw [if_pos h, if_neg (by omega), if_neg (by omega), decide_eq_true h]; rfl
  ·rw [if_neg (show ¬ x.f1 < y.f1 by omega), if_neg (show ¬ x.f1 > y.f1 by omega), if_pos rfl, if_pos h]
   rcases Int.lt_trichotomy x.f2 y.f2 with h | h | h
   ·rw [if_pos h, decide_eq_true h]; rfl
   ·rw [if_neg (show ¬ x.f2 < y.f2 by omega), if_neg (show ¬ x.f2 > y.f2 by omega), decide_eq_false (show ¬ x.f2 < y.f2 by omega)]; rfl
   ·rw [if_neg (show ¬ x.f2 < y.f2 by omega), if_pos h, decide_eq_false (show ¬ x.f2 < y.f2 by omega)]; rfl
  ·rw [if_neg (show ¬ x.f1 < y.f1 by omega), if_pos h, if_neg (by omega), if_neg (by omega), decide_eq_false (show ¬ x.f1 < y.f1 by omega)]; rfl
 ·rw [if_neg (show ¬ x.f0 < y.f0 by omega), if_pos h, if_neg (by omega), if_neg (by omega), decide_eq_false (show ¬ x.f0 < y.f0 by omega)]; rfl
theorem Cf.iin (a lo hi : Int) (w : World) : Calls Try.prog 53 #[.int .i64 a, .int .i64 lo, .int .i64 hi] w fun e w' => e = .returned (.bool (Cf.inB a lo hi)) ∧ Below w.heap.size w w' := (impl_in.calls a lo hi _ w (Cf.in_is a lo hi)).mono (fun _ _ h => ⟨h.1, h.2.below⟩)
theorem Cf.iaddr (a : Int) (w : World) : Calls Try.prog 55 #[.int .i64 a] w fun e w' => e = .returned (.bool (Cf.inB a 0 4294967295)) ∧ Below w.heap.size w w' := (impl_isAddress.calls a _ w (Cf.iaddr_is a)).mono (fun _ _ h => ⟨h.1, h.2.below⟩)
theorem Cf.iport (a : Int) (w : World) : Calls Try.prog 56 #[.int .i64 a] w fun e w' => e = .returned (.bool (Cf.inB a 0 65535)) ∧ Below w.heap.size w w' := (impl_isPort.calls a _ w (Cf.iport_is a)).mono (fun _ _ h => ⟨h.1, h.2.below⟩)
theorem Cf.iproto (a : Int) (w : World) : Calls Try.prog 57 #[.int .i64 a] w fun e w' => e = .returned (.bool (Cf.prB a)) ∧ Below w.heap.size w w' := (impl_isProto.calls a _ w (Cf.iproto_is a)).mono (fun _ _ h => ⟨h.1, h.2.below⟩)
/-! the codes of a vip, case by case -/
theorem Cf.vc_3 {l1 : List S36} {l2 : List S64} {i : Nat} {x : S64} (hx : l2.getD i z64 = x) (h : Cf.vok x = false) : Cf.vcode l1 l2 i = 3 := by unfold Cf.vcode; rw [hx, if_pos h]
theorem Cf.vc_1 {l1 : List S36} {l2 : List S64} {i : Nat} {x : S64} (hx : l2.getD i z64 = x) (h : Cf.vok x = true) (h1 : (decide (0 < i) && !Cf.beh (l2.getD (i - 1) z64) x) = true) : Cf.vcode l1 l2 i = 1 := by unfold Cf.vcode; rw [hx, if_neg (by rw [h]; simp), if_pos h1]
theorem Cf.vc_4 {l1 : List S36} {l2 : List S64} {i : Nat} {x : S64} (hx : l2.getD i z64 = x) (h : Cf.vok x = true) (h1 : (decide (0 < i) && !Cf.beh (l2.getD (i - 1) z64) x) = false) (h2 : x.f3.any (Cf.gone l1) = true) : Cf.vcode l1 l2 i = 4 := by unfold Cf.vcode; rw [hx, if_neg (by rw [h]; simp), if_neg (by rw [h1]; simp), if_pos h2]
theorem Cf.vc_r {l1 : List S36} {l2 : List S64} {i : Nat} {x : S64} (hx : l2.getD i z64 = x) (h : Cf.vok x = true) (h1 : (decide (0 < i) && !Cf.beh (l2.getD (i - 1) z64) x) = false) (h2 : x.f3.any (Cf.gone l1) = false) : Cf.vcode l1 l2 i = if (List.range x.f3.length).any (Cf.falls x.f3) = true then 1 else 0 := by unfold Cf.vcode; rw [hx, if_neg (by rw [h]; simp), if_neg (by rw [h1]; simp), if_neg (by rw [h2]; simp)]
set_option maxHeartbeats 16000000 in
set_option maxRecDepth 100000 in
/-- What is not right of a configuration: the program's. -/
theorem impl_ConfigFault.cf (A1 : Option Addr) (c1 : Nat) (l1 : List S36) (A2 : Option Addr) (c2 : Nat) (l2 : List S64) (v : Int) (w : World) (hr1 : Kd.C k36 w A1 l1.length l1) (hc1 : l1.length ≤ c1) (hr2 : Kd.C k64 w A2 l2.length l2) :
  Calls Try.prog 15 #[.agg #[.int .i64 v, .slice A1 l1.length c1, .slice A2 l2.length c2]] w fun e w' => e = .returned (.int .i64 (Cf.code v l1 l2)) ∧ Below w.heap.size w w' := by
 have hu36 := Try.underlying36
 have hu31 := Try.underlying31
 have hu64 := Try.underlying64
 obtain ⟨r, hr⟩ : ∃ r, r = Cf.code v l1 l2 := ⟨_, rfl⟩
 rw [← hr]
 have hbig1 : l1.length ≤ 9223372036854775807 := by have := hr1.2.1; have hs : (k36).sz = 5 := rfl; (try simp only [maxLen] at this); (try rw [hs] at this); omega
 have hbig2 : l2.length ≤ 9223372036854775807 := by have := hr2.2.1; have hs : (k64).sz = 4 := rfl; (try simp only [maxLen] at this); (try rw [hs] at this); omega
 obtain ⟨w1, hw1⟩ : ∃ W, W = w.alloc (.cells #[.int .i64 v, .slice A1 l1.length c1, .slice A2 l2.length c2] 31) := ⟨_, rfl⟩
 have hB1 : Below w.heap.size w w1 := by rw [hw1]; exact (Below.refl _ w).alloc (Nat.le_refl _) _
 have D1 : Aside0 (w1.heap[w.heap.size]? = some (.cells #[.int .i64 v, .slice A1 l1.length c1, .slice A2 l2.length c2] 31 (0, 0))) := ⟨by rw [hw1]; exact blk_new w _⟩
 have D2 : Aside0 (Kd.C k36 w1 A1 l1.length l1) := ⟨Kd.C_below hr1 hB1⟩
 have D3 : Aside0 (Kd.C k64 w1 A2 l2.length l2) := ⟨Kd.C_below hr2 hB1⟩
 have DB : Aside0 (Below w.heap.size w w1) := ⟨hB1⟩
 clear hr1 hr2 hB1
 have h0 := Cf.iin v 0 1000000
 go_enter Try.func15, Try.ntmps15
 cases e0 : Cf.inB v 0 1000000 with
 | false =>
  simp only [e0] at h0
  go_wp2_with (go_at_call 53; refine (h0 _).mono ?_; rintro e w2 ⟨rfl, hb2⟩; rw [← hw1] at hb2)
  go_ret
  exact ⟨by rw [hr]; unfold Cf.code; rw [e0]; rfl, Cf.up DB.out hb2⟩
 | true =>
  simp only [e0] at h0
  by_cases hm : (l1.length : Int) > 8
  ·have hm0 : decide ((8 : Int) < (l1.length : Int)) = true := decide_eq_true hm
   go_wp2_with (go_at_call 53; refine (h0 _).mono ?_; rintro e w2 ⟨rfl, hb2⟩; rw [← hw1] at hb2; have z1 := blk_cell (blk_below D1.out hb2) 1)
   go_ret
   exact ⟨by rw [hr]; unfold Cf.code; rw [e0, if_neg (by simp), if_pos (by rw [decide_eq_true hm]; rfl)]; rfl, Cf.up DB.out hb2⟩
  have hm0 : decide ((8 : Int) < (l1.length : Int)) = false := decide_eq_false hm
  by_cases hm2 : (l2.length : Int) > 4
  ·have hm20 : decide ((4 : Int) < (l2.length : Int)) = true := decide_eq_true hm2
   go_wp2_with (go_at_call 53; refine (h0 _).mono ?_; rintro e w2 ⟨rfl, hb2⟩; rw [← hw1] at hb2; have z1 := blk_cell (blk_below D1.out hb2) 1; have z2 := blk_cell (blk_below D1.out hb2) 2)
   go_ret
   exact ⟨by rw [hr]; unfold Cf.code; rw [e0, if_neg (by simp), if_pos (by rw [decide_eq_true hm2]; simp)]; rfl, Cf.up DB.out hb2⟩
  have hm20 : decide ((4 : Int) < (l2.length : Int)) = false := decide_eq_false hm2
  have HR := Aside0.mk (Cf.code_b hr e0 hm hm2)
  clear hr
  go_wp2_with (go_at_call 53; refine (h0 _).mono ?_; rintro e w2 ⟨rfl, hb2⟩; rw [← hw1] at hb2; have z1 := blk_cell (blk_below D1.out hb2) 1; have z2 := blk_cell (blk_below D1.out hb2) 2)
  go_loopg [3, 4, 27] l1.length (fun gg _ _ s27 wr => ∃ kk : Nat, kk ≤ l1.length ∧ l1.length - kk ≤ gg ∧ s27 = .int .i64 kk ∧ Aside (Below w1.heap.size w1 wr) ∧ Aside (∀ j, j < kk → Cf.bcode l1 j = 0))
  case atStart => exact ⟨0, Nat.zero_le _, by omega, rfl, hb2, fun j hj => absurd hj (Nat.not_lt_zero _)⟩
  case round =>
   clear z1 z2 hb2 h0 hw1
   obtain ⟨kk, hkk, hg_, rfl, BW, AA⟩ := hrel
   by_cases hlt : kk < l1.length
   ·have hltz : (kk : Int) < (l1.length : Int) := by omega
    obtain ⟨ad, eA, hx_0, hx_1, hx_2, hx_3, hx_4⟩ := at_T36 (Kd.C_below D2.out BW.out) (kk : Int) (by omega) hltz
    cases eA
    have hy : l1.getD kk z36 = rd_T36 l1 (kk : Int) := rfl
    generalize rd_T36 l1 (kk : Int) = y at hx_0 hx_1 hx_2 hx_3 hx_4 hy
    have B : Aside (l1.getD kk z36 = y) := hy
    clear hy
    simp only [Int.toNat_natCast] at hx_0 hx_1 hx_2 hx_3 hx_4
    obtain ⟨wb, hwb⟩ : ∃ W, W = wr.alloc (.cells #[.int .i64 y.f0, .int .i64 y.f1, .int .i64 y.f2, .int .i64 y.f3, .bool y.f4] 36) := ⟨_, rfl⟩
    have HWB := Aside0.mk (show Below wr.heap.size wr wb by rw [hwb]; exact (Below.refl _ wr).alloc (Nat.le_refl _) _)
    have HBK := Aside0.mk (show wb.heap[wr.heap.size]? = some (.cells #[.int .i64 y.f0, .int .i64 y.f1, .int .i64 y.f2, .int .i64 y.f3, .bool y.f4] 36 (0, 0)) by rw [hwb]; exact blk_new wr _)
    have hc := fun (W : World) => impl_isBackend.calls y.f0 y.f1 y.f2 y.f3 y.f4 _ W (Cf.ibackend_is y)
    cases hq : Cf.isb y with
    | false =>
     simp only [hq] at hc
     go_wp2_with (go_at_call 54; refine (hc _).mono ?_; rintro e w3 ⟨rfl, hb3⟩; rw [← hwb] at hb3)
     go_ret
     exact ⟨by rw [Cf.code_hit (v := v) HR.out kk hlt (by rw [Cf.bcode_3 (by rw [B.out]; exact hq)]; simp) AA.out, Cf.bcode_3 (by rw [B.out]; exact hq)]; rfl, Cf.up DB.out (Cf.up BW.out (Cf.up HWB.out hb3))⟩
    | true =>
     simp only [hq] at hc
     by_cases hk0 : 0 < kk
     ·have hg0 : decide ((0 : Int) < (kk : Int)) = true := decide_eq_true (by omega)
      obtain ⟨j, hj⟩ : ∃ j, j = kk - 1 := ⟨_, rfl⟩
      have hwj : IntKind.i64.wrap ((kk : Int) - 1) = (j : Int) := by rw [IntKind.wrap_i64]; omega
      have hjl : (j : Int) < (l1.length : Int) := by omega
      have C : Aside (l1.getD (kk - 1) z36 = rd_T36 l1 (j : Int)) := (by rw [← hj]; rfl)
      clear hj
      cases hle : decide (y.f0 ≤ (rd_T36 l1 (j : Int)).f0) with
      | true =>
       go_wp2_with (go_at_call 54; refine (hc _).mono ?_; rintro e w3 ⟨rfl, hb3⟩; rw [← hwb] at hb3; have hb3' := hb3; replace hb3 := Cf.up HWB.out hb3; have z1 := blk_cell (blk_below D1.out (Cf.up BW.out hb3)) 1; have zb := blk_cell (blk_below HBK.out hb3') 0; obtain ⟨ad2, eA2, px_0, px_1, px_2, px_3, px_4⟩ := at_T36 (Kd.C_below D2.out (Cf.up BW.out hb3)) (j : Int) (by omega) hjl; cases eA2; simp only [Int.toNat_natCast] at px_0)
       go_quiet (fail)
       go_wp2
       go_ret
       have hbc : Cf.bcode l1 kk = 1 := Cf.bcode_1 (by rw [B.out]; exact hq) hk0 (by rw [B.out, C.out]; exact hle)
       exact ⟨by rw [Cf.code_hit (v := v) HR.out kk hlt (by rw [hbc]; simp) AA.out, hbc]; rfl, Cf.up DB.out (pw_below_drewN (Cf.up BW.out hb3) _)⟩
      | false =>
       go_wp2_with (go_at_call 54; refine (hc _).mono ?_; rintro e w3 ⟨rfl, hb3⟩; rw [← hwb] at hb3; have hb3' := hb3; replace hb3 := Cf.up HWB.out hb3; have z1 := blk_cell (blk_below D1.out (Cf.up BW.out hb3)) 1; have zb := blk_cell (blk_below HBK.out hb3') 0; obtain ⟨ad2, eA2, px_0, px_1, px_2, px_3, px_4⟩ := at_T36 (Kd.C_below D2.out (Cf.up BW.out hb3)) (j : Int) (by omega) hjl; cases eA2; simp only [Int.toNat_natCast] at px_0)
       go_quiet (fail)
       go_wp2
       have hbc : Cf.bcode l1 kk = 0 := Cf.bcode_0 (by rw [B.out]; exact hq) (by rw [B.out, C.out, hle]; simp)
       go_roundg (l1.length - (kk + 1))
       case measure => omega
       case rel =>
        refine ⟨kk + 1, by omega, by omega, by go_num, pw_below_drewN (Cf.up BW.out hb3) _, (show Aside _ from fun j hj => ?_)⟩
        by_cases e : j = kk
        ·subst e; exact hbc
        ·exact AA.out j (by omega)
     ·have hg0 : decide ((0 : Int) < (kk : Int)) = false := decide_eq_false (by omega)
      go_wp2_with (go_at_call 54; refine (hc _).mono ?_; rintro e w3 ⟨rfl, hb3⟩; rw [← hwb] at hb3; replace hb3 := Cf.up HWB.out hb3)
      go_quiet (fail)
      go_wp2
      have hbc : Cf.bcode l1 kk = 0 := Cf.bcode_0 (by rw [B.out]; exact hq) (by rw [decide_eq_false hk0]; rfl)
      go_roundg (l1.length - (kk + 1))
      case measure => omega
      case rel =>
       refine ⟨kk + 1, by omega, by omega, by go_num, pw_below_drewN (Cf.up BW.out hb3) _, (show Aside _ from fun j hj => ?_)⟩
       by_cases e : j = kk
       ·subst e; exact hbc
       ·exact AA.out j (by omega)
   ·have hltz : ¬ (kk : Int) < (l1.length : Int) := by omega
    have : kk = l1.length := by omega
    subst this
    have HV := Aside0.mk (Cf.code_v HR.out AA.out)
    have BW0 : Aside0 (Below w1.heap.size w1 wr) := ⟨BW.out⟩
    have z2 := blk_cell (blk_below D1.out BW.out) 2
    clear AA BW hg_ hkk hlt HR
    go_wp2
    go_loopg [5, 6, 7, 53] l2.length (fun gg _ _ _ s53 wr => ∃ kk : Nat, kk ≤ l2.length ∧ l2.length - kk ≤ gg ∧ s53 = .int .i64 kk ∧ Aside (Below w1.heap.size w1 wr) ∧ Aside (∀ j, j < kk → Cf.vcode l1 l2 j = 0))
    case atStart => exact ⟨0, Nat.zero_le _, by omega, rfl, BW0.out, fun j hj => absurd hj (Nat.not_lt_zero _)⟩
    case round =>
     clear z2 BW0
     obtain ⟨kk, hkk, hg_, rfl, BW, AA⟩ := hrel
     by_cases hlt : kk < l2.length
     ·have hltz : (kk : Int) < (l2.length : Int) := by omega
      obtain ⟨ad, A3, c3, eA, hx_0, hx_1, hx_2, hx_3, hl3, hC3⟩ := at_T64 (Kd.C_below D3.out BW.out) (kk : Int) (by omega) hltz
      cases eA
      have hy : l2.getD kk z64 = rd_T64 l2 (kk : Int) := rfl
      generalize rd_T64 l2 (kk : Int) = x at hx_0 hx_1 hx_2 hx_3 hl3 hC3 hy
      have B : Aside (l2.getD kk z64 = x) := hy
      clear hy
      simp only [Int.toNat_natCast] at hx_0 hx_1 hx_2 hx_3
      have hn3 : x.f3.length ≤ 9223372036854775807 := by have := hC3.2.1; have hs : (Kd.int .i64).sz = 1 := rfl; (try simp only [maxLen] at this); (try rw [hs] at this); omega
      obtain ⟨wv, hwv⟩ : ∃ W, W = wr.alloc (.cells #[.int .i64 x.f0, .int .i64 x.f1, .int .i64 x.f2, .slice A3 x.f3.length c3] 64) := ⟨_, rfl⟩
      have HWV : Below wr.heap.size wr wv := by rw [hwv]; exact (Below.refl _ wr).alloc (Nat.le_refl _) _
      have BV := Aside0.mk (Cf.up BW.out HWV)
      have HBK := Aside0.mk (show wv.heap[wr.heap.size]? = some (.cells #[.int .i64 x.f0, .int .i64 x.f1, .int .i64 x.f2, .slice A3 x.f3.length c3] 64 (0, 0)) by rw [hwv]; exact blk_new wr _)
      have HC3 := Aside0.mk (Kd.C_below hC3 HWV)
      clear HWV hC3
      have h0 := Cf.iaddr x.f0
      have h1 := Cf.iport x.f1
      have h2 := Cf.iproto x.f2
      cases e0 : Cf.inB x.f0 0 4294967295 with
      | false =>
       simp only [e0] at h0
       go_wp2_with (go_at_call 55; refine (h0 _).mono ?_; rintro e w2 ⟨rfl, hb2⟩; rw [← hwv] at hb2; have q1 := blk_cell (blk_below HBK.out hb2) 1)
       go_ret
       exact ⟨by rw [Cf.vhit HV.out kk hlt (by rw [Cf.vc_3 B.out (by unfold Cf.vok; rw [e0]; rfl)]; simp) AA.out, Cf.vc_3 B.out (by unfold Cf.vok; rw [e0]; rfl)]; rfl, Cf.up DB.out (Cf.up BV.out hb2)⟩
      | true =>
       simp only [e0] at h0
       cases e1 : Cf.inB x.f1 0 65535 with
       | false =>
        simp only [e1] at h1
        go_wp2_with (first | (go_at_call 55; refine (h0 _).mono ?_; rintro e w2 ⟨rfl, hb2⟩; rw [← hwv] at hb2; have q1 := blk_cell (blk_below HBK.out hb2) 1) | (go_at_call 56; refine (h1 _).mono ?_; rintro e w3 ⟨rfl, hb3⟩; replace hb2 := Cf.up hb2 hb3; clear hb3))
        go_ret
        exact ⟨by rw [Cf.vhit HV.out kk hlt (by rw [Cf.vc_3 B.out (by unfold Cf.vok; rw [e0, e1]; rfl)]; simp) AA.out, Cf.vc_3 B.out (by unfold Cf.vok; rw [e0, e1]; rfl)]; rfl, Cf.up DB.out (Cf.up BV.out hb2)⟩
       | true =>
        simp only [e1] at h1
        cases e2 : Cf.prB x.f2 with
        | false =>
         simp only [e2] at h2
         go_wp2_with (first | (go_at_call 55; refine (h0 _).mono ?_; rintro e w2 ⟨rfl, hb2⟩; rw [← hwv] at hb2; have q1 := blk_cell (blk_below HBK.out hb2) 1) | (go_at_call 56; refine (h1 _).mono ?_; rintro e w3 ⟨rfl, hb3⟩; replace hb2 := Cf.up hb2 hb3; clear hb3; clear q1; have q2 := blk_cell (blk_below HBK.out hb2) 2) | (go_at_call 57; refine (h2 _).mono ?_; rintro e w4 ⟨rfl, hb4⟩; replace hb2 := Cf.up hb2 hb4; clear hb4 q2))
         go_ret
         exact ⟨by rw [Cf.vhit HV.out kk hlt (by rw [Cf.vc_3 B.out (by unfold Cf.vok; rw [e0, e1, e2]; rfl)]; simp) AA.out, Cf.vc_3 B.out (by unfold Cf.vok; rw [e0, e1, e2]; rfl)]; rfl, Cf.up DB.out (Cf.up BV.out hb2)⟩
        | true =>
         simp only [e2] at h2
         have hok : Cf.vok x = true := by unfold Cf.vok; rw [e0, e1, e2]; rfl
         go_wp2_with (first | (go_at_call 55; refine (h0 _).mono ?_; rintro e w2 ⟨rfl, hb2⟩; rw [← hwv] at hb2; have q1 := blk_cell (blk_below HBK.out hb2) 1) | (go_at_call 56; refine (h1 _).mono ?_; rintro e w3 ⟨rfl, hb3⟩; replace hb2 := Cf.up hb2 hb3; clear hb3; clear q1; have q2 := blk_cell (blk_below HBK.out hb2) 2) | (go_at_call 57; refine (h2 _).mono ?_; rintro e w4 ⟨rfl, hb4⟩; replace hb2 := Cf.up hb2 hb4; clear hb4 q2))
         clear h0 h1 h2
         by_cases hk0 : 0 < kk
         ·have hg0 : decide ((0 : Int) < (kk : Int)) = true := decide_eq_true (by omega)
          obtain ⟨j, hj⟩ : ∃ j, j = kk - 1 := ⟨_, rfl⟩
          have hwj : IntKind.i64.wrap ((kk : Int) - 1) = (j : Int) := by rw [IntKind.wrap_i64]; omega
          have hjl : (j : Int) < (l2.length : Int) := by omega
          have hjl0 : (0 : Int) ≤ (j : Int) := by omega
          obtain ⟨ad2, A5, c5, eB, px_0, px_1, px_2, px_3, pl3, pC3⟩ := at_T64 (Kd.C_below D3.out (Cf.up BV.out hb2)) (j : Int) (by omega) hjl
          cases eB
          have C0 : l2.getD (kk - 1) z64 = rd_T64 l2 (j : Int) := (by rw [← hj]; rfl)
          generalize rd_T64 l2 (j : Int) = y at px_0 px_1 px_2 px_3 pl3 pC3 C0
          have C : Aside (l2.getD (kk - 1) z64 = y) := C0
          clear C0 hj
          simp only [Int.toNat_natCast] at px_0 px_1 px_2 px_3
          have hz2' := blk_cell (blk_below D1.out (Cf.up BV.out hb2)) 2
          have bv := blk_below HBK.out hb2
          have v0 := blk_cell bv 0
          have v1 := blk_cell bv 1
          have v2 := blk_cell bv 2
          have v3 := blk_cell bv 3
          clear bv
          have hcmp := fun (W : World) (hW : Below w4.heap.size w4 W) => impl_compareVip.calls 4 y.f0 y.f1 y.f2 A5 c5 y.f3 x.f0 x.f1 x.f2 A3 c3 x.f3 _ W (Kd.C_below pC3 hW) pl3 (Kd.C_below (Kd.C_below HC3.out hb2) hW) hl3 (Cf.compare_is y x)
          have hcb := Cf.cmp_beh y x
          cases hbh : Cf.beh y x with
          | false =>
           rw [hbh] at hcb
           have hcb' : decide (0 ≤ Cf.cmpV y x) = true := hcb
           clear hcb
           go_still_tail 10, (by kernel_rfl)
           change wpList _ _ _ _ _ w4.drew
           have hd : Below w4.heap.size w4 w4.drew := below_drew1 (Below.refl _ _)
           generalize w4.drew = wd at hd
           go_wp2_with (go_at_call 58; refine (hcmp _ hd).mono ?_; rintro e w5 ⟨rfl, hb5⟩; replace hb2 := Cf.up (Cf.up hb2 hd) hb5)
           go_ret
           have H1 : (decide (0 < kk) && !Cf.beh (l2.getD (kk - 1) z64) x) = true := by rw [decide_eq_true hk0, C.out, hbh]; rfl
           exact ⟨by rw [Cf.vhit HV.out kk hlt (by rw [Cf.vc_1 B.out hok H1]; simp) AA.out, Cf.vc_1 B.out hok H1]; rfl, Cf.up DB.out (Cf.up BV.out hb2)⟩
          | true =>
           rw [hbh] at hcb
           have hcb' : decide (0 ≤ Cf.cmpV y x) = false := hcb
           clear hcb
           have H1 := Aside0.mk (show (decide (0 < kk) && !Cf.beh (l2.getD (kk - 1) z64) x) = false by rw [decide_eq_true hk0, C.out, hbh]; rfl)
           go_still_tail 10, (by kernel_rfl)
           change wpList _ _ _ _ _ w4.drew
           have hd : Below w4.heap.size w4 w4.drew := below_drew1 (Below.refl _ _)
           generalize w4.drew = wd at hd
           go_wp2_with (go_at_call 58; refine (hcmp _ hd).mono ?_; rintro e w5 ⟨rfl, hb5⟩; replace hb2 := Cf.up (Cf.up hb2 hd) hb5; clear hb5 hd hcmp px_0 px_1 px_2 px_3 pl3 pC3 hz2' v0 v1 v2 v3; have q3 := blk_cell (blk_below HBK.out hb2) 3)
           clear q3
           have z3 := blk_cell (blk_below HBK.out hb2) 3
           have hcall := Cf.hasgone w.heap.size A1 c1 l1 (some ad) l2.length c2 v A3 c3 x.f3 w5 (blk_below D1.out (Cf.up BV.out hb2)) (Kd.C_below D2.out (Cf.up BV.out hb2)) hc1 (Kd.C_below HC3.out hb2) hl3
           cases hh : x.f3.any (Cf.gone l1) with
           | true =>
            rw [hh] at hcall
            go_wp2_with (go_at_call 59; refine hcall.mono ?_; rintro e w6 ⟨rfl, hb6⟩; replace hb2 := Cf.up hb2 hb6)
            go_ret
            exact ⟨by rw [Cf.vhit HV.out kk hlt (by rw [Cf.vc_4 B.out hok H1.out hh]; simp) AA.out, Cf.vc_4 B.out hok H1.out hh]; rfl, Cf.up DB.out (Cf.up BV.out hb2)⟩
           | false =>
            rw [hh] at hcall
            go_wp2_with (go_at_call 59; refine hcall.mono ?_; rintro e w6 ⟨rfl, hb6⟩; replace hb2 := Cf.up hb2 hb6; clear hb6)
            have HVC := Aside0.mk (Cf.vc_r B.out hok H1.out hh)
            go_loopg [7] x.f3.length (fun gg s7 wr2 => ∃ k2 : Nat, k2 ≤ x.f3.length + 1 ∧ 1 ≤ k2 ∧ x.f3.length - k2 ≤ gg ∧ s7 = .int .i64 k2 ∧ Aside (Below wv.heap.size wv wr2) ∧ Aside (∀ j, j < k2 → j < x.f3.length → Cf.falls x.f3 j = false))
            case atStart => exact ⟨1, by omega, by omega, by omega, rfl, hb2, fun j hj _ => (show Cf.falls x.f3 j = false from by (obtain rfl : j = 0 := by omega); simp [Cf.falls])⟩
            case round =>
             clear z3 hb2 hcall
             obtain ⟨k2, hk2, hk1, hg2, rfl, B2, A2_⟩ := hrel
             have z3 := blk_cell (blk_below HBK.out B2.out) 3
             by_cases hlt2 : k2 < x.f3.length
             ·have hltz2 : (k2 : Int) < (x.f3.length : Int) := by omega
              obtain ⟨an, eN, hn⟩ := Kd.at_int (Kd.C_below HC3.out B2.out) (k2 : Int) (by omega) hltz2
              cases eN
              obtain ⟨j, hj⟩ : ∃ j, j = k2 - 1 := ⟨_, rfl⟩
              have hwj : IntKind.i64.wrap ((k2 : Int) - 1) = (j : Int) := by rw [IntKind.wrap_i64]; omega
              have hjl : (j : Int) < (x.f3.length : Int) := by omega
              obtain ⟨an2, eN2, hn2⟩ := Kd.at_int (Kd.C_below HC3.out B2.out) (j : Int) (by omega) hjl
              cases eN2
              have HQ : Aside (Cf.falls x.f3 k2 = decide (rd x.f3 (k2 : Int) ≤ rd x.f3 (j : Int))) := (by
               show Cf.falls x.f3 k2 = _
               unfold Cf.falls
               rw [decide_eq_true hk1, ← hj]; rfl)
              clear hj
              simp only [Int.toNat_natCast] at hn hn2
              cases hq : decide (rd x.f3 (k2 : Int) ≤ rd x.f3 (j : Int)) with
              | true =>
               go_wp2
               go_quiet (fail)
               go_wp2
               go_ret
               have hvc : Cf.vcode l1 l2 kk = 1 := by rw [HVC.out, if_pos (Cf.range_hit (Cf.falls x.f3) x.f3.length k2 hlt2 (HQ.out.trans hq))]
               exact ⟨by rw [Cf.vhit HV.out kk hlt (by rw [hvc]; simp) AA.out, hvc]; rfl, Cf.up DB.out (Cf.up BV.out (pw_below_drewN B2.out _))⟩
              | false =>
               go_wp2
               go_quiet (fail)
               go_wp2
               go_roundg (x.f3.length - (k2 + 1))
               case measure => omega
               case rel =>
                refine ⟨k2 + 1, by omega, by omega, by omega, by go_num, pw_below_drewN B2.out _, (show Aside _ from fun j hj hl => ?_)⟩
                by_cases e : j = k2
                ·subst e
                 exact HQ.out.trans hq
                ·exact A2_.out j (by omega) hl
             ·have hltz2 : ¬ (k2 : Int) < (x.f3.length : Int) := by omega
              have hvc : Cf.vcode l1 l2 kk = 0 := by rw [HVC.out, if_neg (by rw [Cf.range_miss (Cf.falls x.f3) x.f3.length (fun j hj => A2_.out j (by omega) hj)]; simp)]
              have HVC0 := Aside0.mk hvc
              clear hvc
              go_wp2
              go_roundg (l2.length - (kk + 1))
              case measure => omega
              case rel =>
               refine ⟨kk + 1, by omega, by omega, by go_num, Cf.up BV.out B2.out, (show Aside _ from fun j hj => ?_)⟩
               by_cases e : j = kk
               ·subst e; exact HVC0.out
               ·exact AA.out j (by omega)
         ·have hg0 : decide ((0 : Int) < (kk : Int)) = false := decide_eq_false (by omega)
          have H1 := Aside0.mk (show (decide (0 < kk) && !Cf.beh (l2.getD (kk - 1) z64) x) = false by rw [decide_eq_false hk0]; rfl)
          go_quiet (fail)
          replace hb2 := pw_below_drewN hb2 nq
          have z3 := blk_cell (blk_below HBK.out hb2) 3
          have hcall := Cf.hasgone w.heap.size A1 c1 l1 (some ad) l2.length c2 v A3 c3 x.f3 _ (blk_below D1.out (Cf.up BV.out hb2)) (Kd.C_below D2.out (Cf.up BV.out hb2)) hc1 (Kd.C_below HC3.out hb2) hl3
          cases hh : x.f3.any (Cf.gone l1) with
          | true =>
           rw [hh] at hcall
           go_wp2_with (go_at_call 59; refine hcall.mono ?_; rintro e w6 ⟨rfl, hb6⟩; replace hb2 := Cf.up hb2 hb6)
           go_ret
           exact ⟨by rw [Cf.vhit HV.out kk hlt (by rw [Cf.vc_4 B.out hok H1.out hh]; simp) AA.out, Cf.vc_4 B.out hok H1.out hh]; rfl, Cf.up DB.out (Cf.up BV.out hb2)⟩
          | false =>
           rw [hh] at hcall
           go_wp2_with (go_at_call 59; refine hcall.mono ?_; rintro e w6 ⟨rfl, hb6⟩; replace hb2 := Cf.up hb2 hb6; clear hb6)
           have HVC := Aside0.mk (Cf.vc_r B.out hok H1.out hh)
           go_loopg [7] x.f3.length (fun gg s7 wr2 => ∃ k2 : Nat, k2 ≤ x.f3.length + 1 ∧ 1 ≤ k2 ∧ x.f3.length - k2 ≤ gg ∧ s7 = .int .i64 k2 ∧ Aside (Below wv.heap.size wv wr2) ∧ Aside (∀ j, j < k2 → j < x.f3.length → Cf.falls x.f3 j = false))
           case atStart => exact ⟨1, by omega, by omega, by omega, rfl, hb2, fun j hj _ => (show Cf.falls x.f3 j = false from by (obtain rfl : j = 0 := by omega); simp [Cf.falls])⟩
           case round =>
            clear z3 hb2 hcall
            obtain ⟨k2, hk2, hk1, hg2, rfl, B2, A2_⟩ := hrel
            have z3 := blk_cell (blk_below HBK.out B2.out) 3
            by_cases hlt2 : k2 < x.f3.length
            ·have hltz2 : (k2 : Int) < (x.f3.length : Int) := by omega
             obtain ⟨an, eN, hn⟩ := Kd.at_int (Kd.C_below HC3.out B2.out) (k2 : Int) (by omega) hltz2
             cases eN
             obtain ⟨j, hj⟩ : ∃ j, j = k2 - 1 := ⟨_, rfl⟩
             have hwj : IntKind.i64.wrap ((k2 : Int) - 1) = (j : Int) := by rw [IntKind.wrap_i64]; omega
             have hjl : (j : Int) < (x.f3.length : Int) := by omega
             obtain ⟨an2, eN2, hn2⟩ := Kd.at_int (Kd.C_below HC3.out B2.out) (j : Int) (by omega) hjl
             cases eN2
             have HQ : Aside (Cf.falls x.f3 k2 = decide (rd x.f3 (k2 : Int) ≤ rd x.f3 (j : Int))) := (by
              show Cf.falls x.f3 k2 = _
              unfold Cf.falls
              rw [decide_eq_true hk1, ← hj]; rfl)
             clear hj
             simp only [Int.toNat_natCast] at hn hn2
             cases hq : decide (rd x.f3 (k2 : Int) ≤ rd x.f3 (j : Int)) with
             | true =>
              go_wp2
              go_quiet (fail)
              go_wp2
              go_ret
              have hvc : Cf.vcode l1 l2 kk = 1 := by rw [HVC.out, if_pos (Cf.range_hit (Cf.falls x.f3) x.f3.length k2 hlt2 (HQ.out.trans hq))]
              exact ⟨by rw [Cf.vhit HV.out kk hlt (by rw [hvc]; simp) AA.out, hvc]; rfl, Cf.up DB.out (Cf.up BV.out (pw_below_drewN B2.out _))⟩
             | false =>
              go_wp2
              go_quiet (fail)
              go_wp2
              go_roundg (x.f3.length - (k2 + 1))
              case measure => omega
              case rel =>
               refine ⟨k2 + 1, by omega, by omega, by omega, by go_num, pw_below_drewN B2.out _, (show Aside _ from fun j hj hl => ?_)⟩
               by_cases e : j = k2
               ·subst e
                exact HQ.out.trans hq
               ·exact A2_.out j (by omega) hl
            ·have hltz2 : ¬ (k2 : Int) < (x.f3.length : Int) := by omega
             have hvc : Cf.vcode l1 l2 kk = 0 := by rw [HVC.out, if_neg (by rw [Cf.range_miss (Cf.falls x.f3) x.f3.length (fun j hj => A2_.out j (by omega) hj)]; simp)]
             have HVC0 := Aside0.mk hvc
             clear hvc
             go_wp2
             go_roundg (l2.length - (kk + 1))
             case measure => omega
             case rel =>
              refine ⟨kk + 1, by omega, by omega, by go_num, Cf.up BV.out B2.out, (show Aside _ from fun j hj => ?_)⟩
              by_cases e : j = kk
              ·subst e; exact HVC0.out
              ·exact AA.out j (by omega)
     ·have hltz : ¬ (kk : Int) < (l2.length : Int) := by omega
      go_wp2
      go_ret
      exact ⟨by rw [Cf.vmiss HV.out (fun j hj => AA.out j (by omega))]; rfl, Cf.up DB.out BW.out⟩
namespace Dl
/-- A row of whole numbers of the call's own with other numbers laid into it. -/
theorem put_own {w : World} {base g cap n m k : Nat} {cur : Array Value} {os : Array Obj} {ys : List Int} (hb : base ≤ g) (hg : w.heap[g]? = some (.cells cur 2 (0, 0))) (hs : cur.size = cap * 1) (hc : cap ≤ maxLen) (hy : ys.length ≤ cap) (hm : m ≤ ys.length) :
  (Go.Sort.grow (Go.Sort.putRow (Value.int .i64) (Go.Sort.ahead w k) g 0 ys.toArray) os).ownsRow base 2 1 (.slice (some ⟨g, 0, none⟩) m cap) m (encs (Value.int .i64) (ys.take m)) ∧ w.grownBy (Go.Sort.grow (Go.Sort.putRow (Value.int .i64) (Go.Sort.ahead w k) g 0 ys.toArray) os) (some g) := by
 have hlt : g < w.heap.size := blk_lt hg
 have hsz : (Go.Sort.putRow (Value.int .i64) (Go.Sort.ahead w k) g 0 ys.toArray).heap.size = w.heap.size := by simp [Go.Sort.putRow, Go.Sort.mapBlock, Go.Sort.ahead]
 refine ⟨⟨by simp [encs]; omega, .inr ⟨g, cap, Go.Sort.putCells (Value.int .i64) 0 ys.toArray cur, rfl, hb, ?_, by omega, hc, ?_, ?_⟩⟩, ⟨rfl, rfl, rfl, ?_, ?_⟩⟩
 ·rw [Go.Sort.heap_grow_old _ _ (by rw [hsz]; exact hlt)]
  simp only [Go.Sort.putRow, Go.Sort.mapBlock, Go.Sort.ahead, Array.getElem?_modify, if_true, hg, Option.map_some, Go.Sort.onCells]
 ·simp only [Go.Sort.putCells, Array.size_mapIdx]; exact hs
 ·apply List.ext_getElem?
  intro j
  rw [List.getElem?_take]
  by_cases hj : j < m * 1
  ·rw [if_pos hj]
   have hjc : j < cur.size := by omega
   have hjy : j < ys.length := by omega
   simp only [Go.Sort.putCells, Array.getElem?_toList, Array.getElem?_mapIdx, Array.getElem?_eq_getElem hjc, Option.map_some, encs, List.getElem?_map, List.getElem?_take]
   rw [if_pos ⟨Nat.zero_le _, by simp; omega⟩, if_pos (by omega), List.getElem?_eq_getElem hjy]
   simp [hjy]
  ·rw [if_neg hj]
   simp only [encs, List.getElem?_map, List.getElem?_take]
   rw [if_neg (by omega)]
   rfl
 ·rw [Go.Sort.size_grow, hsz]; omega
 ·intro i hi hne
  rw [Go.Sort.heap_grow_old _ _ (by rw [hsz]; exact hi)]
  simp only [Go.Sort.putRow, Go.Sort.mapBlock, Go.Sort.ahead, Array.getElem?_modify]
  rw [if_neg (fun e => hne (by rw [e]))]
theorem holds_own {w : World} {base g cap : Nat} {cur : Array Value} {xs : List Int} (hg : w.heap[g]? = some (.cells cur 2 (0, 0))) (ht : cur.toList.take (xs.length * 1) = encs (Value.int .i64) xs) : Go.Sort.Holds (Value.int .i64) w g 0 xs.toArray := by
 intro j hj
 have hj' : j < xs.length := by simpa using hj
 have h1 : cur[j]? = some (.int .i64 xs[j]) := by
  have h2 := congrArg (fun l : List Value => l[j]?) ht
  simp only [List.getElem?_take, encs, List.getElem?_map] at h2
  rw [if_pos (by omega), List.getElem?_eq_getElem hj'] at h2
  simpa using h2
 rw [Nat.zero_add]
 refine ⟨?_, ?_⟩
 ·have h3 := blk_cell hg j
  simp only [h1] at h3
  simpa [hj'] using h3
 ·exact blk_frozen hg j
def srt (l : List Int) : List Int := l.mergeSort fun x y => decide (x ≤ y)
theorem srt_len (l : List Int) : (srt l).length = l.length := List.length_mergeSort ..
theorem sort_calls {w : World} {base : Nat} {v : Value} {xs : List Int} (h : Kd.R (Kd.int .i64) 2 w base (fun _ => True) v xs) (hn : xs.length ≤ 1000000) :
  Calls Try.prog 92 #[v] w fun e w' => e = .returned (.tuple #[]) ∧ Kd.R (Kd.int .i64) 2 w' base (fun _ => True) v (srt xs) ∧ w.grownBy w' v.ownBlock := by
 have ho := Kd.own_of_R h
 obtain ⟨hl, ⟨rfl, h0⟩ | ⟨g, cap, cur, rfl, hb, hg, hnc, hcm, hcs, ht⟩⟩ := ho
 ·have hx : xs = [] := List.eq_nil_of_length_eq_zero h0
  subst hx
  refine (Try.slices_Sort_int_none none 0 w).mono ?_
  rintro e w' ⟨rfl, rfl⟩
  refine ⟨rfl, ?_, ⟨rfl, rfl, rfl, Nat.le_refl _, fun _ _ _ => rfl⟩⟩
  rw [show srt [] = [] from by simp [srt]]
  exact h
 ·refine (Try.slices_Sort_int g 0 cap xs w (holds_own (base := base) (cap := cap) hg ht) (blk_lt hg) (by omega)).mono ?_
  rintro e w' ⟨rfl, k, os, rfl⟩
  have hsl : (srt xs).length = xs.length := srt_len xs
  obtain ⟨h1, h2⟩ := put_own (base := base) (k := k) (os := os) (ys := srt xs) (m := xs.length) (n := 0) hb hg hcs hcm (by omega) (by omega)
  rw [List.take_of_length_le (by omega)] at h1
  refine ⟨rfl, Kd.R_of_own (by rw [hsl]; exact h1) (fun _ _ => trivial), ?_⟩
  exact h2
theorem compact_len (l : List Int) : (Lib.compact l).length ≤ l.length := by
 unfold Lib.compact Lib.compactUpTo
 rw [List.length_map]
 have := List.length_filter_le (Lib.keeps l.toArray) (List.range l.length)
 rwa [List.length_range] at this
theorem compact_calls {w : World} {base : Nat} {v : Value} {xs : List Int} (h : Kd.R (Kd.int .i64) 2 w base (fun _ => True) v xs) (hn : xs.length ≤ 1000000) :
  Calls Try.prog 93 #[v] w fun e w' => ∃ u, e = .returned u ∧ Kd.R (Kd.int .i64) 2 w' base (fun _ => True) u (Lib.compact xs) ∧ w.grownBy w' v.ownBlock := by
 have ho := Kd.own_of_R h
 obtain ⟨hl, ⟨rfl, h0⟩ | ⟨g, cap, cur, rfl, hb, hg, hnc, hcm, hcs, ht⟩⟩ := ho
 ·have hx : xs = [] := List.eq_nil_of_length_eq_zero h0
  subst hx
  refine (Try.slices_Compact_int_empty none 0 w).mono ?_
  rintro e w' ⟨rfl, rfl⟩
  refine ⟨_, rfl, ?_, ⟨rfl, rfl, rfl, Nat.le_refl _, fun _ _ _ => rfl⟩⟩
  exact h
 ·refine (Try.slices_Compact_int g 0 cap xs w (holds_own (base := base) (cap := cap) hg ht) (by omega) hnc).mono ?_
  rintro e w' ⟨rfl, q, rfl⟩
  have hcl := compact_len xs
  obtain ⟨h1, h2⟩ := put_own (base := base) (k := q) (os := #[]) (ys := Lib.compact xs ++ List.replicate (xs.length - (Lib.compact xs).length) 0) (m := (Lib.compact xs).length) (n := 0) hb hg hcs hcm (by simp; omega) (by simp)
  rw [List.take_left, Go.Sort.grow_empty] at h1
  rw [Go.Sort.grow_empty] at h2
  exact ⟨_, rfl, Kd.R_of_own h1 (fun _ _ => trivial), h2⟩
end Dl
namespace Dl
def has (l : List S36) (x : S36) : Bool := l.any (same x)
theorem index_l0 (l : List S36) (x : S36) : ∀ (d k i : Nat), i + d = l.length → d < k → l.length ≤ 1000000 → ∃ r, impl_Backend_126.l0 k l (l.length : Int) (i : Int) x.f0 x.f1 x.f2 x.f3 x.f4 = some r ∧ decide (r ≥ 0) = (l.drop i).any (same x)
 | 0, k, i, hi, hk, hn => by
  obtain ⟨k, rfl⟩ : ∃ j, k = j + 1 := ⟨k - 1, by omega⟩
  simp only [impl_Backend_126.l0]
  rw [if_neg (by omega)]
  exact ⟨_, rfl, by rw [List.drop_of_length_le (by omega)]; rfl⟩
 | d + 1, k, i, hi, hk, hn => by
  obtain ⟨k, rfl⟩ : ∃ j, k = j + 1 := ⟨k - 1, by omega⟩
  have hlt : i < l.length := by omega
  have e : rd_T36 l (i : Int) = l[i] := by simp [rd_T36, List.getD, hlt]
  have hs : same x l[i] = (x.f0 == l[i].f0 && (x.f1 == l[i].f1 && (x.f2 == l[i].f2 && (x.f3 == l[i].f3 && (x.f4 == l[i].f4))))) := rfl
  simp only [impl_Backend_126.l0]
  rw [if_pos (by omega), if_pos (by omega), if_pos (by omega), e, ← hs, List.drop_eq_getElem_cons hlt, List.any_cons]
  cases hq : same x l[i] with
  | true =>
   rw [if_pos rfl]
   exact ⟨_, rfl, by simp⟩
  | false =>
   rw [if_neg (by simp)]
   obtain ⟨r, h1, h2⟩ := index_l0 l x d k (i + 1) (by omega) (by omega) hn
   refine ⟨r, ?_, by rw [h2]; simp⟩
   rw [← h1]
   congr 1
   rw [show wrap64 ((i : Int) + 1) = ((i + 1 : Nat) : Int) from by unfold wrap64; omega]
theorem has_is (l : List S36) (x : S36) (hn : l.length ≤ 1000000) : impl_Backend_91.f (l.length + 1) l x.f0 x.f1 x.f2 x.f3 x.f4 = some (has l x) := by
 obtain ⟨r, h1, h2⟩ := index_l0 l x l.length (l.length + 1) 0 (by omega) (by omega) hn
 unfold impl_Backend_91.f impl_Backend_126.f
 rw [show impl_Backend_126.l0 (l.length + 1) l (l.length : Int) 0 x.f0 x.f1 x.f2 x.f3 x.f4 = some r from h1]
 show some (decide (r ≥ 0)) = _
 rw [h2, List.drop_zero]
 rfl
/-- The names of what is not among others. -/
def left (l o : List S36) : List Int := (l.filter (fun x => !has o x)).map (fun x => x.f0)
theorem left_len (l o : List S36) : (left l o).length ≤ l.length := by
 unfold left
 rw [List.length_map]
 exact List.length_filter_le _ _
theorem left_step (l o : List S36) (k : Nat) (h : k < l.length) : left (l.take (k + 1)) o = left (l.take k) o ++ (if has o (rd_T36 l (k : Int)) = true then [] else [(rd_T36 l (k : Int)).f0]) := by
 have e : rd_T36 l (k : Int) = l[k] := by simp [rd_T36, List.getD, h]
 unfold left
 rw [List.take_succ_eq_append_getElem h, List.filter_append, List.map_append, e]
 cases hq : has o l[k] <;> simp [hq]
def dim (va : Int) (la : List S36) (la2 : List S64) (vb : Int) (lb : List S36) (lb2 : List S64) : List Int := if dcd va la la2 vb lb lb2 ≠ 0 then [] else Lib.compact (srt (left la lb ++ left lb la))
theorem put5 {w : World} {g : Nat} {t : TypeId} {u0 u1 u2 u3 u4 : Value} (h : w.heap[g]? = some (.cells #[u0, u1, u2, u3, u4] t (0, 0))) (v0 v1 v2 v3 v4 : Value) :
  (((((w.setCell ⟨g, 0, none⟩ v0).setCell ⟨g, 1, none⟩ v1).setCell ⟨g, 2, none⟩ v2).setCell ⟨g, 3, none⟩ v3).setCell ⟨g, 4, none⟩ v4).heap[g]? = some (.cells #[v0, v1, v2, v3, v4] t (0, 0)) := by
 refine blk_put (cs := #[v0, v1, v2, v3, u4]) ?_ 4 _ rfl
 refine blk_put (cs := #[v0, v1, v2, u3, u4]) ?_ 3 _ rfl
 refine blk_put (cs := #[v0, v1, u2, u3, u4]) ?_ 2 _ rfl
 refine blk_put (cs := #[v0, u1, u2, u3, u4]) ?_ 1 _ rfl
 exact blk_put (cs := #[u0, u1, u2, u3, u4]) h 0 _ rfl
end Dl
set_option maxHeartbeats 8000000 in
set_option maxRecDepth 100000 in
theorem impl_DeltaOf.cf (A1 : Option Addr) (c1 : Nat) (la : List S36) (A2 : Option Addr) (c2 : Nat) (la2 : List S64) (va : Int) (B1 : Option Addr) (d1 : Nat) (lb : List S36) (B2 : Option Addr) (d2 : Nat) (lb2 : List S64) (vb : Int) (w : World)
  (hr1 : Kd.C k36 w A1 la.length la) (hk1 : la.length ≤ c1) (hr2 : Kd.C k64 w A2 la2.length la2) (hs1 : Kd.C k36 w B1 lb.length lb) (hl1 : lb.length ≤ d1) (hs2 : Kd.C k64 w B2 lb2.length lb2) :
  Calls Try.prog 42 #[.agg #[.int .i64 va, .slice A1 la.length c1, .slice A2 la2.length c2], .agg #[.int .i64 vb, .slice B1 lb.length d1, .slice B2 lb2.length d2]] w fun e_ w' => ∃ u, e_ = .returned (.agg #[.int .i64 (Dl.dcd va la la2 vb lb lb2), u]) ∧ Kd.R (Kd.int .i64) 2 w' w.heap.size (fun _ => True) u (Dl.dim va la la2 vb lb lb2) ∧ Below w.heap.size w w' := by
 have hu31 := Try.underlying31
 have hu36 := Try.underlying36
 have hu76 := Try.underlying76
 obtain ⟨w1, hw1⟩ : ∃ W, W = ((w.alloc (.cells #[.int .i64 va, .slice A1 la.length c1, .slice A2 la2.length c2] 31)).alloc (.cells #[.int .i64 vb, .slice B1 lb.length d1, .slice B2 lb2.length d2] 31)).alloc (.cells #[.int .i64 0, .slice none 0 0] 76) := ⟨_, rfl⟩
 have hs1_ : w1.heap.size = w.heap.size + 3 := by rw [hw1]; simp
 have hB1 : Below w.heap.size w w1 := by rw [hw1]; exact ((((Below.refl _ w).alloc (Nat.le_refl _) _).alloc (by simp) _).alloc (by simp; omega) _)
 have bg1 : w1.heap[w.heap.size]? = some (.cells #[.int .i64 va, .slice A1 la.length c1, .slice A2 la2.length c2] 31 (0, 0)) := by rw [hw1]; exact blk_alloc (blk_alloc (blk_new w _) _) _
 have bh1 : w1.heap[w.heap.size + 1]? = some (.cells #[.int .i64 vb, .slice B1 lb.length d1, .slice B2 lb2.length d2] 31 (0, 0)) := by
  rw [hw1]
  have h_ := heap_alloc_new (w.alloc (.cells #[.int .i64 va, .slice A1 la.length c1, .slice A2 la2.length c2] 31)) (.cells #[.int .i64 vb, .slice B1 lb.length d1, .slice B2 lb2.length d2] 31)
  rw [World.size_alloc] at h_
  exact blk_alloc h_ _
 have bk1 : w1.heap[w.heap.size + 1 + 1]? = some (.cells #[.int .i64 0, .slice none 0 0] 76 (0, 0)) := by
  rw [hw1]
  have h_ := heap_alloc_new ((w.alloc (.cells #[.int .i64 va, .slice A1 la.length c1, .slice A2 la2.length c2] 31)).alloc (.cells #[.int .i64 vb, .slice B1 lb.length d1, .slice B2 lb2.length d2] 31)) (.cells #[.int .i64 0, .slice none 0 0] 76)
  rwa [World.size_alloc, World.size_alloc] at h_
 have hr11 := Kd.C_below hr1 hB1
 have hr21 := Kd.C_below hr2 hB1
 have hs11 := Kd.C_below hs1 hB1
 have hs21 := Kd.C_below hs2 hB1
 have hcallF := impl_ConfigFault.cf A1 c1 la A2 c2 la2 va w1 hr11 hk1 hr21
 rw [hw1] at hcallF
 have hcallG := fun (W : World) (hW : Below w1.heap.size w1 W) => impl_ConfigFault.cf B1 d1 lb B2 d2 lb2 vb W (Kd.C_below hs11 hW) hl1 (Kd.C_below hs21 hW)
 rw [hw1] at bg1
 have k0 := blk_cell bg1 0
 have k1 := blk_cell bg1 1
 have k2 := blk_cell bg1 2
 rw [← hw1] at bg1
 obtain ⟨rc, hrc⟩ : ∃ r, r = Dl.dcd va la la2 vb lb lb2 := ⟨_, rfl⟩
 obtain ⟨rv, hrv⟩ : ∃ r, r = Dl.dim va la la2 vb lb lb2 := ⟨_, rfl⟩
 unfold Dl.dim at hrv
 rw [← hrc] at hrv
 unfold Dl.dim
 rw [← hrc, ← hrv]
 unfold Dl.dcd at hrc
 have hcl1 := @Dl.code_len va la la2
 have hcl2 := @Dl.code_len vb lb lb2
 obtain ⟨q, hq⟩ : ∃ q, q = Cf.code va la la2 := ⟨_, rfl⟩
 rw [← hq] at hcallF hrc hcl1
 clear hq
 generalize Cf.code vb lb lb2 = q2 at hcallG hrc hcl2
 have Hlac := Aside0.mk hk1
 have Hlbc := Aside0.mk hl1
 clear hk1 hl1
 go_enter Try.func42, Try.ntmps42
 by_cases hq0 : q = 0
 ·have hq1 : (q != 0) = false := bne_eq_false_iff_eq.mpr hq0
  have hq2 : (q == 0) = true := beq_iff_eq.mpr hq0
  rw [if_neg (by simp [hq0])] at hrc
  have hlal := hcl1 hq0
  clear hcl1
  by_cases hp0 : q2 = 0
  ·have hp1 : (q2 != 0) = false := bne_eq_false_iff_eq.mpr hp0
   have hlbl := hcl2 hp0
   rw [if_neg (by rw [hrc]; simp [hp0])] at hrv
   have HRC := Aside0.mk (hrc.trans hp0)
   have HRV := Aside0.mk hrv
   clear hcl2 hrc hrv
   go_wp2_with (first
    | (go_at_call 15; refine hcallF.mono ?_; rintro e_ w2 ⟨rfl, hb2⟩; rw [← hw1] at hb2; clear hcallF; clear k0 k1 k2; have bh2 := blk_below bh1 hb2; have k0 := blk_cell bh2 0; have k1 := blk_cell bh2 1; have k2 := blk_cell bh2 2; clear bh2)
    | (go_at_call 15; refine (hcallG _ hb2).mono ?_; rintro e_ wS ⟨rfl, hb3⟩; replace hb2 := Cf.up hb2 hb3; clear hb3 hcallG; clear k0 k1 k2)
    | ((with_reducible refine gate_dst (N := 21) rfl ?_); refine Kd.R_lit (Kd.int .i64) _ 2 ?hg (N := 21) ?hd (xs := ([] : List Int)) (inner := []) (ok := fun _ => True) (okp := fun _ => True) ?hr ?hp (fun _ hk => hk) trivial (Below.refl _ _) (Nat.le_refl _) (by simp) ?_; (case hd => rfl); (case hg => rfl); (case hr => first | (go_simp; done) | (go_simp; rfl)); (case hp => exact (Reps.none _ _)); intro v21 wl hoL hbL hgL_ hnL_; clear hgL_ hnL_; have z1 := blk_cell (blk_below (blk_below bg1 hb2) hbL) 1))
   have hS := hb2.size
   have HSW : Aside0 (w.heap.size ≤ wS.heap.size) := ⟨by omega⟩
   have BGA := Aside0.mk (blk_below bg1 hb2)
   have BGB := Aside0.mk (blk_below bh1 hb2)
   have BKR := Aside0.mk (blk_below bk1 hb2)
   have Hla := Aside0.mk (Kd.C_below hr11 hb2)
   have Hlb := Aside0.mk (Kd.C_below hs11 hb2)
   have HBS := Aside0.mk (Cf.up hB1 hb2)
   have HSZ1 := Aside0.mk hs1_
   have HOs := Aside0.mk hoL
   have HB := Aside0.mk hbL
   clear hr1 hr2 hs1 hs2 bg1 bh1 bk1 hr11 hr21 hs11 hs21 hb2 hw1 hB1 hs1_ hS hoL hbL z1
   have HO : Aside0 (Kd.R (Kd.int .i64) 2 _ wS.heap.size (fun _ => True) _ ([] ++ Dl.left (la.take 0) lb)) := ⟨by have h_ := HOs.out; simpa [Dl.left] using h_⟩
   clear HOs
   go_loopg [6, 25] la.length (fun gg s6 s_ wr => ∃ kk : Nat, kk ≤ la.length ∧ la.length - kk ≤ gg ∧ s_ = .int .i64 kk ∧ Aside0 (Kd.R (Kd.int .i64) 2 wr wS.heap.size (fun _ => True) s6 ([] ++ Dl.left (la.take kk) lb)) ∧ Aside0 (Below wS.heap.size wS wr))
   case atStart => exact ⟨0, Nat.zero_le _, by omega, rfl, HO, HB⟩
   case round =>
    clear HO HB
    obtain ⟨kk, hkk, hg, rfl, HO, HB⟩ := hrel
    have hll := Dl.left_len (la.take kk) lb
    rw [List.length_take] at hll
    have HLL : Aside0 (([] ++ Dl.left (la.take kk) lb).length ≤ 100) := ⟨by simp only [List.nil_append]; omega⟩
    clear hll
    obtain ⟨lst, hlst⟩ : ∃ l_, l_ = [] ++ Dl.left (la.take kk) lb := ⟨_, rfl⟩
    rw [← hlst] at HO HLL
    have HLST := Aside0.mk hlst
    clear hlst
    by_cases hlt : kk < la.length
    ·have hltz : (kk : Int) < (la.length : Int) := by omega
     obtain ⟨ad, e1, hx_0, hx_1, hx_2, hx_3, hx_4⟩ := at_T36 (Kd.C_below Hla.out HB.out) (kk : Int) (by omega) hltz
     cases e1
     simp only [Int.toNat_natCast] at hx_0 hx_1 hx_2 hx_3 hx_4
     have HST : Aside0 ([] ++ Dl.left (la.take (kk + 1)) lb = lst ++ (if Dl.has lb (rd_T36 la (kk : Int)) = true then [] else [(rd_T36 la (kk : Int)).f0])) := ⟨by rw [Dl.left_step la lb kk hlt, HLST.out]; simp only [List.append_assoc]⟩
     obtain ⟨x, hx⟩ : ∃ x_, x_ = rd_T36 la (kk : Int) := ⟨_, rfl⟩
     rw [← hx] at hx_0 hx_1 hx_2 hx_3 hx_4 HST
     clear hx
     have hz : wr.cell? ⟨w.heap.size + 1, 1, none⟩ = some (.slice B1 lb.length d1) := blk_cell (blk_below BGB.out HB.out) 1
     have hhas := fun (W : World) (hW : Below wr.heap.size wr W) => impl_Backend_91.calls (lb.length + 1) B1 d1 lb x.f0 x.f1 x.f2 x.f3 x.f4 (Dl.has lb x) W (Kd.C_below (Kd.C_below Hlb.out HB.out) hW) Hlbc.out (Dl.has_is lb x (by omega))
     cases hh : Dl.has lb x with
     | true =>
      rw [hh] at HST
      simp only [hh] at hhas
      clear hh
      go_wp2_with (first
       | ((with_reducible refine gate_dst (N := 8) rfl ?_); refine box_event ?hg (N := 8) ?hd (cs := #[.int .i64 0, .int .i64 0, .int .i64 0, .int .i64 0, .bool false]) (t := 36) ?hr ?_; (case hd => rfl); (case hg => rfl); (case hr => first | (go_simp; done) | (go_simp; rfl)); intro gx hgx wx hboxx hbx; have HGX : Aside0 (wr.heap.size ≤ gx) := ⟨by rw [hgx]; exact Nat.le_refl _⟩; clear hgx; have c0_ := blk_cell hboxx 0; have c1_ := blk_cell hboxx 1; have c2_ := blk_cell hboxx 2; have c3_ := blk_cell hboxx 3; have c4_ := blk_cell hboxx 4; have f0_ := blk_frozen hboxx 0; have f1_ := blk_frozen hboxx 1; have f2_ := blk_frozen hboxx 2; have f3_ := blk_frozen hboxx 3; have f4_ := blk_frozen hboxx 4; have k0_ := pw_cell_below hbx hx_0; have k1_ := pw_cell_below hbx hx_1; have k2_ := pw_cell_below hbx hx_2; have k3_ := pw_cell_below hbx hx_3; have k4_ := pw_cell_below hbx hx_4; have kz_ := pw_cell_below hbx hz; have HNX : Aside0 (gx ≠ w.heap.size + 1) := ⟨by have h1 := HGX.out; have h2 := blk_lt (blk_below BGB.out HB.out); omega⟩; have hnx := HNX.out; have hbW : Below wr.heap.size wr (((((wx.setCell ⟨gx, 0, none⟩ (.int .i64 x.f0)).setCell ⟨gx, 1, none⟩ (.int .i64 x.f1)).setCell ⟨gx, 2, none⟩ (.int .i64 x.f2)).setCell ⟨gx, 3, none⟩ (.int .i64 x.f3)).setCell ⟨gx, 4, none⟩ (.bool x.f4)) := (by (repeat (refine below_set ?_ HGX.out)); exact hbx); have bX := Dl.put5 hboxx (.int .i64 x.f0) (.int .i64 x.f1) (.int .i64 x.f2) (.int .i64 x.f3) (.bool x.f4))
       | (go_at_call 91; refine (hhas _ hbW).mono ?_; rintro e_ w6 ⟨rfl, hb6⟩; have HB6 := Aside0.mk (Cf.up hbW hb6); have bX6 := blk_below bX hb6; have y0_ := blk_cell bX6 0; clear hhas c0_ c1_ c2_ c3_ c4_ f0_ f1_ f2_ f3_ f4_ k0_ k1_ k2_ k3_ k4_ kz_ hbW bX hb6 hx_0 hx_1 hx_2 hx_3 hx_4 hz hbx hboxx))
      go_roundg (la.length - (kk + 1))
      case measure => omega
      case rel => exact ⟨kk + 1, by omega, by omega, by go_num, ⟨by rw [HST.out]; simpa using Kd.R_below HO.out HB6.out⟩, ⟨Cf.up HB.out HB6.out⟩⟩
     | false =>
      rw [hh] at HST
      simp only [hh] at hhas
      clear hh
      obtain ⟨Ao, co, eo⟩ := Kd.R_slice HO.out
      subst eo
      go_wp2_with (first
       | ((with_reducible refine gate_dst (N := 8) rfl ?_); refine box_event ?hg (N := 8) ?hd (cs := #[.int .i64 0, .int .i64 0, .int .i64 0, .int .i64 0, .bool false]) (t := 36) ?hr ?_; (case hd => rfl); (case hg => rfl); (case hr => first | (go_simp; done) | (go_simp; rfl)); intro gx hgx wx hboxx hbx; have HGX : Aside0 (wr.heap.size ≤ gx) := ⟨by rw [hgx]; exact Nat.le_refl _⟩; clear hgx; have c0_ := blk_cell hboxx 0; have c1_ := blk_cell hboxx 1; have c2_ := blk_cell hboxx 2; have c3_ := blk_cell hboxx 3; have c4_ := blk_cell hboxx 4; have f0_ := blk_frozen hboxx 0; have f1_ := blk_frozen hboxx 1; have f2_ := blk_frozen hboxx 2; have f3_ := blk_frozen hboxx 3; have f4_ := blk_frozen hboxx 4; have k0_ := pw_cell_below hbx hx_0; have k1_ := pw_cell_below hbx hx_1; have k2_ := pw_cell_below hbx hx_2; have k3_ := pw_cell_below hbx hx_3; have k4_ := pw_cell_below hbx hx_4; have kz_ := pw_cell_below hbx hz; have HNX : Aside0 (gx ≠ w.heap.size + 1) := ⟨by have h1 := HGX.out; have h2 := blk_lt (blk_below BGB.out HB.out); omega⟩; have hnx := HNX.out; have hbW : Below wr.heap.size wr (((((wx.setCell ⟨gx, 0, none⟩ (.int .i64 x.f0)).setCell ⟨gx, 1, none⟩ (.int .i64 x.f1)).setCell ⟨gx, 2, none⟩ (.int .i64 x.f2)).setCell ⟨gx, 3, none⟩ (.int .i64 x.f3)).setCell ⟨gx, 4, none⟩ (.bool x.f4)) := (by (repeat (refine below_set ?_ HGX.out)); exact hbx); have bX := Dl.put5 hboxx (.int .i64 x.f0) (.int .i64 x.f1) (.int .i64 x.f2) (.int .i64 x.f3) (.bool x.f4))
       | (go_at_call 91; refine (hhas _ hbW).mono ?_; rintro e_ w6 ⟨rfl, hb6⟩; have HB6 := Aside0.mk (Cf.up hbW hb6); have bX6 := blk_below bX hb6; have y0_ := blk_cell bX6 0; clear hhas c0_ c1_ c2_ c3_ c4_ f0_ f1_ f2_ f3_ f4_ k0_ k1_ k2_ k3_ k4_ kz_ hbW bX hb6 hx_0 hx_1 hx_2 hx_3 hx_4 hz hbx hboxx)
       | ((with_reducible refine gate_builtin (b := .append) (xs := #[.tmp 34, .tmp 37]) rfl ?_); at_builtin; refine Kd.R_append (Kd.int .i64) wS.heap.size rfl (.tmp 34) (.tmp 37) 62 2 (.int .i64 0) 8 rfl Try.underlying62 info2 rfl (by decide) (by omega) (.slice Ao lst.length co) lst x.f0 [.int .i64 x.f0] (fun _ => True) (fun _ => False) rfl (by first | (go_simp; done) | (go_simp; rfl)) ?aP (fun _ hk => hk.elim) ?aF ?aO (Below.refl _ _) ?aS ?aL ?_; (case aP => exact rfl); (case aF => exact (fun _ _ => trivial)); (case aO => exact (by (with_reducible repeat (first | apply Kd.R_alloc | apply Kd.R_drewN | apply Kd.R_drew)); exact Kd.R_below HO.out HB6.out)); (case aS => first | exact (Cf.up HB.out HB6.out).size | exact ((Cf.up HB.out HB6.out).alloc (Cf.up HB.out HB6.out).size _).size); (case aL => have := HLL.out; omega); intro vA wA hoA hbA hgA hatA))
      go_roundg (la.length - (kk + 1))
      case measure => omega
      case rel =>
       refine ⟨kk + 1, by omega, by omega, by go_num, ⟨?_⟩, ⟨?_⟩⟩
       ·rw [HST.out]
        simpa using hoA
       ·first | exact (Cf.up HB.out HB6.out).trans hbA | exact ((Cf.up HB.out HB6.out).alloc (Cf.up HB.out HB6.out).size _).trans hbA
    ·have hltz : ¬ (kk : Int) < (la.length : Int) := by omega
     have : kk = la.length := by omega
     subst this
     have HOs : Aside0 (Kd.R (Kd.int .i64) 2 wr wS.heap.size (fun _ => True) _ ([] ++ Dl.left la lb)) := ⟨by have h_ := HO.out; rw [HLST.out, List.take_length] at h_; exact h_⟩
     clear HO HLL HLST
     have z1 := blk_cell (blk_below BGB.out HB.out) 1
     go_wp2
     clear z1
     have HO : Aside0 (Kd.R (Kd.int .i64) 2 _ wS.heap.size (fun _ => True) _ (([] ++ Dl.left la lb) ++ Dl.left (lb.take 0) la)) := ⟨by have h_ := HOs.out; simpa [Dl.left] using h_⟩
     clear HOs
     go_loopg [6, 43] lb.length (fun gg s6 s_ wr => ∃ kk : Nat, kk ≤ lb.length ∧ lb.length - kk ≤ gg ∧ s_ = .int .i64 kk ∧ Aside0 (Kd.R (Kd.int .i64) 2 wr wS.heap.size (fun _ => True) s6 (([] ++ Dl.left la lb) ++ Dl.left (lb.take kk) la)) ∧ Aside0 (Below wS.heap.size wS wr))
     case atStart => exact ⟨0, Nat.zero_le _, by omega, rfl, HO, HB⟩
     case round =>
      clear HO HB
      obtain ⟨kk, hkk, hg, rfl, HO, HB⟩ := hrel
      have hll := Dl.left_len (lb.take kk) la
      rw [List.length_take] at hll
      have HLL : Aside0 ((([] ++ Dl.left la lb) ++ Dl.left (lb.take kk) la).length ≤ 100) := ⟨by have := Dl.left_len la lb; simp only [List.nil_append, List.length_append]; omega⟩
      clear hll
      obtain ⟨lst, hlst⟩ : ∃ l_, l_ = ([] ++ Dl.left la lb) ++ Dl.left (lb.take kk) la := ⟨_, rfl⟩
      rw [← hlst] at HO HLL
      have HLST := Aside0.mk hlst
      clear hlst
      by_cases hlt : kk < lb.length
      ·have hltz : (kk : Int) < (lb.length : Int) := by omega
       obtain ⟨ad, e1, hx_0, hx_1, hx_2, hx_3, hx_4⟩ := at_T36 (Kd.C_below Hlb.out HB.out) (kk : Int) (by omega) hltz
       cases e1
       simp only [Int.toNat_natCast] at hx_0 hx_1 hx_2 hx_3 hx_4
       have HST : Aside0 (([] ++ Dl.left la lb) ++ Dl.left (lb.take (kk + 1)) la = lst ++ (if Dl.has la (rd_T36 lb (kk : Int)) = true then [] else [(rd_T36 lb (kk : Int)).f0])) := ⟨by rw [Dl.left_step lb la kk hlt, HLST.out]; simp only [List.append_assoc]⟩
       obtain ⟨x, hx⟩ : ∃ x_, x_ = rd_T36 lb (kk : Int) := ⟨_, rfl⟩
       rw [← hx] at hx_0 hx_1 hx_2 hx_3 hx_4 HST
       clear hx
       have hz : wr.cell? ⟨w.heap.size, 1, none⟩ = some (.slice A1 la.length c1) := blk_cell (blk_below BGA.out HB.out) 1
       have hhas := fun (W : World) (hW : Below wr.heap.size wr W) => impl_Backend_91.calls (la.length + 1) A1 c1 la x.f0 x.f1 x.f2 x.f3 x.f4 (Dl.has la x) W (Kd.C_below (Kd.C_below Hla.out HB.out) hW) Hlac.out (Dl.has_is la x (by omega))
       cases hh : Dl.has la x with
       | true =>
        rw [hh] at HST
        simp only [hh] at hhas
        clear hh
        go_wp2_with (first
         | ((with_reducible refine gate_dst (N := 10) rfl ?_); refine box_event ?hg (N := 10) ?hd (cs := #[.int .i64 0, .int .i64 0, .int .i64 0, .int .i64 0, .bool false]) (t := 36) ?hr ?_; (case hd => rfl); (case hg => rfl); (case hr => first | (go_simp; done) | (go_simp; rfl)); intro gx hgx wx hboxx hbx; have HGX : Aside0 (wr.heap.size ≤ gx) := ⟨by rw [hgx]; exact Nat.le_refl _⟩; clear hgx; have c0_ := blk_cell hboxx 0; have c1_ := blk_cell hboxx 1; have c2_ := blk_cell hboxx 2; have c3_ := blk_cell hboxx 3; have c4_ := blk_cell hboxx 4; have f0_ := blk_frozen hboxx 0; have f1_ := blk_frozen hboxx 1; have f2_ := blk_frozen hboxx 2; have f3_ := blk_frozen hboxx 3; have f4_ := blk_frozen hboxx 4; have k0_ := pw_cell_below hbx hx_0; have k1_ := pw_cell_below hbx hx_1; have k2_ := pw_cell_below hbx hx_2; have k3_ := pw_cell_below hbx hx_3; have k4_ := pw_cell_below hbx hx_4; have kz_ := pw_cell_below hbx hz; have HNX : Aside0 (gx ≠ w.heap.size) := ⟨by have h1 := HGX.out; have h2 := blk_lt (blk_below BGA.out HB.out); omega⟩; have hnx := HNX.out; have hbW : Below wr.heap.size wr (((((wx.setCell ⟨gx, 0, none⟩ (.int .i64 x.f0)).setCell ⟨gx, 1, none⟩ (.int .i64 x.f1)).setCell ⟨gx, 2, none⟩ (.int .i64 x.f2)).setCell ⟨gx, 3, none⟩ (.int .i64 x.f3)).setCell ⟨gx, 4, none⟩ (.bool x.f4)) := (by (repeat (refine below_set ?_ HGX.out)); exact hbx); have bX := Dl.put5 hboxx (.int .i64 x.f0) (.int .i64 x.f1) (.int .i64 x.f2) (.int .i64 x.f3) (.bool x.f4))
         | (go_at_call 91; refine (hhas _ hbW).mono ?_; rintro e_ w6 ⟨rfl, hb6⟩; have HB6 := Aside0.mk (Cf.up hbW hb6); have bX6 := blk_below bX hb6; have y0_ := blk_cell bX6 0; clear hhas c0_ c1_ c2_ c3_ c4_ f0_ f1_ f2_ f3_ f4_ k0_ k1_ k2_ k3_ k4_ kz_ hbW bX hb6 hx_0 hx_1 hx_2 hx_3 hx_4 hz hbx hboxx))
        go_roundg (lb.length - (kk + 1))
        case measure => omega
        case rel => exact ⟨kk + 1, by omega, by omega, by go_num, ⟨by rw [HST.out]; simpa using Kd.R_below HO.out HB6.out⟩, ⟨Cf.up HB.out HB6.out⟩⟩
       | false =>
        rw [hh] at HST
        simp only [hh] at hhas
        clear hh
        obtain ⟨Ao, co, eo⟩ := Kd.R_slice HO.out
        subst eo
        go_wp2_with (first
         | ((with_reducible refine gate_dst (N := 10) rfl ?_); refine box_event ?hg (N := 10) ?hd (cs := #[.int .i64 0, .int .i64 0, .int .i64 0, .int .i64 0, .bool false]) (t := 36) ?hr ?_; (case hd => rfl); (case hg => rfl); (case hr => first | (go_simp; done) | (go_simp; rfl)); intro gx hgx wx hboxx hbx; have HGX : Aside0 (wr.heap.size ≤ gx) := ⟨by rw [hgx]; exact Nat.le_refl _⟩; clear hgx; have c0_ := blk_cell hboxx 0; have c1_ := blk_cell hboxx 1; have c2_ := blk_cell hboxx 2; have c3_ := blk_cell hboxx 3; have c4_ := blk_cell hboxx 4; have f0_ := blk_frozen hboxx 0; have f1_ := blk_frozen hboxx 1; have f2_ := blk_frozen hboxx 2; have f3_ := blk_frozen hboxx 3; have f4_ := blk_frozen hboxx 4; have k0_ := pw_cell_below hbx hx_0; have k1_ := pw_cell_below hbx hx_1; have k2_ := pw_cell_below hbx hx_2; have k3_ := pw_cell_below hbx hx_3; have k4_ := pw_cell_below hbx hx_4; have kz_ := pw_cell_below hbx hz; have HNX : Aside0 (gx ≠ w.heap.size) := ⟨by have h1 := HGX.out; have h2 := blk_lt (blk_below BGA.out HB.out); omega⟩; have hnx := HNX.out; have hbW : Below wr.heap.size wr (((((wx.setCell ⟨gx, 0, none⟩ (.int .i64 x.f0)).setCell ⟨gx, 1, none⟩ (.int .i64 x.f1)).setCell ⟨gx, 2, none⟩ (.int .i64 x.f2)).setCell ⟨gx, 3, none⟩ (.int .i64 x.f3)).setCell ⟨gx, 4, none⟩ (.bool x.f4)) := (by (repeat (refine below_set ?_ HGX.out)); exact hbx); have bX := Dl.put5 hboxx (.int .i64 x.f0) (.int .i64 x.f1) (.int .i64 x.f2) (.int .i64 x.f3) (.bool x.f4))
         | (go_at_call 91; refine (hhas _ hbW).mono ?_; rintro e_ w6 ⟨rfl, hb6⟩; have HB6 := Aside0.mk (Cf.up hbW hb6); have bX6 := blk_below bX hb6; have y0_ := blk_cell bX6 0; clear hhas c0_ c1_ c2_ c3_ c4_ f0_ f1_ f2_ f3_ f4_ k0_ k1_ k2_ k3_ k4_ kz_ hbW bX hb6 hx_0 hx_1 hx_2 hx_3 hx_4 hz hbx hboxx)
         | ((with_reducible refine gate_builtin (b := .append) (xs := #[.tmp 52, .tmp 55]) rfl ?_); at_builtin; refine Kd.R_append (Kd.int .i64) wS.heap.size rfl (.tmp 52) (.tmp 55) 62 2 (.int .i64 0) 8 rfl Try.underlying62 info2 rfl (by decide) (by omega) (.slice Ao lst.length co) lst x.f0 [.int .i64 x.f0] (fun _ => True) (fun _ => False) rfl (by first | (go_simp; done) | (go_simp; rfl)) ?aP (fun _ hk => hk.elim) ?aF ?aO (Below.refl _ _) ?aS ?aL ?_; (case aP => exact rfl); (case aF => exact (fun _ _ => trivial)); (case aO => exact (by (with_reducible repeat (first | apply Kd.R_alloc | apply Kd.R_drewN | apply Kd.R_drew)); exact Kd.R_below HO.out HB6.out)); (case aS => first | exact (Cf.up HB.out HB6.out).size | exact ((Cf.up HB.out HB6.out).alloc (Cf.up HB.out HB6.out).size _).size); (case aL => have := HLL.out; omega); intro vA wA hoA hbA hgA hatA))
        go_roundg (lb.length - (kk + 1))
        case measure => omega
        case rel =>
         refine ⟨kk + 1, by omega, by omega, by go_num, ⟨?_⟩, ⟨?_⟩⟩
         ·rw [HST.out]
          simpa using hoA
         ·first | exact (Cf.up HB.out HB6.out).trans hbA | exact ((Cf.up HB.out HB6.out).alloc (Cf.up HB.out HB6.out).size _).trans hbA
      ·have hltz : ¬ (kk : Int) < (lb.length : Int) := by omega
       have : kk = lb.length := by omega
       subst this
       have HOs : Aside0 (Kd.R (Kd.int .i64) 2 wr wS.heap.size (fun _ => True) _ (([] ++ Dl.left la lb) ++ Dl.left lb la)) := ⟨by have h_ := HO.out; rw [HLST.out, List.take_length] at h_; exact h_⟩
       clear HO HLL HLST
       obtain ⟨lst2, hlst2⟩ : ∃ l_, l_ = [] ++ Dl.left la lb ++ Dl.left lb la := ⟨_, rfl⟩
       rw [← hlst2] at HOs
       have hl2 : lst2.length ≤ 100 := by
        have h1 := Dl.left_len la lb
        have h2 := Dl.left_len lb la
        rw [hlst2]
        simp only [List.nil_append, List.length_append]
        omega
       have HL2 := Aside0.mk hlst2
       clear hlst2
       have hcallS := Dl.sort_calls HOs.out (by omega)
       have hsl := Dl.srt_len lst2
       have HSL := Aside0.mk hsl
       clear hsl
       go_wp2_with (first
        | (go_at_call 92; refine hcallS.mono ?_; rintro e_ w7 ⟨rfl, hR7, hg7⟩; clear hcallS; have HR7 := Aside0.mk hR7; have HB7 : Aside0 (Below wS.heap.size wS w7) := ⟨HB.out.grown hg7 HB.out.size (Kd.R_base HOs.out)⟩; have hcallC := Dl.compact_calls hR7 (by have := HSL.out; omega); clear hR7 hg7)
        | (go_at_call 93; refine hcallC.mono ?_; rintro e_ w8 ⟨u, rfl, hR8, hg8⟩; clear hcallC; have HB8 : Aside0 (Below wS.heap.size wS w8) := ⟨HB7.out.grown hg8 HB7.out.size (Kd.R_base HR7.out)⟩; obtain ⟨Au, cu, eu⟩ := Kd.R_slice hR8; subst eu; have HR8 := Aside0.mk hR8; clear hR8 hg8; have bk := blk_below BKR.out HB8.out; have y0 := blk_cell bk 0; have f0 := blk_frozen bk 0; have y1 := blk_cell bk 1; have f1 := blk_frozen bk 1))
       refine bodyPost_ret (results_cell_row rfl _ _ (w.heap.size + 1 + 1) 76 #[.int .i64 0, .slice Au (Lib.compact (Dl.srt lst2)).length cu] (0, 0) _ rfl (by exact Dl.put2 bk _ _) Try.underlying76 rfl (by kernel_rfl)) rfl ?_
       refine ⟨.slice Au (Lib.compact (Dl.srt lst2)).length cu, by rw [HRC.out], ?_, ?_⟩
       ·rw [HRV.out, show Dl.left la lb ++ Dl.left lb la = lst2 from by rw [HL2.out]; rfl]
        exact Dl.R_put2 (Kd.R_lower HR8.out HSW.out) bk _ _
       ·have := HSZ1.out
        repeat (refine below_set ?_ (by show _ ≤ w.heap.size + 1 + 1; omega))
        exact Cf.up HBS.out HB8.out
  ·have hp1 : (q2 != 0) = true := bne_iff_ne.mpr hp0
   have hp2 : (q2 == 0) = false := beq_eq_false_iff_ne.mpr hp0
   rw [if_pos (by rw [hrc]; exact hp0)] at hrv
   clear hcl2
   have HRC := Aside0.mk hrc
   have HRV := Aside0.mk hrv
   clear hrc hrv
   go_wp2_with (first
    | (go_at_call 15; refine hcallF.mono ?_; rintro e_ w2 ⟨rfl, hb2⟩; rw [← hw1] at hb2; clear hcallF; clear k0 k1 k2; have bh2 := blk_below bh1 hb2; have k0 := blk_cell bh2 0; have k1 := blk_cell bh2 1; have k2 := blk_cell bh2 2; clear bh2)
    | (go_at_call 15; refine (hcallG _ hb2).mono ?_; rintro e_ wS ⟨rfl, hb3⟩; replace hb2 := Cf.up hb2 hb3; clear hb3 hcallG; clear k0 k1 k2; have bk4 := blk_below bk1 hb2; have y0 := blk_cell bk4 0; have f0 := blk_frozen bk4 0; have y1 := blk_cell bk4 1; have f1 := blk_frozen bk4 1))
   refine bodyPost_ret (results_cell_row rfl _ _ (w.heap.size + 1 + 1) 76 #[.int .i64 q2, .slice none 0 0] (0, 0) _ rfl (by exact Dl.put2 bk4 _ _) Try.underlying76 rfl (by kernel_rfl)) rfl ?_
   refine ⟨.slice none 0 0, by rw [HRC.out], ?_, ?_⟩
   ·rw [HRV.out]; exact Dl.R_put2 (Kd.R_nil _ _ _ _ _) bk4 _ _
   ·have := hb2.size
    repeat (refine below_set ?_ (by show _ ≤ w.heap.size + 1 + 1; omega))
    exact Cf.up hB1 hb2
 ·have hq1 : (q != 0) = true := bne_iff_ne.mpr hq0
  have hq2 : (q == 0) = false := beq_eq_false_iff_ne.mpr hq0
  rw [if_pos hq0] at hrc
  rw [if_pos (by rw [hrc]; exact hq0)] at hrv
  clear hcl1 hcl2
  have HRC := Aside0.mk hrc
  have HRV := Aside0.mk hrv
  clear hrc hrv
  go_wp2_with (first
   | (go_at_call 15; refine hcallF.mono ?_; rintro e_ w2 ⟨rfl, hb2⟩; rw [← hw1] at hb2; clear hcallF; clear k0 k1 k2; have bk4 := blk_below bk1 hb2; have y0 := blk_cell bk4 0; have f0 := blk_frozen bk4 0; have y1 := blk_cell bk4 1; have f1 := blk_frozen bk4 1))
  refine bodyPost_ret (results_cell_row rfl _ _ (w.heap.size + 1 + 1) 76 #[.int .i64 q, .slice none 0 0] (0, 0) _ rfl (by exact Dl.put2 bk4 _ _) Try.underlying76 rfl (by kernel_rfl)) rfl ?_
  refine ⟨.slice none 0 0, by rw [HRC.out], ?_, ?_⟩
  ·rw [HRV.out]; exact Dl.R_put2 (Kd.R_nil _ _ _ _ _) bk4 _ _
  ·have := hb2.size
   repeat (refine below_set ?_ (by show _ ≤ w.heap.size + 1 + 1; omega))
   exact Cf.up hB1 hb2
def impl_DeltaOf.f (a0_0 : Int) (l0_1 : List (S36)) (l0_2 : List (S64)) (a1_0 : Int) (l1_1 : List (S36)) (l1_2 : List (S64)) : Option (Int × List Int) := some (Dl.dcd a0_0 l0_1 l0_2 a1_0 l1_1 l1_2, Dl.dim a0_0 l0_1 l0_2 a1_0 l1_1 l1_2)
theorem impl_DeltaOf.calls (a0_0 : Int) (A0_1 : Option Addr) (c0_1 : Nat) (l0_1 : List (S36)) (A0_2 : Option Addr) (c0_2 : Nat) (l0_2 : List (S64)) (a1_0 : Int) (A1_1 : Option Addr) (c1_1 : Nat) (l1_1 : List (S36)) (A1_2 : Option Addr) (c1_2 : Nat) (l1_2 : List (S64)) (r1 : Int) (r2 : List Int) (w : World) (hr0_1 : Kd.C k36 w A0_1 l0_1.length l0_1) (hc0_1 : l0_1.length ≤ c0_1) (hr0_2 : Kd.C k64 w A0_2 l0_2.length l0_2) (hc0_2 : l0_2.length ≤ c0_2) (hr1_1 : Kd.C k36 w A1_1 l1_1.length l1_1) (hc1_1 : l1_1.length ≤ c1_1) (hr1_2 : Kd.C k64 w A1_2 l1_2.length l1_2) (hc1_2 : l1_2.length ≤ c1_2) (h : impl_DeltaOf.f a0_0 l0_1 l0_2 a1_0 l1_1 l1_2 = some (r1, r2)) :
  Calls Try.prog 42 #[.agg #[.int .i64 a0_0, .slice A0_1 l0_1.length c0_1, .slice A0_2 l0_2.length c0_2], .agg #[.int .i64 a1_0, .slice A1_1 l1_1.length c1_1, .slice A1_2 l1_2.length c1_2]] w fun e w' => ∃ v1_ : Value, e = .returned (.agg #[.int .i64 r1, v1_]) ∧ Kd.R (Kd.int .i64) 2 w' w.heap.size (fun _ => True) v1_ r2 ∧ Below w.heap.size w w' := by
 unfold impl_DeltaOf.f at h
 cases h
 exact impl_DeltaOf.cf A0_1 c0_1 l0_1 A0_2 c0_2 l0_2 a0_0 A1_1 c1_1 l1_1 A1_2 c1_2 l1_2 a1_0 w hr0_1 hc0_1 hr0_2 hr1_1 hc1_1 hr1_2

set_option maxHeartbeats 8000000 in
set_option maxRecDepth 100000 in
theorem impl_BackendAt.cf (A1 : Option Addr) (c1 : Nat) (l1 : List S36) (A2 : Option Addr) (c2 : Nat) (l2 : List S64) (v name : Int) (w : World) (hr1 : Kd.C k36 w A1 l1.length l1) (hc1 : l1.length ≤ c1) (hr2 : Kd.C k64 w A2 l2.length l2) :
  Calls Try.prog 18 #[.agg #[.int .i64 v, .slice A1 l1.length c1, .slice A2 l2.length c2], .int .i64 name] w fun e w' => e = .returned (.agg #[.int .i64 (Cf.bcd v l1 l2 name), .int .i64 (Cf.bval v l1 l2 name).f0, .int .i64 (Cf.bval v l1 l2 name).f1, .int .i64 (Cf.bval v l1 l2 name).f2, .int .i64 (Cf.bval v l1 l2 name).f3, .bool (Cf.bval v l1 l2 name).f4]) ∧ Below w.heap.size w w' := by
 have hu31 := Try.underlying31
 have hu36 := Try.underlying36
 have hu38 := Try.underlying38
 obtain ⟨w1, hw1⟩ : ∃ W, W = (w.alloc (.cells #[.int .i64 v, .slice A1 l1.length c1, .slice A2 l2.length c2] 31)).alloc (.cells #[.int .i64 0, .int .i64 0, .int .i64 0, .int .i64 0, .int .i64 0, .bool false] 38) := ⟨_, rfl⟩
 have hs1 : w1.heap.size = w.heap.size + 2 := by rw [hw1]; simp
 have hB1 : Below w.heap.size w w1 := by rw [hw1]; exact (((Below.refl _ w).alloc (Nat.le_refl _) _).alloc (by simp) _)
 have bg1 : w1.heap[w.heap.size]? = some (.cells #[.int .i64 v, .slice A1 l1.length c1, .slice A2 l2.length c2] 31 (0, 0)) := by rw [hw1]; exact blk_alloc (blk_new w _) _
 have bk1 : w1.heap[w.heap.size + 1]? = some (.cells #[.int .i64 0, .int .i64 0, .int .i64 0, .int .i64 0, .int .i64 0, .bool false] 38 (0, 0)) := by
  rw [hw1]
  have h_ := heap_alloc_new (w.alloc (.cells #[.int .i64 v, .slice A1 l1.length c1, .slice A2 l2.length c2] 31)) (.cells #[.int .i64 0, .int .i64 0, .int .i64 0, .int .i64 0, .int .i64 0, .bool false] 38)
  rwa [World.size_alloc] at h_
 have hr11 := Kd.C_below hr1 hB1
 have hr21 := Kd.C_below hr2 hB1
 have hcallF := impl_ConfigFault.cf A1 c1 l1 A2 c2 l2 v w1 hr11 hc1 hr21
 rw [hw1] at hcallF
 rw [hw1] at bg1
 have k0 := blk_cell bg1 0
 have k1 := blk_cell bg1 1
 have k2 := blk_cell bg1 2
 rw [← hw1] at bg1
 obtain ⟨q, hq⟩ : ∃ q, q = Cf.code v l1 l2 := ⟨_, rfl⟩
 rw [← hq] at hcallF
 obtain ⟨rc, hrc⟩ : ∃ r, r = Cf.bcd v l1 l2 name := ⟨_, rfl⟩
 obtain ⟨rv, hrv⟩ : ∃ r, r = Cf.bval v l1 l2 name := ⟨_, rfl⟩
 rw [← hrc, ← hrv]
 unfold Cf.bcd at hrc
 unfold Cf.bval at hrv
 rw [← hq] at hrc hrv
 clear hq
 have hcallB := fun (W : World) (hW : Below w1.heap.size w1 W) => impl_backend.cf w.heap.size A1 c1 l1 A2 l2.length c2 v name W (blk_below bg1 hW) (Kd.C_below hr11 hW) hc1
 obtain ⟨p, hp⟩ : ∃ p, p = Cf.place l1 name := ⟨_, rfl⟩
 have hpl := Cf.place_lt l1 name
 rw [← hp] at hrc hrv hpl
 simp only [← hp] at hcallB
 clear hp
 go_enter Try.func18, Try.ntmps18
 by_cases hq0 : q = 0
 ·have hq1 : (q != 0) = false := bne_eq_false_iff_eq.mpr hq0
  rw [if_neg (by simp [hq0])] at hrc hrv
  by_cases hp0 : p < 0
  ·have hp1 : decide (p < 0) = true := decide_eq_true hp0
   rw [if_pos hp0] at hrc hrv
   go_wp2_with (first
    | (go_at_call 15; refine hcallF.mono ?_; rintro e w2 ⟨rfl, hb2⟩; rw [← hw1] at hb2; clear hcallF)
    | (go_at_call 61; refine (hcallB _ hb2).mono ?_; rintro e w3 ⟨rfl, hb3⟩; replace hb2 := Cf.up hb2 hb3; clear hb3 hcallB; have bk4 := blk_below bk1 hb2; have y0 := blk_cell bk4 0; have f0 := blk_frozen bk4 0; have y1 := blk_cell bk4 1; have f1 := blk_frozen bk4 1; have y2 := blk_cell bk4 2; have f2 := blk_frozen bk4 2; have y3 := blk_cell bk4 3; have f3 := blk_frozen bk4 3; have y4 := blk_cell bk4 4; have f4 := blk_frozen bk4 4; have y5 := blk_cell bk4 5; have f5 := blk_frozen bk4 5))
   refine bodyPost_ret (results_cell_row rfl _ _ (w.heap.size + 1) 38 #[.int .i64 4, .int .i64 0, .int .i64 0, .int .i64 0, .int .i64 0, .bool false] (0, 0) _ rfl (by exact Cf.put6 bk4 _ _ _ _ _ _) Try.underlying38 rfl (by kernel_rfl)) rfl ?_
   refine ⟨by rw [hrc, hrv]; rfl, ?_⟩
   have := hb2.size
   repeat (refine below_set ?_ (by show _ ≤ w.heap.size + 1; omega))
   exact Cf.up hB1 hb2
  ·have hp1 : decide (p < 0) = false := decide_eq_false hp0
   rw [if_neg hp0] at hrc hrv
   have hlt := hpl hp0
   have hge : (0 : Int) ≤ p := by omega
   go_wp2_with (first
    | (go_at_call 15; refine hcallF.mono ?_; rintro e w2 ⟨rfl, hb2⟩; rw [← hw1] at hb2; clear hcallF)
    | (go_at_call 61; refine (hcallB _ hb2).mono ?_; rintro e w3 ⟨rfl, hb3⟩; replace hb2 := Cf.up hb2 hb3; clear hb3 hcallB; have bk4 := blk_below bk1 hb2; have y0 := blk_cell bk4 0; have f0 := blk_frozen bk4 0; have y1 := blk_cell bk4 1; have f1 := blk_frozen bk4 1; have y2 := blk_cell bk4 2; have f2 := blk_frozen bk4 2; have y3 := blk_cell bk4 3; have f3 := blk_frozen bk4 3; have y4 := blk_cell bk4 4; have f4 := blk_frozen bk4 4; have y5 := blk_cell bk4 5; have f5 := blk_frozen bk4 5; have z1 := blk_cell (blk_below bg1 hb2) 1; obtain ⟨ad, eA, hx_0, hx_1, hx_2, hx_3, hx_4⟩ := at_T36 (Kd.C_below hr11 hb2) p hge hlt; cases eA))
   refine bodyPost_ret (results_cell_row rfl _ _ (w.heap.size + 1) 38 #[.int .i64 0, .int .i64 (rd_T36 l1 p).f0, .int .i64 (rd_T36 l1 p).f1, .int .i64 (rd_T36 l1 p).f2, .int .i64 (rd_T36 l1 p).f3, .bool (rd_T36 l1 p).f4] (0, 0) _ rfl (by exact Cf.put6 bk4 _ _ _ _ _ _) Try.underlying38 rfl (by kernel_rfl)) rfl ?_
   refine ⟨by rw [hrc, hrv], ?_⟩
   have := hb2.size
   repeat (refine below_set ?_ (by show _ ≤ w.heap.size + 1; omega))
   exact Cf.up hB1 hb2
 ·have hq1 : (q != 0) = true := bne_iff_ne.mpr hq0
  rw [if_pos hq0] at hrc hrv
  go_wp2_with (go_at_call 15; refine hcallF.mono ?_; rintro e w2 ⟨rfl, hb2⟩; rw [← hw1] at hb2; clear hcallF; have bk4 := blk_below bk1 hb2; have y0 := blk_cell bk4 0; have f0 := blk_frozen bk4 0; have y1 := blk_cell bk4 1; have f1 := blk_frozen bk4 1; have y2 := blk_cell bk4 2; have f2 := blk_frozen bk4 2; have y3 := blk_cell bk4 3; have f3 := blk_frozen bk4 3; have y4 := blk_cell bk4 4; have f4 := blk_frozen bk4 4; have y5 := blk_cell bk4 5; have f5 := blk_frozen bk4 5)
  refine bodyPost_ret (results_cell_row rfl _ _ (w.heap.size + 1) 38 #[.int .i64 q, .int .i64 0, .int .i64 0, .int .i64 0, .int .i64 0, .bool false] (0, 0) _ rfl (by exact Cf.put6 bk4 _ _ _ _ _ _) Try.underlying38 rfl (by kernel_rfl)) rfl ?_
  refine ⟨by rw [hrc, hrv]; rfl, ?_⟩
  have := hb2.size
  repeat (refine below_set ?_ (by show _ ≤ w.heap.size + 1; omega))
  exact Cf.up hB1 hb2
def impl_BackendAt.f (a0_0 : Int) (l0_1 : List (S36)) (l0_2 : List (S64)) (a1 : Int) : Option (Int × Int × Int × Int × Int × Bool) := some (Cf.bcd a0_0 l0_1 l0_2 a1, (Cf.bval a0_0 l0_1 l0_2 a1).f0, (Cf.bval a0_0 l0_1 l0_2 a1).f1, (Cf.bval a0_0 l0_1 l0_2 a1).f2, (Cf.bval a0_0 l0_1 l0_2 a1).f3, (Cf.bval a0_0 l0_1 l0_2 a1).f4)
theorem impl_BackendAt.calls (a0_0 : Int) (A0_1 : Option Addr) (c0_1 : Nat) (l0_1 : List (S36)) (A0_2 : Option Addr) (c0_2 : Nat) (l0_2 : List (S64)) (a1 : Int) (r1 : Int) (r2 : Int) (r3 : Int) (r4 : Int) (r5 : Int) (r6 : Bool) (w : World) (hr0_1 : Kd.C k36 w A0_1 l0_1.length l0_1) (hc0_1 : l0_1.length ≤ c0_1) (hr0_2 : Kd.C k64 w A0_2 l0_2.length l0_2) (hc0_2 : l0_2.length ≤ c0_2) (h : impl_BackendAt.f a0_0 l0_1 l0_2 a1 = some (r1, r2, r3, r4, r5, r6)) :
  Calls Try.prog 18 #[.agg #[.int .i64 a0_0, .slice A0_1 l0_1.length c0_1, .slice A0_2 l0_2.length c0_2], .int .i64 a1] w fun e w' => e = .returned (.agg #[.int .i64 r1, .int .i64 r2, .int .i64 r3, .int .i64 r4, .int .i64 r5, .bool r6]) ∧ Below w.heap.size w w' := by
 unfold impl_BackendAt.f at h
 cases h
 exact impl_BackendAt.cf A0_1 c0_1 l0_1 A0_2 c0_2 l0_2 a0_0 a1 w hr0_1 hc0_1 hr0_2

end Go.Proofs.Ytfmlhpoaipeoeaa.QFnDeltas
