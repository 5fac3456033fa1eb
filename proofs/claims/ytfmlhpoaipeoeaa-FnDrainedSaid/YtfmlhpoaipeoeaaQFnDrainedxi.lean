-- MADE BY PROGRAM (wip/dr/assemble.py) out of walks by hand. Lean checks it.
import Derived.Test.YtfmlhpoaipeoeaaQFnDrainedxh
import Derived.Test.YtfmlhpoaipeoeaaIx
import Derived.StillTailTactics
namespace Go.Proofs.Ytfmlhpoaipeoeaa.QFnDrained
open Go.RowKit Go.Proofs.YtfmlhpoaipeoeaaW.PrintWords Go.Proofs.YtfmlhpoaipeoeaaW.PrintLast Go.Proofs.YtfmlhpoaipeoeaaW.PrintMore
open Go.Proofs.YtfmlhpoaipeoeaaW.PrintWords renaming blk_drewN → bN, blk_drew → bd, blk_alloc → ba, blk_cell → bc, blk_frozen → bf, below_set → bs, pw_below_drewN → pN, below_drew1 → p1, below_alloc → pa, blk_below → bb, below_size → bz, below_step → bp, blk_lt → bl, blk_far → bq, add_block → ab
open Go.Proofs.YtfmlhpoaipeoeaaW.PrintWords.Kd renaming R_drewN → rN, R_drew → rd1, R_alloc → ra, R_far → rf, R_below → rb, R_new' → rn, R_lt → rl, R_elder' → re, R_lower → rw1, C_alloc → ca, C_drewN → cN, C_drew → cd1, S_alloc → sa, S_drewN → sN, S_drew → sd, S_far → sf, S_mono → sm, S_types → st, S_lt → sl
open Go.Proofs.YtfmlhpoaipeoeaaW.PrintWords.Aside0 renaming mk → am
open Go.Value renaming int → I, slice → J
open Go.IntKind renaming i64 → q
attribute [local go_sem] max2_int min2_int max_two min_two max_three min_three max_four min_four   -- for this text's walks alone
set_option linter.unusedVariables false
set_option linter.unusedSimpArgs false
theorem pu2i {W : World} {g t : Nat} {u0 u1 v0 v1 : Value} (h : W.heap[g]? = some (.cells #[u0, u1] t (0, 0))) : ((W.setCell ⟨g, 0, none⟩ v0).setCell ⟨g, 1, none⟩ v1).heap[g]? = some (.cells #[v0, v1] t (0, 0)) := by
  refine blk_put (cs := #[v0, u1]) ?_ 1 _ rfl
  exact blk_put (cs := #[u0, u1]) h 0 _ rfl
theorem pu3i {W : World} {g t : Nat} {u0 u1 u2 v0 v1 v2 : Value} (h : W.heap[g]? = some (.cells #[u0, u1, u2] t (0, 0))) : (((W.setCell ⟨g, 0, none⟩ v0).setCell ⟨g, 1, none⟩ v1).setCell ⟨g, 2, none⟩ v2).heap[g]? = some (.cells #[v0, v1, v2] t (0, 0)) := by
  refine blk_put (cs := #[v0, v1, u2]) ?_ 2 _ rfl
  refine blk_put (cs := #[v0, u1, u2]) ?_ 1 _ rfl
  exact blk_put (cs := #[u0, u1, u2]) h 0 _ rfl
/-! ### laws_lwHas: function 32 -/
def laws_lwHas.l0 : Nat → List Int → Int → Int → Option (Bool)
 | 0, _, _, _ => none
 | k + 1, x0, x1, x5 => if x5 < (x0.length : Int) then (if 0 ≤ x5 then (if (rd x0 x5) = x1 then (some true) else (laws_lwHas.l0 k x0 x1 (wrap64 (x5 + 1)))) else (none)) else (some false)
def laws_lwHas.f (k : Nat) (l0 : List Int) (a1 : Int) : Option (Bool) := laws_lwHas.l0 k l0 a1 0
theorem laws_lwHas.mono_l : ∀ k, (∀ y0 y1 y2, LeO (laws_lwHas.l0 k y0 y1 y2) (laws_lwHas.l0 (k + 1) y0 y1 y2))
 | 0 => fun _ _ _ r h => by simp [laws_lwHas.l0] at h
 | k + 1 => by
  have ih0 := laws_lwHas.mono_l k
  ·intro y0 y1 y2
   unfold laws_lwHas.l0
   repeat' first
   | (with_reducible exact ih0 _ _ _)
   | (with_reducible exact LeO.refl _)
   | (with_reducible exact LeO.none _)
   | (with_reducible refine LeO.ite ?_ ?_)
   | (with_reducible refine LeO.bind ?_ (fun _ => ?_))
   | exact ih0 _ _ _
   | exact LeO.none _
   | refine LeO.ite ?_ ?_
   | refine LeO.bind ?_ (fun _ => ?_)
theorem laws_lwHas.mono : ∀ a0 a1 k, LeO (laws_lwHas.f k a0 a1) (laws_lwHas.f (k + 1) a0 a1) := by
 intro a0 a1 k
 have ih0 := laws_lwHas.mono_l k
 unfold laws_lwHas.f
 repeat' first
   | (with_reducible exact ih0 _ _ _)
   | (with_reducible exact LeO.refl _)
   | (with_reducible exact LeO.none _)
   | (with_reducible refine LeO.ite ?_ ?_)
   | (with_reducible refine LeO.bind ?_ (fun _ => ?_))
   | exact ih0 _ _ _
   | exact LeO.none _
   | refine LeO.ite ?_ ?_
   | refine LeO.bind ?_ (fun _ => ?_)
set_option maxHeartbeats 8000000 in
set_option maxRecDepth 100000 in
theorem laws_lwHas.calls (k : Nat) (A0 : Option Addr) (c0 : Nat) (l0 : List Int) (a1 : Int) (r : Bool) (w : World) (hr0 : Kd.C (Kd.int .i64) w A0 l0.length l0) (hc0 : l0.length ≤ c0) (h : laws_lwHas.f k l0 a1 = some r) :
  Calls Try.prog 32 #[J A0 l0.length c0, I q a1] w fun e w' => e = .returned (.bool r) ∧ Drawn0 w w' := by
 have HR0 := am hr0
 have HC0 := am hc0
 clear hr0 hc0
 have H : (laws_lwHas.l0 k l0 a1 0) = some r := h
 clear h
 have H' := am H
 clear H
 go_enter Try.func32, Try.ntmps32
 go_wp2
 go_loopg [5] k (fun kq v5 w' => ∃ (x5_1 : Int), v5 = I q x5_1 ∧ Aside0 (laws_lwHas.l0 kq l0 a1 x5_1 = some r) ∧ Aside0 (kq ≤ k) ∧ Drawn0 w w')
 case atStart => exact ⟨(0), (by first | rfl | (simp; done) | (simp [*]; done)), H', ⟨Nat.le_refl _⟩, by repeat (first | exact Drawn0.refl _ | apply Drawn0.step)⟩
 case round =>
  clear H'
  try clear p2
  obtain ⟨x5_1, rfl, HA, HK1, ⟨m1, rfl⟩⟩ := hrel
  cases gk with
  | zero => exact absurd HA.out (by simp [laws_lwHas.l0])
  | succ k1 =>
   have H := HA.out
   clear HA
   simp only [laws_lwHas.l0] at H
   by_cases c3 : x5_1 < (l0.length : Int)
   ·rw [if_pos c3] at H
    have c3b0 : decide (x5_1 < (l0.length : Int)) = true := decide_eq_true c3
    clear c3
    by_cases c4 : 0 ≤ x5_1
    ·rw [if_pos c4] at H
     have c4b0 : decide (0 ≤ x5_1) = true := decide_eq_true c4
     clear c4
     by_cases c5 : (rd l0 x5_1) = a1
     ·rw [if_pos c5] at H
      have c5b0 : ((rd l0 x5_1) == a1) = true := beq_iff_eq.mpr c5
      have c5b1 : ((rd l0 x5_1) != a1) = false := bne_eq_false_iff_eq.mpr c5
      clear c5
      obtain rfl := Option.some.inj H
      have p426 : 0 ≤ (x5_1 : Int) := of_decide_eq_true (by first | (with_reducible assumption) | assumption)
      have q426 : x5_1 < (l0.length : Int) := of_decide_eq_true (by first | (with_reducible assumption) | assumption)
      obtain ⟨ad426, e426, hx426_0⟩ := Kd.at_int HR0.out x5_1 p426 q426
      cases e426
      replace p426 := eq_true p426
      replace q426 := eq_true q426
      go_wp2
      go_ret
      exact ⟨by first | rfl | (simp; done) | (simp [*]; done), by repeat (first | exact Drawn0.refl _ | apply Drawn0.step)⟩
     ·rw [if_neg c5] at H
      have c5b0 : ((rd l0 x5_1) == a1) = false := beq_eq_false_iff_ne.mpr c5
      have c5b1 : ((rd l0 x5_1) != a1) = true := bne_iff_ne.mpr c5
      have H' := am H
      clear H
      have p426 : 0 ≤ (x5_1 : Int) := of_decide_eq_true (by first | (with_reducible assumption) | assumption)
      have q426 : x5_1 < (l0.length : Int) := of_decide_eq_true (by first | (with_reducible assumption) | assumption)
      obtain ⟨ad426, e426, hx426_0⟩ := Kd.at_int HR0.out x5_1 p426 q426
      cases e426
      replace p426 := eq_true p426
      replace q426 := eq_true q426
      go_wp2
      go_roundg k1
      case measure => have := HK1.out; omega
      case rel => exact ⟨(wrap64 (x5_1 + 1)), (by first | rfl | (simp; done) | (simp [*]; done)), H', ⟨by have := HK1.out; omega⟩, by repeat (first | exact Drawn0.refl _ | apply Drawn0.step)⟩
    ·rw [if_neg c4] at H
     exact absurd H (by simp)
   ·rw [if_neg c3] at H
    have c3b0 : decide (x5_1 < (l0.length : Int)) = false := decide_eq_false c3
    clear c3
    obtain rfl := Option.some.inj H
    go_wp2
    go_ret
    exact ⟨by first | rfl | (simp; done) | (simp [*]; done), by repeat (first | exact Drawn0.refl _ | apply Drawn0.step)⟩

/-! ### impl_SharesFault: function 33 -/
mutual
def impl_SharesFault.l0 : Nat → List (S67) → List (S67) → Int → Int → Option (Int)
 | 0, _, _, _, _ => none
 | k + 1, x0, x8, x9, x10 => if x10 < x9 then (if 0 ≤ x10 then (if x10 < (x8.length : Int) then ((impl_isName.f ((rd_T67 x8 x10).f0)).bind fun t429 => (if t429 = true then ((impl_in.f ((rd_T67 x8 x10).f1) 0 9).bind fun t430 => (impl_SharesFault.j1 k x0 x10 x8 x9 x10 (!t430) ((rd_T67 x8 x10).f0) ((rd_T67 x8 x10).f1))) else (impl_SharesFault.j1 k x0 x10 x8 x9 x10 true ((rd_T67 x8 x10).f0) ((rd_T67 x8 x10).f1)))) else (none)) else (none)) else (some 0)
def impl_SharesFault.j1 : Nat → List (S67) → Int → List (S67) → Int → Int → Bool → Int → Int → Option (Int)
 | 0, _, _, _, _, _, _, _, _ => none
 | k + 1, x0, x3, x8, x9, x10, x15, x429000, x429001 => if x15 = true then (some 3) else (if x3 > 0 then (if 0 ≤ (wrap64 (x3 - 1)) then (if (wrap64 (x3 - 1)) < (x0.length : Int) then (if x429000 ≤ ((rd_T67 x0 (wrap64 (x3 - 1))).f0) then (some 1) else (impl_SharesFault.l0 k x0 x8 x9 (wrap64 (x10 + 1)))) else (none)) else (none)) else (impl_SharesFault.l0 k x0 x8 x9 (wrap64 (x10 + 1))))
end
def impl_SharesFault.f (k : Nat) (l0 : List (S67)) : Option (Int) := if (l0.length : Int) > 8 then (some 2) else (impl_SharesFault.l0 k l0 l0 (l0.length : Int) 0)
theorem impl_SharesFault.mono_l : ∀ k, (∀ y0 y1 y2 y3, LeO (impl_SharesFault.l0 k y0 y1 y2 y3) (impl_SharesFault.l0 (k + 1) y0 y1 y2 y3)) ∧ (∀ y0 y1 y2 y3 y4 y5 y6 y7, LeO (impl_SharesFault.j1 k y0 y1 y2 y3 y4 y5 y6 y7) (impl_SharesFault.j1 (k + 1) y0 y1 y2 y3 y4 y5 y6 y7))
 | 0 => ⟨fun _ _ _ _ r h => by simp [impl_SharesFault.l0] at h, fun _ _ _ _ _ _ _ _ r h => by simp [impl_SharesFault.j1] at h⟩
 | k + 1 => by
  obtain ⟨ih0, ih1⟩ := impl_SharesFault.mono_l k
  refine ⟨?_, ?_⟩
  ·intro y0 y1 y2 y3
   unfold impl_SharesFault.l0
   repeat' first
   | (with_reducible exact ih0 _ _ _ _)
   | (with_reducible exact ih1 _ _ _ _ _ _ _ _)
   | (with_reducible exact LeO.refl _)
   | (with_reducible exact LeO.none _)
   | (with_reducible refine LeO.ite ?_ ?_)
   | (with_reducible refine LeO.bind ?_ (fun _ => ?_))
   | exact ih0 _ _ _ _
   | exact ih1 _ _ _ _ _ _ _ _
   | exact LeO.none _
   | refine LeO.ite ?_ ?_
   | refine LeO.bind ?_ (fun _ => ?_)
  ·intro y0 y1 y2 y3 y4 y5 y6 y7
   unfold impl_SharesFault.j1
   repeat' first
   | (with_reducible exact ih0 _ _ _ _)
   | (with_reducible exact ih1 _ _ _ _ _ _ _ _)
   | (with_reducible exact LeO.refl _)
   | (with_reducible exact LeO.none _)
   | (with_reducible refine LeO.ite ?_ ?_)
   | (with_reducible refine LeO.bind ?_ (fun _ => ?_))
   | exact ih0 _ _ _ _
   | exact ih1 _ _ _ _ _ _ _ _
   | exact LeO.none _
   | refine LeO.ite ?_ ?_
   | refine LeO.bind ?_ (fun _ => ?_)
theorem impl_SharesFault.mono : ∀ a0 k, LeO (impl_SharesFault.f k a0) (impl_SharesFault.f (k + 1) a0) := by
 intro a0 k
 obtain ⟨ih0, ih1⟩ := impl_SharesFault.mono_l k
 unfold impl_SharesFault.f
 repeat' first
   | (with_reducible exact ih0 _ _ _ _)
   | (with_reducible exact ih1 _ _ _ _ _ _ _ _)
   | (with_reducible exact LeO.refl _)
   | (with_reducible exact LeO.none _)
   | (with_reducible refine LeO.ite ?_ ?_)
   | (with_reducible refine LeO.bind ?_ (fun _ => ?_))
   | exact ih0 _ _ _ _
   | exact ih1 _ _ _ _ _ _ _ _
   | exact LeO.none _
   | refine LeO.ite ?_ ?_
   | refine LeO.bind ?_ (fun _ => ?_)
set_option maxHeartbeats 8000000 in
set_option maxRecDepth 100000 in
theorem impl_SharesFault.calls (k : Nat) (A0 : Option Addr) (c0 : Nat) (l0 : List (S67)) (r : Int) (w : World) (hr0 : Kd.C k67 w A0 l0.length l0) (hc0 : l0.length ≤ c0) (h : impl_SharesFault.f k l0 = some r) :
  Calls Try.prog 33 #[J A0 l0.length c0] w fun e w' => e = .returned (I q r) ∧ Below w.heap.size w w' := by
 have hu67 := Try.underlying67
 have HR0 := am hr0
 have HC0 := am hc0
 clear hr0 hc0
 have HB := am (Below.refl w.heap.size w)
 have H : (if (l0.length : Int) > 8 then (some 2) else (impl_SharesFault.l0 k l0 l0 (l0.length : Int) 0)) = some r := h
 clear h
 by_cases c2 : (l0.length : Int) > 8
 ·rw [if_pos c2] at H
  have c2b0 : decide (8 < (l0.length : Int)) = true := decide_eq_true c2
  have c2b1 : decide (8 < l0.length) = true := decide_eq_true (by omega)
  clear c2
  obtain rfl := Option.some.inj H
  go_enter Try.func33, Try.ntmps33
  go_wp2
  repeat (go_quiet (fail); try go_wp2)
  go_ret
  exact ⟨by first | rfl | (simp [errW_none, errW_some] <;> rfl) | (simp [*, errW_none, errW_some] <;> rfl), by repeat (first | (with_reducible first | exact HB.out | apply pa | apply pN | apply p1) | exact HB.out)⟩
 ·rw [if_neg c2] at H
  have c2b0 : decide (8 < (l0.length : Int)) = false := decide_eq_false c2
  have c2b1 : decide (8 < l0.length) = false := decide_eq_false (by omega)
  clear c2
  have H' := am H
  clear H
  go_enter Try.func33, Try.ntmps33
  go_wp2
  repeat (go_quiet (fail); try go_wp2)
  go_loopg [10] k (fun kq v10 w' => ∃ (x10_1 : Int), v10 = I q x10_1 ∧ Aside0 (impl_SharesFault.l0 kq l0 l0 (l0.length : Int) x10_1 = some r) ∧ Aside0 (kq ≤ k) ∧ Aside0 (Below w.heap.size w w'))
  case atStart => exact ⟨(0), (by first | rfl | (simp; done) | (simp [*]; done)), H', ⟨Nat.le_refl _⟩, ⟨by repeat (first | (with_reducible first | exact HB.out | apply pa | apply pN | apply p1) | exact HB.out)⟩⟩
  case round =>
   clear H'
   try clear c2
   try clear c2b0
   try clear c2b1
   try clear p2
   obtain ⟨x10_1, rfl, HA, HK1, HB⟩ := hrel
   cases gk with
   | zero => exact absurd HA.out (by simp [impl_SharesFault.l0])
   | succ k1 =>
    have H := HA.out
    clear HA
    simp only [impl_SharesFault.l0] at H
    by_cases c3 : x10_1 < (l0.length : Int)
    ·rw [if_pos c3] at H
     have c3b0 : decide (x10_1 < (l0.length : Int)) = true := decide_eq_true c3
     clear c3
     by_cases c4 : 0 ≤ x10_1
     ·rw [if_pos c4] at H
      have c4b0 : decide (0 ≤ x10_1) = true := decide_eq_true c4
      clear c4
      by_cases c5 : x10_1 < (l0.length : Int)
      ·rw [if_pos c5] at H
       have c5b0 : decide (x10_1 < (l0.length : Int)) = true := decide_eq_true c5
       clear c5
       have HC6 := am H
       clear H
       have p427 : 0 ≤ (x10_1 : Int) := of_decide_eq_true (by first | (with_reducible assumption) | assumption)
       have q427 : x10_1 < (l0.length : Int) := of_decide_eq_true (by first | (with_reducible assumption) | assumption)
       obtain ⟨ad427, e427, hx427_0, hx427_1⟩ := at_T67 HR0.out x10_1 p427 q427
       cases e427
       replace hx427_0 := (HB.out.cell (World.block_lt_of_cell? w _ hx427_0)).trans hx427_0
       replace hx427_1 := (HB.out.cell (World.block_lt_of_cell? w _ hx427_1)).trans hx427_1
       replace p427 := eq_true p427
       replace q427 := eq_true q427
       go_upto_region 6 with (first | ((with_reducible refine gate_dst (N := 4) rfl ?_); refine box_event ?hg (N := 4) ?hd (cs := #[I q 0, I q 0]) (t := 67) ?hr ?_; (case hd => rfl); (case hg => rfl); (case hr => first | (go_simp; done) | (go_simp; rfl)); intro g428 hg w7 hbox hb; have N0 := am (bp (by repeat (first | (with_reducible first | exact HB.out | apply pa | apply pN | apply p1) | exact HB.out)) hb); have N1 := am (hbox); have N2 := am ((by rw [hg]; exact (bz (by repeat (first | (with_reducible first | exact HB.out | apply pa | apply pN | apply p1) | exact HB.out))) : w.heap.size ≤ g428)); have N3 := am ((by rw [hg]; exact (bz (by repeat (first | (with_reducible first | exact HB.out | apply pa | apply pN | apply p1) | exact HB.out))) : w.heap.size ≤ g428)); clear HB; have HB := N0; have B428 := N1; have GW428 := N2; have E428 := N3; clear N0 N1 N2 N3 hb hbox hg; have hcz8_0 : w7.cell? ⟨g428, 0, none⟩ = some (I q 0) := (bc B428.out 0).trans rfl; have hcz8_1 : w7.cell? ⟨g428, 1, none⟩ = some (I q 0) := (bc B428.out 1).trans rfl; have hfz8_0 := bf B428.out 0; have hfz8_1 := bf B428.out 1))
       repeat (go_quiet (first | ((with_reducible refine gate_dst (N := 4) rfl ?_); refine box_event ?hg (N := 4) ?hd (cs := #[I q 0, I q 0]) (t := 67) ?hr ?_; (case hd => rfl); (case hg => rfl); (case hr => first | (go_simp; done) | (go_simp; rfl)); intro g428 hg w7 hbox hb; have N0 := am (bp (by repeat (first | (with_reducible first | exact HB.out | apply pa | apply pN | apply p1) | exact HB.out)) hb); have N1 := am (hbox); have N2 := am ((by rw [hg]; exact (bz (by repeat (first | (with_reducible first | exact HB.out | apply pa | apply pN | apply p1) | exact HB.out))) : w.heap.size ≤ g428)); have N3 := am ((by rw [hg]; exact (bz (by repeat (first | (with_reducible first | exact HB.out | apply pa | apply pN | apply p1) | exact HB.out))) : w.heap.size ≤ g428)); clear HB; have HB := N0; have B428 := N1; have GW428 := N2; have E428 := N3; clear N0 N1 N2 N3 hb hbox hg; have hcz8_0 : w7.cell? ⟨g428, 0, none⟩ = some (I q 0) := (bc B428.out 0).trans rfl; have hcz8_1 : w7.cell? ⟨g428, 1, none⟩ = some (I q 0) := (bc B428.out 1).trans rfl; have hfz8_0 := bf B428.out 0; have hfz8_1 := bf B428.out 1)); go_upto_region 6 with (first | ((with_reducible refine gate_dst (N := 4) rfl ?_); refine box_event ?hg (N := 4) ?hd (cs := #[I q 0, I q 0]) (t := 67) ?hr ?_; (case hd => rfl); (case hg => rfl); (case hr => first | (go_simp; done) | (go_simp; rfl)); intro g428 hg w7 hbox hb; have N0 := am (bp (by repeat (first | (with_reducible first | exact HB.out | apply pa | apply pN | apply p1) | exact HB.out)) hb); have N1 := am (hbox); have N2 := am ((by rw [hg]; exact (bz (by repeat (first | (with_reducible first | exact HB.out | apply pa | apply pN | apply p1) | exact HB.out))) : w.heap.size ≤ g428)); have N3 := am ((by rw [hg]; exact (bz (by repeat (first | (with_reducible first | exact HB.out | apply pa | apply pN | apply p1) | exact HB.out))) : w.heap.size ≤ g428)); clear HB; have HB := N0; have B428 := N1; have GW428 := N2; have E428 := N3; clear N0 N1 N2 N3 hb hbox hg; have hcz8_0 : w7.cell? ⟨g428, 0, none⟩ = some (I q 0) := (bc B428.out 0).trans rfl; have hcz8_1 : w7.cell? ⟨g428, 1, none⟩ = some (I q 0) := (bc B428.out 1).trans rfl; have hfz8_0 := bf B428.out 0; have hfz8_1 := bf B428.out 1)))
       (try simp only [Act.put, List.setIfInBounds_toArray, List.set_cons_zero, List.set_cons_succ])
       go_cut [15] (fun v15 wc => ∃ (kq : Nat) (x15_5 : Bool), v15 = .bool x15_5 ∧ Aside0 (impl_SharesFault.j1 kq l0 x10_1 l0 (l0.length : Int) x10_1 x15_5 ((rd_T67 l0 x10_1).f0) ((rd_T67 l0 x10_1).f1) = some r) ∧ Aside0 (kq ≤ k1) ∧ Aside0 (wc.heap[g428]? = some (.cells #[I q ((rd_T67 l0 x10_1).f0), I q ((rd_T67 l0 x10_1).f1)] 67 (0, 0))) ∧ Aside0 (Below w.heap.size w wc))
       case first =>
        have H := HC6.out
        clear HC6
        replace H := Option.bind_eq_some_iff.mp H
        obtain ⟨t429, A90, H⟩ := H
        replace H : (if t429 = true then ((impl_in.f ((rd_T67 l0 x10_1).f1) 0 9).bind fun t430 => (impl_SharesFault.j1 k1 l0 x10_1 l0 (l0.length : Int) x10_1 (!t430) ((rd_T67 l0 x10_1).f0) ((rd_T67 l0 x10_1).f1))) else (impl_SharesFault.j1 k1 l0 x10_1 l0 (l0.length : Int) x10_1 true ((rd_T67 l0 x10_1).f0) ((rd_T67 l0 x10_1).f1))) = some r := H
        have A9 := am A90
        clear A90
        by_cases c10 : t429 = true
        ·subst c10
         have H1 : ((impl_in.f ((rd_T67 l0 x10_1).f1) 0 9).bind fun t430 => (impl_SharesFault.j1 k1 l0 x10_1 l0 (l0.length : Int) x10_1 (!t430) ((rd_T67 l0 x10_1).f0) ((rd_T67 l0 x10_1).f1))) = some r := by rw [if_pos rfl] at H; exact H
         clear H
         have H := H1
         clear H1
         replace H := Option.bind_eq_some_iff.mp H
         obtain ⟨t430, A110, H⟩ := H
         replace H : (impl_SharesFault.j1 k1 l0 x10_1 l0 (l0.length : Int) x10_1 (!t430) ((rd_T67 l0 x10_1).f0) ((rd_T67 l0 x10_1).f1)) = some r := H
         have A11 := am A110
         clear A110
         have H' := am H
         clear H
         have hcz12_0 : w7.cell? ⟨g428, 0, none⟩ = some (I q 0) := (bc B428.out 0).trans rfl
         have hcz12_1 : w7.cell? ⟨g428, 1, none⟩ = some (I q 0) := (bc B428.out 1).trans rfl
         have hfz12_0 := bf B428.out 0
         have hfz12_1 := bf B428.out 1
         go_wp2_with (first | (go_at_call 82; (with_reducible refine (impl_isName.calls ((rd_T67 l0 x10_1).f0) true _ A9.out).mono ?_); rintro e w' ⟨rfl, ⟨nd, rfl⟩⟩; (try first | exact ⟨rfl, _, World.drewN_drewN _ _ _⟩ | exact ⟨rfl, _, Eq.trans (World.drewN_drewN _ _ _) (congrArg (World.drewN _) (Nat.add_assoc _ _ _))⟩)) | (go_at_call 53; (with_reducible refine (impl_in.calls ((rd_T67 l0 x10_1).f1) 0 9 t430 _ A11.out).mono ?_); rintro e w' ⟨rfl, ⟨nd, rfl⟩⟩; (try first | exact ⟨rfl, _, World.drewN_drewN _ _ _⟩ | exact ⟨rfl, _, Eq.trans (World.drewN_drewN _ _ _) (congrArg (World.drewN _) (Nat.add_assoc _ _ _))⟩)))
         repeat (go_quiet (first | (go_at_call 82; (with_reducible refine (impl_isName.calls ((rd_T67 l0 x10_1).f0) true _ A9.out).mono ?_); rintro e w' ⟨rfl, ⟨nd, rfl⟩⟩; (try first | exact ⟨rfl, _, World.drewN_drewN _ _ _⟩ | exact ⟨rfl, _, Eq.trans (World.drewN_drewN _ _ _) (congrArg (World.drewN _) (Nat.add_assoc _ _ _))⟩)) | (go_at_call 53; (with_reducible refine (impl_in.calls ((rd_T67 l0 x10_1).f1) 0 9 t430 _ A11.out).mono ?_); rintro e w' ⟨rfl, ⟨nd, rfl⟩⟩; (try first | exact ⟨rfl, _, World.drewN_drewN _ _ _⟩ | exact ⟨rfl, _, Eq.trans (World.drewN_drewN _ _ _) (congrArg (World.drewN _) (Nat.add_assoc _ _ _))⟩))); try go_wp2_with (first | (go_at_call 82; (with_reducible refine (impl_isName.calls ((rd_T67 l0 x10_1).f0) true _ A9.out).mono ?_); rintro e w' ⟨rfl, ⟨nd, rfl⟩⟩; (try first | exact ⟨rfl, _, World.drewN_drewN _ _ _⟩ | exact ⟨rfl, _, Eq.trans (World.drewN_drewN _ _ _) (congrArg (World.drewN _) (Nat.add_assoc _ _ _))⟩)) | (go_at_call 53; (with_reducible refine (impl_in.calls ((rd_T67 l0 x10_1).f1) 0 9 t430 _ A11.out).mono ?_); rintro e w' ⟨rfl, ⟨nd, rfl⟩⟩; (try first | exact ⟨rfl, _, World.drewN_drewN _ _ _⟩ | exact ⟨rfl, _, Eq.trans (World.drewN_drewN _ _ _) (congrArg (World.drewN _) (Nat.add_assoc _ _ _))⟩))))
         go_meet
         case rel => exact ⟨_, (!t430), (by first | rfl | (simp; done) | (simp [*]; done)), H', ⟨by have := HK1.out; first | omega | exact Nat.le_refl _⟩, ⟨by (with_reducible repeat (first | apply bN | apply bd | apply ba)); exact pu2i B428.out⟩, ⟨by repeat (first | (with_reducible first | exact HB.out | apply pa | apply pN | apply p1 | refine bs ?_ E428.out) | exact HB.out)⟩⟩
        ·replace c10 := Bool.eq_false_iff.mpr c10
         subst c10
         have H1 : (impl_SharesFault.j1 k1 l0 x10_1 l0 (l0.length : Int) x10_1 true ((rd_T67 l0 x10_1).f0) ((rd_T67 l0 x10_1).f1)) = some r := by rw [if_neg (show ¬ (false = true) by decide)] at H; exact H
         clear H
         have H := H1
         clear H1
         have H' := am H
         clear H
         have hcz13_0 : w7.cell? ⟨g428, 0, none⟩ = some (I q 0) := (bc B428.out 0).trans rfl
         have hcz13_1 : w7.cell? ⟨g428, 1, none⟩ = some (I q 0) := (bc B428.out 1).trans rfl
         have hfz13_0 := bf B428.out 0
         have hfz13_1 := bf B428.out 1
         go_wp2_with (first | (go_at_call 82; (with_reducible refine (impl_isName.calls ((rd_T67 l0 x10_1).f0) false _ A9.out).mono ?_); rintro e w' ⟨rfl, ⟨nd, rfl⟩⟩; (try first | exact ⟨rfl, _, World.drewN_drewN _ _ _⟩ | exact ⟨rfl, _, Eq.trans (World.drewN_drewN _ _ _) (congrArg (World.drewN _) (Nat.add_assoc _ _ _))⟩)))
         repeat (go_quiet (first | (go_at_call 82; (with_reducible refine (impl_isName.calls ((rd_T67 l0 x10_1).f0) false _ A9.out).mono ?_); rintro e w' ⟨rfl, ⟨nd, rfl⟩⟩; (try first | exact ⟨rfl, _, World.drewN_drewN _ _ _⟩ | exact ⟨rfl, _, Eq.trans (World.drewN_drewN _ _ _) (congrArg (World.drewN _) (Nat.add_assoc _ _ _))⟩))); try go_wp2_with (first | (go_at_call 82; (with_reducible refine (impl_isName.calls ((rd_T67 l0 x10_1).f0) false _ A9.out).mono ?_); rintro e w' ⟨rfl, ⟨nd, rfl⟩⟩; (try first | exact ⟨rfl, _, World.drewN_drewN _ _ _⟩ | exact ⟨rfl, _, Eq.trans (World.drewN_drewN _ _ _) (congrArg (World.drewN _) (Nat.add_assoc _ _ _))⟩))))
         go_meet
         case rel => exact ⟨_, (true), (by first | rfl | (simp; done) | (simp [*]; done)), H', ⟨by have := HK1.out; first | omega | exact Nat.le_refl _⟩, ⟨by (with_reducible repeat (first | apply bN | apply bd | apply ba)); exact pu2i B428.out⟩, ⟨by repeat (first | (with_reducible first | exact HB.out | apply pa | apply pN | apply p1 | refine bs ?_ E428.out) | exact HB.out)⟩⟩
       case rest =>
        clear HC6
        try clear c1
        try clear c2
        try clear c2b0
        try clear c2b1
        try clear p2
        try clear c3
        try clear c3b0
        try clear c4
        try clear c4b0
        try clear p4
        try clear q4
        try clear hx4
        try clear c5
        try clear c5b0
        try clear c10
        try clear hcz12_0
        try clear hcz12_1
        try clear hcz13_0
        try clear hcz13_1
        try clear hcz8_0
        try clear hcz8_1
        try clear hfz12_0
        try clear hfz12_1
        try clear hfz13_0
        try clear hfz13_1
        try clear hfz8_0
        try clear hfz8_1
        try clear hx427_0
        try clear hx427_1
        try clear p2
        try clear p427
        try clear q427
        obtain ⟨kq, x15_5, rfl, HA, HJ5, B428, HB⟩ := hcut
        cases kq with
        | zero => exact absurd HA.out (by simp [impl_SharesFault.j1])
        | succ kj5 =>
         have H := HA.out
         clear HA
         simp only [impl_SharesFault.j1] at H
         by_cases c14 : x15_5 = true
         ·subst c14
          have H1 : (some 3) = some r := by rw [if_pos rfl] at H; exact H
          clear H
          have H := H1
          clear H1
          obtain rfl := Option.some.inj H
          go_wp2
          repeat (go_quiet (fail); try go_wp2)
          go_ret
          exact ⟨by first | rfl | (simp [errW_none, errW_some] <;> rfl) | (simp [*, errW_none, errW_some] <;> rfl), by repeat (first | (with_reducible first | exact HB.out | apply pa | apply pN | apply p1 | refine bs ?_ E428.out) | exact HB.out)⟩
         ·replace c14 := Bool.eq_false_iff.mpr c14
          subst c14
          have H1 : (if x10_1 > 0 then (if 0 ≤ (wrap64 (x10_1 - 1)) then (if (wrap64 (x10_1 - 1)) < (l0.length : Int) then (if ((rd_T67 l0 x10_1).f0) ≤ ((rd_T67 l0 (wrap64 (x10_1 - 1))).f0) then (some 1) else (impl_SharesFault.l0 kj5 l0 l0 (l0.length : Int) (wrap64 (x10_1 + 1)))) else (none)) else (none)) else (impl_SharesFault.l0 kj5 l0 l0 (l0.length : Int) (wrap64 (x10_1 + 1)))) = some r := by rw [if_neg (show ¬ (false = true) by decide)] at H; exact H
          clear H
          have H := H1
          clear H1
          by_cases c15 : x10_1 > 0
          ·rw [if_pos c15] at H
           have c15b0 : decide (0 < x10_1) = true := decide_eq_true c15
           clear c15
           obtain ⟨ji16, hji16⟩ : ∃ j_ : Int, (wrap64 (x10_1 - 1)) = j_ := ⟨_, rfl⟩
           replace H : (if 0 ≤ (ji16) then (if (ji16) < (l0.length : Int) then (if ((rd_T67 l0 x10_1).f0) ≤ ((rd_T67 l0 (ji16)).f0) then (some 1) else (impl_SharesFault.l0 kj5 l0 l0 (l0.length : Int) (wrap64 (x10_1 + 1)))) else (none)) else (none)) = some r := by first | (rw [hji16] at H; exact H) | (simp only [hji16] at H ⊢; exact H)
           have hji16w : (IntKind.i64.wrap (x10_1 - 1)) = ji16 := (i64_w _).trans hji16
           by_cases c17 : 0 ≤ (ji16)
           ·rw [if_pos c17] at H
            have c17b0 : decide (0 ≤ (ji16)) = true := decide_eq_true c17
            clear c17
            by_cases c18 : (ji16) < (l0.length : Int)
            ·rw [if_pos c18] at H
             have c18b0 : decide ((ji16) < (l0.length : Int)) = true := decide_eq_true c18
             clear c18
             by_cases c19 : ((rd_T67 l0 x10_1).f0) ≤ ((rd_T67 l0 (ji16)).f0)
             ·rw [if_pos c19] at H
              have c19b0 : decide (((rd_T67 l0 x10_1).f0) ≤ ((rd_T67 l0 (ji16)).f0)) = true := decide_eq_true c19
              clear c19
              obtain rfl := Option.some.inj H
              have hcz20_0 : wc.cell? ⟨g428, 0, none⟩ = some (I q ((rd_T67 l0 x10_1).f0)) := (bc B428.out 0).trans rfl
              have hcz20_1 : wc.cell? ⟨g428, 1, none⟩ = some (I q ((rd_T67 l0 x10_1).f1)) := (bc B428.out 1).trans rfl
              have hfz20_0 := bf B428.out 0
              have hfz20_1 := bf B428.out 1
              have p431 : 0 ≤ ((ji16) : Int) := of_decide_eq_true (by first | (with_reducible assumption) | assumption)
              have q431 : (ji16) < (l0.length : Int) := of_decide_eq_true (by first | (with_reducible assumption) | assumption)
              obtain ⟨ad431, e431, hx431_0, hx431_1⟩ := at_T67 HR0.out (ji16) p431 q431
              obtain rfl : ad427 = ad431 := (by injection e431)
              replace hx431_0 := (HB.out.cell (World.block_lt_of_cell? w _ hx431_0)).trans hx431_0
              replace hx431_1 := (HB.out.cell (World.block_lt_of_cell? w _ hx431_1)).trans hx431_1
              replace p431 := eq_true p431
              replace q431 := eq_true q431
              go_wp2
              repeat (go_quiet (fail); try go_wp2)
              go_ret
              exact ⟨by first | rfl | (simp [errW_none, errW_some] <;> rfl) | (simp only [← hji16]; first | rfl | (simp [errW_none, errW_some] <;> rfl)) | (simp [*, errW_none, errW_some] <;> rfl), by repeat (first | (with_reducible first | exact HB.out | apply pa | apply pN | apply p1 | refine bs ?_ E428.out) | exact HB.out)⟩
             ·rw [if_neg c19] at H
              have c19b0 : decide (((rd_T67 l0 x10_1).f0) ≤ ((rd_T67 l0 (ji16)).f0)) = false := decide_eq_false c19
              clear c19
              have H' := am H
              clear H
              have hcz21_0 : wc.cell? ⟨g428, 0, none⟩ = some (I q ((rd_T67 l0 x10_1).f0)) := (bc B428.out 0).trans rfl
              have hcz21_1 : wc.cell? ⟨g428, 1, none⟩ = some (I q ((rd_T67 l0 x10_1).f1)) := (bc B428.out 1).trans rfl
              have hfz21_0 := bf B428.out 0
              have hfz21_1 := bf B428.out 1
              have p431 : 0 ≤ ((ji16) : Int) := of_decide_eq_true (by first | (with_reducible assumption) | assumption)
              have q431 : (ji16) < (l0.length : Int) := of_decide_eq_true (by first | (with_reducible assumption) | assumption)
              obtain ⟨ad431, e431, hx431_0, hx431_1⟩ := at_T67 HR0.out (ji16) p431 q431
              obtain rfl : ad427 = ad431 := (by injection e431)
              replace hx431_0 := (HB.out.cell (World.block_lt_of_cell? w _ hx431_0)).trans hx431_0
              replace hx431_1 := (HB.out.cell (World.block_lt_of_cell? w _ hx431_1)).trans hx431_1
              replace p431 := eq_true p431
              replace q431 := eq_true q431
              go_wp2
              repeat (go_quiet (fail); try go_wp2)
              go_roundg kj5
              case measure => have := HK1.out; have := HJ5.out; omega
              case rel => exact ⟨(wrap64 (x10_1 + 1)), (by first | rfl | (simp; done) | (simp [*]; done)), H', ⟨by have := HK1.out; have := HJ5.out; omega⟩, ⟨by repeat (first | (with_reducible first | exact HB.out | apply pa | apply pN | apply p1 | refine bs ?_ E428.out) | exact HB.out)⟩⟩
            ·rw [if_neg c18] at H
             exact absurd H (by simp)
           ·rw [if_neg c17] at H
            exact absurd H (by simp)
          ·rw [if_neg c15] at H
           have c15b0 : decide (0 < x10_1) = false := decide_eq_false c15
           clear c15
           have H' := am H
           clear H
           go_wp2
           repeat (go_quiet (fail); try go_wp2)
           go_roundg kj5
           case measure => have := HK1.out; have := HJ5.out; omega
           case rel => exact ⟨(wrap64 (x10_1 + 1)), (by first | rfl | (simp; done) | (simp [*]; done)), H', ⟨by have := HK1.out; have := HJ5.out; omega⟩, ⟨by repeat (first | (with_reducible first | exact HB.out | apply pa | apply pN | apply p1 | refine bs ?_ E428.out) | exact HB.out)⟩⟩
      ·rw [if_neg c5] at H
       exact absurd H (by simp)
     ·rw [if_neg c4] at H
      exact absurd H (by simp)
    ·rw [if_neg c3] at H
     have c3b0 : decide (x10_1 < (l0.length : Int)) = false := decide_eq_false c3
     clear c3
     obtain rfl := Option.some.inj H
     go_wp2
     repeat (go_quiet (fail); try go_wp2)
     go_ret
     exact ⟨by first | rfl | (simp [errW_none, errW_some] <;> rfl) | (simp [*, errW_none, errW_some] <;> rfl), by repeat (first | (with_reducible first | exact HB.out | apply pa | apply pN | apply p1) | exact HB.out)⟩

/-! ### laws_FnDrained: function 7 -/
mutual
def laws_FnDrained.l0 : Nat → Int → List Int → Int → Int → List (S36) → List (S64) → Int → List (S67) → Option (Bool)
 | 0, _, _, _, _, _, _, _, _ => none
 | k + 1, x6, x7, x8, x442000, x442001, x442002, x447000, x447001 => if x8 < (x7.length : Int) then (if 0 ≤ x8 then ((impl_BackendAt.f x442000 x442001 x442002 (rd x7 x8)).bind fun bt453 => (if bt453.1 = 0 then (if bt453.2.2.2.2.2 = true then (if bt453.2.2.2.2.1 = 1 then (laws_FnDrained.l0 k (wrap64 (x6 + 1)) x7 (wrap64 (x8 + 1)) x442000 x442001 x442002 x447000 x447001) else (laws_FnDrained.l0 k x6 x7 (wrap64 (x8 + 1)) x442000 x442001 x442002 x447000 x447001)) else (laws_FnDrained.l0 k x6 x7 (wrap64 (x8 + 1)) x442000 x442001 x442002 x447000 x447001)) else none)) else (none)) else (laws_FnDrained.l1 k x6 x7 0 x442000 x442001 x442002 x447000 x447001)
def laws_FnDrained.l1 : Nat → Int → List Int → Int → Int → List (S36) → List (S64) → Int → List (S67) → Option (Bool)
 | 0, _, _, _, _, _, _, _, _ => none
 | k + 1, x6, x7, x10, x442000, x442001, x442002, x447000, x447001 => if x10 < (x447001.length : Int) then (if 0 ≤ x10 then ((laws_lwHas.f k x7 ((rd_T67 x447001 x10).f0)).bind fun t462 => (if t462 = true then ((impl_BackendAt.f x442000 x442001 x442002 ((rd_T67 x447001 x10).f0)).bind fun bt464 => (if bt464.2.2.2.1 = ((rd_T67 x447001 x10).f1) then (laws_FnDrained.l1 k x6 x7 (wrap64 (x10 + 1)) x442000 x442001 x442002 x447000 x447001) else none)) else none)) else (none)) else (if x6 = (x447001.length : Int) then ((impl_SharesFault.f k x447001).bind fun t460 => (some (t460 == 0))) else none)
end
def laws_FnDrained.g (k : Nat) (v : Int) (l1 : List S36) (l2 : List S64) (n : Int) : Option (Bool) := (impl_SharesFor.f v l1 l2 n).bind fun bt442 => (if bt442.1 = 0 then (if 0 ≤ n then (if n < (l2.length : Int) then (laws_FnDrained.l0 k 0 ((rd_T64 l2 n).f3) 0 v l1 l2 bt442.1 bt442.2) else (none)) else (none)) else ((spec_SharesFor.f v l1 l2 n).bind fun bt447 => (some (bt447.1 == bt442.1))))
open Classical in
noncomputable
def laws_FnDrained.rest (k : Nat) (l0 : List Int) : Option (Bool) := if (Dr.IsBytes l0 ∧ ∀ (v : Int) (l1 : List S36) (l2 : List S64) (n : Int), l1.length ≤ 9 → l2.length ≤ 5 → (∀ y, y ∈ l2 → y.f3.length ≤ 24) → laws_FnDrained.g k v l1 l2 n = some true) then some true else none
noncomputable
def laws_FnDrained.f (k : Nat) (l0 : List Int) : Option (Bool) := (laws_lwBig.f l0).bind fun t432 => (if t432 = true then (some true) else (laws_FnDrained.rest k l0))
theorem laws_FnDrained.rest_some {k : Nat} {l0 : List Int} {r : Bool} (h : laws_FnDrained.rest k l0 = some r) : Dr.IsBytes l0 ∧ (∀ (v : Int) (l1 : List S36) (l2 : List S64) (n : Int), l1.length ≤ 9 → l2.length ≤ 5 → (∀ y, y ∈ l2 → y.f3.length ≤ 24) → laws_FnDrained.g k v l1 l2 n = some true) ∧ r = true := by
 unfold laws_FnDrained.rest at h
 split at h
 ·rename_i hc
  exact ⟨hc.1, hc.2, (Option.some.inj h).symm⟩
 ·cases h
theorem laws_FnDrained.small {l0 : List Int} (h : laws_lwBig.f l0 = some false) : l0.length ≤ 2097152 := by
 unfold laws_lwBig.f at h
 have h2 := of_decide_eq_false (Option.some.inj h)
 omega
def laws_FnDrained.T6 : Bool × List (List Nat × List Nat) := (true, [([], []), ([], []), ([0, 1], [0, 1]), ([2], [2]), ([], []), ([4], [4]), ([3, 5], [3, 5]), ([6, 2, 0, 1, 2, 3, 4, 5, 6], [6])])
def laws_FnDrained.B6 : List Nat := [0, 0, 3, 7, 0, 16, 63, 127]
theorem laws_FnDrained.tab6 : rtab .any (opsOf Try.f7 6) = laws_FnDrained.T6 := by kernel_rfl
theorem laws_FnDrained.bits6 : waitsOk laws_FnDrained.T6.2 laws_FnDrained.B6 = true := by kernel_rfl
def laws_FnDrained.T12 : Bool × List (List Nat × List Nat) := (true, [([], []), ([], []), ([], []), ([1, 2], [1, 2]), ([3], [3]), ([0, 4], [0, 4]), ([], []), ([6, 5, 5, 0, 1, 2, 3, 4, 5, 6], [5, 6])])
def laws_FnDrained.B12 : List Nat := [0, 0, 0, 6, 14, 31, 0, 127]
theorem laws_FnDrained.tab12 : rtab .any (opsOf Try.f7 12) = laws_FnDrained.T12 := by kernel_rfl
theorem laws_FnDrained.bits12 : waitsOk laws_FnDrained.T12.2 laws_FnDrained.B12 = true := by kernel_rfl
def laws_FnDrained.T20 : Bool × List (List Nat × List Nat) := (true, [([], []), ([], []), ([1], [1]), ([], []), ([2, 3], [2, 3]), ([4], [4]), ([5], [5]), ([0, 6], [0, 6]), ([7], [7]), ([8, 7], [8]), ([9], [9]), ([9], [9]), ([11, 9], [9, 11]), ([9], [9]), ([12, 13, 9], [9, 12, 13]), ([14, 9], [9, 14]), ([15, 9], [9, 15]), ([10, 16, 9, 9], [9, 10, 16]), ([17, 9], [9, 17]), ([18, 9], [9, 18]), ([9], [9]), ([20, 9], [9, 20]), ([9], [9]), ([21, 22, 9], [9, 21, 22]), ([23, 9], [9, 23]), ([24, 9], [9, 24]), ([19, 25, 9], [9, 19, 25]), ([9, 26], [9, 26])])
def laws_FnDrained.B20 : List Nat := [0, 0, 2, 0, 14, 30, 62, 127, 255, 511, 1023, 1023, 3071, 1023, 15359, 31743, 64511, 131071, 262143, 524287, 1023, 1049599, 1023, 7341055, 15729663, 32506879, 67108863, 134217727]
theorem laws_FnDrained.tab20 : rtab .any (opsOf Try.f7 20) = laws_FnDrained.T20 := by kernel_rfl
theorem laws_FnDrained.bits20 : waitsOk laws_FnDrained.T20.2 laws_FnDrained.B20 = true := by kernel_rfl
set_option maxHeartbeats 8000000 in
set_option maxRecDepth 100000 in
theorem laws_FnDrained.calls (k : Nat) (A0 : Option Addr) (c0 : Nat) (l0 : List Int) (r : Bool) (w : World) (hr0 : Kd.C (Kd.int .u8) w A0 l0.length l0) (hc0 : l0.length ≤ c0) (h : laws_FnDrained.f k l0 = some r) :
  Calls Try.prog 7 #[J A0 l0.length c0] w fun e w' => e = .returned (.bool r) ∧ Below w.heap.size w w' := by
 have hu31 := Try.underlying31
 have hu53 := Try.underlying53
 have hu38 := Try.underlying38
 have HR0 := am hr0
 have HC0 := am hc0
 clear hr0 hc0
 have HB := am (Below.refl w.heap.size w)
 have H : ((laws_lwBig.f l0).bind fun t432 => (if t432 = true then (some true) else (laws_FnDrained.rest k l0))) = some r := h
 clear h
 replace H := Option.bind_eq_some_iff.mp H
 obtain ⟨t432, A20, H⟩ := H
 replace H : (if t432 = true then (some true) else (laws_FnDrained.rest k l0)) = some r := H
 have A2 := am A20
 clear A20
 by_cases c3 : t432 = true
 ·subst c3
  have H1 : (some true) = some r := by rw [if_pos rfl] at H; exact H
  clear H
  have H := H1
  clear H1
  obtain rfl := Option.some.inj H
  go_enter Try.func7, Try.ntmps7
  go_wp2_with (first | ((with_reducible refine gate_callee (f := 30) rfl ?_); refine goesL_ (some 12) rfl rfl Try.func30 (by kernel_rfl) rfl #[J A0 l0.length c0] rfl (by (try simp only [List.map_toArray, List.map_cons, List.map_nil]); first | done | rfl) ?_; (with_reducible refine (laws_lwBig.calls _ _ l0 true _ ?side1 ?side2 A2.out).mono ?_); (case side1 => repeat (first | exact HR0.out | (with_reducible refine ca ?_ _) | (with_reducible refine cN ?_ _) | (with_reducible refine cd1 ?_))); (case side2 => exact HC0.out); rintro e w' ⟨rfl, ⟨nd, rfl⟩⟩; refine ⟨_, rfl, ?_⟩))
  go_ret
  exact ⟨by first | rfl | (simp [errW_none, errW_some] <;> rfl) | (simp [*, errW_none, errW_some] <;> rfl), by repeat (first | (with_reducible first | exact HB.out | apply pa | apply pN | apply p1) | exact HB.out)⟩
 ·replace c3 := Bool.eq_false_iff.mpr c3
  subst c3
  have H1 : laws_FnDrained.rest k l0 = some r := by rw [if_neg Bool.false_ne_true] at H; exact H
  clear H
  obtain ⟨hBy, HALL0, hr⟩ := laws_FnDrained.rest_some H1
  have hsm := laws_FnDrained.small A2.out
  have HALL := am HALL0
  clear H1 HALL0
  go_enter Try.func7, Try.ntmps7
  go_wp2_with ((with_reducible refine gate_callee (f := 30) rfl ?_); refine goesL_ (some 12) rfl rfl Try.func30 (by kernel_rfl) rfl #[J A0 l0.length c0] rfl (by (try simp only [List.map_toArray, List.map_cons, List.map_nil]); first | done | rfl) ?_; (with_reducible refine (laws_lwBig.calls _ _ l0 false _ ?side1 ?side2 A2.out).mono ?_); (case side1 => repeat (first | exact HR0.out | (with_reducible refine ca ?_ _) | (with_reducible refine cN ?_ _) | (with_reducible refine cd1 ?_))); (case side2 => exact HC0.out); rintro e w' ⟨rfl, ⟨nd, rfl⟩⟩; refine ⟨_, rfl, ?_⟩)
  refine (spec_DrawSharesFor.cf A0 c0 l0 _ ?side1 HC0.out hBy hsm).mono ?_
  (case side1 => repeat (first | exact HR0.out | (with_reducible refine ca ?_ _) | (with_reducible refine cN ?_ _) | (with_reducible refine cd1 ?_)))
  rintro e w9 ⟨t433, v435, v438, t434, t437, t440, rfl, ⟨ho0, ho1, hq1, hq2, hq3⟩, hb⟩
  (have N0 := am (rw1 ho0 (bz (by repeat (first | (with_reducible first | exact HB.out | apply pa | apply pN | apply p1) | exact HB.out)))); have N1 := am (rw1 ho1 (bz (by repeat (first | (with_reducible first | exact HB.out | apply pa | apply pN | apply p1) | exact HB.out)))); have N2 := am (bp (by repeat (first | (with_reducible first | exact HB.out | apply pa | apply pN | apply p1) | exact HB.out)) hb); clear HB; have O436 := N0; have O439 := N1; have HB := N2; clear N0 N1 N2; (try clear hb); (try clear hb2); (try clear hk); (try clear hi); (try clear ho0); (try clear ho1))
  have H : ((impl_SharesFor.f t433 t434 t437 t440).bind fun bt442 => (if bt442.1 = 0 then (if 0 ≤ t440 then (if t440 < (t437.length : Int) then (laws_FnDrained.l0 k 0 ((rd_T64 t437 t440).f3) 0 t433 t434 t437 bt442.1 bt442.2) else (none)) else (none)) else ((spec_SharesFor.f t433 t434 t437 t440).bind fun bt447 => (some (bt447.1 == bt442.1))))) = some r := by rw [hr]; exact HALL.out t433 t434 t437 t440 hq1 hq2 hq3
  clear hr HALL hq1 hq2 hq3 hBy hsm
  replace H := Option.bind_eq_some_iff.mp H
  obtain ⟨⟨t442, t443⟩, A50, H⟩ := H
  replace H : (if t442 = 0 then (if 0 ≤ t440 then (if t440 < (t437.length : Int) then (laws_FnDrained.l0 k 0 ((rd_T64 t437 t440).f3) 0 t433 t434 t437 t442 t443) else (none)) else (none)) else ((spec_SharesFor.f t433 t434 t437 t440).bind fun bt447 => (some (bt447.1 == t442)))) = some r := H
  have A5 := am A50
  clear A50
  by_cases c6 : t442 = 0
  ·rw [if_pos c6] at H
   have c6b0 : (t442 == 0) = true := beq_iff_eq.mpr c6
   have c6b1 : (t442 != 0) = false := bne_eq_false_iff_eq.mpr c6
   clear c6
   by_cases c7 : 0 ≤ t440
   ·rw [if_pos c7] at H
    have c7b0 : decide (0 ≤ t440) = true := decide_eq_true c7
    clear c7
    by_cases c8 : t440 < (t437.length : Int)
    ·rw [if_pos c8] at H
     have c8b0 : decide (t440 < (t437.length : Int)) = true := decide_eq_true c8
     clear c8
     have H' := am H
     clear H
     go_wp2_with (first | ((with_reducible refine gate_callee (f := 30) rfl ?_); refine goesL_ (some 12) rfl rfl Try.func30 (by kernel_rfl) rfl #[J A0 l0.length c0] rfl (by (try simp only [List.map_toArray, List.map_cons, List.map_nil]); first | done | rfl) ?_; (with_reducible refine (laws_lwBig.calls _ _ l0 false _ ?side1 ?side2 A2.out).mono ?_); (case side1 => repeat (first | exact HR0.out | (with_reducible refine ca ?_ _) | (with_reducible refine cN ?_ _) | (with_reducible refine cd1 ?_))); (case side2 => exact HC0.out); rintro e w' ⟨rfl, ⟨nd, rfl⟩⟩; refine ⟨_, rfl, ?_⟩) | ((with_reducible refine gate_callee (f := 31) rfl ?_); refine goesL_ (some 15) rfl rfl Try.func31 (by kernel_rfl) rfl #[J A0 l0.length c0] rfl (by (try simp only [List.map_toArray, List.map_cons, List.map_nil]); first | done | rfl) ?_; (with_reducible refine (spec_DrawSharesFor.calls k _ _ l0 t433 t434 t437 t440 _ ?side1 ?side2 A4.out).mono ?_); (case side1 => repeat (first | exact HR0.out | (with_reducible refine ca ?_ _) | (with_reducible refine cN ?_ _) | (with_reducible refine cd1 ?_))); (case side2 => exact HC0.out); rintro e w9 ⟨v435, v438, rfl, ho0, ho1, hb⟩; refine ⟨_, rfl, ?_⟩; have N0 := am (rw1 ho0 (bz (by repeat (first | (with_reducible first | exact HB.out | apply pa | apply pN | apply p1) | exact HB.out)))); have N1 := am (rw1 ho1 (bz (by repeat (first | (with_reducible first | exact HB.out | apply pa | apply pN | apply p1) | exact HB.out)))); have N2 := am (bp (by repeat (first | (with_reducible first | exact HB.out | apply pa | apply pN | apply p1) | exact HB.out)) hb); clear HB; have O436 := N0; have O439 := N1; have HB := N2; clear N0 N1 N2; (try clear hb); (try clear hb2); (try clear hk); (try clear hi); (try clear ho0); (try clear ho1)) | ((with_reducible refine gate_dst (N := 3) rfl ?_); refine box_event ?hg (N := 3) ?hd (cs := #[I q 0, .slice none 0 0, .slice none 0 0]) (t := 31) ?hr ?_; (case hd => rfl); (case hg => rfl); (case hr => first | (go_simp; done) | (go_simp; rfl)); intro g441 hg w10 hbox hb; have N0 := am (rb (by (with_reducible repeat (first | apply ra | apply rN | apply rd1)); exact O436.out) hb); have N1 := am (rb (by (with_reducible repeat (first | apply ra | apply rN | apply rd1)); exact O439.out) hb); have N2 := am (bp (by repeat (first | (with_reducible first | exact HB.out | apply pa | apply pN | apply p1) | exact HB.out)) hb); have N3 := am (hbox); have N4 := am ((by rw [hg]; exact (bz (by repeat (first | (with_reducible first | exact HB.out | apply pa | apply pN | apply p1) | exact HB.out))) : w.heap.size ≤ g441)); have N5 := am ((by rw [hg]; exact (bz (by repeat (first | (with_reducible first | exact HB.out | apply pa | apply pN | apply p1) | exact HB.out))) : w.heap.size ≤ g441)); clear O436 O439 HB; have O436 := N0; have O439 := N1; have HB := N2; have B441 := N3; have GW441 := N4; have E441 := N5; clear N0 N1 N2 N3 N4 N5 hb hbox hg; have hcz11_0 : w10.cell? ⟨g441, 0, none⟩ = some (I q 0) := (bc B441.out 0).trans rfl; have hcz11_1 : w10.cell? ⟨g441, 1, none⟩ = some (.slice none 0 0) := (bc B441.out 1).trans rfl; have hcz11_2 : w10.cell? ⟨g441, 2, none⟩ = some (.slice none 0 0) := (bc B441.out 2).trans rfl; have hfz11_0 := bf B441.out 0; have hfz11_1 := bf B441.out 1; have hfz11_2 := bf B441.out 2; obtain ⟨Ao12, co12, eo12⟩ := Kd.R_slice O436.out; subst eo12; obtain ⟨Ao13, co13, eo13⟩ := Kd.R_slice O439.out; subst eo13) | ((with_reducible refine gate_callee (f := 25) rfl ?_); refine goesL_ (some 20) rfl rfl Try.func25 (by kernel_rfl) rfl #[.agg #[I q t433, J Ao12 t434.length co12, J Ao13 t437.length co13], I q t440] rfl (by (try simp only [List.map_toArray, List.map_cons, List.map_nil]); first | done | rfl) ?_; (with_reducible refine (impl_SharesFor.calls t433 _ _ t434 _ _ t437 t440 t442 t443 _ ?side1 ?side2 ?side3 ?side4 A5.out).mono ?_); (case side1 => refine (Kd.R_reads' (e := 36) (base := w.heap.size) (ok := fun k_ => True) (n := t434.length) (c := co12) ?_).2.2; exact (by (with_reducible repeat (first | apply ra | apply rN | apply rd1)); exact (Kd.R_mono (rf (p := ⟨g441, 2, none⟩) (rf (p := ⟨g441, 1, none⟩) (rf (p := ⟨g441, 0, none⟩) (Kd.R_types O436.out B441.out (by decide)) (fun _ hk => hk.2) (I q t433)) (fun _ hk => hk.2) (J Ao12 t434.length co12)) (fun _ hk => hk.2) (J Ao13 t437.length co13)) (fun _ h_ => h_.1)))); (case side2 => exact (Kd.R_reads' O436.out).2.1); (case side3 => refine (Kd.R_reads' (e := 64) (base := w.heap.size) (ok := fun k_ => True) (n := t437.length) (c := co13) ?_).2.2; exact (by (with_reducible repeat (first | apply ra | apply rN | apply rd1)); exact (Kd.R_mono (rf (p := ⟨g441, 2, none⟩) (rf (p := ⟨g441, 1, none⟩) (rf (p := ⟨g441, 0, none⟩) (Kd.R_types O439.out B441.out (by decide)) (fun _ hk => hk.2) (I q t433)) (fun _ hk => hk.2) (J Ao12 t434.length co12)) (fun _ hk => hk.2) (J Ao13 t437.length co13)) (fun _ h_ => h_.1)))); (case side4 => exact (Kd.R_reads' O439.out).2.1); rintro e w14 ⟨v444, rfl, ho0, hb⟩; refine ⟨_, rfl, ?_⟩; have N0 := am (rb (by (with_reducible repeat (first | apply ra | apply rN | apply rd1)); exact (Kd.R_mono (rf (p := ⟨g441, 2, none⟩) (rf (p := ⟨g441, 1, none⟩) (rf (p := ⟨g441, 0, none⟩) (Kd.R_types O436.out B441.out (by decide)) (fun _ hk => hk.2) (I q t433)) (fun _ hk => hk.2) (J Ao12 t434.length co12)) (fun _ hk => hk.2) (J Ao13 t437.length co13)) (fun _ h_ => h_.1))) hb); have N1 := am (rb (by (with_reducible repeat (first | apply ra | apply rN | apply rd1)); exact (Kd.R_mono (rf (p := ⟨g441, 2, none⟩) (rf (p := ⟨g441, 1, none⟩) (rf (p := ⟨g441, 0, none⟩) (Kd.R_types O439.out B441.out (by decide)) (fun _ hk => hk.2) (I q t433)) (fun _ hk => hk.2) (J Ao12 t434.length co12)) (fun _ hk => hk.2) (J Ao13 t437.length co13)) (fun _ h_ => h_.1))) hb); have N2 := am (rw1 ho0 (bz (by repeat (first | (with_reducible first | exact HB.out | apply pa | apply pN | apply p1 | refine bs ?_ E441.out) | exact HB.out)))); have N3 := am (bb (g := g441) (o := .cells #[I q t433, J Ao12 t434.length co12, J Ao13 t437.length co13] 31 (0, 0)) (by (with_reducible repeat (first | apply bN | apply bd | apply ba)); exact pu3i B441.out) hb); have N4 := am (bp (by repeat (first | (with_reducible first | exact HB.out | apply pa | apply pN | apply p1 | refine bs ?_ E441.out) | exact HB.out)) hb); clear O436 O439 B441 HB; have O436 := N0; have O439 := N1; have O445 := N2; have B441 := N3; have HB := N4; clear N0 N1 N2 N3 N4; (try clear hb); (try clear hb2); (try clear hk); (try clear hi); (try clear ho0)) | ((with_reducible refine gate_dst (N := 5) rfl ?_); refine box_event ?hg (N := 5) ?hd (cs := #[I q 0, .slice none 0 0]) (t := 53) ?hr ?_; (case hd => rfl); (case hg => rfl); (case hr => first | (go_simp; done) | (go_simp; rfl)); intro g446 hg w15 hbox hb; have N0 := am (rb (by (with_reducible repeat (first | apply ra | apply rN | apply rd1)); exact O436.out) hb); have N1 := am (rb (by (with_reducible repeat (first | apply ra | apply rN | apply rd1)); exact O439.out) hb); have N2 := am (rb (by (with_reducible repeat (first | apply ra | apply rN | apply rd1)); exact O445.out) hb); have N3 := am (bb (g := g441) (by (with_reducible repeat (first | apply bN | apply bd | apply ba)); exact B441.out) hb); have N4 := am (bp (by repeat (first | (with_reducible first | exact HB.out | apply pa | apply pN | apply p1 | refine bs ?_ E441.out) | exact HB.out)) hb); have N5 := am (hbox); have N6 := am ((by rw [hg]; exact (bz (by repeat (first | (with_reducible first | exact HB.out | apply pa | apply pN | apply p1 | refine bs ?_ E441.out) | exact HB.out))) : w.heap.size ≤ g446)); have N7 := am ((by rw [hg]; exact (bz (by repeat (first | (with_reducible first | exact HB.out | apply pa | apply pN | apply p1 | refine bs ?_ E441.out) | exact HB.out))) : w.heap.size ≤ g446)); have N8 := am ((by rw [hg]; exact Nat.ne_of_lt (bl (g := g441) (by (with_reducible repeat (first | apply bN | apply bd | apply ba)); exact B441.out)) : g441 ≠ g446)); have N9 := am ((by rw [hg]; exact Nat.ne_of_gt (bl (g := g441) (by (with_reducible repeat (first | apply bN | apply bd | apply ba)); exact B441.out)) : g446 ≠ g441)); clear O436 O439 O445 B441 HB; have O436 := N0; have O439 := N1; have O445 := N2; have B441 := N3; have HB := N4; have B446 := N5; have GW446 := N6; have E446 := N7; have NB441_446 := N8; have NB446_441 := N9; clear N0 N1 N2 N3 N4 N5 N6 N7 N8 N9 hb hbox hg; have hnb16 := NB446_441.out; have hnc16 := NB441_446.out; have hcz17_0 : w15.cell? ⟨g446, 0, none⟩ = some (I q 0) := (bc B446.out 0).trans rfl; have hcz17_1 : w15.cell? ⟨g446, 1, none⟩ = some (.slice none 0 0) := (bc B446.out 1).trans rfl; have hfz17_0 := bf B446.out 0; have hfz17_1 := bf B446.out 1; obtain ⟨Ao18, co18, eo18⟩ := Kd.R_slice O445.out; subst eo18) | ((with_reducible refine gate_store (t := 53) (p := 5) rfl ?_); refine store_event (t := 53) (p := 5) (v := ?vo_w19) (w1 := ((w15.setCell ⟨g446, 0, none⟩ (I q t442)).setCell ⟨g446, 1, none⟩ (J Ao18 t443.length co18))) ?hg ?ho ?hn ?hr ?_; (case ho => rfl); (case hg => rfl); (case hn => rfl); (case hr => first | (go_simp; done) | (go_simp; rfl)); intro w19 hw; have N0 : Aside0 (Kd.R k36 36 w19 w.heap.size (fun _ => True) (J Ao12 t434.length co12) t434) := ⟨(by rw [hw]; exact (by (with_reducible repeat (first | apply ra | apply rN | apply rd1)); exact Kd.R_mono (rf (p := ⟨g446, 1, none⟩) (rf (p := ⟨g446, 0, none⟩) (Kd.R_types O436.out B446.out (by decide)) (fun _ hk => hk.2) (I q t442)) (fun _ hk => hk.2) (J Ao18 t443.length co18)) (fun _ hk => trivial)))⟩; have N1 : Aside0 (Kd.R k64 64 w19 w.heap.size (fun _ => True) (J Ao13 t437.length co13) t437) := ⟨(by rw [hw]; exact (by (with_reducible repeat (first | apply ra | apply rN | apply rd1)); exact Kd.R_mono (rf (p := ⟨g446, 1, none⟩) (rf (p := ⟨g446, 0, none⟩) (Kd.R_types O439.out B446.out (by decide)) (fun _ hk => hk.2) (I q t442)) (fun _ hk => hk.2) (J Ao18 t443.length co18)) (fun _ hk => trivial)))⟩; have N2 : Aside0 (Kd.R k67 67 w19 w.heap.size (fun _ => True) (J Ao18 t443.length co18) t443) := ⟨(by rw [hw]; exact (by (with_reducible repeat (first | apply ra | apply rN | apply rd1)); exact Kd.R_mono (rf (p := ⟨g446, 1, none⟩) (rf (p := ⟨g446, 0, none⟩) (Kd.R_types O445.out B446.out (by decide)) (fun _ hk => hk.2) (I q t442)) (fun _ hk => hk.2) (J Ao18 t443.length co18)) (fun _ hk => trivial)))⟩; have N3 : Aside0 (w19.heap[g441]? = some (.cells #[I q t433, J Ao12 t434.length co12, J Ao13 t437.length co13] 31 (0, 0))) := ⟨(by rw [hw]; exact (by (iterate 2 ((with_reducible repeat (first | apply bN | apply bd | apply ba)); refine bq ?_ NB441_446.out _)); (with_reducible repeat (first | apply bN | apply bd | apply ba)); exact B441.out))⟩; have N4 : Aside0 (w19.heap[g446]? = some (.cells #[I q t442, J Ao18 t443.length co18] 53 (0, 0))) := ⟨(by rw [hw]; exact (by (with_reducible repeat (first | apply bN | apply bd | apply ba)); exact pu2i B446.out))⟩; have N5 : Aside0 (Below w.heap.size w w19) := ⟨(by rw [hw]; exact (by repeat (first | (with_reducible first | exact HB.out | apply pa | apply pN | apply p1 | refine bs ?_ E441.out | refine bs ?_ E446.out) | exact HB.out)))⟩; clear hw O436 O439 O445 B441 B446 HB; have O436 := N0; have O439 := N1; have O445 := N2; have B441 := N3; have B446 := N4; have HB := N5; clear N0 N1 N2 N3 N4 N5; have hcz20_0 : w19.cell? ⟨g446, 0, none⟩ = some (I q t442) := (bc B446.out 0).trans rfl; have hcz20_1 : w19.cell? ⟨g446, 1, none⟩ = some (J Ao18 t443.length co18) := (bc B446.out 1).trans rfl; have hfz20_0 := bf B446.out 0; have hfz20_1 := bf B446.out 1; have hcz21_0 : w19.cell? ⟨g441, 0, none⟩ = some (I q t433) := (bc B441.out 0).trans rfl; have hcz21_1 : w19.cell? ⟨g441, 1, none⟩ = some (J Ao12 t434.length co12) := (bc B441.out 1).trans rfl; have hcz21_2 : w19.cell? ⟨g441, 2, none⟩ = some (J Ao13 t437.length co13) := (bc B441.out 2).trans rfl; have hfz21_0 := bf B441.out 0; have hfz21_1 := bf B441.out 1; have hfz21_2 := bf B441.out 2; have p451 : 0 ≤ (t440 : Int) := of_decide_eq_true (by first | (with_reducible assumption) | assumption); have q451 : t440 < (t437.length : Int) := of_decide_eq_true (by first | (with_reducible assumption) | assumption); obtain ⟨ad451, A451_3, c451_3, e451, hx451_0, hx451_1, hx451_2, hx451_3, hl451_3, hi451_3⟩ := at_T64 (Kd.R_reads' O439.out).2.2 t440 p451 q451; cases e451; obtain ⟨ce451, hce451, hMe451, hcc451⟩ := Kd.R_get O439.out z64 t440 p451 (by first | exact q451 | exact of_decide_eq_true (by first | (with_reducible assumption) | assumption) | (have e_ := (Kd.R_reads' O439.out).1; omega)); obtain ⟨ve451_3, rfl, ge451_3⟩ := k64_openM hMe451; have hv451_3 := hcc451 3 _ rfl; rw [add_field _ _ 3 (by omega)] at hv451_3; replace hv451_3 := Option.some.inj (hv451_3.symm.trans hx451_3); rw [hv451_3] at ge451_3; have HL451_3 := am (show Kd.R (Kd.int .i64) 2 _ _ _ _ ((rd_T64 t437 t440).f3) from ge451_3); clear hv451_3 ge451_3 hcc451 hce451; have HR451_3 := am hi451_3; have HC451_3 := am hl451_3; clear hi451_3 hl451_3; replace p451 := eq_true p451; replace q451 := eq_true q451))
     have HBW := HB
     clear HB
     have HB := am (Below.refl w19.heap.size w19)
     go_loopg [6, 8] k (fun kq v6 v8 w' => ∃ (x6_1 : Int) (x8_1 : Int), v6 = I q x6_1 ∧ v8 = I q x8_1 ∧ Aside0 (laws_FnDrained.l0 kq x6_1 ((rd_T64 t437 t440).f3) x8_1 t433 t434 t437 t442 t443 = some r) ∧ Aside0 (kq ≤ k) ∧ Aside0 (Kd.R k36 36 w' w.heap.size (fun _ => True) (J Ao12 t434.length co12) t434) ∧ Aside0 (Kd.R k64 64 w' w.heap.size (fun _ => True) (.slice (some ad451) t437.length co13) t437) ∧ Aside0 (Kd.R k67 67 w' w.heap.size (fun _ => True) (J Ao18 t443.length co18) t443) ∧ Aside0 (w'.heap[g441]? = some (.cells #[I q t433, (J Ao12 t434.length co12), (.slice (some ad451) t437.length co13)] 31 (0, 0))) ∧ Aside0 (w'.heap[g446]? = some (.cells #[I q t442, (J Ao18 t443.length co18)] 53 (0, 0))) ∧ Aside0 (Below w19.heap.size w19 w'))
     case atStart => exact ⟨(0), (0), (by first | rfl | (simp; done) | (simp [*]; done)), (by first | rfl | (simp; done) | (simp [*]; done)), H', ⟨Nat.le_refl _⟩, ⟨by (with_reducible repeat (first | apply ra | apply rN | apply rd1)); exact O436.out⟩, ⟨by (with_reducible repeat (first | apply ra | apply rN | apply rd1)); exact O439.out⟩, ⟨by (with_reducible repeat (first | apply ra | apply rN | apply rd1)); exact O445.out⟩, ⟨by (with_reducible repeat (first | apply bN | apply bd | apply ba)); exact B441.out⟩, ⟨by (with_reducible repeat (first | apply bN | apply bd | apply ba)); exact B446.out⟩, ⟨by repeat (first | (with_reducible first | exact HB.out | apply pa | apply pN | apply p1 | refine bs ?_ E441.out | refine bs ?_ E446.out) | exact HB.out)⟩⟩
     case round =>
      clear H'
      try clear c1
      try clear c2
      try clear p2
      try clear c3
      try clear c4
      try clear p4
      try clear q4
      try clear hx4
      try clear c6
      try clear c6b0
      try clear c6b1
      try clear c7
      try clear c7b0
      try clear c8
      try clear c8b0
      try clear c16
      try clear hcz11_0
      try clear hcz11_1
      try clear hcz11_2
      try clear hcz17_0
      try clear hcz17_1
      try clear hcz20_0
      try clear hcz20_1
      try clear hcz21_0
      try clear hcz21_1
      try clear hcz21_2
      try clear hfz11_0
      try clear hfz11_1
      try clear hfz11_2
      try clear hfz17_0
      try clear hfz17_1
      try clear hfz20_0
      try clear hfz20_1
      try clear hfz21_0
      try clear hfz21_1
      try clear hfz21_2
      try clear hx451_0
      try clear hx451_1
      try clear hx451_2
      try clear hx451_3
      try clear p451
      try clear q451
      obtain ⟨x6_1, x8_1, rfl, rfl, HA, HK1, o0, o1, o2, B441, B446, HB⟩ := hrel
      cases gk with
      | zero => exact absurd HA.out (by simp [laws_FnDrained.l0])
      | succ k1 =>
       have H := HA.out
       clear HA
       simp only [laws_FnDrained.l0] at H
       by_cases c22 : x8_1 < (((rd_T64 t437 t440).f3).length : Int)
       ·rw [if_pos c22] at H
        have c22b0 : decide (x8_1 < (((rd_T64 t437 t440).f3).length : Int)) = true := decide_eq_true c22
        clear c22
        by_cases c23 : 0 ≤ x8_1
        ·rw [if_pos c23] at H
         have c23b0 : decide (0 ≤ x8_1) = true := decide_eq_true c23
         clear c23
         replace H := Option.bind_eq_some_iff.mp H
         obtain ⟨⟨t453, t454, t455, t456, t457, t458⟩, A240, H⟩ := H
         replace H : (if t453 = 0 then (if t458 = true then (if t457 = 1 then (laws_FnDrained.l0 k1 (wrap64 (x6_1 + 1)) ((rd_T64 t437 t440).f3) (wrap64 (x8_1 + 1)) t433 t434 t437 t442 t443) else (laws_FnDrained.l0 k1 x6_1 ((rd_T64 t437 t440).f3) (wrap64 (x8_1 + 1)) t433 t434 t437 t442 t443)) else (laws_FnDrained.l0 k1 x6_1 ((rd_T64 t437 t440).f3) (wrap64 (x8_1 + 1)) t433 t434 t437 t442 t443)) else none) = some r := H
         have A24 := am A240
         clear A240
         by_cases c25 : t453 = 0
         ·rw [if_pos c25] at H
          have c25b0 : (t453 == 0) = true := beq_iff_eq.mpr c25
          have c25b1 : (t453 != 0) = false := bne_eq_false_iff_eq.mpr c25
          clear c25
          by_cases c26 : t458 = true
          ·subst c26
           have H1 : (if t457 = 1 then (laws_FnDrained.l0 k1 (wrap64 (x6_1 + 1)) ((rd_T64 t437 t440).f3) (wrap64 (x8_1 + 1)) t433 t434 t437 t442 t443) else (laws_FnDrained.l0 k1 x6_1 ((rd_T64 t437 t440).f3) (wrap64 (x8_1 + 1)) t433 t434 t437 t442 t443)) = some r := by rw [if_pos rfl] at H; exact H
           clear H
           have H := H1
           clear H1
           by_cases c27 : t457 = 1
           ·rw [if_pos c27] at H
            have c27b0 : (t457 == 1) = true := beq_iff_eq.mpr c27
            have c27b1 : (t457 != 1) = false := bne_eq_false_iff_eq.mpr c27
            clear c27
            have H' := am H
            clear H
            try go_wp2
            have N0 := am (rd1 o0.out)
            have N1 := am (rd1 o1.out)
            have N2 := am (rd1 o2.out)
            have N3 := am (bd B441.out)
            have N4 := am (bd B446.out)
            have N5 := am (p1 HB.out)
            clear o0
            clear o1
            clear o2
            clear B441
            clear B446
            clear HB
            have o0 := N0
            have o1 := N1
            have o2 := N2
            have B441 := N3
            have B446 := N4
            have HB := N5
            clear N0 N1 N2 N3 N4 N5
            have p452 : 0 ≤ (x8_1 : Int) := of_decide_eq_true (by first | (with_reducible assumption) | assumption)
            have q452 : x8_1 < (((rd_T64 t437 t440).f3).length : Int) := of_decide_eq_true (by first | (with_reducible assumption) | assumption)
            obtain ⟨ad452, e452, hx452_0⟩ := Kd.at_int HR451_3.out x8_1 p452 q452
            have hw452_0 := hx452_0
            cases e452
            replace hx452_0 := (HB.out.cell (World.block_lt_of_cell? w19 _ hx452_0)).trans hx452_0
            replace p452 := eq_true p452
            replace q452 := eq_true q452
            refine start_ (n := 8) (S := fun w' => w'.cell? ⟨g441, 0, none⟩ = some (I q t433) ∧ w'.cell? ⟨g441, 1, none⟩ = some (J Ao12 t434.length co12) ∧ w'.cell? ⟨g441, 2, none⟩ = some (.slice (some ad451) t437.length co13) ∧ w'.cell? (ad452.add (x8_1).toNat) = some (I q (rd ((rd_T64 t437 t440).f3) x8_1))) (ds := []) (Mk 8 0) (by kernel_rfl) rfl rfl ⟨(bc B441.out 0).trans rfl, (bc B441.out 1).trans rfl, (bc B441.out 2).trans rfl, ((HB.out.cell (World.block_lt_of_cell? w19 _ hw452_0)).trans hw452_0)⟩ (fun hHeld => ?_); refine with_tabW laws_FnDrained.tab12 laws_FnDrained.bits12 (fun HT_ HW_ => ?_)
            generalize wr.drew = w28 at o0 o1 o2 B441 B446 HB hx452_0 hHeld ⊢
            refine pure_ (i := 1) (N := some 44) (v := ?_) (a' := ?_) (Mk 8 2) rfl rfl (any_of HT_.out (by kernel_rfl)) (fun _ _ _ h => h) (Or.inl ⟨by rfl, ?_⟩) ?_ ?_
            rotate_left
            ·intro w'
             first | (go_simp; with_reducible rfl) | (go_simp; (try unfold Instr.field); go_simp; (try simp only [asAgg]); go_simp; with_reducible rfl)
            rotate_left
            ·simp only [Act.put, List.setIfInBounds_toArray, List.set_cons_zero, List.set_cons_succ, i64_w, i32_w]
             rfl
            refine pure_ (i := 2) (N := some 45) (v := ?_) (a' := ?_) (Mk 8 6) rfl rfl (any_of HT_.out (by kernel_rfl)) (fun _ _ _ h => h) (Or.inl ⟨by rfl, ?_⟩) ?_ ?_
            rotate_left
            ·intro w'
             first | (go_simp; with_reducible rfl) | (go_simp; (try unfold Instr.field); go_simp; (try simp only [asAgg]); go_simp; with_reducible rfl)
            rotate_left
            ·simp only [Act.put, List.setIfInBounds_toArray, List.set_cons_zero, List.set_cons_succ, i64_w, i32_w]
             rfl
            refine pure_ (i := 3) (N := some 46) (v := ?_) (a' := ?_) (Mk 8 14) rfl rfl (any_of HT_.out (by kernel_rfl)) (fun _ _ _ h => h) (Or.inl ⟨by rfl, ?_⟩) ?_ ?_
            rotate_left
            ·intro w'
             first | (go_simp; with_reducible rfl) | (go_simp; (try unfold Instr.field); go_simp; (try simp only [asAgg]); go_simp; with_reducible rfl)
            rotate_left
            ·simp only [Act.put, List.setIfInBounds_toArray, List.set_cons_zero, List.set_cons_succ, i64_w, i32_w]
             rfl
            refine take_ (i := 0) (N := some 43) (v := ?_) (a' := ?_) (Mk 8 15) rfl rfl (take_ofW HT_.out HW_.out (by kernel_rfl)) (fun _ _ _ h => h) (Or.inl ⟨by rfl, ?_⟩) hHeld ?_ ?_
            rotate_left
            ·rintro w' ⟨s0, s1, s2, s3⟩
             go_simp
             with_reducible rfl
            rotate_left
            ·simp only [Act.put, List.setIfInBounds_toArray, List.set_cons_zero, List.set_cons_succ, i64_w, i32_w]
             rfl
            refine take_ (i := 4) (N := some 47) (v := ?_) (a' := ?_) (Mk 8 31) rfl rfl (take_ofW HT_.out HW_.out (by kernel_rfl)) (fun _ _ _ h => h) (Or.inl ⟨by rfl, ?_⟩) hHeld ?_ ?_
            rotate_left
            ·rintro w' ⟨s0, s1, s2, s3⟩
             go_simp
             with_reducible rfl
            rotate_left
            ·simp only [Act.put, List.setIfInBounds_toArray, List.set_cons_zero, List.set_cons_succ, i64_w, i32_w]
             rfl
            refine join_ (σ := Nat) 1 (Mk 8 127) (fun s_ => [(48, .agg #[I q t453, I q t454, I q t455, I q t456, I q t457, .bool true]), (9, .pointer (some ⟨s_, 0, none⟩))]) (fun s_ w' => (w'.cell? ⟨g441, 0, none⟩ = some (I q t433) ∧ w'.cell? ⟨g441, 1, none⟩ = some (J Ao12 t434.length co12) ∧ w'.cell? ⟨g441, 2, none⟩ = some (.slice (some ad451) t437.length co13) ∧ w'.cell? (ad452.add (x8_1).toNat) = some (I q (rd ((rd_T64 t437 t440).f3) x8_1))) ∧ (Kd.R k36 36 w' w.heap.size (fun _ => True) (J Ao12 t434.length co12) t434) ∧ (Kd.R k64 64 w' w.heap.size (fun _ => True) (.slice (some ad451) t437.length co13) t437) ∧ (Kd.R k67 67 w' w.heap.size (fun _ => True) (J Ao18 t443.length co18) t443) ∧ (w'.heap[g441]? = some (.cells #[I q t433, J Ao12 t434.length co12, .slice (some ad451) t437.length co13] 31 (0, 0))) ∧ (w'.heap[g446]? = some (.cells #[I q t442, J Ao18 t443.length co18] 53 (0, 0))) ∧ (w'.heap[s_]? = some (.cells #[I q 0, I q 0, I q 0, I q 0, I q 0, .bool false] 38 (0, 0))) ∧ (w19.heap.size ≤ s_) ∧ (w19.heap.size ≤ s_) ∧ (g441 ≠ s_) ∧ (s_ ≠ g441) ∧ (g446 ≠ s_) ∧ (s_ ≠ g446) ∧ (Below w19.heap.size w19 w')) ?_ ?_
            rotate_left
            ·intro hCont
             refine two_ (i := 5) (j := 6) (Ni := some 48) (Nj := some 9) (Mk 8 63) (Mk 8 95) rfl rfl rfl rfl (two_of HT_.out (by kernel_rfl)) (by decide) (by decide) (fun K hK => ?_) (fun K hK => ?_)
             ·skip
              refine goes_ Try.func18 (by kernel_rfl) rfl #[.agg #[I q t433, J Ao12 t434.length co12, .slice (some ad451) t437.length co13], I q (rd ((rd_T64 t437 t440).f3) x8_1)] (by rfl) rfl rfl (by (try simp only [List.map_toArray, List.map_cons, List.map_nil]); first | done | rfl | (simp only [List.length_drop, List.length_take]; rfl)) ?_
              with_reducible refine (impl_BackendAt.calls t433 _ _ t434 _ _ t437 (rd ((rd_T64 t437 t440).f3) x8_1) t453 t454 t455 t456 t457 true _ ?side1 ?side2 ?side3 ?side4 A24.out).mono ?_
              (case side1 => repeat (first | exact (Kd.R_reads' o0.out).2.2 | (with_reducible refine ca ?_ _) | (with_reducible refine cN ?_ _) | (with_reducible refine cd1 ?_)))
              (case side2 => exact (Kd.R_reads' o0.out).2.1)
              (case side3 => repeat (first | exact (Kd.R_reads' o1.out).2.2 | (with_reducible refine ca ?_ _) | (with_reducible refine cN ?_ _) | (with_reducible refine cd1 ?_)))
              (case side4 => exact (Kd.R_reads' o1.out).2.1)
              rintro e w29 ⟨rfl, hb⟩
              refine ⟨_, rfl, ?_⟩
              have N0 := am (rb (by (with_reducible repeat (first | apply ra | apply rN | apply rd1)); exact o0.out) hb)
              have N1 := am (rb (by (with_reducible repeat (first | apply ra | apply rN | apply rd1)); exact o1.out) hb)
              have N2 := am (rb (by (with_reducible repeat (first | apply ra | apply rN | apply rd1)); exact o2.out) hb)
              have N3 := am (bb (g := g441) (by (with_reducible repeat (first | apply bN | apply bd | apply ba)); exact B441.out) hb)
              have N4 := am (bb (g := g446) (by (with_reducible repeat (first | apply bN | apply bd | apply ba)); exact B446.out) hb)
              have N5 := am (bp (by repeat (first | (with_reducible first | exact HB.out | apply pa | apply pN | apply p1 | refine bs ?_ E441.out | refine bs ?_ E446.out) | exact HB.out)) hb)
              clear o0
              clear o1
              clear o2
              clear B441
              clear B446
              clear HB
              have o0 := N0
              have o1 := N1
              have o2 := N2
              have B441 := N3
              have B446 := N4
              have HB := N5
              clear N0 N1 N2 N3 N4 N5
              (try clear hb)
              (try clear hb2)
              (try clear hk)
              (try clear hi)
              refine hK.out _ _ ⟨(bc B441.out 0).trans rfl, (bc B441.out 1).trans rfl, (bc B441.out 2).trans rfl, ((HB.out.cell (World.block_lt_of_cell? w19 _ hw452_0)).trans hw452_0)⟩ (fun hHeld => ?_)
              clear hK K
              refine norm_ (a' := ?_) ?_ ?_
              rotate_left
              ·show Act.put _ (some 48) _ = _
               simp only [Act.put, List.setIfInBounds_toArray, List.set_cons_zero, List.set_cons_succ, i64_w, i32_w]
               rfl
              refine one_ (i := 6) (N := some 9) (Mk 8 127) rfl rfl (one_of HT_.out (by kernel_rfl)) (by decide) (fun K hK => ?_)
              refine box_step ?hg (N := 9) ?hd (cs := #[I q 0, I q 0, I q 0, I q 0, I q 0, .bool false]) (t := 38) ?hr ?_; (case hd => rfl); (case hg => rfl); (case hr => first | (go_simp; done) | (go_simp; rfl))
              intro g459 hg w30 hbox hb
              have N0 := am (rb (by (with_reducible repeat (first | apply ra | apply rN | apply rd1)); exact o0.out) hb)
              have N1 := am (rb (by (with_reducible repeat (first | apply ra | apply rN | apply rd1)); exact o1.out) hb)
              have N2 := am (rb (by (with_reducible repeat (first | apply ra | apply rN | apply rd1)); exact o2.out) hb)
              have N3 := am (bb (g := g441) (by (with_reducible repeat (first | apply bN | apply bd | apply ba)); exact B441.out) hb)
              have N4 := am (bb (g := g446) (by (with_reducible repeat (first | apply bN | apply bd | apply ba)); exact B446.out) hb)
              have N5 := am (bp (by repeat (first | (with_reducible first | exact HB.out | apply pa | apply pN | apply p1 | refine bs ?_ E441.out | refine bs ?_ E446.out) | exact HB.out)) hb)
              have N6 := am (hbox)
              have N7 := am ((by rw [hg]; exact (bz (by repeat (first | (with_reducible first | exact HB.out | apply pa | apply pN | apply p1 | refine bs ?_ E441.out | refine bs ?_ E446.out) | exact HB.out))) : w19.heap.size ≤ g459))
              have N8 := am ((by rw [hg]; exact (bz (by repeat (first | (with_reducible first | exact HB.out | apply pa | apply pN | apply p1 | refine bs ?_ E441.out | refine bs ?_ E446.out) | exact HB.out))) : w19.heap.size ≤ g459))
              have N9 := am ((by rw [hg]; exact Nat.ne_of_lt (bl (g := g441) (by (with_reducible repeat (first | apply bN | apply bd | apply ba)); exact B441.out)) : g441 ≠ g459))
              have N10 := am ((by rw [hg]; exact Nat.ne_of_gt (bl (g := g441) (by (with_reducible repeat (first | apply bN | apply bd | apply ba)); exact B441.out)) : g459 ≠ g441))
              have N11 := am ((by rw [hg]; exact Nat.ne_of_lt (bl (g := g446) (by (with_reducible repeat (first | apply bN | apply bd | apply ba)); exact B446.out)) : g446 ≠ g459))
              have N12 := am ((by rw [hg]; exact Nat.ne_of_gt (bl (g := g446) (by (with_reducible repeat (first | apply bN | apply bd | apply ba)); exact B446.out)) : g459 ≠ g446))
              clear o0
              clear o1
              clear o2
              clear B441
              clear B446
              clear HB
              have o0 := N0
              have o1 := N1
              have o2 := N2
              have B441 := N3
              have B446 := N4
              have HB := N5
              have B459 := N6
              have GW459 := N7
              have E459 := N8
              have NB441_459 := N9
              have NB459_441 := N10
              have NB446_459 := N11
              have NB459_446 := N12
              clear N0 N1 N2 N3 N4 N5 N6 N7 N8 N9 N10 N11 N12
              clear hb hbox hg
              refine hK.out _ _ ⟨(bc B441.out 0).trans rfl, (bc B441.out 1).trans rfl, (bc B441.out 2).trans rfl, ((HB.out.cell (World.block_lt_of_cell? w19 _ hw452_0)).trans hw452_0)⟩ (fun hHeld => ?_)
              clear hK K
              refine norm_ (a' := ?_) ?_ ?_
              rotate_left
              ·show Act.put _ (some 9) _ = _
               simp only [Act.put, List.setIfInBounds_toArray, List.set_cons_zero, List.set_cons_succ, i64_w, i32_w]
               rfl
              exact norm_ (by simp only [putAll, Act.put, List.setIfInBounds_toArray, List.set_cons_zero, List.set_cons_succ]) (hCont (g459) _ ⟨hHeld, (by (with_reducible repeat (first | apply ra | apply rN | apply rd1)); exact o0.out), (by (with_reducible repeat (first | apply ra | apply rN | apply rd1)); exact o1.out), (by (with_reducible repeat (first | apply ra | apply rN | apply rd1)); exact o2.out), (by (with_reducible repeat (first | apply bN | apply bd | apply ba)); exact B441.out), (by (with_reducible repeat (first | apply bN | apply bd | apply ba)); exact B446.out), (by (with_reducible repeat (first | apply bN | apply bd | apply ba)); exact B459.out), GW459.out, E459.out, NB441_459.out, NB459_441.out, NB446_459.out, NB459_446.out, (by repeat (first | (with_reducible first | exact HB.out | apply pa | apply pN | apply p1 | refine bs ?_ E441.out | refine bs ?_ E446.out | refine bs ?_ E459.out) | exact HB.out))⟩)
             ·skip
              refine box_step ?hg (N := 9) ?hd (cs := #[I q 0, I q 0, I q 0, I q 0, I q 0, .bool false]) (t := 38) ?hr ?_; (case hd => rfl); (case hg => rfl); (case hr => first | (go_simp; done) | (go_simp; rfl))
              intro g459 hg w29 hbox hb
              have N0 := am (rb (by (with_reducible repeat (first | apply ra | apply rN | apply rd1)); exact o0.out) hb)
              have N1 := am (rb (by (with_reducible repeat (first | apply ra | apply rN | apply rd1)); exact o1.out) hb)
              have N2 := am (rb (by (with_reducible repeat (first | apply ra | apply rN | apply rd1)); exact o2.out) hb)
              have N3 := am (bb (g := g441) (by (with_reducible repeat (first | apply bN | apply bd | apply ba)); exact B441.out) hb)
              have N4 := am (bb (g := g446) (by (with_reducible repeat (first | apply bN | apply bd | apply ba)); exact B446.out) hb)
              have N5 := am (bp (by repeat (first | (with_reducible first | exact HB.out | apply pa | apply pN | apply p1 | refine bs ?_ E441.out | refine bs ?_ E446.out) | exact HB.out)) hb)
              have N6 := am (hbox)
              have N7 := am ((by rw [hg]; exact (bz (by repeat (first | (with_reducible first | exact HB.out | apply pa | apply pN | apply p1 | refine bs ?_ E441.out | refine bs ?_ E446.out) | exact HB.out))) : w19.heap.size ≤ g459))
              have N8 := am ((by rw [hg]; exact (bz (by repeat (first | (with_reducible first | exact HB.out | apply pa | apply pN | apply p1 | refine bs ?_ E441.out | refine bs ?_ E446.out) | exact HB.out))) : w19.heap.size ≤ g459))
              have N9 := am ((by rw [hg]; exact Nat.ne_of_lt (bl (g := g441) (by (with_reducible repeat (first | apply bN | apply bd | apply ba)); exact B441.out)) : g441 ≠ g459))
              have N10 := am ((by rw [hg]; exact Nat.ne_of_gt (bl (g := g441) (by (with_reducible repeat (first | apply bN | apply bd | apply ba)); exact B441.out)) : g459 ≠ g441))
              have N11 := am ((by rw [hg]; exact Nat.ne_of_lt (bl (g := g446) (by (with_reducible repeat (first | apply bN | apply bd | apply ba)); exact B446.out)) : g446 ≠ g459))
              have N12 := am ((by rw [hg]; exact Nat.ne_of_gt (bl (g := g446) (by (with_reducible repeat (first | apply bN | apply bd | apply ba)); exact B446.out)) : g459 ≠ g446))
              clear o0
              clear o1
              clear o2
              clear B441
              clear B446
              clear HB
              have o0 := N0
              have o1 := N1
              have o2 := N2
              have B441 := N3
              have B446 := N4
              have HB := N5
              have B459 := N6
              have GW459 := N7
              have E459 := N8
              have NB441_459 := N9
              have NB459_441 := N10
              have NB446_459 := N11
              have NB459_446 := N12
              clear N0 N1 N2 N3 N4 N5 N6 N7 N8 N9 N10 N11 N12
              clear hb hbox hg
              refine hK.out _ _ ⟨(bc B441.out 0).trans rfl, (bc B441.out 1).trans rfl, (bc B441.out 2).trans rfl, ((HB.out.cell (World.block_lt_of_cell? w19 _ hw452_0)).trans hw452_0)⟩ (fun hHeld => ?_)
              clear hK K
              refine norm_ (a' := ?_) ?_ ?_
              rotate_left
              ·show Act.put _ (some 9) _ = _
               simp only [Act.put, List.setIfInBounds_toArray, List.set_cons_zero, List.set_cons_succ, i64_w, i32_w]
               rfl
              refine one_ (i := 5) (N := some 48) (Mk 8 127) rfl rfl (one_of HT_.out (by kernel_rfl)) (by decide) (fun K hK => ?_)
              refine goes_ Try.func18 (by kernel_rfl) rfl #[.agg #[I q t433, J Ao12 t434.length co12, .slice (some ad451) t437.length co13], I q (rd ((rd_T64 t437 t440).f3) x8_1)] (by rfl) rfl rfl (by (try simp only [List.map_toArray, List.map_cons, List.map_nil]); first | done | rfl | (simp only [List.length_drop, List.length_take]; rfl)) ?_
              with_reducible refine (impl_BackendAt.calls t433 _ _ t434 _ _ t437 (rd ((rd_T64 t437 t440).f3) x8_1) t453 t454 t455 t456 t457 true _ ?side1 ?side2 ?side3 ?side4 A24.out).mono ?_
              (case side1 => repeat (first | exact (Kd.R_reads' o0.out).2.2 | (with_reducible refine ca ?_ _) | (with_reducible refine cN ?_ _) | (with_reducible refine cd1 ?_)))
              (case side2 => exact (Kd.R_reads' o0.out).2.1)
              (case side3 => repeat (first | exact (Kd.R_reads' o1.out).2.2 | (with_reducible refine ca ?_ _) | (with_reducible refine cN ?_ _) | (with_reducible refine cd1 ?_)))
              (case side4 => exact (Kd.R_reads' o1.out).2.1)
              rintro e w30 ⟨rfl, hb⟩
              refine ⟨_, rfl, ?_⟩
              have N0 := am (rb (by (with_reducible repeat (first | apply ra | apply rN | apply rd1)); exact o0.out) hb)
              have N1 := am (rb (by (with_reducible repeat (first | apply ra | apply rN | apply rd1)); exact o1.out) hb)
              have N2 := am (rb (by (with_reducible repeat (first | apply ra | apply rN | apply rd1)); exact o2.out) hb)
              have N3 := am (bb (g := g441) (by (with_reducible repeat (first | apply bN | apply bd | apply ba)); exact B441.out) hb)
              have N4 := am (bb (g := g446) (by (with_reducible repeat (first | apply bN | apply bd | apply ba)); exact B446.out) hb)
              have N5 := am (bb (g := g459) (by (with_reducible repeat (first | apply bN | apply bd | apply ba)); exact B459.out) hb)
              have N6 := am (bp (by repeat (first | (with_reducible first | exact HB.out | apply pa | apply pN | apply p1 | refine bs ?_ E441.out | refine bs ?_ E446.out | refine bs ?_ E459.out) | exact HB.out)) hb)
              clear o0
              clear o1
              clear o2
              clear B441
              clear B446
              clear B459
              clear HB
              have o0 := N0
              have o1 := N1
              have o2 := N2
              have B441 := N3
              have B446 := N4
              have B459 := N5
              have HB := N6
              clear N0 N1 N2 N3 N4 N5 N6
              (try clear hb)
              (try clear hb2)
              (try clear hk)
              (try clear hi)
              refine hK.out _ _ ⟨(bc B441.out 0).trans rfl, (bc B441.out 1).trans rfl, (bc B441.out 2).trans rfl, ((HB.out.cell (World.block_lt_of_cell? w19 _ hw452_0)).trans hw452_0)⟩ (fun hHeld => ?_)
              clear hK K
              refine norm_ (a' := ?_) ?_ ?_
              rotate_left
              ·show Act.put _ (some 48) _ = _
               simp only [Act.put, List.setIfInBounds_toArray, List.set_cons_zero, List.set_cons_succ, i64_w, i32_w]
               rfl
              exact norm_ (by simp only [putAll, Act.put, List.setIfInBounds_toArray, List.set_cons_zero, List.set_cons_succ]) (hCont (g459) _ ⟨hHeld, (by (with_reducible repeat (first | apply ra | apply rN | apply rd1)); exact o0.out), (by (with_reducible repeat (first | apply ra | apply rN | apply rd1)); exact o1.out), (by (with_reducible repeat (first | apply ra | apply rN | apply rd1)); exact o2.out), (by (with_reducible repeat (first | apply bN | apply bd | apply ba)); exact B441.out), (by (with_reducible repeat (first | apply bN | apply bd | apply ba)); exact B446.out), (by (with_reducible repeat (first | apply bN | apply bd | apply ba)); exact B459.out), GW459.out, E459.out, NB441_459.out, NB459_441.out, NB446_459.out, NB459_446.out, (by repeat (first | (with_reducible first | exact HB.out | apply pa | apply pN | apply p1 | refine bs ?_ E441.out | refine bs ?_ E446.out | refine bs ?_ E459.out) | exact HB.out))⟩)
            rintro g459 w31 ⟨hS_, h0_, h1_, h2_, h3_, h4_, h5_, h6_, h7_, h8_, h9_, h10_, h11_, h12_⟩
            have N0 : Aside0 (Kd.R k36 36 w31 w.heap.size (fun _ => True) (J Ao12 t434.length co12) t434) := ⟨h0_⟩
            have N1 : Aside0 (Kd.R k64 64 w31 w.heap.size (fun _ => True) (.slice (some ad451) t437.length co13) t437) := ⟨h1_⟩
            have N2 : Aside0 (Kd.R k67 67 w31 w.heap.size (fun _ => True) (J Ao18 t443.length co18) t443) := ⟨h2_⟩
            have N3 : Aside0 (w31.heap[g441]? = some (.cells #[I q t433, J Ao12 t434.length co12, .slice (some ad451) t437.length co13] 31 (0, 0))) := ⟨h3_⟩
            have N4 : Aside0 (w31.heap[g446]? = some (.cells #[I q t442, J Ao18 t443.length co18] 53 (0, 0))) := ⟨h4_⟩
            have N5 : Aside0 (w31.heap[g459]? = some (.cells #[I q 0, I q 0, I q 0, I q 0, I q 0, .bool false] 38 (0, 0))) := ⟨h5_⟩
            have N6 : Aside0 (w19.heap.size ≤ g459) := ⟨h6_⟩
            have N7 : Aside0 (w19.heap.size ≤ g459) := ⟨h7_⟩
            have N8 : Aside0 (g441 ≠ g459) := ⟨h8_⟩
            have N9 : Aside0 (g459 ≠ g441) := ⟨h9_⟩
            have N10 : Aside0 (g446 ≠ g459) := ⟨h10_⟩
            have N11 : Aside0 (g459 ≠ g446) := ⟨h11_⟩
            have N12 : Aside0 (Below w19.heap.size w19 w31) := ⟨h12_⟩
            clear o0
            clear o1
            clear o2
            clear B441
            clear B446
            clear HB
            clear h0_ h1_ h2_ h3_ h4_ h5_ h6_ h7_ h8_ h9_ h10_ h11_ h12_
            have o0 := N0
            have o1 := N1
            have o2 := N2
            have B441 := N3
            have B446 := N4
            have B459 := N5
            have GW459 := N6
            have E459 := N7
            have NB441_459 := N8
            have NB459_441 := N9
            have NB446_459 := N10
            have NB459_446 := N11
            have HB := N12
            clear N0 N1 N2 N3 N4 N5 N6 N7 N8 N9 N10 N11 N12
            have hHeld : w31.cell? ⟨g441, 0, none⟩ = some (I q t433) ∧ w31.cell? ⟨g441, 1, none⟩ = some (J Ao12 t434.length co12) ∧ w31.cell? ⟨g441, 2, none⟩ = some (.slice (some ad451) t437.length co13) ∧ w31.cell? (ad452.add (x8_1).toNat) = some (I q (rd ((rd_T64 t437 t440).f3) x8_1)) := hS_
            refine norm_ (a' := ?_) ?_ ?_
            rotate_left
            ·simp only [putAll, Act.put, List.setIfInBounds_toArray, List.set_cons_zero, List.set_cons_succ]
             rfl
            refine one_ (i := 7) (N := none) (Mk 8 255) rfl rfl (one_of HT_.out (by kernel_rfl)) (by decide) (fun K hK => ?_)
            have hs32 : w31.cell? ⟨g459, 0, none⟩ = some (I q 0) := (bc B459.out 0).trans rfl
            have hfs32 := bf B459.out 0
            have hns32_0 := NB441_459.out
            have hns32_1 := NB446_459.out
            have hms32_0 := NB459_441.out
            have hms32_1 := NB459_446.out
            have hs33 : w31.cell? ⟨g459, 1, none⟩ = some (I q 0) := (bc B459.out 1).trans rfl
            have hfs33 := bf B459.out 1
            have hns33_0 := NB441_459.out
            have hns33_1 := NB446_459.out
            have hms33_0 := NB459_441.out
            have hms33_1 := NB459_446.out
            have hs34 : w31.cell? ⟨g459, 2, none⟩ = some (I q 0) := (bc B459.out 2).trans rfl
            have hfs34 := bf B459.out 2
            have hns34_0 := NB441_459.out
            have hns34_1 := NB446_459.out
            have hms34_0 := NB459_441.out
            have hms34_1 := NB459_446.out
            have hs35 : w31.cell? ⟨g459, 3, none⟩ = some (I q 0) := (bc B459.out 3).trans rfl
            have hfs35 := bf B459.out 3
            have hns35_0 := NB441_459.out
            have hns35_1 := NB446_459.out
            have hms35_0 := NB459_441.out
            have hms35_1 := NB459_446.out
            have hs36 : w31.cell? ⟨g459, 4, none⟩ = some (I q 0) := (bc B459.out 4).trans rfl
            have hfs36 := bf B459.out 4
            have hns36_0 := NB441_459.out
            have hns36_1 := NB446_459.out
            have hms36_0 := NB459_441.out
            have hms36_1 := NB459_446.out
            have hs37 : w31.cell? ⟨g459, 5, none⟩ = some (.bool false) := (bc B459.out 5).trans rfl
            have hfs37 := bf B459.out 5
            have hns37_0 := NB441_459.out
            have hns37_1 := NB446_459.out
            have hms37_0 := NB459_441.out
            have hms37_1 := NB459_446.out
            refine skip_ (w1 := ?_) (by rfl) rfl ?_ ?_
            rotate_left
            ·go_simp
             rfl
            refine hK.out _ _ ⟨((cell_far (p := ⟨g459, _, none⟩) NB441_459.out _).trans (((cell_far (p := ⟨g459, _, none⟩) NB441_459.out _).trans (((cell_far (p := ⟨g459, _, none⟩) NB441_459.out _).trans (((cell_far (p := ⟨g459, _, none⟩) NB441_459.out _).trans (((cell_far (p := ⟨g459, _, none⟩) NB441_459.out _).trans (((cell_far (p := ⟨g459, _, none⟩) NB441_459.out _).trans (hHeld.1)))))))))))), ((cell_far (p := ⟨g459, _, none⟩) NB441_459.out _).trans (((cell_far (p := ⟨g459, _, none⟩) NB441_459.out _).trans (((cell_far (p := ⟨g459, _, none⟩) NB441_459.out _).trans (((cell_far (p := ⟨g459, _, none⟩) NB441_459.out _).trans (((cell_far (p := ⟨g459, _, none⟩) NB441_459.out _).trans (((cell_far (p := ⟨g459, _, none⟩) NB441_459.out _).trans (hHeld.2.1)))))))))))), ((cell_far (p := ⟨g459, _, none⟩) NB441_459.out _).trans (((cell_far (p := ⟨g459, _, none⟩) NB441_459.out _).trans (((cell_far (p := ⟨g459, _, none⟩) NB441_459.out _).trans (((cell_far (p := ⟨g459, _, none⟩) NB441_459.out _).trans (((cell_far (p := ⟨g459, _, none⟩) NB441_459.out _).trans (((cell_far (p := ⟨g459, _, none⟩) NB441_459.out _).trans (hHeld.2.2.1)))))))))))), ((cell_far (p := ⟨g459, _, none⟩) (by first | exact Nat.ne_of_lt (Nat.lt_of_lt_of_le (by have := World.block_lt_of_cell? _ _ hw452_0; first | rwa [ab] at this | exact this) GW459.out) | (rw [ab]; exact Nat.ne_of_lt (Nat.lt_of_lt_of_le (by have := World.block_lt_of_cell? _ _ hw452_0; first | rwa [ab] at this | exact this) GW459.out)) | (show (Addr.add _ _).block ≠ _; rw [ab]; exact Nat.ne_of_lt (Nat.lt_of_lt_of_le (by have := World.block_lt_of_cell? _ _ hw452_0; first | rwa [ab] at this | exact this) GW459.out)) | (dsimp only; exact Nat.ne_of_lt (Nat.lt_of_lt_of_le (by have := World.block_lt_of_cell? _ _ hw452_0; first | rwa [ab] at this | exact this) GW459.out))) _).trans (((cell_far (p := ⟨g459, _, none⟩) (by first | exact Nat.ne_of_lt (Nat.lt_of_lt_of_le (by have := World.block_lt_of_cell? _ _ hw452_0; first | rwa [ab] at this | exact this) GW459.out) | (rw [ab]; exact Nat.ne_of_lt (Nat.lt_of_lt_of_le (by have := World.block_lt_of_cell? _ _ hw452_0; first | rwa [ab] at this | exact this) GW459.out)) | (show (Addr.add _ _).block ≠ _; rw [ab]; exact Nat.ne_of_lt (Nat.lt_of_lt_of_le (by have := World.block_lt_of_cell? _ _ hw452_0; first | rwa [ab] at this | exact this) GW459.out)) | (dsimp only; exact Nat.ne_of_lt (Nat.lt_of_lt_of_le (by have := World.block_lt_of_cell? _ _ hw452_0; first | rwa [ab] at this | exact this) GW459.out))) _).trans (((cell_far (p := ⟨g459, _, none⟩) (by first | exact Nat.ne_of_lt (Nat.lt_of_lt_of_le (by have := World.block_lt_of_cell? _ _ hw452_0; first | rwa [ab] at this | exact this) GW459.out) | (rw [ab]; exact Nat.ne_of_lt (Nat.lt_of_lt_of_le (by have := World.block_lt_of_cell? _ _ hw452_0; first | rwa [ab] at this | exact this) GW459.out)) | (show (Addr.add _ _).block ≠ _; rw [ab]; exact Nat.ne_of_lt (Nat.lt_of_lt_of_le (by have := World.block_lt_of_cell? _ _ hw452_0; first | rwa [ab] at this | exact this) GW459.out)) | (dsimp only; exact Nat.ne_of_lt (Nat.lt_of_lt_of_le (by have := World.block_lt_of_cell? _ _ hw452_0; first | rwa [ab] at this | exact this) GW459.out))) _).trans (((cell_far (p := ⟨g459, _, none⟩) (by first | exact Nat.ne_of_lt (Nat.lt_of_lt_of_le (by have := World.block_lt_of_cell? _ _ hw452_0; first | rwa [ab] at this | exact this) GW459.out) | (rw [ab]; exact Nat.ne_of_lt (Nat.lt_of_lt_of_le (by have := World.block_lt_of_cell? _ _ hw452_0; first | rwa [ab] at this | exact this) GW459.out)) | (show (Addr.add _ _).block ≠ _; rw [ab]; exact Nat.ne_of_lt (Nat.lt_of_lt_of_le (by have := World.block_lt_of_cell? _ _ hw452_0; first | rwa [ab] at this | exact this) GW459.out)) | (dsimp only; exact Nat.ne_of_lt (Nat.lt_of_lt_of_le (by have := World.block_lt_of_cell? _ _ hw452_0; first | rwa [ab] at this | exact this) GW459.out))) _).trans (((cell_far (p := ⟨g459, _, none⟩) (by first | exact Nat.ne_of_lt (Nat.lt_of_lt_of_le (by have := World.block_lt_of_cell? _ _ hw452_0; first | rwa [ab] at this | exact this) GW459.out) | (rw [ab]; exact Nat.ne_of_lt (Nat.lt_of_lt_of_le (by have := World.block_lt_of_cell? _ _ hw452_0; first | rwa [ab] at this | exact this) GW459.out)) | (show (Addr.add _ _).block ≠ _; rw [ab]; exact Nat.ne_of_lt (Nat.lt_of_lt_of_le (by have := World.block_lt_of_cell? _ _ hw452_0; first | rwa [ab] at this | exact this) GW459.out)) | (dsimp only; exact Nat.ne_of_lt (Nat.lt_of_lt_of_le (by have := World.block_lt_of_cell? _ _ hw452_0; first | rwa [ab] at this | exact this) GW459.out))) _).trans (((cell_far (p := ⟨g459, _, none⟩) (by first | exact Nat.ne_of_lt (Nat.lt_of_lt_of_le (by have := World.block_lt_of_cell? _ _ hw452_0; first | rwa [ab] at this | exact this) GW459.out) | (rw [ab]; exact Nat.ne_of_lt (Nat.lt_of_lt_of_le (by have := World.block_lt_of_cell? _ _ hw452_0; first | rwa [ab] at this | exact this) GW459.out)) | (show (Addr.add _ _).block ≠ _; rw [ab]; exact Nat.ne_of_lt (Nat.lt_of_lt_of_le (by have := World.block_lt_of_cell? _ _ hw452_0; first | rwa [ab] at this | exact this) GW459.out)) | (dsimp only; exact Nat.ne_of_lt (Nat.lt_of_lt_of_le (by have := World.block_lt_of_cell? _ _ hw452_0; first | rwa [ab] at this | exact this) GW459.out))) _).trans (hHeld.2.2.2))))))))))))⟩ (fun hHeld => ?_)
            clear hK K
            refine done_ (done_of HT_.out (by kernel_rfl)) ?_
            have hnb38 := NB459_441.out
            have hnc38 := NB441_459.out
            have hnb39 := NB459_446.out
            have hnc39 := NB446_459.out
            have hcz40_0 : w31.cell? ⟨g459, 0, none⟩ = some (I q 0) := (bc B459.out 0).trans rfl
            have hcz40_1 : w31.cell? ⟨g459, 1, none⟩ = some (I q 0) := (bc B459.out 1).trans rfl
            have hcz40_2 : w31.cell? ⟨g459, 2, none⟩ = some (I q 0) := (bc B459.out 2).trans rfl
            have hcz40_3 : w31.cell? ⟨g459, 3, none⟩ = some (I q 0) := (bc B459.out 3).trans rfl
            have hcz40_4 : w31.cell? ⟨g459, 4, none⟩ = some (I q 0) := (bc B459.out 4).trans rfl
            have hcz40_5 : w31.cell? ⟨g459, 5, none⟩ = some (.bool false) := (bc B459.out 5).trans rfl
            have hfz40_0 := bf B459.out 0
            have hfz40_1 := bf B459.out 1
            have hfz40_2 := bf B459.out 2
            have hfz40_3 := bf B459.out 3
            have hfz40_4 := bf B459.out 4
            have hfz40_5 := bf B459.out 5
            try go_wp2
            go_roundg k1
            case measure => have := HK1.out; omega
            case rel => exact ⟨(wrap64 (x6_1 + 1)), (wrap64 (x8_1 + 1)), (by first | rfl | (simp; done) | (simp [*]; done)), (by first | rfl | (simp; done) | (simp [*]; done)), H', ⟨by have := HK1.out; omega⟩, ⟨by (with_reducible repeat (first | apply ra | apply rN | apply rd1)); exact Kd.R_mono (rf (p := ⟨g459, 5, none⟩) (rf (p := ⟨g459, 4, none⟩) (rf (p := ⟨g459, 3, none⟩) (rf (p := ⟨g459, 2, none⟩) (rf (p := ⟨g459, 1, none⟩) (rf (p := ⟨g459, 0, none⟩) (Kd.R_types o0.out B459.out (by decide)) (fun _ hk => hk.2) (I q t453)) (fun _ hk => hk.2) (I q t454)) (fun _ hk => hk.2) (I q t455)) (fun _ hk => hk.2) (I q t456)) (fun _ hk => hk.2) (I q t457)) (fun _ hk => hk.2) (.bool true)) (fun _ hk => trivial)⟩, ⟨by (with_reducible repeat (first | apply ra | apply rN | apply rd1)); exact Kd.R_mono (rf (p := ⟨g459, 5, none⟩) (rf (p := ⟨g459, 4, none⟩) (rf (p := ⟨g459, 3, none⟩) (rf (p := ⟨g459, 2, none⟩) (rf (p := ⟨g459, 1, none⟩) (rf (p := ⟨g459, 0, none⟩) (Kd.R_types o1.out B459.out (by decide)) (fun _ hk => hk.2) (I q t453)) (fun _ hk => hk.2) (I q t454)) (fun _ hk => hk.2) (I q t455)) (fun _ hk => hk.2) (I q t456)) (fun _ hk => hk.2) (I q t457)) (fun _ hk => hk.2) (.bool true)) (fun _ hk => trivial)⟩, ⟨by (with_reducible repeat (first | apply ra | apply rN | apply rd1)); exact Kd.R_mono (rf (p := ⟨g459, 5, none⟩) (rf (p := ⟨g459, 4, none⟩) (rf (p := ⟨g459, 3, none⟩) (rf (p := ⟨g459, 2, none⟩) (rf (p := ⟨g459, 1, none⟩) (rf (p := ⟨g459, 0, none⟩) (Kd.R_types o2.out B459.out (by decide)) (fun _ hk => hk.2) (I q t453)) (fun _ hk => hk.2) (I q t454)) (fun _ hk => hk.2) (I q t455)) (fun _ hk => hk.2) (I q t456)) (fun _ hk => hk.2) (I q t457)) (fun _ hk => hk.2) (.bool true)) (fun _ hk => trivial)⟩, ⟨by (iterate 6 ((with_reducible repeat (first | apply bN | apply bd | apply ba)); refine bq ?_ NB441_459.out _)); (with_reducible repeat (first | apply bN | apply bd | apply ba)); exact B441.out⟩, ⟨by (iterate 6 ((with_reducible repeat (first | apply bN | apply bd | apply ba)); refine bq ?_ NB446_459.out _)); (with_reducible repeat (first | apply bN | apply bd | apply ba)); exact B446.out⟩, ⟨by repeat (first | (with_reducible first | exact HB.out | apply pa | apply pN | apply p1 | refine bs ?_ E441.out | refine bs ?_ E446.out | refine bs ?_ E459.out) | exact HB.out)⟩⟩
           ·rw [if_neg c27] at H
            have c27b0 : (t457 == 1) = false := beq_eq_false_iff_ne.mpr c27
            have c27b1 : (t457 != 1) = true := bne_iff_ne.mpr c27
            have H' := am H
            clear H
            try go_wp2
            have N0 := am (rd1 o0.out)
            have N1 := am (rd1 o1.out)
            have N2 := am (rd1 o2.out)
            have N3 := am (bd B441.out)
            have N4 := am (bd B446.out)
            have N5 := am (p1 HB.out)
            clear o0
            clear o1
            clear o2
            clear B441
            clear B446
            clear HB
            have o0 := N0
            have o1 := N1
            have o2 := N2
            have B441 := N3
            have B446 := N4
            have HB := N5
            clear N0 N1 N2 N3 N4 N5
            have p452 : 0 ≤ (x8_1 : Int) := of_decide_eq_true (by first | (with_reducible assumption) | assumption)
            have q452 : x8_1 < (((rd_T64 t437 t440).f3).length : Int) := of_decide_eq_true (by first | (with_reducible assumption) | assumption)
            obtain ⟨ad452, e452, hx452_0⟩ := Kd.at_int HR451_3.out x8_1 p452 q452
            have hw452_0 := hx452_0
            cases e452
            replace hx452_0 := (HB.out.cell (World.block_lt_of_cell? w19 _ hx452_0)).trans hx452_0
            replace p452 := eq_true p452
            replace q452 := eq_true q452
            refine start_ (n := 8) (S := fun w' => w'.cell? ⟨g441, 0, none⟩ = some (I q t433) ∧ w'.cell? ⟨g441, 1, none⟩ = some (J Ao12 t434.length co12) ∧ w'.cell? ⟨g441, 2, none⟩ = some (.slice (some ad451) t437.length co13) ∧ w'.cell? (ad452.add (x8_1).toNat) = some (I q (rd ((rd_T64 t437 t440).f3) x8_1))) (ds := []) (Mk 8 0) (by kernel_rfl) rfl rfl ⟨(bc B441.out 0).trans rfl, (bc B441.out 1).trans rfl, (bc B441.out 2).trans rfl, ((HB.out.cell (World.block_lt_of_cell? w19 _ hw452_0)).trans hw452_0)⟩ (fun hHeld => ?_); refine with_tabW laws_FnDrained.tab12 laws_FnDrained.bits12 (fun HT_ HW_ => ?_)
            generalize wr.drew = w41 at o0 o1 o2 B441 B446 HB hx452_0 hHeld ⊢
            refine pure_ (i := 1) (N := some 44) (v := ?_) (a' := ?_) (Mk 8 2) rfl rfl (any_of HT_.out (by kernel_rfl)) (fun _ _ _ h => h) (Or.inl ⟨by rfl, ?_⟩) ?_ ?_
            rotate_left
            ·intro w'
             first | (go_simp; with_reducible rfl) | (go_simp; (try unfold Instr.field); go_simp; (try simp only [asAgg]); go_simp; with_reducible rfl)
            rotate_left
            ·simp only [Act.put, List.setIfInBounds_toArray, List.set_cons_zero, List.set_cons_succ, i64_w, i32_w]
             rfl
            refine pure_ (i := 2) (N := some 45) (v := ?_) (a' := ?_) (Mk 8 6) rfl rfl (any_of HT_.out (by kernel_rfl)) (fun _ _ _ h => h) (Or.inl ⟨by rfl, ?_⟩) ?_ ?_
            rotate_left
            ·intro w'
             first | (go_simp; with_reducible rfl) | (go_simp; (try unfold Instr.field); go_simp; (try simp only [asAgg]); go_simp; with_reducible rfl)
            rotate_left
            ·simp only [Act.put, List.setIfInBounds_toArray, List.set_cons_zero, List.set_cons_succ, i64_w, i32_w]
             rfl
            refine pure_ (i := 3) (N := some 46) (v := ?_) (a' := ?_) (Mk 8 14) rfl rfl (any_of HT_.out (by kernel_rfl)) (fun _ _ _ h => h) (Or.inl ⟨by rfl, ?_⟩) ?_ ?_
            rotate_left
            ·intro w'
             first | (go_simp; with_reducible rfl) | (go_simp; (try unfold Instr.field); go_simp; (try simp only [asAgg]); go_simp; with_reducible rfl)
            rotate_left
            ·simp only [Act.put, List.setIfInBounds_toArray, List.set_cons_zero, List.set_cons_succ, i64_w, i32_w]
             rfl
            refine take_ (i := 0) (N := some 43) (v := ?_) (a' := ?_) (Mk 8 15) rfl rfl (take_ofW HT_.out HW_.out (by kernel_rfl)) (fun _ _ _ h => h) (Or.inl ⟨by rfl, ?_⟩) hHeld ?_ ?_
            rotate_left
            ·rintro w' ⟨s0, s1, s2, s3⟩
             go_simp
             with_reducible rfl
            rotate_left
            ·simp only [Act.put, List.setIfInBounds_toArray, List.set_cons_zero, List.set_cons_succ, i64_w, i32_w]
             rfl
            refine take_ (i := 4) (N := some 47) (v := ?_) (a' := ?_) (Mk 8 31) rfl rfl (take_ofW HT_.out HW_.out (by kernel_rfl)) (fun _ _ _ h => h) (Or.inl ⟨by rfl, ?_⟩) hHeld ?_ ?_
            rotate_left
            ·rintro w' ⟨s0, s1, s2, s3⟩
             go_simp
             with_reducible rfl
            rotate_left
            ·simp only [Act.put, List.setIfInBounds_toArray, List.set_cons_zero, List.set_cons_succ, i64_w, i32_w]
             rfl
            refine join_ (σ := Nat) 1 (Mk 8 127) (fun s_ => [(48, .agg #[I q t453, I q t454, I q t455, I q t456, I q t457, .bool true]), (9, .pointer (some ⟨s_, 0, none⟩))]) (fun s_ w' => (w'.cell? ⟨g441, 0, none⟩ = some (I q t433) ∧ w'.cell? ⟨g441, 1, none⟩ = some (J Ao12 t434.length co12) ∧ w'.cell? ⟨g441, 2, none⟩ = some (.slice (some ad451) t437.length co13) ∧ w'.cell? (ad452.add (x8_1).toNat) = some (I q (rd ((rd_T64 t437 t440).f3) x8_1))) ∧ (Kd.R k36 36 w' w.heap.size (fun _ => True) (J Ao12 t434.length co12) t434) ∧ (Kd.R k64 64 w' w.heap.size (fun _ => True) (.slice (some ad451) t437.length co13) t437) ∧ (Kd.R k67 67 w' w.heap.size (fun _ => True) (J Ao18 t443.length co18) t443) ∧ (w'.heap[g441]? = some (.cells #[I q t433, J Ao12 t434.length co12, .slice (some ad451) t437.length co13] 31 (0, 0))) ∧ (w'.heap[g446]? = some (.cells #[I q t442, J Ao18 t443.length co18] 53 (0, 0))) ∧ (w'.heap[s_]? = some (.cells #[I q 0, I q 0, I q 0, I q 0, I q 0, .bool false] 38 (0, 0))) ∧ (w19.heap.size ≤ s_) ∧ (w19.heap.size ≤ s_) ∧ (g441 ≠ s_) ∧ (s_ ≠ g441) ∧ (g446 ≠ s_) ∧ (s_ ≠ g446) ∧ (Below w19.heap.size w19 w')) ?_ ?_
            rotate_left
            ·intro hCont
             refine two_ (i := 5) (j := 6) (Ni := some 48) (Nj := some 9) (Mk 8 63) (Mk 8 95) rfl rfl rfl rfl (two_of HT_.out (by kernel_rfl)) (by decide) (by decide) (fun K hK => ?_) (fun K hK => ?_)
             ·skip
              refine goes_ Try.func18 (by kernel_rfl) rfl #[.agg #[I q t433, J Ao12 t434.length co12, .slice (some ad451) t437.length co13], I q (rd ((rd_T64 t437 t440).f3) x8_1)] (by rfl) rfl rfl (by (try simp only [List.map_toArray, List.map_cons, List.map_nil]); first | done | rfl | (simp only [List.length_drop, List.length_take]; rfl)) ?_
              with_reducible refine (impl_BackendAt.calls t433 _ _ t434 _ _ t437 (rd ((rd_T64 t437 t440).f3) x8_1) t453 t454 t455 t456 t457 true _ ?side1 ?side2 ?side3 ?side4 A24.out).mono ?_
              (case side1 => repeat (first | exact (Kd.R_reads' o0.out).2.2 | (with_reducible refine ca ?_ _) | (with_reducible refine cN ?_ _) | (with_reducible refine cd1 ?_)))
              (case side2 => exact (Kd.R_reads' o0.out).2.1)
              (case side3 => repeat (first | exact (Kd.R_reads' o1.out).2.2 | (with_reducible refine ca ?_ _) | (with_reducible refine cN ?_ _) | (with_reducible refine cd1 ?_)))
              (case side4 => exact (Kd.R_reads' o1.out).2.1)
              rintro e w42 ⟨rfl, hb⟩
              refine ⟨_, rfl, ?_⟩
              have N0 := am (rb (by (with_reducible repeat (first | apply ra | apply rN | apply rd1)); exact o0.out) hb)
              have N1 := am (rb (by (with_reducible repeat (first | apply ra | apply rN | apply rd1)); exact o1.out) hb)
              have N2 := am (rb (by (with_reducible repeat (first | apply ra | apply rN | apply rd1)); exact o2.out) hb)
              have N3 := am (bb (g := g441) (by (with_reducible repeat (first | apply bN | apply bd | apply ba)); exact B441.out) hb)
              have N4 := am (bb (g := g446) (by (with_reducible repeat (first | apply bN | apply bd | apply ba)); exact B446.out) hb)
              have N5 := am (bp (by repeat (first | (with_reducible first | exact HB.out | apply pa | apply pN | apply p1 | refine bs ?_ E441.out | refine bs ?_ E446.out) | exact HB.out)) hb)
              clear o0
              clear o1
              clear o2
              clear B441
              clear B446
              clear HB
              have o0 := N0
              have o1 := N1
              have o2 := N2
              have B441 := N3
              have B446 := N4
              have HB := N5
              clear N0 N1 N2 N3 N4 N5
              (try clear hb)
              (try clear hb2)
              (try clear hk)
              (try clear hi)
              refine hK.out _ _ ⟨(bc B441.out 0).trans rfl, (bc B441.out 1).trans rfl, (bc B441.out 2).trans rfl, ((HB.out.cell (World.block_lt_of_cell? w19 _ hw452_0)).trans hw452_0)⟩ (fun hHeld => ?_)
              clear hK K
              refine norm_ (a' := ?_) ?_ ?_
              rotate_left
              ·show Act.put _ (some 48) _ = _
               simp only [Act.put, List.setIfInBounds_toArray, List.set_cons_zero, List.set_cons_succ, i64_w, i32_w]
               rfl
              refine one_ (i := 6) (N := some 9) (Mk 8 127) rfl rfl (one_of HT_.out (by kernel_rfl)) (by decide) (fun K hK => ?_)
              refine box_step ?hg (N := 9) ?hd (cs := #[I q 0, I q 0, I q 0, I q 0, I q 0, .bool false]) (t := 38) ?hr ?_; (case hd => rfl); (case hg => rfl); (case hr => first | (go_simp; done) | (go_simp; rfl))
              intro g459 hg w43 hbox hb
              have N0 := am (rb (by (with_reducible repeat (first | apply ra | apply rN | apply rd1)); exact o0.out) hb)
              have N1 := am (rb (by (with_reducible repeat (first | apply ra | apply rN | apply rd1)); exact o1.out) hb)
              have N2 := am (rb (by (with_reducible repeat (first | apply ra | apply rN | apply rd1)); exact o2.out) hb)
              have N3 := am (bb (g := g441) (by (with_reducible repeat (first | apply bN | apply bd | apply ba)); exact B441.out) hb)
              have N4 := am (bb (g := g446) (by (with_reducible repeat (first | apply bN | apply bd | apply ba)); exact B446.out) hb)
              have N5 := am (bp (by repeat (first | (with_reducible first | exact HB.out | apply pa | apply pN | apply p1 | refine bs ?_ E441.out | refine bs ?_ E446.out) | exact HB.out)) hb)
              have N6 := am (hbox)
              have N7 := am ((by rw [hg]; exact (bz (by repeat (first | (with_reducible first | exact HB.out | apply pa | apply pN | apply p1 | refine bs ?_ E441.out | refine bs ?_ E446.out) | exact HB.out))) : w19.heap.size ≤ g459))
              have N8 := am ((by rw [hg]; exact (bz (by repeat (first | (with_reducible first | exact HB.out | apply pa | apply pN | apply p1 | refine bs ?_ E441.out | refine bs ?_ E446.out) | exact HB.out))) : w19.heap.size ≤ g459))
              have N9 := am ((by rw [hg]; exact Nat.ne_of_lt (bl (g := g441) (by (with_reducible repeat (first | apply bN | apply bd | apply ba)); exact B441.out)) : g441 ≠ g459))
              have N10 := am ((by rw [hg]; exact Nat.ne_of_gt (bl (g := g441) (by (with_reducible repeat (first | apply bN | apply bd | apply ba)); exact B441.out)) : g459 ≠ g441))
              have N11 := am ((by rw [hg]; exact Nat.ne_of_lt (bl (g := g446) (by (with_reducible repeat (first | apply bN | apply bd | apply ba)); exact B446.out)) : g446 ≠ g459))
              have N12 := am ((by rw [hg]; exact Nat.ne_of_gt (bl (g := g446) (by (with_reducible repeat (first | apply bN | apply bd | apply ba)); exact B446.out)) : g459 ≠ g446))
              clear o0
              clear o1
              clear o2
              clear B441
              clear B446
              clear HB
              have o0 := N0
              have o1 := N1
              have o2 := N2
              have B441 := N3
              have B446 := N4
              have HB := N5
              have B459 := N6
              have GW459 := N7
              have E459 := N8
              have NB441_459 := N9
              have NB459_441 := N10
              have NB446_459 := N11
              have NB459_446 := N12
              clear N0 N1 N2 N3 N4 N5 N6 N7 N8 N9 N10 N11 N12
              clear hb hbox hg
              refine hK.out _ _ ⟨(bc B441.out 0).trans rfl, (bc B441.out 1).trans rfl, (bc B441.out 2).trans rfl, ((HB.out.cell (World.block_lt_of_cell? w19 _ hw452_0)).trans hw452_0)⟩ (fun hHeld => ?_)
              clear hK K
              refine norm_ (a' := ?_) ?_ ?_
              rotate_left
              ·show Act.put _ (some 9) _ = _
               simp only [Act.put, List.setIfInBounds_toArray, List.set_cons_zero, List.set_cons_succ, i64_w, i32_w]
               rfl
              exact norm_ (by simp only [putAll, Act.put, List.setIfInBounds_toArray, List.set_cons_zero, List.set_cons_succ]) (hCont (g459) _ ⟨hHeld, (by (with_reducible repeat (first | apply ra | apply rN | apply rd1)); exact o0.out), (by (with_reducible repeat (first | apply ra | apply rN | apply rd1)); exact o1.out), (by (with_reducible repeat (first | apply ra | apply rN | apply rd1)); exact o2.out), (by (with_reducible repeat (first | apply bN | apply bd | apply ba)); exact B441.out), (by (with_reducible repeat (first | apply bN | apply bd | apply ba)); exact B446.out), (by (with_reducible repeat (first | apply bN | apply bd | apply ba)); exact B459.out), GW459.out, E459.out, NB441_459.out, NB459_441.out, NB446_459.out, NB459_446.out, (by repeat (first | (with_reducible first | exact HB.out | apply pa | apply pN | apply p1 | refine bs ?_ E441.out | refine bs ?_ E446.out | refine bs ?_ E459.out) | exact HB.out))⟩)
             ·skip
              refine box_step ?hg (N := 9) ?hd (cs := #[I q 0, I q 0, I q 0, I q 0, I q 0, .bool false]) (t := 38) ?hr ?_; (case hd => rfl); (case hg => rfl); (case hr => first | (go_simp; done) | (go_simp; rfl))
              intro g459 hg w42 hbox hb
              have N0 := am (rb (by (with_reducible repeat (first | apply ra | apply rN | apply rd1)); exact o0.out) hb)
              have N1 := am (rb (by (with_reducible repeat (first | apply ra | apply rN | apply rd1)); exact o1.out) hb)
              have N2 := am (rb (by (with_reducible repeat (first | apply ra | apply rN | apply rd1)); exact o2.out) hb)
              have N3 := am (bb (g := g441) (by (with_reducible repeat (first | apply bN | apply bd | apply ba)); exact B441.out) hb)
              have N4 := am (bb (g := g446) (by (with_reducible repeat (first | apply bN | apply bd | apply ba)); exact B446.out) hb)
              have N5 := am (bp (by repeat (first | (with_reducible first | exact HB.out | apply pa | apply pN | apply p1 | refine bs ?_ E441.out | refine bs ?_ E446.out) | exact HB.out)) hb)
              have N6 := am (hbox)
              have N7 := am ((by rw [hg]; exact (bz (by repeat (first | (with_reducible first | exact HB.out | apply pa | apply pN | apply p1 | refine bs ?_ E441.out | refine bs ?_ E446.out) | exact HB.out))) : w19.heap.size ≤ g459))
              have N8 := am ((by rw [hg]; exact (bz (by repeat (first | (with_reducible first | exact HB.out | apply pa | apply pN | apply p1 | refine bs ?_ E441.out | refine bs ?_ E446.out) | exact HB.out))) : w19.heap.size ≤ g459))
              have N9 := am ((by rw [hg]; exact Nat.ne_of_lt (bl (g := g441) (by (with_reducible repeat (first | apply bN | apply bd | apply ba)); exact B441.out)) : g441 ≠ g459))
              have N10 := am ((by rw [hg]; exact Nat.ne_of_gt (bl (g := g441) (by (with_reducible repeat (first | apply bN | apply bd | apply ba)); exact B441.out)) : g459 ≠ g441))
              have N11 := am ((by rw [hg]; exact Nat.ne_of_lt (bl (g := g446) (by (with_reducible repeat (first | apply bN | apply bd | apply ba)); exact B446.out)) : g446 ≠ g459))
              have N12 := am ((by rw [hg]; exact Nat.ne_of_gt (bl (g := g446) (by (with_reducible repeat (first | apply bN | apply bd | apply ba)); exact B446.out)) : g459 ≠ g446))
              clear o0
              clear o1
              clear o2
              clear B441
              clear B446
              clear HB
              have o0 := N0
              have o1 := N1
              have o2 := N2
              have B441 := N3
              have B446 := N4
              have HB := N5
              have B459 := N6
              have GW459 := N7
              have E459 := N8
              have NB441_459 := N9
              have NB459_441 := N10
              have NB446_459 := N11
              have NB459_446 := N12
              clear N0 N1 N2 N3 N4 N5 N6 N7 N8 N9 N10 N11 N12
              clear hb hbox hg
              refine hK.out _ _ ⟨(bc B441.out 0).trans rfl, (bc B441.out 1).trans rfl, (bc B441.out 2).trans rfl, ((HB.out.cell (World.block_lt_of_cell? w19 _ hw452_0)).trans hw452_0)⟩ (fun hHeld => ?_)
              clear hK K
              refine norm_ (a' := ?_) ?_ ?_
              rotate_left
              ·show Act.put _ (some 9) _ = _
               simp only [Act.put, List.setIfInBounds_toArray, List.set_cons_zero, List.set_cons_succ, i64_w, i32_w]
               rfl
              refine one_ (i := 5) (N := some 48) (Mk 8 127) rfl rfl (one_of HT_.out (by kernel_rfl)) (by decide) (fun K hK => ?_)
              refine goes_ Try.func18 (by kernel_rfl) rfl #[.agg #[I q t433, J Ao12 t434.length co12, .slice (some ad451) t437.length co13], I q (rd ((rd_T64 t437 t440).f3) x8_1)] (by rfl) rfl rfl (by (try simp only [List.map_toArray, List.map_cons, List.map_nil]); first | done | rfl | (simp only [List.length_drop, List.length_take]; rfl)) ?_
              with_reducible refine (impl_BackendAt.calls t433 _ _ t434 _ _ t437 (rd ((rd_T64 t437 t440).f3) x8_1) t453 t454 t455 t456 t457 true _ ?side1 ?side2 ?side3 ?side4 A24.out).mono ?_
              (case side1 => repeat (first | exact (Kd.R_reads' o0.out).2.2 | (with_reducible refine ca ?_ _) | (with_reducible refine cN ?_ _) | (with_reducible refine cd1 ?_)))
              (case side2 => exact (Kd.R_reads' o0.out).2.1)
              (case side3 => repeat (first | exact (Kd.R_reads' o1.out).2.2 | (with_reducible refine ca ?_ _) | (with_reducible refine cN ?_ _) | (with_reducible refine cd1 ?_)))
              (case side4 => exact (Kd.R_reads' o1.out).2.1)
              rintro e w43 ⟨rfl, hb⟩
              refine ⟨_, rfl, ?_⟩
              have N0 := am (rb (by (with_reducible repeat (first | apply ra | apply rN | apply rd1)); exact o0.out) hb)
              have N1 := am (rb (by (with_reducible repeat (first | apply ra | apply rN | apply rd1)); exact o1.out) hb)
              have N2 := am (rb (by (with_reducible repeat (first | apply ra | apply rN | apply rd1)); exact o2.out) hb)
              have N3 := am (bb (g := g441) (by (with_reducible repeat (first | apply bN | apply bd | apply ba)); exact B441.out) hb)
              have N4 := am (bb (g := g446) (by (with_reducible repeat (first | apply bN | apply bd | apply ba)); exact B446.out) hb)
              have N5 := am (bb (g := g459) (by (with_reducible repeat (first | apply bN | apply bd | apply ba)); exact B459.out) hb)
              have N6 := am (bp (by repeat (first | (with_reducible first | exact HB.out | apply pa | apply pN | apply p1 | refine bs ?_ E441.out | refine bs ?_ E446.out | refine bs ?_ E459.out) | exact HB.out)) hb)
              clear o0
              clear o1
              clear o2
              clear B441
              clear B446
              clear B459
              clear HB
              have o0 := N0
              have o1 := N1
              have o2 := N2
              have B441 := N3
              have B446 := N4
              have B459 := N5
              have HB := N6
              clear N0 N1 N2 N3 N4 N5 N6
              (try clear hb)
              (try clear hb2)
              (try clear hk)
              (try clear hi)
              refine hK.out _ _ ⟨(bc B441.out 0).trans rfl, (bc B441.out 1).trans rfl, (bc B441.out 2).trans rfl, ((HB.out.cell (World.block_lt_of_cell? w19 _ hw452_0)).trans hw452_0)⟩ (fun hHeld => ?_)
              clear hK K
              refine norm_ (a' := ?_) ?_ ?_
              rotate_left
              ·show Act.put _ (some 48) _ = _
               simp only [Act.put, List.setIfInBounds_toArray, List.set_cons_zero, List.set_cons_succ, i64_w, i32_w]
               rfl
              exact norm_ (by simp only [putAll, Act.put, List.setIfInBounds_toArray, List.set_cons_zero, List.set_cons_succ]) (hCont (g459) _ ⟨hHeld, (by (with_reducible repeat (first | apply ra | apply rN | apply rd1)); exact o0.out), (by (with_reducible repeat (first | apply ra | apply rN | apply rd1)); exact o1.out), (by (with_reducible repeat (first | apply ra | apply rN | apply rd1)); exact o2.out), (by (with_reducible repeat (first | apply bN | apply bd | apply ba)); exact B441.out), (by (with_reducible repeat (first | apply bN | apply bd | apply ba)); exact B446.out), (by (with_reducible repeat (first | apply bN | apply bd | apply ba)); exact B459.out), GW459.out, E459.out, NB441_459.out, NB459_441.out, NB446_459.out, NB459_446.out, (by repeat (first | (with_reducible first | exact HB.out | apply pa | apply pN | apply p1 | refine bs ?_ E441.out | refine bs ?_ E446.out | refine bs ?_ E459.out) | exact HB.out))⟩)
            rintro g459 w44 ⟨hS_, h0_, h1_, h2_, h3_, h4_, h5_, h6_, h7_, h8_, h9_, h10_, h11_, h12_⟩
            have N0 : Aside0 (Kd.R k36 36 w44 w.heap.size (fun _ => True) (J Ao12 t434.length co12) t434) := ⟨h0_⟩
            have N1 : Aside0 (Kd.R k64 64 w44 w.heap.size (fun _ => True) (.slice (some ad451) t437.length co13) t437) := ⟨h1_⟩
            have N2 : Aside0 (Kd.R k67 67 w44 w.heap.size (fun _ => True) (J Ao18 t443.length co18) t443) := ⟨h2_⟩
            have N3 : Aside0 (w44.heap[g441]? = some (.cells #[I q t433, J Ao12 t434.length co12, .slice (some ad451) t437.length co13] 31 (0, 0))) := ⟨h3_⟩
            have N4 : Aside0 (w44.heap[g446]? = some (.cells #[I q t442, J Ao18 t443.length co18] 53 (0, 0))) := ⟨h4_⟩
            have N5 : Aside0 (w44.heap[g459]? = some (.cells #[I q 0, I q 0, I q 0, I q 0, I q 0, .bool false] 38 (0, 0))) := ⟨h5_⟩
            have N6 : Aside0 (w19.heap.size ≤ g459) := ⟨h6_⟩
            have N7 : Aside0 (w19.heap.size ≤ g459) := ⟨h7_⟩
            have N8 : Aside0 (g441 ≠ g459) := ⟨h8_⟩
            have N9 : Aside0 (g459 ≠ g441) := ⟨h9_⟩
            have N10 : Aside0 (g446 ≠ g459) := ⟨h10_⟩
            have N11 : Aside0 (g459 ≠ g446) := ⟨h11_⟩
            have N12 : Aside0 (Below w19.heap.size w19 w44) := ⟨h12_⟩
            clear o0
            clear o1
            clear o2
            clear B441
            clear B446
            clear HB
            clear h0_ h1_ h2_ h3_ h4_ h5_ h6_ h7_ h8_ h9_ h10_ h11_ h12_
            have o0 := N0
            have o1 := N1
            have o2 := N2
            have B441 := N3
            have B446 := N4
            have B459 := N5
            have GW459 := N6
            have E459 := N7
            have NB441_459 := N8
            have NB459_441 := N9
            have NB446_459 := N10
            have NB459_446 := N11
            have HB := N12
            clear N0 N1 N2 N3 N4 N5 N6 N7 N8 N9 N10 N11 N12
            have hHeld : w44.cell? ⟨g441, 0, none⟩ = some (I q t433) ∧ w44.cell? ⟨g441, 1, none⟩ = some (J Ao12 t434.length co12) ∧ w44.cell? ⟨g441, 2, none⟩ = some (.slice (some ad451) t437.length co13) ∧ w44.cell? (ad452.add (x8_1).toNat) = some (I q (rd ((rd_T64 t437 t440).f3) x8_1)) := hS_
            refine norm_ (a' := ?_) ?_ ?_
            rotate_left
            ·simp only [putAll, Act.put, List.setIfInBounds_toArray, List.set_cons_zero, List.set_cons_succ]
             rfl
            refine one_ (i := 7) (N := none) (Mk 8 255) rfl rfl (one_of HT_.out (by kernel_rfl)) (by decide) (fun K hK => ?_)
            have hs45 : w44.cell? ⟨g459, 0, none⟩ = some (I q 0) := (bc B459.out 0).trans rfl
            have hfs45 := bf B459.out 0
            have hns45_0 := NB441_459.out
            have hns45_1 := NB446_459.out
            have hms45_0 := NB459_441.out
            have hms45_1 := NB459_446.out
            have hs46 : w44.cell? ⟨g459, 1, none⟩ = some (I q 0) := (bc B459.out 1).trans rfl
            have hfs46 := bf B459.out 1
            have hns46_0 := NB441_459.out
            have hns46_1 := NB446_459.out
            have hms46_0 := NB459_441.out
            have hms46_1 := NB459_446.out
            have hs47 : w44.cell? ⟨g459, 2, none⟩ = some (I q 0) := (bc B459.out 2).trans rfl
            have hfs47 := bf B459.out 2
            have hns47_0 := NB441_459.out
            have hns47_1 := NB446_459.out
            have hms47_0 := NB459_441.out
            have hms47_1 := NB459_446.out
            have hs48 : w44.cell? ⟨g459, 3, none⟩ = some (I q 0) := (bc B459.out 3).trans rfl
            have hfs48 := bf B459.out 3
            have hns48_0 := NB441_459.out
            have hns48_1 := NB446_459.out
            have hms48_0 := NB459_441.out
            have hms48_1 := NB459_446.out
            have hs49 : w44.cell? ⟨g459, 4, none⟩ = some (I q 0) := (bc B459.out 4).trans rfl
            have hfs49 := bf B459.out 4
            have hns49_0 := NB441_459.out
            have hns49_1 := NB446_459.out
            have hms49_0 := NB459_441.out
            have hms49_1 := NB459_446.out
            have hs50 : w44.cell? ⟨g459, 5, none⟩ = some (.bool false) := (bc B459.out 5).trans rfl
            have hfs50 := bf B459.out 5
            have hns50_0 := NB441_459.out
            have hns50_1 := NB446_459.out
            have hms50_0 := NB459_441.out
            have hms50_1 := NB459_446.out
            refine skip_ (w1 := ?_) (by rfl) rfl ?_ ?_
            rotate_left
            ·go_simp
             rfl
            refine hK.out _ _ ⟨((cell_far (p := ⟨g459, _, none⟩) NB441_459.out _).trans (((cell_far (p := ⟨g459, _, none⟩) NB441_459.out _).trans (((cell_far (p := ⟨g459, _, none⟩) NB441_459.out _).trans (((cell_far (p := ⟨g459, _, none⟩) NB441_459.out _).trans (((cell_far (p := ⟨g459, _, none⟩) NB441_459.out _).trans (((cell_far (p := ⟨g459, _, none⟩) NB441_459.out _).trans (hHeld.1)))))))))))), ((cell_far (p := ⟨g459, _, none⟩) NB441_459.out _).trans (((cell_far (p := ⟨g459, _, none⟩) NB441_459.out _).trans (((cell_far (p := ⟨g459, _, none⟩) NB441_459.out _).trans (((cell_far (p := ⟨g459, _, none⟩) NB441_459.out _).trans (((cell_far (p := ⟨g459, _, none⟩) NB441_459.out _).trans (((cell_far (p := ⟨g459, _, none⟩) NB441_459.out _).trans (hHeld.2.1)))))))))))), ((cell_far (p := ⟨g459, _, none⟩) NB441_459.out _).trans (((cell_far (p := ⟨g459, _, none⟩) NB441_459.out _).trans (((cell_far (p := ⟨g459, _, none⟩) NB441_459.out _).trans (((cell_far (p := ⟨g459, _, none⟩) NB441_459.out _).trans (((cell_far (p := ⟨g459, _, none⟩) NB441_459.out _).trans (((cell_far (p := ⟨g459, _, none⟩) NB441_459.out _).trans (hHeld.2.2.1)))))))))))), ((cell_far (p := ⟨g459, _, none⟩) (by first | exact Nat.ne_of_lt (Nat.lt_of_lt_of_le (by have := World.block_lt_of_cell? _ _ hw452_0; first | rwa [ab] at this | exact this) GW459.out) | (rw [ab]; exact Nat.ne_of_lt (Nat.lt_of_lt_of_le (by have := World.block_lt_of_cell? _ _ hw452_0; first | rwa [ab] at this | exact this) GW459.out)) | (show (Addr.add _ _).block ≠ _; rw [ab]; exact Nat.ne_of_lt (Nat.lt_of_lt_of_le (by have := World.block_lt_of_cell? _ _ hw452_0; first | rwa [ab] at this | exact this) GW459.out)) | (dsimp only; exact Nat.ne_of_lt (Nat.lt_of_lt_of_le (by have := World.block_lt_of_cell? _ _ hw452_0; first | rwa [ab] at this | exact this) GW459.out))) _).trans (((cell_far (p := ⟨g459, _, none⟩) (by first | exact Nat.ne_of_lt (Nat.lt_of_lt_of_le (by have := World.block_lt_of_cell? _ _ hw452_0; first | rwa [ab] at this | exact this) GW459.out) | (rw [ab]; exact Nat.ne_of_lt (Nat.lt_of_lt_of_le (by have := World.block_lt_of_cell? _ _ hw452_0; first | rwa [ab] at this | exact this) GW459.out)) | (show (Addr.add _ _).block ≠ _; rw [ab]; exact Nat.ne_of_lt (Nat.lt_of_lt_of_le (by have := World.block_lt_of_cell? _ _ hw452_0; first | rwa [ab] at this | exact this) GW459.out)) | (dsimp only; exact Nat.ne_of_lt (Nat.lt_of_lt_of_le (by have := World.block_lt_of_cell? _ _ hw452_0; first | rwa [ab] at this | exact this) GW459.out))) _).trans (((cell_far (p := ⟨g459, _, none⟩) (by first | exact Nat.ne_of_lt (Nat.lt_of_lt_of_le (by have := World.block_lt_of_cell? _ _ hw452_0; first | rwa [ab] at this | exact this) GW459.out) | (rw [ab]; exact Nat.ne_of_lt (Nat.lt_of_lt_of_le (by have := World.block_lt_of_cell? _ _ hw452_0; first | rwa [ab] at this | exact this) GW459.out)) | (show (Addr.add _ _).block ≠ _; rw [ab]; exact Nat.ne_of_lt (Nat.lt_of_lt_of_le (by have := World.block_lt_of_cell? _ _ hw452_0; first | rwa [ab] at this | exact this) GW459.out)) | (dsimp only; exact Nat.ne_of_lt (Nat.lt_of_lt_of_le (by have := World.block_lt_of_cell? _ _ hw452_0; first | rwa [ab] at this | exact this) GW459.out))) _).trans (((cell_far (p := ⟨g459, _, none⟩) (by first | exact Nat.ne_of_lt (Nat.lt_of_lt_of_le (by have := World.block_lt_of_cell? _ _ hw452_0; first | rwa [ab] at this | exact this) GW459.out) | (rw [ab]; exact Nat.ne_of_lt (Nat.lt_of_lt_of_le (by have := World.block_lt_of_cell? _ _ hw452_0; first | rwa [ab] at this | exact this) GW459.out)) | (show (Addr.add _ _).block ≠ _; rw [ab]; exact Nat.ne_of_lt (Nat.lt_of_lt_of_le (by have := World.block_lt_of_cell? _ _ hw452_0; first | rwa [ab] at this | exact this) GW459.out)) | (dsimp only; exact Nat.ne_of_lt (Nat.lt_of_lt_of_le (by have := World.block_lt_of_cell? _ _ hw452_0; first | rwa [ab] at this | exact this) GW459.out))) _).trans (((cell_far (p := ⟨g459, _, none⟩) (by first | exact Nat.ne_of_lt (Nat.lt_of_lt_of_le (by have := World.block_lt_of_cell? _ _ hw452_0; first | rwa [ab] at this | exact this) GW459.out) | (rw [ab]; exact Nat.ne_of_lt (Nat.lt_of_lt_of_le (by have := World.block_lt_of_cell? _ _ hw452_0; first | rwa [ab] at this | exact this) GW459.out)) | (show (Addr.add _ _).block ≠ _; rw [ab]; exact Nat.ne_of_lt (Nat.lt_of_lt_of_le (by have := World.block_lt_of_cell? _ _ hw452_0; first | rwa [ab] at this | exact this) GW459.out)) | (dsimp only; exact Nat.ne_of_lt (Nat.lt_of_lt_of_le (by have := World.block_lt_of_cell? _ _ hw452_0; first | rwa [ab] at this | exact this) GW459.out))) _).trans (((cell_far (p := ⟨g459, _, none⟩) (by first | exact Nat.ne_of_lt (Nat.lt_of_lt_of_le (by have := World.block_lt_of_cell? _ _ hw452_0; first | rwa [ab] at this | exact this) GW459.out) | (rw [ab]; exact Nat.ne_of_lt (Nat.lt_of_lt_of_le (by have := World.block_lt_of_cell? _ _ hw452_0; first | rwa [ab] at this | exact this) GW459.out)) | (show (Addr.add _ _).block ≠ _; rw [ab]; exact Nat.ne_of_lt (Nat.lt_of_lt_of_le (by have := World.block_lt_of_cell? _ _ hw452_0; first | rwa [ab] at this | exact this) GW459.out)) | (dsimp only; exact Nat.ne_of_lt (Nat.lt_of_lt_of_le (by have := World.block_lt_of_cell? _ _ hw452_0; first | rwa [ab] at this | exact this) GW459.out))) _).trans (hHeld.2.2.2))))))))))))⟩ (fun hHeld => ?_)
            clear hK K
            refine done_ (done_of HT_.out (by kernel_rfl)) ?_
            have hnb51 := NB459_441.out
            have hnc51 := NB441_459.out
            have hnb52 := NB459_446.out
            have hnc52 := NB446_459.out
            have hcz53_0 : w44.cell? ⟨g459, 0, none⟩ = some (I q 0) := (bc B459.out 0).trans rfl
            have hcz53_1 : w44.cell? ⟨g459, 1, none⟩ = some (I q 0) := (bc B459.out 1).trans rfl
            have hcz53_2 : w44.cell? ⟨g459, 2, none⟩ = some (I q 0) := (bc B459.out 2).trans rfl
            have hcz53_3 : w44.cell? ⟨g459, 3, none⟩ = some (I q 0) := (bc B459.out 3).trans rfl
            have hcz53_4 : w44.cell? ⟨g459, 4, none⟩ = some (I q 0) := (bc B459.out 4).trans rfl
            have hcz53_5 : w44.cell? ⟨g459, 5, none⟩ = some (.bool false) := (bc B459.out 5).trans rfl
            have hfz53_0 := bf B459.out 0
            have hfz53_1 := bf B459.out 1
            have hfz53_2 := bf B459.out 2
            have hfz53_3 := bf B459.out 3
            have hfz53_4 := bf B459.out 4
            have hfz53_5 := bf B459.out 5
            try go_wp2
            go_roundg k1
            case measure => have := HK1.out; omega
            case rel => exact ⟨(x6_1), (wrap64 (x8_1 + 1)), (by first | rfl | (simp; done) | (simp [*]; done)), (by first | rfl | (simp; done) | (simp [*]; done)), H', ⟨by have := HK1.out; omega⟩, ⟨by (with_reducible repeat (first | apply ra | apply rN | apply rd1)); exact Kd.R_mono (rf (p := ⟨g459, 5, none⟩) (rf (p := ⟨g459, 4, none⟩) (rf (p := ⟨g459, 3, none⟩) (rf (p := ⟨g459, 2, none⟩) (rf (p := ⟨g459, 1, none⟩) (rf (p := ⟨g459, 0, none⟩) (Kd.R_types o0.out B459.out (by decide)) (fun _ hk => hk.2) (I q t453)) (fun _ hk => hk.2) (I q t454)) (fun _ hk => hk.2) (I q t455)) (fun _ hk => hk.2) (I q t456)) (fun _ hk => hk.2) (I q t457)) (fun _ hk => hk.2) (.bool true)) (fun _ hk => trivial)⟩, ⟨by (with_reducible repeat (first | apply ra | apply rN | apply rd1)); exact Kd.R_mono (rf (p := ⟨g459, 5, none⟩) (rf (p := ⟨g459, 4, none⟩) (rf (p := ⟨g459, 3, none⟩) (rf (p := ⟨g459, 2, none⟩) (rf (p := ⟨g459, 1, none⟩) (rf (p := ⟨g459, 0, none⟩) (Kd.R_types o1.out B459.out (by decide)) (fun _ hk => hk.2) (I q t453)) (fun _ hk => hk.2) (I q t454)) (fun _ hk => hk.2) (I q t455)) (fun _ hk => hk.2) (I q t456)) (fun _ hk => hk.2) (I q t457)) (fun _ hk => hk.2) (.bool true)) (fun _ hk => trivial)⟩, ⟨by (with_reducible repeat (first | apply ra | apply rN | apply rd1)); exact Kd.R_mono (rf (p := ⟨g459, 5, none⟩) (rf (p := ⟨g459, 4, none⟩) (rf (p := ⟨g459, 3, none⟩) (rf (p := ⟨g459, 2, none⟩) (rf (p := ⟨g459, 1, none⟩) (rf (p := ⟨g459, 0, none⟩) (Kd.R_types o2.out B459.out (by decide)) (fun _ hk => hk.2) (I q t453)) (fun _ hk => hk.2) (I q t454)) (fun _ hk => hk.2) (I q t455)) (fun _ hk => hk.2) (I q t456)) (fun _ hk => hk.2) (I q t457)) (fun _ hk => hk.2) (.bool true)) (fun _ hk => trivial)⟩, ⟨by (iterate 6 ((with_reducible repeat (first | apply bN | apply bd | apply ba)); refine bq ?_ NB441_459.out _)); (with_reducible repeat (first | apply bN | apply bd | apply ba)); exact B441.out⟩, ⟨by (iterate 6 ((with_reducible repeat (first | apply bN | apply bd | apply ba)); refine bq ?_ NB446_459.out _)); (with_reducible repeat (first | apply bN | apply bd | apply ba)); exact B446.out⟩, ⟨by repeat (first | (with_reducible first | exact HB.out | apply pa | apply pN | apply p1 | refine bs ?_ E441.out | refine bs ?_ E446.out | refine bs ?_ E459.out) | exact HB.out)⟩⟩
          ·replace c26 := Bool.eq_false_iff.mpr c26
           subst c26
           have H1 : (laws_FnDrained.l0 k1 x6_1 ((rd_T64 t437 t440).f3) (wrap64 (x8_1 + 1)) t433 t434 t437 t442 t443) = some r := by rw [if_neg (show ¬ (false = true) by decide)] at H; exact H
           clear H
           have H := H1
           clear H1
           have H' := am H
           clear H
           try go_wp2
           have N0 := am (rd1 o0.out)
           have N1 := am (rd1 o1.out)
           have N2 := am (rd1 o2.out)
           have N3 := am (bd B441.out)
           have N4 := am (bd B446.out)
           have N5 := am (p1 HB.out)
           clear o0
           clear o1
           clear o2
           clear B441
           clear B446
           clear HB
           have o0 := N0
           have o1 := N1
           have o2 := N2
           have B441 := N3
           have B446 := N4
           have HB := N5
           clear N0 N1 N2 N3 N4 N5
           have p452 : 0 ≤ (x8_1 : Int) := of_decide_eq_true (by first | (with_reducible assumption) | assumption)
           have q452 : x8_1 < (((rd_T64 t437 t440).f3).length : Int) := of_decide_eq_true (by first | (with_reducible assumption) | assumption)
           obtain ⟨ad452, e452, hx452_0⟩ := Kd.at_int HR451_3.out x8_1 p452 q452
           have hw452_0 := hx452_0
           cases e452
           replace hx452_0 := (HB.out.cell (World.block_lt_of_cell? w19 _ hx452_0)).trans hx452_0
           replace p452 := eq_true p452
           replace q452 := eq_true q452
           refine start_ (n := 8) (S := fun w' => w'.cell? ⟨g441, 0, none⟩ = some (I q t433) ∧ w'.cell? ⟨g441, 1, none⟩ = some (J Ao12 t434.length co12) ∧ w'.cell? ⟨g441, 2, none⟩ = some (.slice (some ad451) t437.length co13) ∧ w'.cell? (ad452.add (x8_1).toNat) = some (I q (rd ((rd_T64 t437 t440).f3) x8_1))) (ds := []) (Mk 8 0) (by kernel_rfl) rfl rfl ⟨(bc B441.out 0).trans rfl, (bc B441.out 1).trans rfl, (bc B441.out 2).trans rfl, ((HB.out.cell (World.block_lt_of_cell? w19 _ hw452_0)).trans hw452_0)⟩ (fun hHeld => ?_); refine with_tabW laws_FnDrained.tab12 laws_FnDrained.bits12 (fun HT_ HW_ => ?_)
           generalize wr.drew = w54 at o0 o1 o2 B441 B446 HB hx452_0 hHeld ⊢
           refine pure_ (i := 1) (N := some 44) (v := ?_) (a' := ?_) (Mk 8 2) rfl rfl (any_of HT_.out (by kernel_rfl)) (fun _ _ _ h => h) (Or.inl ⟨by rfl, ?_⟩) ?_ ?_
           rotate_left
           ·intro w'
            first | (go_simp; with_reducible rfl) | (go_simp; (try unfold Instr.field); go_simp; (try simp only [asAgg]); go_simp; with_reducible rfl)
           rotate_left
           ·simp only [Act.put, List.setIfInBounds_toArray, List.set_cons_zero, List.set_cons_succ, i64_w, i32_w]
            rfl
           refine pure_ (i := 2) (N := some 45) (v := ?_) (a' := ?_) (Mk 8 6) rfl rfl (any_of HT_.out (by kernel_rfl)) (fun _ _ _ h => h) (Or.inl ⟨by rfl, ?_⟩) ?_ ?_
           rotate_left
           ·intro w'
            first | (go_simp; with_reducible rfl) | (go_simp; (try unfold Instr.field); go_simp; (try simp only [asAgg]); go_simp; with_reducible rfl)
           rotate_left
           ·simp only [Act.put, List.setIfInBounds_toArray, List.set_cons_zero, List.set_cons_succ, i64_w, i32_w]
            rfl
           refine pure_ (i := 3) (N := some 46) (v := ?_) (a' := ?_) (Mk 8 14) rfl rfl (any_of HT_.out (by kernel_rfl)) (fun _ _ _ h => h) (Or.inl ⟨by rfl, ?_⟩) ?_ ?_
           rotate_left
           ·intro w'
            first | (go_simp; with_reducible rfl) | (go_simp; (try unfold Instr.field); go_simp; (try simp only [asAgg]); go_simp; with_reducible rfl)
           rotate_left
           ·simp only [Act.put, List.setIfInBounds_toArray, List.set_cons_zero, List.set_cons_succ, i64_w, i32_w]
            rfl
           refine take_ (i := 0) (N := some 43) (v := ?_) (a' := ?_) (Mk 8 15) rfl rfl (take_ofW HT_.out HW_.out (by kernel_rfl)) (fun _ _ _ h => h) (Or.inl ⟨by rfl, ?_⟩) hHeld ?_ ?_
           rotate_left
           ·rintro w' ⟨s0, s1, s2, s3⟩
            go_simp
            with_reducible rfl
           rotate_left
           ·simp only [Act.put, List.setIfInBounds_toArray, List.set_cons_zero, List.set_cons_succ, i64_w, i32_w]
            rfl
           refine take_ (i := 4) (N := some 47) (v := ?_) (a' := ?_) (Mk 8 31) rfl rfl (take_ofW HT_.out HW_.out (by kernel_rfl)) (fun _ _ _ h => h) (Or.inl ⟨by rfl, ?_⟩) hHeld ?_ ?_
           rotate_left
           ·rintro w' ⟨s0, s1, s2, s3⟩
            go_simp
            with_reducible rfl
           rotate_left
           ·simp only [Act.put, List.setIfInBounds_toArray, List.set_cons_zero, List.set_cons_succ, i64_w, i32_w]
            rfl
           refine join_ (σ := Nat) 1 (Mk 8 127) (fun s_ => [(48, .agg #[I q t453, I q t454, I q t455, I q t456, I q t457, .bool false]), (9, .pointer (some ⟨s_, 0, none⟩))]) (fun s_ w' => (w'.cell? ⟨g441, 0, none⟩ = some (I q t433) ∧ w'.cell? ⟨g441, 1, none⟩ = some (J Ao12 t434.length co12) ∧ w'.cell? ⟨g441, 2, none⟩ = some (.slice (some ad451) t437.length co13) ∧ w'.cell? (ad452.add (x8_1).toNat) = some (I q (rd ((rd_T64 t437 t440).f3) x8_1))) ∧ (Kd.R k36 36 w' w.heap.size (fun _ => True) (J Ao12 t434.length co12) t434) ∧ (Kd.R k64 64 w' w.heap.size (fun _ => True) (.slice (some ad451) t437.length co13) t437) ∧ (Kd.R k67 67 w' w.heap.size (fun _ => True) (J Ao18 t443.length co18) t443) ∧ (w'.heap[g441]? = some (.cells #[I q t433, J Ao12 t434.length co12, .slice (some ad451) t437.length co13] 31 (0, 0))) ∧ (w'.heap[g446]? = some (.cells #[I q t442, J Ao18 t443.length co18] 53 (0, 0))) ∧ (w'.heap[s_]? = some (.cells #[I q 0, I q 0, I q 0, I q 0, I q 0, .bool false] 38 (0, 0))) ∧ (w19.heap.size ≤ s_) ∧ (w19.heap.size ≤ s_) ∧ (g441 ≠ s_) ∧ (s_ ≠ g441) ∧ (g446 ≠ s_) ∧ (s_ ≠ g446) ∧ (Below w19.heap.size w19 w')) ?_ ?_
           rotate_left
           ·intro hCont
            refine two_ (i := 5) (j := 6) (Ni := some 48) (Nj := some 9) (Mk 8 63) (Mk 8 95) rfl rfl rfl rfl (two_of HT_.out (by kernel_rfl)) (by decide) (by decide) (fun K hK => ?_) (fun K hK => ?_)
            ·skip
             refine goes_ Try.func18 (by kernel_rfl) rfl #[.agg #[I q t433, J Ao12 t434.length co12, .slice (some ad451) t437.length co13], I q (rd ((rd_T64 t437 t440).f3) x8_1)] (by rfl) rfl rfl (by (try simp only [List.map_toArray, List.map_cons, List.map_nil]); first | done | rfl | (simp only [List.length_drop, List.length_take]; rfl)) ?_
             with_reducible refine (impl_BackendAt.calls t433 _ _ t434 _ _ t437 (rd ((rd_T64 t437 t440).f3) x8_1) t453 t454 t455 t456 t457 false _ ?side1 ?side2 ?side3 ?side4 A24.out).mono ?_
             (case side1 => repeat (first | exact (Kd.R_reads' o0.out).2.2 | (with_reducible refine ca ?_ _) | (with_reducible refine cN ?_ _) | (with_reducible refine cd1 ?_)))
             (case side2 => exact (Kd.R_reads' o0.out).2.1)
             (case side3 => repeat (first | exact (Kd.R_reads' o1.out).2.2 | (with_reducible refine ca ?_ _) | (with_reducible refine cN ?_ _) | (with_reducible refine cd1 ?_)))
             (case side4 => exact (Kd.R_reads' o1.out).2.1)
             rintro e w55 ⟨rfl, hb⟩
             refine ⟨_, rfl, ?_⟩
             have N0 := am (rb (by (with_reducible repeat (first | apply ra | apply rN | apply rd1)); exact o0.out) hb)
             have N1 := am (rb (by (with_reducible repeat (first | apply ra | apply rN | apply rd1)); exact o1.out) hb)
             have N2 := am (rb (by (with_reducible repeat (first | apply ra | apply rN | apply rd1)); exact o2.out) hb)
             have N3 := am (bb (g := g441) (by (with_reducible repeat (first | apply bN | apply bd | apply ba)); exact B441.out) hb)
             have N4 := am (bb (g := g446) (by (with_reducible repeat (first | apply bN | apply bd | apply ba)); exact B446.out) hb)
             have N5 := am (bp (by repeat (first | (with_reducible first | exact HB.out | apply pa | apply pN | apply p1 | refine bs ?_ E441.out | refine bs ?_ E446.out) | exact HB.out)) hb)
             clear o0
             clear o1
             clear o2
             clear B441
             clear B446
             clear HB
             have o0 := N0
             have o1 := N1
             have o2 := N2
             have B441 := N3
             have B446 := N4
             have HB := N5
             clear N0 N1 N2 N3 N4 N5
             (try clear hb)
             (try clear hb2)
             (try clear hk)
             (try clear hi)
             refine hK.out _ _ ⟨(bc B441.out 0).trans rfl, (bc B441.out 1).trans rfl, (bc B441.out 2).trans rfl, ((HB.out.cell (World.block_lt_of_cell? w19 _ hw452_0)).trans hw452_0)⟩ (fun hHeld => ?_)
             clear hK K
             refine norm_ (a' := ?_) ?_ ?_
             rotate_left
             ·show Act.put _ (some 48) _ = _
              simp only [Act.put, List.setIfInBounds_toArray, List.set_cons_zero, List.set_cons_succ, i64_w, i32_w]
              rfl
             refine one_ (i := 6) (N := some 9) (Mk 8 127) rfl rfl (one_of HT_.out (by kernel_rfl)) (by decide) (fun K hK => ?_)
             refine box_step ?hg (N := 9) ?hd (cs := #[I q 0, I q 0, I q 0, I q 0, I q 0, .bool false]) (t := 38) ?hr ?_; (case hd => rfl); (case hg => rfl); (case hr => first | (go_simp; done) | (go_simp; rfl))
             intro g459 hg w56 hbox hb
             have N0 := am (rb (by (with_reducible repeat (first | apply ra | apply rN | apply rd1)); exact o0.out) hb)
             have N1 := am (rb (by (with_reducible repeat (first | apply ra | apply rN | apply rd1)); exact o1.out) hb)
             have N2 := am (rb (by (with_reducible repeat (first | apply ra | apply rN | apply rd1)); exact o2.out) hb)
             have N3 := am (bb (g := g441) (by (with_reducible repeat (first | apply bN | apply bd | apply ba)); exact B441.out) hb)
             have N4 := am (bb (g := g446) (by (with_reducible repeat (first | apply bN | apply bd | apply ba)); exact B446.out) hb)
             have N5 := am (bp (by repeat (first | (with_reducible first | exact HB.out | apply pa | apply pN | apply p1 | refine bs ?_ E441.out | refine bs ?_ E446.out) | exact HB.out)) hb)
             have N6 := am (hbox)
             have N7 := am ((by rw [hg]; exact (bz (by repeat (first | (with_reducible first | exact HB.out | apply pa | apply pN | apply p1 | refine bs ?_ E441.out | refine bs ?_ E446.out) | exact HB.out))) : w19.heap.size ≤ g459))
             have N8 := am ((by rw [hg]; exact (bz (by repeat (first | (with_reducible first | exact HB.out | apply pa | apply pN | apply p1 | refine bs ?_ E441.out | refine bs ?_ E446.out) | exact HB.out))) : w19.heap.size ≤ g459))
             have N9 := am ((by rw [hg]; exact Nat.ne_of_lt (bl (g := g441) (by (with_reducible repeat (first | apply bN | apply bd | apply ba)); exact B441.out)) : g441 ≠ g459))
             have N10 := am ((by rw [hg]; exact Nat.ne_of_gt (bl (g := g441) (by (with_reducible repeat (first | apply bN | apply bd | apply ba)); exact B441.out)) : g459 ≠ g441))
             have N11 := am ((by rw [hg]; exact Nat.ne_of_lt (bl (g := g446) (by (with_reducible repeat (first | apply bN | apply bd | apply ba)); exact B446.out)) : g446 ≠ g459))
             have N12 := am ((by rw [hg]; exact Nat.ne_of_gt (bl (g := g446) (by (with_reducible repeat (first | apply bN | apply bd | apply ba)); exact B446.out)) : g459 ≠ g446))
             clear o0
             clear o1
             clear o2
             clear B441
             clear B446
             clear HB
             have o0 := N0
             have o1 := N1
             have o2 := N2
             have B441 := N3
             have B446 := N4
             have HB := N5
             have B459 := N6
             have GW459 := N7
             have E459 := N8
             have NB441_459 := N9
             have NB459_441 := N10
             have NB446_459 := N11
             have NB459_446 := N12
             clear N0 N1 N2 N3 N4 N5 N6 N7 N8 N9 N10 N11 N12
             clear hb hbox hg
             refine hK.out _ _ ⟨(bc B441.out 0).trans rfl, (bc B441.out 1).trans rfl, (bc B441.out 2).trans rfl, ((HB.out.cell (World.block_lt_of_cell? w19 _ hw452_0)).trans hw452_0)⟩ (fun hHeld => ?_)
             clear hK K
             refine norm_ (a' := ?_) ?_ ?_
             rotate_left
             ·show Act.put _ (some 9) _ = _
              simp only [Act.put, List.setIfInBounds_toArray, List.set_cons_zero, List.set_cons_succ, i64_w, i32_w]
              rfl
             exact norm_ (by simp only [putAll, Act.put, List.setIfInBounds_toArray, List.set_cons_zero, List.set_cons_succ]) (hCont (g459) _ ⟨hHeld, (by (with_reducible repeat (first | apply ra | apply rN | apply rd1)); exact o0.out), (by (with_reducible repeat (first | apply ra | apply rN | apply rd1)); exact o1.out), (by (with_reducible repeat (first | apply ra | apply rN | apply rd1)); exact o2.out), (by (with_reducible repeat (first | apply bN | apply bd | apply ba)); exact B441.out), (by (with_reducible repeat (first | apply bN | apply bd | apply ba)); exact B446.out), (by (with_reducible repeat (first | apply bN | apply bd | apply ba)); exact B459.out), GW459.out, E459.out, NB441_459.out, NB459_441.out, NB446_459.out, NB459_446.out, (by repeat (first | (with_reducible first | exact HB.out | apply pa | apply pN | apply p1 | refine bs ?_ E441.out | refine bs ?_ E446.out | refine bs ?_ E459.out) | exact HB.out))⟩)
            ·skip
             refine box_step ?hg (N := 9) ?hd (cs := #[I q 0, I q 0, I q 0, I q 0, I q 0, .bool false]) (t := 38) ?hr ?_; (case hd => rfl); (case hg => rfl); (case hr => first | (go_simp; done) | (go_simp; rfl))
             intro g459 hg w55 hbox hb
             have N0 := am (rb (by (with_reducible repeat (first | apply ra | apply rN | apply rd1)); exact o0.out) hb)
             have N1 := am (rb (by (with_reducible repeat (first | apply ra | apply rN | apply rd1)); exact o1.out) hb)
             have N2 := am (rb (by (with_reducible repeat (first | apply ra | apply rN | apply rd1)); exact o2.out) hb)
             have N3 := am (bb (g := g441) (by (with_reducible repeat (first | apply bN | apply bd | apply ba)); exact B441.out) hb)
             have N4 := am (bb (g := g446) (by (with_reducible repeat (first | apply bN | apply bd | apply ba)); exact B446.out) hb)
             have N5 := am (bp (by repeat (first | (with_reducible first | exact HB.out | apply pa | apply pN | apply p1 | refine bs ?_ E441.out | refine bs ?_ E446.out) | exact HB.out)) hb)
             have N6 := am (hbox)
             have N7 := am ((by rw [hg]; exact (bz (by repeat (first | (with_reducible first | exact HB.out | apply pa | apply pN | apply p1 | refine bs ?_ E441.out | refine bs ?_ E446.out) | exact HB.out))) : w19.heap.size ≤ g459))
             have N8 := am ((by rw [hg]; exact (bz (by repeat (first | (with_reducible first | exact HB.out | apply pa | apply pN | apply p1 | refine bs ?_ E441.out | refine bs ?_ E446.out) | exact HB.out))) : w19.heap.size ≤ g459))
             have N9 := am ((by rw [hg]; exact Nat.ne_of_lt (bl (g := g441) (by (with_reducible repeat (first | apply bN | apply bd | apply ba)); exact B441.out)) : g441 ≠ g459))
             have N10 := am ((by rw [hg]; exact Nat.ne_of_gt (bl (g := g441) (by (with_reducible repeat (first | apply bN | apply bd | apply ba)); exact B441.out)) : g459 ≠ g441))
             have N11 := am ((by rw [hg]; exact Nat.ne_of_lt (bl (g := g446) (by (with_reducible repeat (first | apply bN | apply bd | apply ba)); exact B446.out)) : g446 ≠ g459))
             have N12 := am ((by rw [hg]; exact Nat.ne_of_gt (bl (g := g446) (by (with_reducible repeat (first | apply bN | apply bd | apply ba)); exact B446.out)) : g459 ≠ g446))
             clear o0
             clear o1
             clear o2
             clear B441
             clear B446
             clear HB
             have o0 := N0
             have o1 := N1
             have o2 := N2
             have B441 := N3
             have B446 := N4
             have HB := N5
             have B459 := N6
             have GW459 := N7
             have E459 := N8
             have NB441_459 := N9
             have NB459_441 := N10
             have NB446_459 := N11
             have NB459_446 := N12
             clear N0 N1 N2 N3 N4 N5 N6 N7 N8 N9 N10 N11 N12
             clear hb hbox hg
             refine hK.out _ _ ⟨(bc B441.out 0).trans rfl, (bc B441.out 1).trans rfl, (bc B441.out 2).trans rfl, ((HB.out.cell (World.block_lt_of_cell? w19 _ hw452_0)).trans hw452_0)⟩ (fun hHeld => ?_)
             clear hK K
             refine norm_ (a' := ?_) ?_ ?_
             rotate_left
             ·show Act.put _ (some 9) _ = _
              simp only [Act.put, List.setIfInBounds_toArray, List.set_cons_zero, List.set_cons_succ, i64_w, i32_w]
              rfl
             refine one_ (i := 5) (N := some 48) (Mk 8 127) rfl rfl (one_of HT_.out (by kernel_rfl)) (by decide) (fun K hK => ?_)
             refine goes_ Try.func18 (by kernel_rfl) rfl #[.agg #[I q t433, J Ao12 t434.length co12, .slice (some ad451) t437.length co13], I q (rd ((rd_T64 t437 t440).f3) x8_1)] (by rfl) rfl rfl (by (try simp only [List.map_toArray, List.map_cons, List.map_nil]); first | done | rfl | (simp only [List.length_drop, List.length_take]; rfl)) ?_
             with_reducible refine (impl_BackendAt.calls t433 _ _ t434 _ _ t437 (rd ((rd_T64 t437 t440).f3) x8_1) t453 t454 t455 t456 t457 false _ ?side1 ?side2 ?side3 ?side4 A24.out).mono ?_
             (case side1 => repeat (first | exact (Kd.R_reads' o0.out).2.2 | (with_reducible refine ca ?_ _) | (with_reducible refine cN ?_ _) | (with_reducible refine cd1 ?_)))
             (case side2 => exact (Kd.R_reads' o0.out).2.1)
             (case side3 => repeat (first | exact (Kd.R_reads' o1.out).2.2 | (with_reducible refine ca ?_ _) | (with_reducible refine cN ?_ _) | (with_reducible refine cd1 ?_)))
             (case side4 => exact (Kd.R_reads' o1.out).2.1)
             rintro e w56 ⟨rfl, hb⟩
             refine ⟨_, rfl, ?_⟩
             have N0 := am (rb (by (with_reducible repeat (first | apply ra | apply rN | apply rd1)); exact o0.out) hb)
             have N1 := am (rb (by (with_reducible repeat (first | apply ra | apply rN | apply rd1)); exact o1.out) hb)
             have N2 := am (rb (by (with_reducible repeat (first | apply ra | apply rN | apply rd1)); exact o2.out) hb)
             have N3 := am (bb (g := g441) (by (with_reducible repeat (first | apply bN | apply bd | apply ba)); exact B441.out) hb)
             have N4 := am (bb (g := g446) (by (with_reducible repeat (first | apply bN | apply bd | apply ba)); exact B446.out) hb)
             have N5 := am (bb (g := g459) (by (with_reducible repeat (first | apply bN | apply bd | apply ba)); exact B459.out) hb)
             have N6 := am (bp (by repeat (first | (with_reducible first | exact HB.out | apply pa | apply pN | apply p1 | refine bs ?_ E441.out | refine bs ?_ E446.out | refine bs ?_ E459.out) | exact HB.out)) hb)
             clear o0
             clear o1
             clear o2
             clear B441
             clear B446
             clear B459
             clear HB
             have o0 := N0
             have o1 := N1
             have o2 := N2
             have B441 := N3
             have B446 := N4
             have B459 := N5
             have HB := N6
             clear N0 N1 N2 N3 N4 N5 N6
             (try clear hb)
             (try clear hb2)
             (try clear hk)
             (try clear hi)
             refine hK.out _ _ ⟨(bc B441.out 0).trans rfl, (bc B441.out 1).trans rfl, (bc B441.out 2).trans rfl, ((HB.out.cell (World.block_lt_of_cell? w19 _ hw452_0)).trans hw452_0)⟩ (fun hHeld => ?_)
             clear hK K
             refine norm_ (a' := ?_) ?_ ?_
             rotate_left
             ·show Act.put _ (some 48) _ = _
              simp only [Act.put, List.setIfInBounds_toArray, List.set_cons_zero, List.set_cons_succ, i64_w, i32_w]
              rfl
             exact norm_ (by simp only [putAll, Act.put, List.setIfInBounds_toArray, List.set_cons_zero, List.set_cons_succ]) (hCont (g459) _ ⟨hHeld, (by (with_reducible repeat (first | apply ra | apply rN | apply rd1)); exact o0.out), (by (with_reducible repeat (first | apply ra | apply rN | apply rd1)); exact o1.out), (by (with_reducible repeat (first | apply ra | apply rN | apply rd1)); exact o2.out), (by (with_reducible repeat (first | apply bN | apply bd | apply ba)); exact B441.out), (by (with_reducible repeat (first | apply bN | apply bd | apply ba)); exact B446.out), (by (with_reducible repeat (first | apply bN | apply bd | apply ba)); exact B459.out), GW459.out, E459.out, NB441_459.out, NB459_441.out, NB446_459.out, NB459_446.out, (by repeat (first | (with_reducible first | exact HB.out | apply pa | apply pN | apply p1 | refine bs ?_ E441.out | refine bs ?_ E446.out | refine bs ?_ E459.out) | exact HB.out))⟩)
           rintro g459 w57 ⟨hS_, h0_, h1_, h2_, h3_, h4_, h5_, h6_, h7_, h8_, h9_, h10_, h11_, h12_⟩
           have N0 : Aside0 (Kd.R k36 36 w57 w.heap.size (fun _ => True) (J Ao12 t434.length co12) t434) := ⟨h0_⟩
           have N1 : Aside0 (Kd.R k64 64 w57 w.heap.size (fun _ => True) (.slice (some ad451) t437.length co13) t437) := ⟨h1_⟩
           have N2 : Aside0 (Kd.R k67 67 w57 w.heap.size (fun _ => True) (J Ao18 t443.length co18) t443) := ⟨h2_⟩
           have N3 : Aside0 (w57.heap[g441]? = some (.cells #[I q t433, J Ao12 t434.length co12, .slice (some ad451) t437.length co13] 31 (0, 0))) := ⟨h3_⟩
           have N4 : Aside0 (w57.heap[g446]? = some (.cells #[I q t442, J Ao18 t443.length co18] 53 (0, 0))) := ⟨h4_⟩
           have N5 : Aside0 (w57.heap[g459]? = some (.cells #[I q 0, I q 0, I q 0, I q 0, I q 0, .bool false] 38 (0, 0))) := ⟨h5_⟩
           have N6 : Aside0 (w19.heap.size ≤ g459) := ⟨h6_⟩
           have N7 : Aside0 (w19.heap.size ≤ g459) := ⟨h7_⟩
           have N8 : Aside0 (g441 ≠ g459) := ⟨h8_⟩
           have N9 : Aside0 (g459 ≠ g441) := ⟨h9_⟩
           have N10 : Aside0 (g446 ≠ g459) := ⟨h10_⟩
           have N11 : Aside0 (g459 ≠ g446) := ⟨h11_⟩
           have N12 : Aside0 (Below w19.heap.size w19 w57) := ⟨h12_⟩
           clear o0
           clear o1
           clear o2
           clear B441
           clear B446
           clear HB
           clear h0_ h1_ h2_ h3_ h4_ h5_ h6_ h7_ h8_ h9_ h10_ h11_ h12_
           have o0 := N0
           have o1 := N1
           have o2 := N2
           have B441 := N3
           have B446 := N4
           have B459 := N5
           have GW459 := N6
           have E459 := N7
           have NB441_459 := N8
           have NB459_441 := N9
           have NB446_459 := N10
           have NB459_446 := N11
           have HB := N12
           clear N0 N1 N2 N3 N4 N5 N6 N7 N8 N9 N10 N11 N12
           have hHeld : w57.cell? ⟨g441, 0, none⟩ = some (I q t433) ∧ w57.cell? ⟨g441, 1, none⟩ = some (J Ao12 t434.length co12) ∧ w57.cell? ⟨g441, 2, none⟩ = some (.slice (some ad451) t437.length co13) ∧ w57.cell? (ad452.add (x8_1).toNat) = some (I q (rd ((rd_T64 t437 t440).f3) x8_1)) := hS_
           refine norm_ (a' := ?_) ?_ ?_
           rotate_left
           ·simp only [putAll, Act.put, List.setIfInBounds_toArray, List.set_cons_zero, List.set_cons_succ]
            rfl
           refine one_ (i := 7) (N := none) (Mk 8 255) rfl rfl (one_of HT_.out (by kernel_rfl)) (by decide) (fun K hK => ?_)
           have hs58 : w57.cell? ⟨g459, 0, none⟩ = some (I q 0) := (bc B459.out 0).trans rfl
           have hfs58 := bf B459.out 0
           have hns58_0 := NB441_459.out
           have hns58_1 := NB446_459.out
           have hms58_0 := NB459_441.out
           have hms58_1 := NB459_446.out
           have hs59 : w57.cell? ⟨g459, 1, none⟩ = some (I q 0) := (bc B459.out 1).trans rfl
           have hfs59 := bf B459.out 1
           have hns59_0 := NB441_459.out
           have hns59_1 := NB446_459.out
           have hms59_0 := NB459_441.out
           have hms59_1 := NB459_446.out
           have hs60 : w57.cell? ⟨g459, 2, none⟩ = some (I q 0) := (bc B459.out 2).trans rfl
           have hfs60 := bf B459.out 2
           have hns60_0 := NB441_459.out
           have hns60_1 := NB446_459.out
           have hms60_0 := NB459_441.out
           have hms60_1 := NB459_446.out
           have hs61 : w57.cell? ⟨g459, 3, none⟩ = some (I q 0) := (bc B459.out 3).trans rfl
           have hfs61 := bf B459.out 3
           have hns61_0 := NB441_459.out
           have hns61_1 := NB446_459.out
           have hms61_0 := NB459_441.out
           have hms61_1 := NB459_446.out
           have hs62 : w57.cell? ⟨g459, 4, none⟩ = some (I q 0) := (bc B459.out 4).trans rfl
           have hfs62 := bf B459.out 4
           have hns62_0 := NB441_459.out
           have hns62_1 := NB446_459.out
           have hms62_0 := NB459_441.out
           have hms62_1 := NB459_446.out
           have hs63 : w57.cell? ⟨g459, 5, none⟩ = some (.bool false) := (bc B459.out 5).trans rfl
           have hfs63 := bf B459.out 5
           have hns63_0 := NB441_459.out
           have hns63_1 := NB446_459.out
           have hms63_0 := NB459_441.out
           have hms63_1 := NB459_446.out
           refine skip_ (w1 := ?_) (by rfl) rfl ?_ ?_
           rotate_left
           ·go_simp
            rfl
           refine hK.out _ _ ⟨((cell_far (p := ⟨g459, _, none⟩) NB441_459.out _).trans (((cell_far (p := ⟨g459, _, none⟩) NB441_459.out _).trans (((cell_far (p := ⟨g459, _, none⟩) NB441_459.out _).trans (((cell_far (p := ⟨g459, _, none⟩) NB441_459.out _).trans (((cell_far (p := ⟨g459, _, none⟩) NB441_459.out _).trans (((cell_far (p := ⟨g459, _, none⟩) NB441_459.out _).trans (hHeld.1)))))))))))), ((cell_far (p := ⟨g459, _, none⟩) NB441_459.out _).trans (((cell_far (p := ⟨g459, _, none⟩) NB441_459.out _).trans (((cell_far (p := ⟨g459, _, none⟩) NB441_459.out _).trans (((cell_far (p := ⟨g459, _, none⟩) NB441_459.out _).trans (((cell_far (p := ⟨g459, _, none⟩) NB441_459.out _).trans (((cell_far (p := ⟨g459, _, none⟩) NB441_459.out _).trans (hHeld.2.1)))))))))))), ((cell_far (p := ⟨g459, _, none⟩) NB441_459.out _).trans (((cell_far (p := ⟨g459, _, none⟩) NB441_459.out _).trans (((cell_far (p := ⟨g459, _, none⟩) NB441_459.out _).trans (((cell_far (p := ⟨g459, _, none⟩) NB441_459.out _).trans (((cell_far (p := ⟨g459, _, none⟩) NB441_459.out _).trans (((cell_far (p := ⟨g459, _, none⟩) NB441_459.out _).trans (hHeld.2.2.1)))))))))))), ((cell_far (p := ⟨g459, _, none⟩) (by first | exact Nat.ne_of_lt (Nat.lt_of_lt_of_le (by have := World.block_lt_of_cell? _ _ hw452_0; first | rwa [ab] at this | exact this) GW459.out) | (rw [ab]; exact Nat.ne_of_lt (Nat.lt_of_lt_of_le (by have := World.block_lt_of_cell? _ _ hw452_0; first | rwa [ab] at this | exact this) GW459.out)) | (show (Addr.add _ _).block ≠ _; rw [ab]; exact Nat.ne_of_lt (Nat.lt_of_lt_of_le (by have := World.block_lt_of_cell? _ _ hw452_0; first | rwa [ab] at this | exact this) GW459.out)) | (dsimp only; exact Nat.ne_of_lt (Nat.lt_of_lt_of_le (by have := World.block_lt_of_cell? _ _ hw452_0; first | rwa [ab] at this | exact this) GW459.out))) _).trans (((cell_far (p := ⟨g459, _, none⟩) (by first | exact Nat.ne_of_lt (Nat.lt_of_lt_of_le (by have := World.block_lt_of_cell? _ _ hw452_0; first | rwa [ab] at this | exact this) GW459.out) | (rw [ab]; exact Nat.ne_of_lt (Nat.lt_of_lt_of_le (by have := World.block_lt_of_cell? _ _ hw452_0; first | rwa [ab] at this | exact this) GW459.out)) | (show (Addr.add _ _).block ≠ _; rw [ab]; exact Nat.ne_of_lt (Nat.lt_of_lt_of_le (by have := World.block_lt_of_cell? _ _ hw452_0; first | rwa [ab] at this | exact this) GW459.out)) | (dsimp only; exact Nat.ne_of_lt (Nat.lt_of_lt_of_le (by have := World.block_lt_of_cell? _ _ hw452_0; first | rwa [ab] at this | exact this) GW459.out))) _).trans (((cell_far (p := ⟨g459, _, none⟩) (by first | exact Nat.ne_of_lt (Nat.lt_of_lt_of_le (by have := World.block_lt_of_cell? _ _ hw452_0; first | rwa [ab] at this | exact this) GW459.out) | (rw [ab]; exact Nat.ne_of_lt (Nat.lt_of_lt_of_le (by have := World.block_lt_of_cell? _ _ hw452_0; first | rwa [ab] at this | exact this) GW459.out)) | (show (Addr.add _ _).block ≠ _; rw [ab]; exact Nat.ne_of_lt (Nat.lt_of_lt_of_le (by have := World.block_lt_of_cell? _ _ hw452_0; first | rwa [ab] at this | exact this) GW459.out)) | (dsimp only; exact Nat.ne_of_lt (Nat.lt_of_lt_of_le (by have := World.block_lt_of_cell? _ _ hw452_0; first | rwa [ab] at this | exact this) GW459.out))) _).trans (((cell_far (p := ⟨g459, _, none⟩) (by first | exact Nat.ne_of_lt (Nat.lt_of_lt_of_le (by have := World.block_lt_of_cell? _ _ hw452_0; first | rwa [ab] at this | exact this) GW459.out) | (rw [ab]; exact Nat.ne_of_lt (Nat.lt_of_lt_of_le (by have := World.block_lt_of_cell? _ _ hw452_0; first | rwa [ab] at this | exact this) GW459.out)) | (show (Addr.add _ _).block ≠ _; rw [ab]; exact Nat.ne_of_lt (Nat.lt_of_lt_of_le (by have := World.block_lt_of_cell? _ _ hw452_0; first | rwa [ab] at this | exact this) GW459.out)) | (dsimp only; exact Nat.ne_of_lt (Nat.lt_of_lt_of_le (by have := World.block_lt_of_cell? _ _ hw452_0; first | rwa [ab] at this | exact this) GW459.out))) _).trans (((cell_far (p := ⟨g459, _, none⟩) (by first | exact Nat.ne_of_lt (Nat.lt_of_lt_of_le (by have := World.block_lt_of_cell? _ _ hw452_0; first | rwa [ab] at this | exact this) GW459.out) | (rw [ab]; exact Nat.ne_of_lt (Nat.lt_of_lt_of_le (by have := World.block_lt_of_cell? _ _ hw452_0; first | rwa [ab] at this | exact this) GW459.out)) | (show (Addr.add _ _).block ≠ _; rw [ab]; exact Nat.ne_of_lt (Nat.lt_of_lt_of_le (by have := World.block_lt_of_cell? _ _ hw452_0; first | rwa [ab] at this | exact this) GW459.out)) | (dsimp only; exact Nat.ne_of_lt (Nat.lt_of_lt_of_le (by have := World.block_lt_of_cell? _ _ hw452_0; first | rwa [ab] at this | exact this) GW459.out))) _).trans (((cell_far (p := ⟨g459, _, none⟩) (by first | exact Nat.ne_of_lt (Nat.lt_of_lt_of_le (by have := World.block_lt_of_cell? _ _ hw452_0; first | rwa [ab] at this | exact this) GW459.out) | (rw [ab]; exact Nat.ne_of_lt (Nat.lt_of_lt_of_le (by have := World.block_lt_of_cell? _ _ hw452_0; first | rwa [ab] at this | exact this) GW459.out)) | (show (Addr.add _ _).block ≠ _; rw [ab]; exact Nat.ne_of_lt (Nat.lt_of_lt_of_le (by have := World.block_lt_of_cell? _ _ hw452_0; first | rwa [ab] at this | exact this) GW459.out)) | (dsimp only; exact Nat.ne_of_lt (Nat.lt_of_lt_of_le (by have := World.block_lt_of_cell? _ _ hw452_0; first | rwa [ab] at this | exact this) GW459.out))) _).trans (hHeld.2.2.2))))))))))))⟩ (fun hHeld => ?_)
           clear hK K
           refine done_ (done_of HT_.out (by kernel_rfl)) ?_
           have hnb64 := NB459_441.out
           have hnc64 := NB441_459.out
           have hnb65 := NB459_446.out
           have hnc65 := NB446_459.out
           have hcz66_0 : w57.cell? ⟨g459, 0, none⟩ = some (I q 0) := (bc B459.out 0).trans rfl
           have hcz66_1 : w57.cell? ⟨g459, 1, none⟩ = some (I q 0) := (bc B459.out 1).trans rfl
           have hcz66_2 : w57.cell? ⟨g459, 2, none⟩ = some (I q 0) := (bc B459.out 2).trans rfl
           have hcz66_3 : w57.cell? ⟨g459, 3, none⟩ = some (I q 0) := (bc B459.out 3).trans rfl
           have hcz66_4 : w57.cell? ⟨g459, 4, none⟩ = some (I q 0) := (bc B459.out 4).trans rfl
           have hcz66_5 : w57.cell? ⟨g459, 5, none⟩ = some (.bool false) := (bc B459.out 5).trans rfl
           have hfz66_0 := bf B459.out 0
           have hfz66_1 := bf B459.out 1
           have hfz66_2 := bf B459.out 2
           have hfz66_3 := bf B459.out 3
           have hfz66_4 := bf B459.out 4
           have hfz66_5 := bf B459.out 5
           try go_wp2
           go_roundg k1
           case measure => have := HK1.out; omega
           case rel => exact ⟨(x6_1), (wrap64 (x8_1 + 1)), (by first | rfl | (simp; done) | (simp [*]; done)), (by first | rfl | (simp; done) | (simp [*]; done)), H', ⟨by have := HK1.out; omega⟩, ⟨by (with_reducible repeat (first | apply ra | apply rN | apply rd1)); exact Kd.R_mono (rf (p := ⟨g459, 5, none⟩) (rf (p := ⟨g459, 4, none⟩) (rf (p := ⟨g459, 3, none⟩) (rf (p := ⟨g459, 2, none⟩) (rf (p := ⟨g459, 1, none⟩) (rf (p := ⟨g459, 0, none⟩) (Kd.R_types o0.out B459.out (by decide)) (fun _ hk => hk.2) (I q t453)) (fun _ hk => hk.2) (I q t454)) (fun _ hk => hk.2) (I q t455)) (fun _ hk => hk.2) (I q t456)) (fun _ hk => hk.2) (I q t457)) (fun _ hk => hk.2) (.bool false)) (fun _ hk => trivial)⟩, ⟨by (with_reducible repeat (first | apply ra | apply rN | apply rd1)); exact Kd.R_mono (rf (p := ⟨g459, 5, none⟩) (rf (p := ⟨g459, 4, none⟩) (rf (p := ⟨g459, 3, none⟩) (rf (p := ⟨g459, 2, none⟩) (rf (p := ⟨g459, 1, none⟩) (rf (p := ⟨g459, 0, none⟩) (Kd.R_types o1.out B459.out (by decide)) (fun _ hk => hk.2) (I q t453)) (fun _ hk => hk.2) (I q t454)) (fun _ hk => hk.2) (I q t455)) (fun _ hk => hk.2) (I q t456)) (fun _ hk => hk.2) (I q t457)) (fun _ hk => hk.2) (.bool false)) (fun _ hk => trivial)⟩, ⟨by (with_reducible repeat (first | apply ra | apply rN | apply rd1)); exact Kd.R_mono (rf (p := ⟨g459, 5, none⟩) (rf (p := ⟨g459, 4, none⟩) (rf (p := ⟨g459, 3, none⟩) (rf (p := ⟨g459, 2, none⟩) (rf (p := ⟨g459, 1, none⟩) (rf (p := ⟨g459, 0, none⟩) (Kd.R_types o2.out B459.out (by decide)) (fun _ hk => hk.2) (I q t453)) (fun _ hk => hk.2) (I q t454)) (fun _ hk => hk.2) (I q t455)) (fun _ hk => hk.2) (I q t456)) (fun _ hk => hk.2) (I q t457)) (fun _ hk => hk.2) (.bool false)) (fun _ hk => trivial)⟩, ⟨by (iterate 6 ((with_reducible repeat (first | apply bN | apply bd | apply ba)); refine bq ?_ NB441_459.out _)); (with_reducible repeat (first | apply bN | apply bd | apply ba)); exact B441.out⟩, ⟨by (iterate 6 ((with_reducible repeat (first | apply bN | apply bd | apply ba)); refine bq ?_ NB446_459.out _)); (with_reducible repeat (first | apply bN | apply bd | apply ba)); exact B446.out⟩, ⟨by repeat (first | (with_reducible first | exact HB.out | apply pa | apply pN | apply p1 | refine bs ?_ E441.out | refine bs ?_ E446.out | refine bs ?_ E459.out) | exact HB.out)⟩⟩
         ·rw [if_neg c25] at H
          have c25b0 : (t453 == 0) = false := beq_eq_false_iff_ne.mpr c25
          have c25b1 : (t453 != 0) = true := bne_iff_ne.mpr c25
          cases H
        ·rw [if_neg c23] at H
         exact absurd H (by simp)
       ·rw [if_neg c22] at H
        have c22b0 : decide (x8_1 < (((rd_T64 t437 t440).f3).length : Int)) = false := decide_eq_false c22
        clear c22
        have H' := am H
        clear H
        go_wp2
        go_loopg [10] k1 (fun kq v10 w' => ∃ (x10_2 : Int), v10 = I q x10_2 ∧ Aside0 (laws_FnDrained.l1 kq x6_1 ((rd_T64 t437 t440).f3) x10_2 t433 t434 t437 t442 t443 = some r) ∧ Aside0 (kq ≤ k1) ∧ Aside0 (Kd.R k36 36 w' w.heap.size (fun _ => True) (J Ao12 t434.length co12) t434) ∧ Aside0 (Kd.R k64 64 w' w.heap.size (fun _ => True) (.slice (some ad451) t437.length co13) t437) ∧ Aside0 (Kd.R k67 67 w' w.heap.size (fun _ => True) (J Ao18 t443.length co18) t443) ∧ Aside0 (w'.heap[g441]? = some (.cells #[I q t433, (J Ao12 t434.length co12), (.slice (some ad451) t437.length co13)] 31 (0, 0))) ∧ Aside0 (w'.heap[g446]? = some (.cells #[I q t442, (J Ao18 t443.length co18)] 53 (0, 0))) ∧ Aside0 (Below w19.heap.size w19 w'))
        case atStart => exact ⟨(0), (by first | rfl | (simp; done) | (simp [*]; done)), H', ⟨Nat.le_refl _⟩, ⟨by (with_reducible repeat (first | apply ra | apply rN | apply rd1)); exact o0.out⟩, ⟨by (with_reducible repeat (first | apply ra | apply rN | apply rd1)); exact o1.out⟩, ⟨by (with_reducible repeat (first | apply ra | apply rN | apply rd1)); exact o2.out⟩, ⟨by (with_reducible repeat (first | apply bN | apply bd | apply ba)); exact B441.out⟩, ⟨by (with_reducible repeat (first | apply bN | apply bd | apply ba)); exact B446.out⟩, ⟨by repeat (first | (with_reducible first | exact HB.out | apply pa | apply pN | apply p1 | refine bs ?_ E441.out | refine bs ?_ E446.out) | exact HB.out)⟩⟩
        case round =>
         clear H'
         try clear c1
         try clear c2
         try clear p2
         try clear p4
         try clear q4
         try clear hx4
         try clear c6
         try clear p6
         try clear c7
         try clear c18
         try clear c22
         try clear c22b0
         try clear c23
         try clear c25
         try clear c25b0
         try clear c25b1
         try clear p45
         try clear q45
         try clear hx45
         try clear c64
         try clear p64
         try clear c65
         try clear c77
         try clear c78
         try clear hcz66_0
         try clear hcz66_1
         try clear hcz66_2
         try clear hcz66_3
         try clear hcz66_4
         try clear hcz66_5
         try clear hcz79_0
         try clear hcz79_1
         try clear hcz79_2
         try clear hcz79_3
         try clear hcz79_4
         try clear hcz79_5
         try clear hfz66_0
         try clear hfz66_1
         try clear hfz66_2
         try clear hfz66_3
         try clear hfz66_4
         try clear hfz66_5
         try clear hfz79_0
         try clear hfz79_1
         try clear hfz79_2
         try clear hfz79_3
         try clear hfz79_4
         try clear hfz79_5
         try clear hx452_0
         try clear p452
         try clear q452
         obtain ⟨x10_2, rfl, HA, HK2, o0, o1, o2, B441, B446, HB⟩ := hrel
         cases gk with
         | zero => exact absurd HA.out (by simp [laws_FnDrained.l1])
         | succ k2 =>
          have H := HA.out
          clear HA
          simp only [laws_FnDrained.l1] at H
          by_cases c80 : x10_2 < (t443.length : Int)
          ·rw [if_pos c80] at H
           have c80b0 : decide (x10_2 < (t443.length : Int)) = true := decide_eq_true c80
           clear c80
           by_cases c81 : 0 ≤ x10_2
           ·rw [if_pos c81] at H
            have c81b0 : decide (0 ≤ x10_2) = true := decide_eq_true c81
            clear c81
            replace H := Option.bind_eq_some_iff.mp H
            obtain ⟨t462, A820, H⟩ := H
            replace H : (if t462 = true then ((impl_BackendAt.f t433 t434 t437 ((rd_T67 t443 x10_2).f0)).bind fun bt464 => (if bt464.2.2.2.1 = ((rd_T67 t443 x10_2).f1) then (laws_FnDrained.l1 k2 x6_1 ((rd_T64 t437 t440).f3) (wrap64 (x10_2 + 1)) t433 t434 t437 t442 t443) else none)) else none) = some r := H
            have A82 := am A820
            clear A820
            by_cases c83 : t462 = true
            ·subst c83
             have H1 : ((impl_BackendAt.f t433 t434 t437 ((rd_T67 t443 x10_2).f0)).bind fun bt464 => (if bt464.2.2.2.1 = ((rd_T67 t443 x10_2).f1) then (laws_FnDrained.l1 k2 x6_1 ((rd_T64 t437 t440).f3) (wrap64 (x10_2 + 1)) t433 t434 t437 t442 t443) else none)) = some r := by rw [if_pos rfl] at H; exact H
             clear H
             have H := H1
             clear H1
             replace H := Option.bind_eq_some_iff.mp H
             obtain ⟨⟨t464, t465, t466, t467, t468, t469⟩, A840, H⟩ := H
             replace H : (if t467 = ((rd_T67 t443 x10_2).f1) then (laws_FnDrained.l1 k2 x6_1 ((rd_T64 t437 t440).f3) (wrap64 (x10_2 + 1)) t433 t434 t437 t442 t443) else none) = some r := H
             have A84 := am A840
             clear A840
             by_cases c85 : t467 = ((rd_T67 t443 x10_2).f1)
             ·rw [if_pos c85] at H
              have c85b0 : (t467 == ((rd_T67 t443 x10_2).f1)) = true := beq_iff_eq.mpr c85
              have c85b1 : (t467 != ((rd_T67 t443 x10_2).f1)) = false := bne_eq_false_iff_eq.mpr c85
              clear c85
              have H' := am H
              clear H
              have hnb86 := NB446_441.out
              have hnc86 := NB441_446.out
              have hcz87_0 : wr.cell? ⟨g446, 0, none⟩ = some (I q t442) := (bc B446.out 0).trans rfl
              have hcz87_1 : wr.cell? ⟨g446, 1, none⟩ = some (J Ao18 t443.length co18) := (bc B446.out 1).trans rfl
              have hfz87_0 := bf B446.out 0
              have hfz87_1 := bf B446.out 1
              try go_wp2
              have N0 := am (rd1 o0.out)
              have N1 := am (rd1 o1.out)
              have N2 := am (rd1 o2.out)
              have N3 := am (bd B441.out)
              have N4 := am (bd B446.out)
              have N5 := am (p1 HB.out)
              clear o0
              clear o1
              clear o2
              clear B441
              clear B446
              clear HB
              have o0 := N0
              have o1 := N1
              have o2 := N2
              have B441 := N3
              have B446 := N4
              have HB := N5
              clear N0 N1 N2 N3 N4 N5
              have p461 : 0 ≤ (x10_2 : Int) := of_decide_eq_true (by first | (with_reducible assumption) | assumption)
              have q461 : x10_2 < (t443.length : Int) := of_decide_eq_true (by first | (with_reducible assumption) | assumption)
              obtain ⟨ad461, e461, hx461_0, hx461_1⟩ := at_T67 (Kd.R_reads' o2.out).2.2 x10_2 p461 q461
              cases e461
              replace p461 := eq_true p461
              replace q461 := eq_true q461
              have p463 : 0 ≤ (x10_2 : Int) := of_decide_eq_true (by first | (with_reducible assumption) | assumption)
              have q463 : x10_2 < (t443.length : Int) := of_decide_eq_true (by first | (with_reducible assumption) | assumption)
              obtain ⟨ad463, e463, hx463_0, hx463_1⟩ := at_T67 (Kd.R_reads' o2.out).2.2 x10_2 p463 q463
              obtain rfl : ad461 = ad463 := (by injection e463)
              replace p463 := eq_true p463
              replace q463 := eq_true q463
              have p470 : 0 ≤ (x10_2 : Int) := of_decide_eq_true (by first | (with_reducible assumption) | assumption)
              have q470 : x10_2 < (t443.length : Int) := of_decide_eq_true (by first | (with_reducible assumption) | assumption)
              obtain ⟨ad470, e470, hx470_0, hx470_1⟩ := at_T67 (Kd.R_reads' o2.out).2.2 x10_2 p470 q470
              obtain rfl : ad461 = ad470 := (by injection e470)
              replace p470 := eq_true p470
              replace q470 := eq_true q470
              refine start_ (n := 28) (S := fun w' => w'.cell? ⟨g446, 0, none⟩ = some (I q t442) ∧ w'.cell? ⟨g446, 1, none⟩ = some (.slice (some ad461) t443.length co18) ∧ w'.cell? ⟨g441, 0, none⟩ = some (I q t433) ∧ w'.cell? ⟨g441, 1, none⟩ = some (J Ao12 t434.length co12) ∧ w'.cell? ⟨g441, 2, none⟩ = some (.slice (some ad451) t437.length co13) ∧ w'.cell? (ad461.add ((x10_2).toNat * 2)) = some (I q ((rd_T67 t443 x10_2).f0)) ∧ w'.cell? ⟨(ad461.add ((x10_2).toNat * 2)).block, (ad461.add ((x10_2).toNat * 2)).off + 1, none⟩ = some (I q ((rd_T67 t443 x10_2).f1)) ∧ w'.cell? (ad461.add ((x10_2).toNat * 2)) = some (I q ((rd_T67 t443 x10_2).f0)) ∧ w'.cell? ⟨(ad461.add ((x10_2).toNat * 2)).block, (ad461.add ((x10_2).toNat * 2)).off + 1, none⟩ = some (I q ((rd_T67 t443 x10_2).f1)) ∧ w'.cell? (ad461.add ((x10_2).toNat * 2)) = some (I q ((rd_T67 t443 x10_2).f0)) ∧ w'.cell? ⟨(ad461.add ((x10_2).toNat * 2)).block, (ad461.add ((x10_2).toNat * 2)).off + 1, none⟩ = some (I q ((rd_T67 t443 x10_2).f1))) (ds := []) (Mk 28 0) (by kernel_rfl) rfl rfl ⟨(bc B446.out 0).trans rfl, (bc B446.out 1).trans rfl, (bc B441.out 0).trans rfl, (bc B441.out 1).trans rfl, (bc B441.out 2).trans rfl, hx461_0, hx461_1, hx463_0, hx463_1, hx470_0, hx470_1⟩ (fun hHeld => ?_); refine with_tabW laws_FnDrained.tab20 laws_FnDrained.bits20 (fun HT_ HW_ => ?_)
              generalize wr.drew = w88 at o0 o1 o2 B441 B446 HB hx461_0 hx461_1 hx463_0 hx463_1 hx470_0 hx470_1 hHeld ⊢
              refine pure_ (i := 0) (N := some 70) (v := ?_) (a' := ?_) (Mk 28 1) rfl rfl (any_of HT_.out (by kernel_rfl)) (fun _ _ _ h => h) (Or.inl ⟨by rfl, ?_⟩) ?_ ?_
              rotate_left
              ·intro w'
               first | (go_simp; with_reducible rfl) | (go_simp; (try unfold Instr.field); go_simp; (try simp only [asAgg]); go_simp; with_reducible rfl)
              rotate_left
              ·simp only [Act.put, List.setIfInBounds_toArray, List.set_cons_zero, List.set_cons_succ, i64_w, i32_w]
               rfl
              refine pure_ (i := 1) (N := some 71) (v := ?_) (a' := ?_) (Mk 28 3) rfl rfl (any_of HT_.out (by kernel_rfl)) (fun _ _ _ h => h) (Or.inl ⟨by rfl, ?_⟩) ?_ ?_
              rotate_left
              ·intro w'
               first | (go_simp; with_reducible rfl) | (go_simp; (try unfold Instr.field); go_simp; (try simp only [asAgg]); go_simp; with_reducible rfl)
              rotate_left
              ·simp only [Act.put, List.setIfInBounds_toArray, List.set_cons_zero, List.set_cons_succ, i64_w, i32_w]
               rfl
              refine pure_ (i := 3) (N := some 73) (v := ?_) (a' := ?_) (Mk 28 11) rfl rfl (any_of HT_.out (by kernel_rfl)) (fun _ _ _ h => h) (Or.inl ⟨by rfl, ?_⟩) ?_ ?_
              rotate_left
              ·intro w'
               first | (go_simp; with_reducible rfl) | (go_simp; (try unfold Instr.field); go_simp; (try simp only [asAgg]); go_simp; with_reducible rfl)
              rotate_left
              ·simp only [Act.put, List.setIfInBounds_toArray, List.set_cons_zero, List.set_cons_succ, i64_w, i32_w]
               rfl
              refine take_ (i := 2) (N := some 72) (v := ?_) (a' := ?_) (Mk 28 15) rfl rfl (take_ofW HT_.out HW_.out (by kernel_rfl)) (fun _ _ _ h => h) (Or.inl ⟨by rfl, ?_⟩) hHeld ?_ ?_
              rotate_left
              ·rintro w' ⟨s0, s1, s2, s3, s4, s5, s6, s7, s8, s9, s10⟩
               go_simp
               with_reducible rfl
              rotate_left
              ·simp only [Act.put, List.setIfInBounds_toArray, List.set_cons_zero, List.set_cons_succ, i64_w, i32_w]
               rfl
              refine pure_ (i := 4) (N := some 74) (v := ?_) (a' := ?_) (Mk 28 31) rfl rfl (any_of HT_.out (by kernel_rfl)) (fun _ _ _ h => h) (Or.inl ⟨by rfl, ?_⟩) ?_ ?_
              rotate_left
              ·intro w'
               first | (go_simp; with_reducible rfl) | (go_simp; (try unfold Instr.field); go_simp; (try simp only [asAgg]); go_simp; with_reducible rfl)
              rotate_left
              ·simp only [Act.put, List.setIfInBounds_toArray, List.set_cons_zero, List.set_cons_succ, i64_w, i32_w]
               rfl
              refine pure_ (i := 5) (N := some 75) (v := ?_) (a' := ?_) (Mk 28 63) rfl rfl (any_of HT_.out (by kernel_rfl)) (fun _ _ _ h => h) (Or.inl ⟨by rfl, ?_⟩) ?_ ?_
              rotate_left
              ·intro w'
               first | (go_simp; with_reducible rfl) | (go_simp; (try unfold Instr.field); go_simp; (try simp only [asAgg]); go_simp; with_reducible rfl)
              rotate_left
              ·simp only [Act.put, List.setIfInBounds_toArray, List.set_cons_zero, List.set_cons_succ, i64_w, i32_w]
               rfl
              refine take_ (i := 6) (N := some 76) (v := ?_) (a' := ?_) (Mk 28 127) rfl rfl (take_ofW HT_.out HW_.out (by kernel_rfl)) (fun _ _ _ h => h) (Or.inl ⟨by rfl, ?_⟩) hHeld ?_ ?_
              rotate_left
              ·rintro w' ⟨s0, s1, s2, s3, s4, s5, s6, s7, s8, s9, s10⟩
               go_simp
               with_reducible rfl
              rotate_left
              ·simp only [Act.put, List.setIfInBounds_toArray, List.set_cons_zero, List.set_cons_succ, i64_w, i32_w]
               rfl
              refine one_ (i := 7) (N := some 77) (Mk 28 255) rfl rfl (one_of HT_.out (by kernel_rfl)) (by decide) (fun K hK => ?_)
              refine goes_ Try.func32 (by kernel_rfl) rfl #[J A451_3 ((rd_T64 t437 t440).f3).length c451_3, I q ((rd_T67 t443 x10_2).f0)] (by rfl) rfl rfl (by (try simp only [List.map_toArray, List.map_cons, List.map_nil]); first | done | rfl | (simp only [List.length_drop, List.length_take]; rfl)) ?_
              with_reducible refine (laws_lwHas.calls k2 _ _ ((rd_T64 t437 t440).f3) ((rd_T67 t443 x10_2).f0) true _ ?side1 ?side2 A82.out).mono ?_
              (case side1 => repeat (first | exact (Kd.C_below HR451_3.out HB.out) | (with_reducible refine ca ?_ _) | (with_reducible refine cN ?_ _) | (with_reducible refine cd1 ?_)))
              (case side2 => exact HC451_3.out)
              rintro e w' ⟨rfl, ⟨nd, rfl⟩⟩
              refine ⟨_, rfl, ?_⟩
              refine hK.out _ _ ⟨(bc B446.out 0).trans rfl, (bc B446.out 1).trans rfl, (bc B441.out 0).trans rfl, (bc B441.out 1).trans rfl, (bc B441.out 2).trans rfl, hHeld.2.2.2.2.2.1, hHeld.2.2.2.2.2.2.1, hHeld.2.2.2.2.2.2.2.1, hHeld.2.2.2.2.2.2.2.2.1, hHeld.2.2.2.2.2.2.2.2.2.1, hHeld.2.2.2.2.2.2.2.2.2.2⟩ (fun hHeld => ?_)
              clear hK K
              refine norm_ (a' := ?_) ?_ ?_
              rotate_left
              ·show Act.put _ (some 77) _ = _
               simp only [Act.put, List.setIfInBounds_toArray, List.set_cons_zero, List.set_cons_succ, i64_w, i32_w]
               rfl
              refine pure_ (i := 8) (N := some 78) (v := ?_) (a' := ?_) (Mk 28 511) rfl rfl (any_of HT_.out (by kernel_rfl)) (fun _ _ _ h => h) (Or.inl ⟨by rfl, ?_⟩) ?_ ?_
              rotate_left
              ·intro w'
               first | (go_simp; with_reducible rfl) | (go_simp; (try unfold Instr.field); go_simp; (try simp only [asAgg]); go_simp; with_reducible rfl)
              rotate_left
              ·simp only [Act.put, List.setIfInBounds_toArray, List.set_cons_zero, List.set_cons_succ, i64_w, i32_w]
               rfl
              refine pure_ (i := 9) (N := some 79) (v := ?_) (a' := ?_) (Mk 28 1023) rfl rfl (any_of HT_.out (by kernel_rfl)) (fun _ _ _ h => h) (Or.inl ⟨by rfl, ?_⟩) ?_ ?_
              rotate_left
              ·intro w'
               first | (go_simp; with_reducible rfl) | (go_simp; (try unfold Instr.field); go_simp; (try simp only [asAgg]); go_simp; with_reducible rfl)
              rotate_left
              ·simp only [Act.put, List.setIfInBounds_toArray, List.set_cons_zero, List.set_cons_succ, i64_w, i32_w]
               rfl
              refine pure_ (i := 11) (N := some 81) (v := ?_) (a' := ?_) (Mk 28 3071) rfl rfl (any_of HT_.out (by kernel_rfl)) (fun _ _ _ h => h) (Or.inl ⟨by rfl, ?_⟩) ?_ ?_
              rotate_left
              ·intro w'
               first | (go_simp; with_reducible rfl) | (go_simp; (try unfold Instr.field); go_simp; (try simp only [asAgg]); go_simp; with_reducible rfl)
              rotate_left
              ·simp only [Act.put, List.setIfInBounds_toArray, List.set_cons_zero, List.set_cons_succ, i64_w, i32_w]
               rfl
              refine pure_ (i := 13) (N := some 83) (v := ?_) (a' := ?_) (Mk 28 11263) rfl rfl (any_of HT_.out (by kernel_rfl)) (fun _ _ _ h => h) (Or.inl ⟨by rfl, ?_⟩) ?_ ?_
              rotate_left
              ·intro w'
               first | (go_simp; with_reducible rfl) | (go_simp; (try unfold Instr.field); go_simp; (try simp only [asAgg]); go_simp; with_reducible rfl)
              rotate_left
              ·simp only [Act.put, List.setIfInBounds_toArray, List.set_cons_zero, List.set_cons_succ, i64_w, i32_w]
               rfl
              refine pure_ (i := 20) (N := some 90) (v := ?_) (a' := ?_) (Mk 28 1059839) rfl rfl (any_of HT_.out (by kernel_rfl)) (fun _ _ _ h => h) (Or.inl ⟨by rfl, ?_⟩) ?_ ?_
              rotate_left
              ·intro w'
               first | (go_simp; with_reducible rfl) | (go_simp; (try unfold Instr.field); go_simp; (try simp only [asAgg]); go_simp; with_reducible rfl)
              rotate_left
              ·simp only [Act.put, List.setIfInBounds_toArray, List.set_cons_zero, List.set_cons_succ, i64_w, i32_w]
               rfl
              refine pure_ (i := 22) (N := some 92) (v := ?_) (a' := ?_) (Mk 28 5254143) rfl rfl (any_of HT_.out (by kernel_rfl)) (fun _ _ _ h => h) (Or.inl ⟨by rfl, ?_⟩) ?_ ?_
              rotate_left
              ·intro w'
               first | (go_simp; with_reducible rfl) | (go_simp; (try unfold Instr.field); go_simp; (try simp only [asAgg]); go_simp; with_reducible rfl)
              rotate_left
              ·simp only [Act.put, List.setIfInBounds_toArray, List.set_cons_zero, List.set_cons_succ, i64_w, i32_w]
               rfl
              refine take_ (i := 10) (N := some 80) (v := ?_) (a' := ?_) (Mk 28 5255167) rfl rfl (take_ofW HT_.out HW_.out (by kernel_rfl)) (fun _ _ _ h => h) (Or.inl ⟨by rfl, ?_⟩) hHeld ?_ ?_
              rotate_left
              ·rintro w' ⟨s0, s1, s2, s3, s4, s5, s6, s7, s8, s9, s10⟩
               go_simp
               with_reducible rfl
              rotate_left
              ·simp only [Act.put, List.setIfInBounds_toArray, List.set_cons_zero, List.set_cons_succ, i64_w, i32_w]
               rfl
              refine take_ (i := 12) (N := some 82) (v := ?_) (a' := ?_) (Mk 28 5259263) rfl rfl (take_ofW HT_.out HW_.out (by kernel_rfl)) (fun _ _ _ h => h) (Or.inl ⟨by rfl, ?_⟩) hHeld ?_ ?_
              rotate_left
              ·rintro w' ⟨s0, s1, s2, s3, s4, s5, s6, s7, s8, s9, s10⟩
               go_simp
               with_reducible rfl
              rotate_left
              ·simp only [Act.put, List.setIfInBounds_toArray, List.set_cons_zero, List.set_cons_succ, i64_w, i32_w]
               rfl
              refine pure_ (i := 14) (N := some 84) (v := ?_) (a' := ?_) (Mk 28 5275647) rfl rfl (any_of HT_.out (by kernel_rfl)) (fun _ _ _ h => h) (Or.inl ⟨by rfl, ?_⟩) ?_ ?_
              rotate_left
              ·intro w'
               first | (go_simp; with_reducible rfl) | (go_simp; (try unfold Instr.field); go_simp; (try simp only [asAgg]); go_simp; with_reducible rfl)
              rotate_left
              ·simp only [Act.put, List.setIfInBounds_toArray, List.set_cons_zero, List.set_cons_succ, i64_w, i32_w]
               rfl
              refine pure_ (i := 15) (N := some 85) (v := ?_) (a' := ?_) (Mk 28 5308415) rfl rfl (any_of HT_.out (by kernel_rfl)) (fun _ _ _ h => h) (Or.inl ⟨by rfl, ?_⟩) ?_ ?_
              rotate_left
              ·intro w'
               first | (go_simp; with_reducible rfl) | (go_simp; (try unfold Instr.field); go_simp; (try simp only [asAgg]); go_simp; with_reducible rfl)
              rotate_left
              ·simp only [Act.put, List.setIfInBounds_toArray, List.set_cons_zero, List.set_cons_succ, i64_w, i32_w]
               rfl
              refine take_ (i := 16) (N := some 86) (v := ?_) (a' := ?_) (Mk 28 5373951) rfl rfl (take_ofW HT_.out HW_.out (by kernel_rfl)) (fun _ _ _ h => h) (Or.inl ⟨by rfl, ?_⟩) hHeld ?_ ?_
              rotate_left
              ·rintro w' ⟨s0, s1, s2, s3, s4, s5, s6, s7, s8, s9, s10⟩
               go_simp
               with_reducible rfl
              rotate_left
              ·simp only [Act.put, List.setIfInBounds_toArray, List.set_cons_zero, List.set_cons_succ, i64_w, i32_w]
               rfl
              refine take_ (i := 21) (N := some 91) (v := ?_) (a' := ?_) (Mk 28 7471103) rfl rfl (take_ofW HT_.out HW_.out (by kernel_rfl)) (fun _ _ _ h => h) (Or.inl ⟨by rfl, ?_⟩) hHeld ?_ ?_
              rotate_left
              ·rintro w' ⟨s0, s1, s2, s3, s4, s5, s6, s7, s8, s9, s10⟩
               go_simp
               with_reducible rfl
              rotate_left
              ·simp only [Act.put, List.setIfInBounds_toArray, List.set_cons_zero, List.set_cons_succ, i64_w, i32_w]
               rfl
              refine pure_ (i := 23) (N := some 93) (v := ?_) (a' := ?_) (Mk 28 15859711) rfl rfl (any_of HT_.out (by kernel_rfl)) (fun _ _ _ h => h) (Or.inl ⟨by rfl, ?_⟩) ?_ ?_
              rotate_left
              ·intro w'
               first | (go_simp; with_reducible rfl) | (go_simp; (try unfold Instr.field); go_simp; (try simp only [asAgg]); go_simp; with_reducible rfl)
              rotate_left
              ·simp only [Act.put, List.setIfInBounds_toArray, List.set_cons_zero, List.set_cons_succ, i64_w, i32_w]
               rfl
              refine pure_ (i := 24) (N := some 94) (v := ?_) (a' := ?_) (Mk 28 32636927) rfl rfl (any_of HT_.out (by kernel_rfl)) (fun _ _ _ h => h) (Or.inl ⟨by rfl, ?_⟩) ?_ ?_
              rotate_left
              ·intro w'
               first | (go_simp; with_reducible rfl) | (go_simp; (try unfold Instr.field); go_simp; (try simp only [asAgg]); go_simp; with_reducible rfl)
              rotate_left
              ·simp only [Act.put, List.setIfInBounds_toArray, List.set_cons_zero, List.set_cons_succ, i64_w, i32_w]
               rfl
              refine take_ (i := 25) (N := some 95) (v := ?_) (a' := ?_) (Mk 28 66191359) rfl rfl (take_ofW HT_.out HW_.out (by kernel_rfl)) (fun _ _ _ h => h) (Or.inl ⟨by rfl, ?_⟩) hHeld ?_ ?_
              rotate_left
              ·rintro w' ⟨s0, s1, s2, s3, s4, s5, s6, s7, s8, s9, s10⟩
               go_simp
               with_reducible rfl
              rotate_left
              ·simp only [Act.put, List.setIfInBounds_toArray, List.set_cons_zero, List.set_cons_succ, i64_w, i32_w]
               rfl
              refine one_ (i := 17) (N := some 87) (Mk 28 66322431) rfl rfl (one_of HT_.out (by kernel_rfl)) (by decide) (fun K hK => ?_)
              refine goes_ Try.func18 (by kernel_rfl) rfl #[.agg #[I q t433, J Ao12 t434.length co12, .slice (some ad451) t437.length co13], I q ((rd_T67 t443 x10_2).f0)] (by rfl) rfl rfl (by (try simp only [List.map_toArray, List.map_cons, List.map_nil]); first | done | rfl | (simp only [List.length_drop, List.length_take]; rfl)) ?_
              with_reducible refine (impl_BackendAt.calls t433 _ _ t434 _ _ t437 ((rd_T67 t443 x10_2).f0) t464 t465 t466 t467 t468 t469 _ ?side1 ?side2 ?side3 ?side4 A84.out).mono ?_
              (case side1 => repeat (first | exact (Kd.R_reads' o0.out).2.2 | (with_reducible refine ca ?_ _) | (with_reducible refine cN ?_ _) | (with_reducible refine cd1 ?_)))
              (case side2 => exact (Kd.R_reads' o0.out).2.1)
              (case side3 => repeat (first | exact (Kd.R_reads' o1.out).2.2 | (with_reducible refine ca ?_ _) | (with_reducible refine cN ?_ _) | (with_reducible refine cd1 ?_)))
              (case side4 => exact (Kd.R_reads' o1.out).2.1)
              rintro e w89 ⟨rfl, hb⟩
              have HS5_ := (hb.cell (World.block_lt_of_cell? _ _ (hHeld.2.2.2.2.2.1))).trans (hHeld.2.2.2.2.2.1)
              have HS6_ := (hb.cell (World.block_lt_of_cell? _ _ (hHeld.2.2.2.2.2.2.1))).trans (hHeld.2.2.2.2.2.2.1)
              have HS7_ := (hb.cell (World.block_lt_of_cell? _ _ (hHeld.2.2.2.2.2.2.2.1))).trans (hHeld.2.2.2.2.2.2.2.1)
              have HS8_ := (hb.cell (World.block_lt_of_cell? _ _ (hHeld.2.2.2.2.2.2.2.2.1))).trans (hHeld.2.2.2.2.2.2.2.2.1)
              have HS9_ := (hb.cell (World.block_lt_of_cell? _ _ (hHeld.2.2.2.2.2.2.2.2.2.1))).trans (hHeld.2.2.2.2.2.2.2.2.2.1)
              have HS10_ := (hb.cell (World.block_lt_of_cell? _ _ (hHeld.2.2.2.2.2.2.2.2.2.2))).trans (hHeld.2.2.2.2.2.2.2.2.2.2)
              refine ⟨_, rfl, ?_⟩
              have N0 := am (rb (by (with_reducible repeat (first | apply ra | apply rN | apply rd1)); exact o0.out) hb)
              have N1 := am (rb (by (with_reducible repeat (first | apply ra | apply rN | apply rd1)); exact o1.out) hb)
              have N2 := am (rb (by (with_reducible repeat (first | apply ra | apply rN | apply rd1)); exact o2.out) hb)
              have N3 := am (bb (g := g441) (by (with_reducible repeat (first | apply bN | apply bd | apply ba)); exact B441.out) hb)
              have N4 := am (bb (g := g446) (by (with_reducible repeat (first | apply bN | apply bd | apply ba)); exact B446.out) hb)
              have N5 := am (bp (by repeat (first | (with_reducible first | exact HB.out | apply pa | apply pN | apply p1 | refine bs ?_ E441.out | refine bs ?_ E446.out) | exact HB.out)) hb)
              clear o0
              clear o1
              clear o2
              clear B441
              clear B446
              clear HB
              have o0 := N0
              have o1 := N1
              have o2 := N2
              have B441 := N3
              have B446 := N4
              have HB := N5
              clear N0 N1 N2 N3 N4 N5
              (try clear hb)
              (try clear hb2)
              (try clear hk)
              (try clear hi)
              refine hK.out _ _ ⟨(bc B446.out 0).trans rfl, (bc B446.out 1).trans rfl, (bc B441.out 0).trans rfl, (bc B441.out 1).trans rfl, (bc B441.out 2).trans rfl, HS5_, HS6_, HS7_, HS8_, HS9_, HS10_⟩ (fun hHeld => ?_)
              clear hK K
              refine norm_ (a' := ?_) ?_ ?_
              rotate_left
              ·show Act.put _ (some 87) _ = _
               simp only [Act.put, List.setIfInBounds_toArray, List.set_cons_zero, List.set_cons_succ, i64_w, i32_w]
               rfl
              refine pure_ (i := 18) (N := some 88) (v := ?_) (a' := ?_) (Mk 28 66584575) rfl rfl (any_of HT_.out (by kernel_rfl)) (fun _ _ _ h => h) (Or.inl ⟨by rfl, ?_⟩) ?_ ?_
              rotate_left
              ·intro w'
               first | (go_simp; with_reducible rfl) | (go_simp; (try unfold Instr.field); go_simp; (try simp only [asAgg]); go_simp; with_reducible rfl)
              rotate_left
              ·simp only [Act.put, List.setIfInBounds_toArray, List.set_cons_zero, List.set_cons_succ, i64_w, i32_w]
               rfl
              refine pure_ (i := 19) (N := some 89) (v := ?_) (a' := ?_) (Mk 28 67108863) rfl rfl (any_of HT_.out (by kernel_rfl)) (fun _ _ _ h => h) (Or.inl ⟨by rfl, ?_⟩) ?_ ?_
              rotate_left
              ·intro w'
               first | (go_simp; with_reducible rfl) | (go_simp; (try unfold Instr.field); go_simp; (try simp only [asAgg]); go_simp; with_reducible rfl)
              rotate_left
              ·simp only [Act.put, List.setIfInBounds_toArray, List.set_cons_zero, List.set_cons_succ, i64_w, i32_w]
               rfl
              refine pure_ (i := 26) (N := some 96) (v := ?_) (a' := ?_) (Mk 28 134217727) rfl rfl (any_of HT_.out (by kernel_rfl)) (fun _ _ _ h => h) (Or.inl ⟨by rfl, ?_⟩) ?_ ?_
              rotate_left
              ·intro w'
               first | (go_simp; with_reducible rfl) | (go_simp; (try unfold Instr.field); go_simp; (try simp only [asAgg]); go_simp; with_reducible rfl)
              rotate_left
              ·simp only [Act.put, List.setIfInBounds_toArray, List.set_cons_zero, List.set_cons_succ, i64_w, i32_w]
               rfl
              refine pure_ (i := 27) (N := some 97) (v := ?_) (a' := ?_) (Mk 28 268435455) rfl rfl (any_of HT_.out (by kernel_rfl)) (fun _ _ _ h => h) (Or.inl ⟨by rfl, ?_⟩) ?_ ?_
              rotate_left
              ·intro w'
               first | (go_simp; with_reducible rfl) | (go_simp; (try unfold Instr.field); go_simp; (try simp only [asAgg]); go_simp; with_reducible rfl)
              rotate_left
              ·simp only [Act.put, List.setIfInBounds_toArray, List.set_cons_zero, List.set_cons_succ, i64_w, i32_w]
               rfl
              refine done_ (done_of HT_.out (by kernel_rfl)) ?_
              try go_wp2
              go_roundg k2
              case measure => have := HK1.out; have := HK2.out; omega
              case rel => exact ⟨(wrap64 (x10_2 + 1)), (by first | rfl | (simp; done) | (simp [*]; done)), H', ⟨by have := HK1.out; have := HK2.out; omega⟩, ⟨by (with_reducible repeat (first | apply ra | apply rN | apply rd1)); exact o0.out⟩, ⟨by (with_reducible repeat (first | apply ra | apply rN | apply rd1)); exact o1.out⟩, ⟨by (with_reducible repeat (first | apply ra | apply rN | apply rd1)); exact o2.out⟩, ⟨by (with_reducible repeat (first | apply bN | apply bd | apply ba)); exact B441.out⟩, ⟨by (with_reducible repeat (first | apply bN | apply bd | apply ba)); exact B446.out⟩, ⟨by repeat (first | (with_reducible first | exact HB.out | apply pa | apply pN | apply p1 | refine bs ?_ E441.out | refine bs ?_ E446.out) | exact HB.out)⟩⟩
             ·rw [if_neg c85] at H
              have c85b0 : (t467 == ((rd_T67 t443 x10_2).f1)) = false := beq_eq_false_iff_ne.mpr c85
              have c85b1 : (t467 != ((rd_T67 t443 x10_2).f1)) = true := bne_iff_ne.mpr c85
              cases H
            ·replace c83 := Bool.eq_false_iff.mpr c83
             subst c83
             have H1 : none = some r := by rw [if_neg (show ¬ (false = true) by decide)] at H; exact H
             clear H
             have H := H1
             clear H1
             cases H
           ·rw [if_neg c81] at H
            exact absurd H (by simp)
          ·rw [if_neg c80] at H
           have c80b0 : decide (x10_2 < (t443.length : Int)) = false := decide_eq_false c80
           clear c80
           by_cases c97 : x6_1 = (t443.length : Int)
           ·rw [if_pos c97] at H
            have c97b0 : (x6_1 == (t443.length : Int)) = true := beq_iff_eq.mpr c97
            have c97b1 : (x6_1 != (t443.length : Int)) = false := bne_eq_false_iff_eq.mpr c97
            clear c97
            replace H := Option.bind_eq_some_iff.mp H
            obtain ⟨t460, A980, H⟩ := H
            replace H : (some (t460 == 0)) = some r := H
            have A98 := am A980
            clear A980
            obtain rfl := Option.some.inj H
            have hnb99 := NB446_441.out
            have hnc99 := NB441_446.out
            have hcz100_0 : wr.cell? ⟨g446, 0, none⟩ = some (I q t442) := (bc B446.out 0).trans rfl
            have hcz100_1 : wr.cell? ⟨g446, 1, none⟩ = some (J Ao18 t443.length co18) := (bc B446.out 1).trans rfl
            have hfz100_0 := bf B446.out 0
            have hfz100_1 := bf B446.out 1
            go_wp2_with (first | (go_at_call 33; (with_reducible refine (impl_SharesFault.calls k2 _ _ t443 t460 _ ?side1 ?side2 A98.out).mono ?_); (case side1 => repeat (first | exact (Kd.R_reads' o2.out).2.2 | (with_reducible refine ca ?_ _) | (with_reducible refine cN ?_ _) | (with_reducible refine cd1 ?_))); (case side2 => exact (Kd.R_reads' o2.out).2.1); rintro e w101 ⟨rfl, hb⟩; have N0 := am (rb (by (with_reducible repeat (first | apply ra | apply rN | apply rd1)); exact o0.out) hb); have N1 := am (rb (by (with_reducible repeat (first | apply ra | apply rN | apply rd1)); exact o1.out) hb); have N2 := am (rb (by (with_reducible repeat (first | apply ra | apply rN | apply rd1)); exact o2.out) hb); have N3 := am (bb (g := g441) (by (with_reducible repeat (first | apply bN | apply bd | apply ba)); exact B441.out) hb); have N4 := am (bb (g := g446) (by (with_reducible repeat (first | apply bN | apply bd | apply ba)); exact B446.out) hb); have N5 := am (bp (by repeat (first | (with_reducible first | exact HB.out | apply pa | apply pN | apply p1 | refine bs ?_ E441.out | refine bs ?_ E446.out) | exact HB.out)) hb); clear o0 o1 o2 B441 B446 HB; have o0 := N0; have o1 := N1; have o2 := N2; have B441 := N3; have B446 := N4; have HB := N5; clear N0 N1 N2 N3 N4 N5; (try clear hb); (try clear hb2); (try clear hk); (try clear hi)))
            go_ret
            exact ⟨by first | rfl | (simp [errW_none, errW_some] <;> rfl) | (simp [*, errW_none, errW_some] <;> rfl), Dr.up HBW.out (by repeat (first | (with_reducible first | exact HB.out | apply pa | apply pN | apply p1 | refine bs ?_ E441.out | refine bs ?_ E446.out) | exact HB.out))⟩
           ·rw [if_neg c97] at H
            cases H
    ·rw [if_neg c8] at H
     exact absurd H (by simp)
   ·rw [if_neg c7] at H
    exact absurd H (by simp)
  ·rw [if_neg c6] at H
   have c6b0 : (t442 == 0) = false := beq_eq_false_iff_ne.mpr c6
   have c6b1 : (t442 != 0) = true := bne_iff_ne.mpr c6
   replace H := Option.bind_eq_some_iff.mp H
   obtain ⟨⟨t447, t448⟩, A1040, H⟩ := H
   replace H : (some (t447 == t442)) = some r := H
   have A104 := am A1040
   clear A1040
   obtain rfl := Option.some.inj H
   try go_wp2_with (first | ((with_reducible refine gate_callee (f := 30) rfl ?_); refine goesL_ (some 12) rfl rfl Try.func30 (by kernel_rfl) rfl #[J A0 l0.length c0] rfl (by (try simp only [List.map_toArray, List.map_cons, List.map_nil]); first | done | rfl) ?_; (with_reducible refine (laws_lwBig.calls _ _ l0 false _ ?side1 ?side2 A2.out).mono ?_); (case side1 => repeat (first | exact HR0.out | (with_reducible refine ca ?_ _) | (with_reducible refine cN ?_ _) | (with_reducible refine cd1 ?_))); (case side2 => exact HC0.out); rintro e w' ⟨rfl, ⟨nd, rfl⟩⟩; refine ⟨_, rfl, ?_⟩) | ((with_reducible refine gate_callee (f := 31) rfl ?_); refine goesL_ (some 15) rfl rfl Try.func31 (by kernel_rfl) rfl #[J A0 l0.length c0] rfl (by (try simp only [List.map_toArray, List.map_cons, List.map_nil]); first | done | rfl) ?_; (with_reducible refine (spec_DrawSharesFor.calls k _ _ l0 t433 t434 t437 t440 _ ?side1 ?side2 A4.out).mono ?_); (case side1 => repeat (first | exact HR0.out | (with_reducible refine ca ?_ _) | (with_reducible refine cN ?_ _) | (with_reducible refine cd1 ?_))); (case side2 => exact HC0.out); rintro e w105 ⟨v435, v438, rfl, ho0, ho1, hb⟩; refine ⟨_, rfl, ?_⟩; have N0 := am (rw1 ho0 (bz (by repeat (first | (with_reducible first | exact HB.out | apply pa | apply pN | apply p1) | exact HB.out)))); have N1 := am (rw1 ho1 (bz (by repeat (first | (with_reducible first | exact HB.out | apply pa | apply pN | apply p1) | exact HB.out)))); have N2 := am (bp (by repeat (first | (with_reducible first | exact HB.out | apply pa | apply pN | apply p1) | exact HB.out)) hb); clear HB; have O436 := N0; have O439 := N1; have HB := N2; clear N0 N1 N2; (try clear hb); (try clear hb2); (try clear hk); (try clear hi); (try clear ho0); (try clear ho1)) | ((with_reducible refine gate_dst (N := 3) rfl ?_); refine box_event ?hg (N := 3) ?hd (cs := #[I q 0, .slice none 0 0, .slice none 0 0]) (t := 31) ?hr ?_; (case hd => rfl); (case hg => rfl); (case hr => first | (go_simp; done) | (go_simp; rfl)); intro g441 hg w106 hbox hb; have N0 := am (rb (by (with_reducible repeat (first | apply ra | apply rN | apply rd1)); exact O436.out) hb); have N1 := am (rb (by (with_reducible repeat (first | apply ra | apply rN | apply rd1)); exact O439.out) hb); have N2 := am (bp (by repeat (first | (with_reducible first | exact HB.out | apply pa | apply pN | apply p1) | exact HB.out)) hb); have N3 := am (hbox); have N4 := am ((by rw [hg]; exact (bz (by repeat (first | (with_reducible first | exact HB.out | apply pa | apply pN | apply p1) | exact HB.out))) : w.heap.size ≤ g441)); have N5 := am ((by rw [hg]; exact (bz (by repeat (first | (with_reducible first | exact HB.out | apply pa | apply pN | apply p1) | exact HB.out))) : w.heap.size ≤ g441)); clear O436 O439 HB; have O436 := N0; have O439 := N1; have HB := N2; have B441 := N3; have GW441 := N4; have E441 := N5; clear N0 N1 N2 N3 N4 N5 hb hbox hg; have hcz107_0 : w106.cell? ⟨g441, 0, none⟩ = some (I q 0) := (bc B441.out 0).trans rfl; have hcz107_1 : w106.cell? ⟨g441, 1, none⟩ = some (.slice none 0 0) := (bc B441.out 1).trans rfl; have hcz107_2 : w106.cell? ⟨g441, 2, none⟩ = some (.slice none 0 0) := (bc B441.out 2).trans rfl; have hfz107_0 := bf B441.out 0; have hfz107_1 := bf B441.out 1; have hfz107_2 := bf B441.out 2; obtain ⟨Ao108, co108, eo108⟩ := Kd.R_slice O436.out; subst eo108; obtain ⟨Ao109, co109, eo109⟩ := Kd.R_slice O439.out; subst eo109) | ((with_reducible refine gate_callee (f := 25) rfl ?_); refine goesL_ (some 20) rfl rfl Try.func25 (by kernel_rfl) rfl #[.agg #[I q t433, J Ao108 t434.length co108, J Ao109 t437.length co109], I q t440] rfl (by (try simp only [List.map_toArray, List.map_cons, List.map_nil]); first | done | rfl) ?_; (with_reducible refine (impl_SharesFor.calls t433 _ _ t434 _ _ t437 t440 t442 t443 _ ?side1 ?side2 ?side3 ?side4 A5.out).mono ?_); (case side1 => refine (Kd.R_reads' (e := 36) (base := w.heap.size) (ok := fun k_ => True) (n := t434.length) (c := co108) ?_).2.2; exact (by (with_reducible repeat (first | apply ra | apply rN | apply rd1)); exact (Kd.R_mono (rf (p := ⟨g441, 2, none⟩) (rf (p := ⟨g441, 1, none⟩) (rf (p := ⟨g441, 0, none⟩) (Kd.R_types O436.out B441.out (by decide)) (fun _ hk => hk.2) (I q t433)) (fun _ hk => hk.2) (J Ao108 t434.length co108)) (fun _ hk => hk.2) (J Ao109 t437.length co109)) (fun _ h_ => h_.1)))); (case side2 => exact (Kd.R_reads' O436.out).2.1); (case side3 => refine (Kd.R_reads' (e := 64) (base := w.heap.size) (ok := fun k_ => True) (n := t437.length) (c := co109) ?_).2.2; exact (by (with_reducible repeat (first | apply ra | apply rN | apply rd1)); exact (Kd.R_mono (rf (p := ⟨g441, 2, none⟩) (rf (p := ⟨g441, 1, none⟩) (rf (p := ⟨g441, 0, none⟩) (Kd.R_types O439.out B441.out (by decide)) (fun _ hk => hk.2) (I q t433)) (fun _ hk => hk.2) (J Ao108 t434.length co108)) (fun _ hk => hk.2) (J Ao109 t437.length co109)) (fun _ h_ => h_.1)))); (case side4 => exact (Kd.R_reads' O439.out).2.1); rintro e w110 ⟨v444, rfl, ho0, hb⟩; refine ⟨_, rfl, ?_⟩; have N0 := am (rb (by (with_reducible repeat (first | apply ra | apply rN | apply rd1)); exact (Kd.R_mono (rf (p := ⟨g441, 2, none⟩) (rf (p := ⟨g441, 1, none⟩) (rf (p := ⟨g441, 0, none⟩) (Kd.R_types O436.out B441.out (by decide)) (fun _ hk => hk.2) (I q t433)) (fun _ hk => hk.2) (J Ao108 t434.length co108)) (fun _ hk => hk.2) (J Ao109 t437.length co109)) (fun _ h_ => h_.1))) hb); have N1 := am (rb (by (with_reducible repeat (first | apply ra | apply rN | apply rd1)); exact (Kd.R_mono (rf (p := ⟨g441, 2, none⟩) (rf (p := ⟨g441, 1, none⟩) (rf (p := ⟨g441, 0, none⟩) (Kd.R_types O439.out B441.out (by decide)) (fun _ hk => hk.2) (I q t433)) (fun _ hk => hk.2) (J Ao108 t434.length co108)) (fun _ hk => hk.2) (J Ao109 t437.length co109)) (fun _ h_ => h_.1))) hb); have N2 := am (rw1 ho0 (bz (by repeat (first | (with_reducible first | exact HB.out | apply pa | apply pN | apply p1 | refine bs ?_ E441.out) | exact HB.out)))); have N3 := am (bb (g := g441) (o := .cells #[I q t433, J Ao108 t434.length co108, J Ao109 t437.length co109] 31 (0, 0)) (by (with_reducible repeat (first | apply bN | apply bd | apply ba)); exact pu3i B441.out) hb); have N4 := am (bp (by repeat (first | (with_reducible first | exact HB.out | apply pa | apply pN | apply p1 | refine bs ?_ E441.out) | exact HB.out)) hb); clear O436 O439 B441 HB; have O436 := N0; have O439 := N1; have O445 := N2; have B441 := N3; have HB := N4; clear N0 N1 N2 N3 N4; (try clear hb); (try clear hb2); (try clear hk); (try clear hi); (try clear ho0)) | ((with_reducible refine gate_dst (N := 5) rfl ?_); refine box_event ?hg (N := 5) ?hd (cs := #[I q 0, .slice none 0 0]) (t := 53) ?hr ?_; (case hd => rfl); (case hg => rfl); (case hr => first | (go_simp; done) | (go_simp; rfl)); intro g446 hg w111 hbox hb; have N0 := am (rb (by (with_reducible repeat (first | apply ra | apply rN | apply rd1)); exact O436.out) hb); have N1 := am (rb (by (with_reducible repeat (first | apply ra | apply rN | apply rd1)); exact O439.out) hb); have N2 := am (rb (by (with_reducible repeat (first | apply ra | apply rN | apply rd1)); exact O445.out) hb); have N3 := am (bb (g := g441) (by (with_reducible repeat (first | apply bN | apply bd | apply ba)); exact B441.out) hb); have N4 := am (bp (by repeat (first | (with_reducible first | exact HB.out | apply pa | apply pN | apply p1 | refine bs ?_ E441.out) | exact HB.out)) hb); have N5 := am (hbox); have N6 := am ((by rw [hg]; exact (bz (by repeat (first | (with_reducible first | exact HB.out | apply pa | apply pN | apply p1 | refine bs ?_ E441.out) | exact HB.out))) : w.heap.size ≤ g446)); have N7 := am ((by rw [hg]; exact (bz (by repeat (first | (with_reducible first | exact HB.out | apply pa | apply pN | apply p1 | refine bs ?_ E441.out) | exact HB.out))) : w.heap.size ≤ g446)); have N8 := am ((by rw [hg]; exact Nat.ne_of_lt (bl (g := g441) (by (with_reducible repeat (first | apply bN | apply bd | apply ba)); exact B441.out)) : g441 ≠ g446)); have N9 := am ((by rw [hg]; exact Nat.ne_of_gt (bl (g := g441) (by (with_reducible repeat (first | apply bN | apply bd | apply ba)); exact B441.out)) : g446 ≠ g441)); clear O436 O439 O445 B441 HB; have O436 := N0; have O439 := N1; have O445 := N2; have B441 := N3; have HB := N4; have B446 := N5; have GW446 := N6; have E446 := N7; have NB441_446 := N8; have NB446_441 := N9; clear N0 N1 N2 N3 N4 N5 N6 N7 N8 N9 hb hbox hg; have hnb112 := NB446_441.out; have hnc112 := NB441_446.out; have hcz113_0 : w111.cell? ⟨g446, 0, none⟩ = some (I q 0) := (bc B446.out 0).trans rfl; have hcz113_1 : w111.cell? ⟨g446, 1, none⟩ = some (.slice none 0 0) := (bc B446.out 1).trans rfl; have hfz113_0 := bf B446.out 0; have hfz113_1 := bf B446.out 1; obtain ⟨Ao114, co114, eo114⟩ := Kd.R_slice O445.out; subst eo114))
   have N0 : Aside0 (Kd.R k36 36 ((w111.setCell ⟨g446, 0, none⟩ (I q t442)).setCell ⟨g446, 1, none⟩ (J Ao114 t443.length co114)) w.heap.size (fun _ => True) (J Ao108 t434.length co108) t434) := ⟨by (with_reducible repeat (first | apply ra | apply rN | apply rd1)); exact Kd.R_mono (rf (p := ⟨g446, 1, none⟩) (rf (p := ⟨g446, 0, none⟩) (Kd.R_types O436.out B446.out (by decide)) (fun _ hk => hk.2) (I q t442)) (fun _ hk => hk.2) (J Ao114 t443.length co114)) (fun _ hk => trivial)⟩
   have N1 : Aside0 (Kd.R k64 64 ((w111.setCell ⟨g446, 0, none⟩ (I q t442)).setCell ⟨g446, 1, none⟩ (J Ao114 t443.length co114)) w.heap.size (fun _ => True) (J Ao109 t437.length co109) t437) := ⟨by (with_reducible repeat (first | apply ra | apply rN | apply rd1)); exact Kd.R_mono (rf (p := ⟨g446, 1, none⟩) (rf (p := ⟨g446, 0, none⟩) (Kd.R_types O439.out B446.out (by decide)) (fun _ hk => hk.2) (I q t442)) (fun _ hk => hk.2) (J Ao114 t443.length co114)) (fun _ hk => trivial)⟩
   have N2 : Aside0 (Kd.R k67 67 ((w111.setCell ⟨g446, 0, none⟩ (I q t442)).setCell ⟨g446, 1, none⟩ (J Ao114 t443.length co114)) w.heap.size (fun _ => True) (J Ao114 t443.length co114) t443) := ⟨by (with_reducible repeat (first | apply ra | apply rN | apply rd1)); exact Kd.R_mono (rf (p := ⟨g446, 1, none⟩) (rf (p := ⟨g446, 0, none⟩) (Kd.R_types O445.out B446.out (by decide)) (fun _ hk => hk.2) (I q t442)) (fun _ hk => hk.2) (J Ao114 t443.length co114)) (fun _ hk => trivial)⟩
   have N3 : Aside0 (((w111.setCell ⟨g446, 0, none⟩ (I q t442)).setCell ⟨g446, 1, none⟩ (J Ao114 t443.length co114)).heap[g441]? = some (.cells #[I q t433, J Ao108 t434.length co108, J Ao109 t437.length co109] 31 (0, 0))) := ⟨by (iterate 2 ((with_reducible repeat (first | apply bN | apply bd | apply ba)); refine bq ?_ NB441_446.out _)); (with_reducible repeat (first | apply bN | apply bd | apply ba)); exact B441.out⟩
   have N4 : Aside0 (((w111.setCell ⟨g446, 0, none⟩ (I q t442)).setCell ⟨g446, 1, none⟩ (J Ao114 t443.length co114)).heap[g446]? = some (.cells #[I q t442, J Ao114 t443.length co114] 53 (0, 0))) := ⟨by (with_reducible repeat (first | apply bN | apply bd | apply ba)); exact pu2i B446.out⟩
   have N5 : Aside0 (Below w.heap.size w ((w111.setCell ⟨g446, 0, none⟩ (I q t442)).setCell ⟨g446, 1, none⟩ (J Ao114 t443.length co114))) := ⟨by repeat (first | (with_reducible first | exact HB.out | apply pa | apply pN | apply p1 | refine bs ?_ E441.out | refine bs ?_ E446.out) | exact HB.out)⟩
   (try clear O436)
   (try clear O439)
   (try clear O445)
   (try clear B441)
   (try clear B446)
   (try clear HB)
   generalize ((w111.setCell ⟨g446, 0, none⟩ (I q t442)).setCell ⟨g446, 1, none⟩ (J Ao114 t443.length co114)) = w115 at N0 N1 N2 N3 N4 N5 ⊢
   have O436 := N0
   have O439 := N1
   have O445 := N2
   have B441 := N3
   have B446 := N4
   have HB := N5
   clear N0 N1 N2 N3 N4 N5
   have N0 := am (rd1 O436.out)
   have N1 := am (rd1 O439.out)
   have N2 := am (rd1 O445.out)
   have N3 := am (bd B441.out)
   have N4 := am (bd B446.out)
   have N5 := am (p1 HB.out)
   clear O436
   clear O439
   clear O445
   clear B441
   clear B446
   clear HB
   have O436 := N0
   have O439 := N1
   have O445 := N2
   have B441 := N3
   have B446 := N4
   have HB := N5
   clear N0 N1 N2 N3 N4 N5
   refine start_ (n := 8) (S := fun w' => w'.cell? ⟨g441, 0, none⟩ = some (I q t433) ∧ w'.cell? ⟨g441, 1, none⟩ = some (J Ao108 t434.length co108) ∧ w'.cell? ⟨g441, 2, none⟩ = some (J Ao109 t437.length co109) ∧ w'.cell? ⟨g446, 0, none⟩ = some (I q t442) ∧ w'.cell? ⟨g446, 1, none⟩ = some (J Ao114 t443.length co114)) (ds := []) (Mk 8 0) (by kernel_rfl) rfl rfl ⟨(bc B441.out 0).trans rfl, (bc B441.out 1).trans rfl, (bc B441.out 2).trans rfl, (bc B446.out 0).trans rfl, (bc B446.out 1).trans rfl⟩ (fun hHeld => ?_); refine with_tabW laws_FnDrained.tab6 laws_FnDrained.bits6 (fun HT_ HW_ => ?_)
   generalize w115.drew = w116 at O436 O439 O445 B441 B446 HB hHeld ⊢
   refine pure_ (i := 1) (N := some 25) (v := ?_) (a' := ?_) (Mk 8 2) rfl rfl (any_of HT_.out (by kernel_rfl)) (fun _ _ _ h => h) (Or.inl ⟨by rfl, ?_⟩) ?_ ?_
   rotate_left
   ·intro w'
    first | (go_simp; with_reducible rfl) | (go_simp; (try unfold Instr.field); go_simp; (try simp only [asAgg]); go_simp; with_reducible rfl)
   rotate_left
   ·simp only [Act.put, List.setIfInBounds_toArray, List.set_cons_zero, List.set_cons_succ, i64_w, i32_w]
    rfl
   refine pure_ (i := 4) (N := some 28) (v := ?_) (a' := ?_) (Mk 8 18) rfl rfl (any_of HT_.out (by kernel_rfl)) (fun _ _ _ h => h) (Or.inl ⟨by rfl, ?_⟩) ?_ ?_
   rotate_left
   ·intro w'
    first | (go_simp; with_reducible rfl) | (go_simp; (try unfold Instr.field); go_simp; (try simp only [asAgg]); go_simp; with_reducible rfl)
   rotate_left
   ·simp only [Act.put, List.setIfInBounds_toArray, List.set_cons_zero, List.set_cons_succ, i64_w, i32_w]
    rfl
   refine take_ (i := 0) (N := some 24) (v := ?_) (a' := ?_) (Mk 8 19) rfl rfl (take_ofW HT_.out HW_.out (by kernel_rfl)) (fun _ _ _ h => h) (Or.inl ⟨by rfl, ?_⟩) hHeld ?_ ?_
   rotate_left
   ·rintro w' ⟨s0, s1, s2, s3, s4⟩
    go_simp
    with_reducible rfl
   rotate_left
   ·simp only [Act.put, List.setIfInBounds_toArray, List.set_cons_zero, List.set_cons_succ, i64_w, i32_w]
    rfl
   refine take_ (i := 5) (N := some 29) (v := ?_) (a' := ?_) (Mk 8 51) rfl rfl (take_ofW HT_.out HW_.out (by kernel_rfl)) (fun _ _ _ h => h) (Or.inl ⟨by rfl, ?_⟩) hHeld ?_ ?_
   rotate_left
   ·rintro w' ⟨s0, s1, s2, s3, s4⟩
    go_simp
    with_reducible rfl
   rotate_left
   ·simp only [Act.put, List.setIfInBounds_toArray, List.set_cons_zero, List.set_cons_succ, i64_w, i32_w]
    rfl
   refine one_ (i := 2) (N := some 26) (Mk 8 55) rfl rfl (one_of HT_.out (by kernel_rfl)) (by decide) (fun K hK => ?_)
   refine goes_ Try.func24 (by kernel_rfl) rfl #[.agg #[I q t433, J Ao108 t434.length co108, J Ao109 t437.length co109], I q t440] (by rfl) rfl rfl (by (try simp only [List.map_toArray, List.map_cons, List.map_nil]); first | done | rfl | (simp only [List.length_drop, List.length_take]; rfl)) ?_
   with_reducible refine (spec_SharesFor.calls t433 _ _ t434 _ _ t437 t440 t447 t448 _ ?side1 ?side2 ?side3 ?side4 A104.out).mono ?_
   (case side1 => repeat (first | exact (Kd.R_reads' O436.out).2.2 | (with_reducible refine ca ?_ _) | (with_reducible refine cN ?_ _) | (with_reducible refine cd1 ?_)))
   (case side2 => exact (Kd.R_reads' O436.out).2.1)
   (case side3 => repeat (first | exact (Kd.R_reads' O439.out).2.2 | (with_reducible refine ca ?_ _) | (with_reducible refine cN ?_ _) | (with_reducible refine cd1 ?_)))
   (case side4 => exact (Kd.R_reads' O439.out).2.1)
   rintro e w117 ⟨v449, rfl, ho0, hb⟩
   refine ⟨_, rfl, ?_⟩
   have N0 := am (rb (by (with_reducible repeat (first | apply ra | apply rN | apply rd1)); exact O436.out) hb)
   have N1 := am (rb (by (with_reducible repeat (first | apply ra | apply rN | apply rd1)); exact O439.out) hb)
   have N2 := am (re (by (with_reducible repeat (first | apply ra | apply rN | apply rd1)); exact O445.out) (Kd.R_base ho0) hb)
   have N3 := am (rw1 (rn ho0 (rl (by (with_reducible repeat (first | apply ra | apply rN | apply rd1)); exact O445.out))) (bz (by repeat (first | (with_reducible first | exact HB.out | apply pa | apply pN | apply p1 | refine bs ?_ E441.out | refine bs ?_ E446.out) | exact HB.out))))
   have N4 := am (bb (g := g441) (by (with_reducible repeat (first | apply bN | apply bd | apply ba)); exact B441.out) hb)
   have N5 := am (bb (g := g446) (by (with_reducible repeat (first | apply bN | apply bd | apply ba)); exact B446.out) hb)
   have N6 := am (bp (by repeat (first | (with_reducible first | exact HB.out | apply pa | apply pN | apply p1 | refine bs ?_ E441.out | refine bs ?_ E446.out) | exact HB.out)) hb)
   clear O436
   clear O439
   clear O445
   clear B441
   clear B446
   clear HB
   have O436 := N0
   have O439 := N1
   have O445 := N2
   have O450 := N3
   have B441 := N4
   have B446 := N5
   have HB := N6
   clear N0 N1 N2 N3 N4 N5 N6
   (try clear hb)
   (try clear hb2)
   (try clear hk)
   (try clear hi)
   (try clear ho0)
   refine hK.out _ _ ⟨(bc B441.out 0).trans rfl, (bc B441.out 1).trans rfl, (bc B441.out 2).trans rfl, (bc B446.out 0).trans rfl, (bc B446.out 1).trans rfl⟩ (fun hHeld => ?_)
   clear hK K
   refine norm_ (a' := ?_) ?_ ?_
   rotate_left
   ·show Act.put _ (some 26) _ = _
    simp only [Act.put, List.setIfInBounds_toArray, List.set_cons_zero, List.set_cons_succ, i64_w, i32_w]
    rfl
   refine pure_ (i := 3) (N := some 27) (v := ?_) (a' := ?_) (Mk 8 63) rfl rfl (any_of HT_.out (by kernel_rfl)) (fun _ _ _ h => h) (Or.inl ⟨by rfl, ?_⟩) ?_ ?_
   rotate_left
   ·intro w'
    first | (go_simp; with_reducible rfl) | (go_simp; (try unfold Instr.field); go_simp; (try simp only [asAgg]); go_simp; with_reducible rfl)
   rotate_left
   ·simp only [Act.put, List.setIfInBounds_toArray, List.set_cons_zero, List.set_cons_succ, i64_w, i32_w]
    rfl
   refine pure_ (i := 6) (N := some 30) (v := ?_) (a' := ?_) (Mk 8 127) rfl rfl (any_of HT_.out (by kernel_rfl)) (fun _ _ _ h => h) (Or.inl ⟨by rfl, ?_⟩) ?_ ?_
   rotate_left
   ·intro w'
    first | (go_simp; with_reducible rfl) | (go_simp; (try unfold Instr.field); go_simp; (try simp only [asAgg]); go_simp; with_reducible rfl)
   rotate_left
   ·simp only [Act.put, List.setIfInBounds_toArray, List.set_cons_zero, List.set_cons_succ, i64_w, i32_w]
    rfl
   refine pure_ (i := 7) (N := some 2) (v := ?_) (a' := ?_) (Mk 8 255) rfl rfl (any_of HT_.out (by kernel_rfl)) (fun _ _ _ h => h) (Or.inl ⟨by rfl, ?_⟩) ?_ ?_
   rotate_left
   ·intro w'
    first | (go_simp; with_reducible rfl) | (go_simp; (try unfold Instr.field); go_simp; (try simp only [asAgg]); go_simp; with_reducible rfl)
   rotate_left
   ·simp only [Act.put, List.setIfInBounds_toArray, List.set_cons_zero, List.set_cons_succ, i64_w, i32_w]
    rfl
   refine done_ (done_of HT_.out (by kernel_rfl)) ?_
   try go_wp2
   go_ret
   exact ⟨by first | rfl | (simp [errW_none, errW_some] <;> rfl) | (simp [*, errW_none, errW_some] <;> rfl), by repeat (first | (with_reducible first | exact HB.out | apply pa | apply pN | apply p1 | refine bs ?_ E441.out | refine bs ?_ E446.out) | exact HB.out)⟩

/-- THE ONE PURE STATEMENT of laws_FnDrained: yours. -/
def laws_FnDrained.Pure : Prop := ∀ (l0 : List Int), l0.length ≤ maxLen → l0.length * 1 ≤ 140737488351232 → (∀ x ∈ l0, (Lit.int .u8 x).wf = true) → ∃ k, laws_FnDrained.f k l0 = some true
theorem laws_FnDrained.walk (P : laws_FnDrained.Pure) (a0 : Option Addr) (len0 cap0 : Nat) (z0 : List Int) (w : World) (w0 : (a0 = none ∧ len0 = 0 ∧ cap0 = 0 ∧ z0 = []) ∨ ∃ x, a0 = some x ∧ len0 ≤ cap0 ∧ cap0 ≤ maxLen ∧ z0.length = cap0 ∧ (∀ i, i < z0.length → w.cell? (x.add i) = some (.int .u8 (z0.getD i 0))) ∧ ∀ n ∈ z0, (Lit.int .u8 n).wf = true) (y0 : len0 * 1 ≤ 140737488351232) :
  Calls Try.prog 7 #[.slice a0 len0 cap0] w fun e w' => e = .returned (.bool true) ∧ Below w.heap.size w w' := by
 obtain ⟨l0, rfl, hr0, hm0, hw0, hc0⟩ := ReadsInt.ofRowC w0
 obtain ⟨k, h⟩ := P l0 hm0 y0 hw0
 refine (laws_FnDrained.calls k _ _ l0 true w (Kd.C_of_reads (d := (0 : Int)) (h1 := fun _ => rfl) hr0) hc0 h).mono ?_
 rintro e w' ⟨rfl, hd⟩
 exact ⟨rfl, hd⟩

end Go.Proofs.Ytfmlhpoaipeoeaa.QFnDrained
