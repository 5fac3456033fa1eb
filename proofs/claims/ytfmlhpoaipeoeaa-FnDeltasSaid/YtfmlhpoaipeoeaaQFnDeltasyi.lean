-- MADE BY PROGRAM (wip/dr/assemble2.py) out of walks by hand. Lean checks it.
import Derived.Test.YtfmlhpoaipeoeaaQFnDeltasyh
import Derived.Test.YtfmlhpoaipeoeaaIx
import Derived.StillTailTactics
namespace Go.Proofs.Ytfmlhpoaipeoeaa.QFnDeltas
open Go.RowKit Go.Proofs.YtfmlhpoaipeoeaaW.PrintWords Go.Proofs.YtfmlhpoaipeoeaaW.PrintLast Go.Proofs.YtfmlhpoaipeoeaaW.PrintMore
attribute [local go_sem] max2_int min2_int max_two min_two max_three min_three max_four min_four   -- for this text's walks alone
set_option linter.unusedVariables false
set_option linter.unusedSimpArgs false
namespace Dr
theorem copy_l0 (v : Int) (l1 : List S36) (l2 : List S64) (h2 : l2.length ≤ 5) (hm : ∀ y, y ∈ l2 → y.f3.length ≤ 2000) : ∀ (d k i : Nat) (acc : List S64), i + d = l2.length → d < k → acc.length = i → spec_l5Copy.l0 k (i : Int) v l1 l2 v l1 acc = some (v, l1, acc ++ l2.drop i)
 | 0, k, i, acc, hi, hk, ha => by
  obtain ⟨k, rfl⟩ : ∃ j, k = j + 1 := ⟨k - 1, by omega⟩
  simp only [spec_l5Copy.l0]
  rw [if_neg (by omega), List.drop_eq_nil_of_le (by omega), List.append_nil]
 | d + 1, k, i, acc, hi, hk, ha => by
  obtain ⟨k, rfl⟩ : ∃ j, k = j + 1 := ⟨k - 1, by omega⟩
  have hlt : i < l2.length := by omega
  have e : rd_T64 l2 (i : Int) = l2[i] := by simp [rd_T64, List.getD, hlt]
  have hmi := hm l2[i] (List.getElem_mem hlt)
  simp only [spec_l5Copy.l0]
  rw [if_pos (by omega), if_pos (by omega), Option.bind_some, e, if_pos (by simp only [List.length_nil]; omega), if_pos (by omega), show wrap64 ((i : Int) + 1) = ((i + 1 : Nat) : Int) by unfold wrap64; omega]
  rw [copy_l0 v l1 l2 h2 hm d k (i + 1) _ (by omega) (by omega) (by rw [List.length_append]; simp only [List.length_cons, List.length_nil]; omega)]
  rw [List.drop_eq_getElem_cons hlt, List.append_assoc]
  simp only [List.nil_append, List.singleton_append]
/-- The copy of a configuration is the same. -/
theorem copy (A1 : Option Addr) (c1 : Nat) (l1 : List S36) (A2 : Option Addr) (c2 : Nat) (l2 : List S64) (v : Int) (w : World) (hr1 : Kd.C k36 w A1 l1.length l1) (hc1 : l1.length ≤ c1) (hr2 : Kd.C k64 w A2 l2.length l2) (hc2 : l2.length ≤ c2) (h1 : l1.length ≤ 9) (h2 : l2.length ≤ 5) (hm : ∀ y, y ∈ l2 → y.f3.length ≤ 2000) :
  Calls Try.prog 98 #[.agg #[.int .i64 v, .slice A1 l1.length c1, .slice A2 l2.length c2]] w fun e w' => ∃ s1 s2, e = .returned (.agg #[.int .i64 v, s1, s2]) ∧ Kd.R k36 36 w' w.heap.size (fun _ => True) s1 l1 ∧ Kd.R k64 64 w' w.heap.size (fun _ => True) s2 l2 ∧ Below w.heap.size w w' := by
 have hf : spec_l5Copy.f 6 v l1 l2 = some (v, l1, l2) := by
  unfold spec_l5Copy.f
  rw [Option.bind_some, if_pos (by simp only [List.length_nil]; omega)]
  exact copy_l0 v l1 l2 h2 hm l2.length 6 0 [] (by omega) (by omega) rfl
 refine (spec_l5Copy.calls 6 v A1 c1 l1 A2 c2 l2 v l1 l2 w hr1 hc1 hr2 hc2 hf).mono ?_
 rintro e w' ⟨s1, s2, rfl, hR1, hS2, hb⟩
 exact ⟨s1, s2, rfl, hR1, Kd.S_R hS2, hb⟩
/-- A configuration in a new box. -/
theorem St.make {w0 w : World} {v : Int} {s1 s2 : Value} {l1 : List S36} {l2 : List S64} (hb : Below w0.heap.size w0 w) (h1 : Kd.R k36 36 w w0.heap.size (fun _ => True) s1 l1) (h2 : Kd.R k64 64 w w0.heap.size (fun _ => True) s2 l2) :
  St w0 (w.alloc (.cells #[.int .i64 v, s1, s2] 31)) w.heap.size v s1 s2 l1 l2 :=
 ⟨below_alloc hb _, hb.size, blk_new w _, Kd.R_alloc h1 _, Kd.R_alloc h2 _⟩
/-- The box's version written. -/
theorem St.ver {w0 w : World} {g : Nat} {v : Int} {s1 s2 : Value} {l1 : List S36} {l2 : List S64} (h : St w0 w g v s1 s2 l1 l2) (v' : Int) : St w0 (w.setCell ⟨g, 0, none⟩ (.int .i64 v')) g v' s1 s2 l1 l2 := by
 obtain ⟨h1, h2, h3, h4, h5⟩ := h
 exact ⟨below_set h1 h2, h2, blk_put (cs := #[.int .i64 v, s1, s2]) h3 0 _ rfl, Kd.R_set h4 h3 (by decide) 0 _, Kd.R_set h5 h3 (by decide) 0 _⟩
def APost (w : World) (M : Nat) (e : Ending) (w' : World) : Prop := ∃ (code v' : Int) (s1 s2 : Value) (l1' : List S36) (l2' : List S64), e = .returned (.agg #[.int .i64 code, .int .i64 v', s1, s2]) ∧ Kd.R k36 36 w' w.heap.size (fun _ => True) s1 l1' ∧ Kd.R k64 64 w' w.heap.size (fun _ => True) s2 l2' ∧ l1'.length ≤ 8 ∧ l2'.length ≤ 4 ∧ (∀ y, y ∈ l2' → y.f3.length ≤ M + 1) ∧ Below w.heap.size w w'
theorem put4 {w : World} {g : Nat} {t : TypeId} {u0 u1 u2 u3 : Value} (h : w.heap[g]? = some (.cells #[u0, u1, u2, u3] t (0, 0))) (v0 v1 v2 v3 : Value) :
  ((((w.setCell ⟨g, 0, none⟩ v0).setCell ⟨g, 1, none⟩ v1).setCell ⟨g, 2, none⟩ v2).setCell ⟨g, 3, none⟩ v3).heap[g]? = some (.cells #[v0, v1, v2, v3] t (0, 0)) := by
 refine blk_put (cs := #[v0, v1, v2, u3]) ?_ 3 _ rfl
 refine blk_put (cs := #[v0, v1, u2, u3]) ?_ 2 _ rfl
 refine blk_put (cs := #[v0, u1, u2, u3]) ?_ 1 _ rfl
 exact blk_put (cs := #[u0, u1, u2, u3]) h 0 _ rfl
theorem R_put4 {α : Type} {d : Kd α} {e : Nat} {w : World} {g t base : Nat} {u0 u1 u2 u3 s : Value} {xs : List α} (hR : Kd.R d e w base (fun _ => True) s xs) (h : w.heap[g]? = some (.cells #[u0, u1, u2, u3] t (0, 0))) (ht : ∀ q, q ∈ e :: d.E → q ≠ t) (v0 v1 v2 v3 : Value) :
  Kd.R d e ((((w.setCell ⟨g, 0, none⟩ v0).setCell ⟨g, 1, none⟩ v1).setCell ⟨g, 2, none⟩ v2).setCell ⟨g, 3, none⟩ v3) base (fun _ => True) s xs := by
 have n1 := blk_put (cs := #[u0, u1, u2, u3]) h 0 v0 rfl
 have n2 := blk_put (cs := #[v0, u1, u2, u3]) n1 1 v1 rfl
 have n3 := blk_put (cs := #[v0, v1, u2, u3]) n2 2 v2 rfl
 exact Kd.R_set (Kd.R_set (Kd.R_set (Kd.R_set hR h ht 0 v0) n1 ht 1 v1) n2 ht 2 v2) n3 ht 3 v3
theorem afin {w w1 w6 : World} {M g : Nat} {vv : Int} {s1 s2 u0 u1 u2 u3 : Value} {l1 : List S36} {l2 : List S64} (hB : Below w.heap.size w w1) (hs : w1.heap.size = w.heap.size + 3) (h : St w1 w6 g vv s1 s2 l1 l2) (hk : w6.heap[w.heap.size + 1 + 1]? = some (.cells #[u0, u1, u2, u3] 125 (0, 0))) (h1 : l1.length ≤ 8) (h2 : l2.length ≤ 4) (hm : ∀ y, y ∈ l2 → y.f3.length ≤ M + 1) (q v' : Int) :
  APost w M (.returned (.agg #[.int .i64 q, .int .i64 v', s1, s2])) ((((w6.setCell ⟨w.heap.size + 1 + 1, 0, none⟩ (.int .i64 q)).setCell ⟨w.heap.size + 1 + 1, 1, none⟩ (.int .i64 v')).setCell ⟨w.heap.size + 1 + 1, 2, none⟩ s1).setCell ⟨w.heap.size + 1 + 1, 3, none⟩ s2) :=
 ⟨q, v', s1, s2, l1, l2, rfl, Kd.R_lower (R_put4 h.2.2.2.1 hk (by decide) _ _ _ _) (by omega), Kd.R_lower (R_put4 h.2.2.2.2 hk (by decide) _ _ _ _) (by omega), h1, h2, hm, below_set (below_set (below_set (below_set (up hB h.1) (by omega)) (by omega)) (by omega)) (by omega)⟩
theorem aerr {w w1 w6 : World} {M g : Nat} {vv : Int} {s1 s2 : Value} {l1 : List S36} {l2 : List S64} (hB : Below w.heap.size w w1) (hs : w1.heap.size = w.heap.size + 3) (h : St w1 w6 g vv s1 s2 l1 l2) (q : Int) :
  APost w M (.returned (.agg #[.int .i64 q, .int .i64 0, .slice none 0 0, .slice none 0 0])) ((((w6.setCell ⟨w.heap.size + 1 + 1, 0, none⟩ (.int .i64 q)).setCell ⟨w.heap.size + 1 + 1, 1, none⟩ (.int .i64 0)).setCell ⟨w.heap.size + 1 + 1, 2, none⟩ (.slice none 0 0)).setCell ⟨w.heap.size + 1 + 1, 3, none⟩ (.slice none 0 0)) :=
 ⟨q, 0, .slice none 0 0, .slice none 0 0, [], [], rfl, Kd.R_nil _ _ _ _ _, Kd.R_nil _ _ _ _ _, by simp, by simp, fun y hy => by simp at hy, below_set (below_set (below_set (below_set (up hB h.1) (by omega)) (by omega)) (by omega)) (by omega)⟩
end Dr
set_option maxHeartbeats 16000000 in
set_option maxRecDepth 100000 in
/-- A command done to a configuration. -/
theorem spec_l5Apply.cf (A1 : Option Addr) (c1 : Nat) (l1 : List S36) (A2 : Option Addr) (c2 : Nat) (l2 : List S64) (v x0 x1 x2 x3 x4 x5 : Int) (M : Nat) (w : World) (hr1 : Kd.C k36 w A1 l1.length l1) (hc1 : l1.length ≤ c1) (hr2 : Kd.C k64 w A2 l2.length l2) (hc2 : l2.length ≤ c2) (h1 : l1.length ≤ 8) (h2 : l2.length ≤ 4) (hM : M ≤ 1000) (hm : ∀ y, y ∈ l2 → y.f3.length ≤ M) :
  Calls Try.prog 130 #[.agg #[.int .i64 v, .slice A1 l1.length c1, .slice A2 l2.length c2], .agg #[.int .i64 x0, .int .i64 x1, .int .i64 x2, .int .i64 x3, .int .i64 x4, .int .i64 x5]] w fun e w' => Dr.APost w M e w' := by
 have hu31 := Try.underlying31
 have hu125 := Try.underlying125
 have hu128 := Try.underlying128
 obtain ⟨w1, hw1⟩ : ∃ W, W = ((w.alloc (.cells #[.int .i64 v, .slice A1 l1.length c1, .slice A2 l2.length c2] 31)).alloc (.cells #[.int .i64 x0, .int .i64 x1, .int .i64 x2, .int .i64 x3, .int .i64 x4, .int .i64 x5] 128)).alloc (.cells #[.int .i64 0, .int .i64 0, .slice none 0 0, .slice none 0 0] 125) := ⟨_, rfl⟩
 have hs1 : w1.heap.size = w.heap.size + 3 := by rw [hw1]; simp
 have hB1 : Below w.heap.size w w1 := by rw [hw1]; exact ((((Below.refl _ w).alloc (Nat.le_refl _) _).alloc (by simp) _).alloc (by simp; omega) _)
 have bc1 : w1.heap[w.heap.size]? = some (.cells #[.int .i64 v, .slice A1 l1.length c1, .slice A2 l2.length c2] 31 (0, 0)) := by rw [hw1]; exact blk_alloc (blk_alloc (blk_new w _) _) _
 have bx1 : w1.heap[w.heap.size + 1]? = some (.cells #[.int .i64 x0, .int .i64 x1, .int .i64 x2, .int .i64 x3, .int .i64 x4, .int .i64 x5] 128 (0, 0)) := by
  rw [hw1]
  refine blk_alloc ?_ _
  have h_ := heap_alloc_new (w.alloc (.cells #[.int .i64 v, .slice A1 l1.length c1, .slice A2 l2.length c2] 31)) (.cells #[.int .i64 x0, .int .i64 x1, .int .i64 x2, .int .i64 x3, .int .i64 x4, .int .i64 x5] 128)
  rwa [World.size_alloc] at h_
 have bk1 : w1.heap[w.heap.size + 1 + 1]? = some (.cells #[.int .i64 0, .int .i64 0, .slice none 0 0, .slice none 0 0] 125 (0, 0)) := by
  rw [hw1]
  have h_ := heap_alloc_new ((w.alloc (.cells #[.int .i64 v, .slice A1 l1.length c1, .slice A2 l2.length c2] 31)).alloc (.cells #[.int .i64 x0, .int .i64 x1, .int .i64 x2, .int .i64 x3, .int .i64 x4, .int .i64 x5] 128)) (.cells #[.int .i64 0, .int .i64 0, .slice none 0 0, .slice none 0 0] 125)
  rwa [World.size_alloc, World.size_alloc] at h_
 have hcopy := Dr.copy A1 c1 l1 A2 c2 l2 v w1 (Kd.C_below hr1 hB1) hc1 (Kd.C_below hr2 hB1) hc2 (by omega) (by omega) (fun y hy => Nat.le_trans (hm y hy) (by omega))
 have HB1 := Aside0.mk hB1
 have HC1 := Aside0.mk bc1
 have HX1 := Aside0.mk bx1
 have HK1 := Aside0.mk bk1
 have HM := Aside0.mk hm
 clear hm hr1 hr2 hc1 hc2 hB1 bc1 bx1 bk1
 have a0 := blk_cell HC1.out 0
 have a1 := blk_cell HX1.out 1
 have a1' := blk_cell HC1.out 1
 have a2' := blk_cell HC1.out 2
 have y0 := blk_cell HK1.out 0
 have y1 := blk_cell HK1.out 1
 have y2 := blk_cell HK1.out 2
 have y3 := blk_cell HK1.out 3
 have f0 := blk_frozen HK1.out 0
 have f1 := blk_frozen HK1.out 1
 have f2 := blk_frozen HK1.out 2
 have f3 := blk_frozen HK1.out 3
 rw [hw1] at a0 a1 a1' a2' y0 y1 y2 y3 f0 f1 f2 f3 hcopy
 go_enter Try.func130, Try.ntmps130
 have fin : ∀ q : Int, Dr.APost w M (.returned (.agg #[.int .i64 q, .int .i64 0, .slice none 0 0, .slice none 0 0])) (((w.alloc (.cells #[.int .i64 v, .slice A1 l1.length c1, .slice A2 l2.length c2] 31)).alloc (.cells #[.int .i64 x0, .int .i64 x1, .int .i64 x2, .int .i64 x3, .int .i64 x4, .int .i64 x5] 128)).alloc (.cells #[.int .i64 q, .int .i64 0, .slice none 0 0, .slice none 0 0] 125)) := fun q =>
  ⟨q, 0, .slice none 0 0, .slice none 0 0, [], [], rfl, Kd.R_nil _ _ _ _ _, Kd.R_nil _ _ _ _ _, by simp, by simp, fun y hy => by simp at hy, (((Below.refl _ w).alloc (Nat.le_refl _) _).alloc (by simp) _).alloc (by simp; omega) _⟩
 have bfin : ∀ q : Int, (((w.alloc (.cells #[.int .i64 v, .slice A1 l1.length c1, .slice A2 l2.length c2] 31)).alloc (.cells #[.int .i64 x0, .int .i64 x1, .int .i64 x2, .int .i64 x3, .int .i64 x4, .int .i64 x5] 128)).alloc (.cells #[.int .i64 q, .int .i64 0, .slice none 0 0, .slice none 0 0] 125)).heap[w.heap.size + 1 + 1]? = some (.cells #[.int .i64 q, .int .i64 0, .slice none 0 0, .slice none 0 0] 125 (0, 0)) := fun q => by
  have h_ := heap_alloc_new ((w.alloc (.cells #[.int .i64 v, .slice A1 l1.length c1, .slice A2 l2.length c2] 31)).alloc (.cells #[.int .i64 x0, .int .i64 x1, .int .i64 x2, .int .i64 x3, .int .i64 x4, .int .i64 x5] 128)) (.cells #[.int .i64 q, .int .i64 0, .slice none 0 0, .slice none 0 0] 125)
  rwa [World.size_alloc, World.size_alloc] at h_
 by_cases hv : v = 1000000
 ·have hv1 : (v == 1000000) = true := beq_iff_eq.mpr hv
  clear hv
  go_wp2
  refine bodyPost_ret (results_cell_row rfl _ _ (w.heap.size + 1 + 1) 125 #[.int .i64 3, .int .i64 0, .slice none 0 0, .slice none 0 0] (0, 0) _ rfl (bfin _) Try.underlying125 rfl (by kernel_rfl)) rfl ?_
  exact fin 3
 have hv1 : (v == 1000000) = false := beq_eq_false_iff_ne.mpr hv
 clear hv
 by_cases hold : ¬ x1 = -1 ∧ ¬ x1 = v
 ·have e1 : (x1 != -1) = true := bne_iff_ne.mpr hold.1
  have e2 : (x1 != v) = true := bne_iff_ne.mpr hold.2
  clear hold
  go_wp2
  refine bodyPost_ret (results_cell_row rfl _ _ (w.heap.size + 1 + 1) 125 #[.int .i64 9, .int .i64 0, .slice none 0 0, .slice none 0 0] (0, 0) _ rfl (bfin _) Try.underlying125 rfl (by kernel_rfl)) rfl ?_
  exact fin 9
 have hcase : ((x1 != -1) = false) ∨ ((x1 != -1) = true ∧ (x1 != v) = false) := by
  by_cases h : x1 = -1
  ·exact .inl (bne_eq_false_iff_eq.mpr h)
  ·refine .inr ⟨bne_iff_ne.mpr h, bne_eq_false_iff_eq.mpr ?_⟩
   by_cases h' : x1 = v
   ·exact h'
   ·exact absurd ⟨h, h'⟩ hold
 clear hold fin bfin
 obtain ⟨bi, hbi⟩ : ∃ b, b = Cf.inB x0 5 8 := ⟨_, rfl⟩
 have hin := fun (W : World) => Cf.l1in x0 5 8 W
 rw [← hbi] at hin
 have HIN := Aside0.mk hin
 clear hbi hin
 cases bi
 ·skip
  rcases hcase with e1 | ⟨e1, e2⟩
  all_goals
   go_wp2_with (first
    | (go_at_call 98; refine hcopy.mono ?_; rintro e w2 ⟨s1, s2, rfl, hR1, hR2, hb2⟩; rw [← hw1] at hR1 hR2 hb2; clear hcopy; obtain ⟨B1, d1, t1⟩ := Kd.R_slice hR1; subst t1; obtain ⟨B2, d2, t2⟩ := Kd.R_slice hR2; subst t2; clear a0 a1 a1' a2' y0 y1 y2 y3 f0 f1 f2 f3; have HS2 := Aside0.mk (Dr.St.make (v := v) hb2 hR1 hR2); clear hR1 hR2 hb2; have a0 := blk_cell (blk_below HX1.out HS2.out.1) 0)
    | (go_at_call 70; refine (HIN.out _).mono ?_; rintro e w4 ⟨rfl, hb4⟩; have HS4 := Aside0.mk (Dr.St.below HS2.out hb4); clear hb4 a0; have HX4 := Aside0.mk (blk_below HX1.out HS4.out.1); have a0 := blk_cell HX4.out 0; have a1 := blk_cell HX4.out 1; have a2 := blk_cell HX4.out 2; have a3 := blk_cell HX4.out 3; have a4 := blk_cell HX4.out 4; have a5 := blk_cell HX4.out 5))
   obtain ⟨g, hg⟩ : ∃ g, g = w2.heap.size := ⟨_, rfl⟩
   rw [← hg] at HS4 ⊢
   clear hg a0 a1 a2 a3 a4 a5
   refine (spec_l5Turn.cf g v _ _ l1 l2 x0 x1 x2 x3 x4 x5 w1 w4 HS4.out h1).mono ?_
   rintro e w5 ⟨r, s1', l1', rfl, hS5, hl1'⟩
   have hn : ∀ y, y ∈ l2 → y.f3.length ≤ M + 1 := fun y hy => Nat.le_succ_of_le (HM.out y hy)
   obtain ⟨s2', l2', hS5', hl2', hm2'⟩ : ∃ s2' l2', Dr.St w1 w5 g v s1' s2' l1' l2' ∧ l2'.length ≤ 4 ∧ ∀ y, y ∈ l2' → y.f3.length ≤ M + 1 := ⟨_, l2, hS5, h2, hn⟩
   clear hS5 hn HM h2
   have HS5 := Aside0.mk hS5'
   have HM5 := Aside0.mk hm2'
   clear hS5' hm2' HS4 HS2 HX4 HIN
   have HK5 := Aside0.mk (blk_below HK1.out HS5.out.1)
   obtain ⟨D1, k1, t1⟩ := Kd.R_slice HS5.out.2.2.2.1
   subst t1
   obtain ⟨D2, k2, t2⟩ := Kd.R_slice HS5.out.2.2.2.2
   subst t2
   by_cases hr : r = 0
   ·have hr1 : (r != 0) = false := bne_eq_false_iff_eq.mpr hr
    clear hr
    obtain ⟨v', hv'⟩ : ∃ v', wrap64 (v + 1) = v' := ⟨_, rfl⟩
    obtain ⟨w6, hw6⟩ : ∃ W, W = w5.setCell ⟨g, 0, none⟩ (.int .i64 v') := ⟨_, rfl⟩
    have HS6 := Aside0.mk (hw6 ▸ Dr.St.ver HS5.out v')
    have HK6 := Aside0.mk (blk_below HK1.out HS6.out.1)
    have b0 := blk_cell (blk_below HC1.out HS5.out.1) 0
    have z0 := blk_cell HS5.out.2.2.1 0
    have zf0 := blk_frozen HS5.out.2.2.1 0
    have u0 := blk_cell HS6.out.2.2.1 0
    have u1 := blk_cell HS6.out.2.2.1 1
    have u2 := blk_cell HS6.out.2.2.1 2
    have y0 := blk_cell HK6.out 0
    have y1 := blk_cell HK6.out 1
    have y2 := blk_cell HK6.out 2
    have y3 := blk_cell HK6.out 3
    have f0 := blk_frozen HK6.out 0
    have f1 := blk_frozen HK6.out 1
    have f2 := blk_frozen HK6.out 2
    have f3 := blk_frozen HK6.out 3
    rw [hw6] at u0 u1 u2 y0 y1 y2 y3 f0 f1 f2 f3
    go_wp2
    rw [← hw6]
    refine bodyPost_ret (results_cell_row rfl _ _ (w.heap.size + 1 + 1) 125 #[.int .i64 0, .int .i64 v', .slice D1 l1'.length k1, .slice D2 l2'.length k2] (0, 0) _ rfl (by exact Dr.put4 HK6.out _ _ _ _) Try.underlying125 rfl (by kernel_rfl)) rfl ?_
    exact Dr.afin HB1.out hs1 HS6.out HK6.out hl1' hl2' HM5.out 0 v'
   ·have hr1 : (r != 0) = true := bne_iff_ne.mpr hr
    clear hr
    have y0 := blk_cell HK5.out 0
    have y1 := blk_cell HK5.out 1
    have y2 := blk_cell HK5.out 2
    have y3 := blk_cell HK5.out 3
    have f0 := blk_frozen HK5.out 0
    have f1 := blk_frozen HK5.out 1
    have f2 := blk_frozen HK5.out 2
    have f3 := blk_frozen HK5.out 3
    go_wp2
    refine bodyPost_ret (results_cell_row rfl _ _ (w.heap.size + 1 + 1) 125 #[.int .i64 r, .int .i64 0, .slice none 0 0, .slice none 0 0] (0, 0) _ rfl (by exact Dr.put4 HK5.out _ _ _ _) Try.underlying125 rfl (by kernel_rfl)) rfl ?_
    exact Dr.aerr HB1.out hs1 HS5.out r
 ·skip
  rcases hcase with e1 | ⟨e1, e2⟩
  all_goals
   go_wp2_with (first
    | (go_at_call 98; refine hcopy.mono ?_; rintro e w2 ⟨s1, s2, rfl, hR1, hR2, hb2⟩; rw [← hw1] at hR1 hR2 hb2; clear hcopy; obtain ⟨B1, d1, t1⟩ := Kd.R_slice hR1; subst t1; obtain ⟨B2, d2, t2⟩ := Kd.R_slice hR2; subst t2; clear a0 a1 a1' a2' y0 y1 y2 y3 f0 f1 f2 f3; have HS2 := Aside0.mk (Dr.St.make (v := v) hb2 hR1 hR2); clear hR1 hR2 hb2; have a0 := blk_cell (blk_below HX1.out HS2.out.1) 0)
    | (go_at_call 70; refine (HIN.out _).mono ?_; rintro e w4 ⟨rfl, hb4⟩; have HS4 := Aside0.mk (Dr.St.below HS2.out hb4); clear hb4 a0; have HX4 := Aside0.mk (blk_below HX1.out HS4.out.1); have a0 := blk_cell HX4.out 0; have a1 := blk_cell HX4.out 1; have a2 := blk_cell HX4.out 2; have a3 := blk_cell HX4.out 3; have a4 := blk_cell HX4.out 4; have a5 := blk_cell HX4.out 5))
   obtain ⟨g, hg⟩ : ∃ g, g = w2.heap.size := ⟨_, rfl⟩
   rw [← hg] at HS4 ⊢
   clear hg a0 a1 a2 a3 a4 a5
   refine (spec_l5TurnVip.cf g v _ _ l1 l2 x0 x1 x2 x3 x4 x5 M w1 w4 HS4.out h2 hM HM.out).mono ?_
   rintro e w5 ⟨r, s2', l2', rfl, hS5, hl2', hm2'⟩
   obtain ⟨s1', l1', hS5', hl1'⟩ : ∃ s1' l1', Dr.St w1 w5 g v s1' s2' l1' l2' ∧ l1'.length ≤ 8 := ⟨_, l1, hS5, h1⟩
   clear hS5 HM h1
   have HS5 := Aside0.mk hS5'
   have HM5 := Aside0.mk hm2'
   clear hS5' hm2' HS4 HS2 HX4 HIN
   have HK5 := Aside0.mk (blk_below HK1.out HS5.out.1)
   obtain ⟨D1, k1, t1⟩ := Kd.R_slice HS5.out.2.2.2.1
   subst t1
   obtain ⟨D2, k2, t2⟩ := Kd.R_slice HS5.out.2.2.2.2
   subst t2
   by_cases hr : r = 0
   ·have hr1 : (r != 0) = false := bne_eq_false_iff_eq.mpr hr
    clear hr
    obtain ⟨v', hv'⟩ : ∃ v', wrap64 (v + 1) = v' := ⟨_, rfl⟩
    obtain ⟨w6, hw6⟩ : ∃ W, W = w5.setCell ⟨g, 0, none⟩ (.int .i64 v') := ⟨_, rfl⟩
    have HS6 := Aside0.mk (hw6 ▸ Dr.St.ver HS5.out v')
    have HK6 := Aside0.mk (blk_below HK1.out HS6.out.1)
    have b0 := blk_cell (blk_below HC1.out HS5.out.1) 0
    have z0 := blk_cell HS5.out.2.2.1 0
    have zf0 := blk_frozen HS5.out.2.2.1 0
    have u0 := blk_cell HS6.out.2.2.1 0
    have u1 := blk_cell HS6.out.2.2.1 1
    have u2 := blk_cell HS6.out.2.2.1 2
    have y0 := blk_cell HK6.out 0
    have y1 := blk_cell HK6.out 1
    have y2 := blk_cell HK6.out 2
    have y3 := blk_cell HK6.out 3
    have f0 := blk_frozen HK6.out 0
    have f1 := blk_frozen HK6.out 1
    have f2 := blk_frozen HK6.out 2
    have f3 := blk_frozen HK6.out 3
    rw [hw6] at u0 u1 u2 y0 y1 y2 y3 f0 f1 f2 f3
    go_wp2
    rw [← hw6]
    refine bodyPost_ret (results_cell_row rfl _ _ (w.heap.size + 1 + 1) 125 #[.int .i64 0, .int .i64 v', .slice D1 l1'.length k1, .slice D2 l2'.length k2] (0, 0) _ rfl (by exact Dr.put4 HK6.out _ _ _ _) Try.underlying125 rfl (by kernel_rfl)) rfl ?_
    exact Dr.afin HB1.out hs1 HS6.out HK6.out hl1' hl2' HM5.out 0 v'
   ·have hr1 : (r != 0) = true := bne_iff_ne.mpr hr
    clear hr
    have y0 := blk_cell HK5.out 0
    have y1 := blk_cell HK5.out 1
    have y2 := blk_cell HK5.out 2
    have y3 := blk_cell HK5.out 3
    have f0 := blk_frozen HK5.out 0
    have f1 := blk_frozen HK5.out 1
    have f2 := blk_frozen HK5.out 2
    have f3 := blk_frozen HK5.out 3
    go_wp2
    refine bodyPost_ret (results_cell_row rfl _ _ (w.heap.size + 1 + 1) 125 #[.int .i64 r, .int .i64 0, .slice none 0 0, .slice none 0 0] (0, 0) _ rfl (by exact Dr.put4 HK5.out _ _ _ _) Try.underlying125 rfl (by kernel_rfl)) rfl ?_
    exact Dr.aerr HB1.out hs1 HS5.out r
namespace Dr
theorem w64 {n : Int} (h0 : -9223372036854775808 ≤ n) (h1 : n ≤ 9223372036854775807) : wrap64 n = n := by unfold wrap64; omega
theorem bind_s {α β : Type} (a : α) (f : α → Option β) : (some a).bind f = f a := Eq.trans (Option.bind_some a f) (Eq.refl _)
theorem wf_u8 {n : Int} (h : (Lit.int .u8 n).wf = true) : 0 ≤ n ∧ n ≤ 255 := by
 simpa [Lit.wf, IntKind.min, IntKind.max, IntKind.signed, IntKind.bits] using h
def IsBytes (xs : List Int) : Prop := ∀ x ∈ xs, 0 ≤ x ∧ x ≤ 255
theorem IsBytes.of {xs : List Int} (h : ∀ x ∈ xs, (Lit.int .u8 x).wf = true) : IsBytes xs := fun x hx => wf_u8 (h x hx)
theorem IsBytes.at_ {xs : List Int} (h : IsBytes xs) (i : Nat) : 0 ≤ xs.getD i 0 ∧ xs.getD i 0 ≤ 255 := by
 by_cases hi : i < xs.length
 ·have : xs.getD i 0 = xs[i] := by simp [List.getD, hi]
  rw [this]; exact h _ (List.getElem_mem hi)
 ·rw [List.getD_eq_getElem?_getD, List.getElem?_eq_none (by omega)]; simp
theorem Next_is (code : List Int) (hb : IsBytes code) (hn : code.length ≤ 2097152) (at_ n : Int) (h0 : 0 ≤ at_) (h1 : at_ ≤ 1073741824) (hn1 : n ≤ 4611686018427387904) :
  ∃ v, spec_l1Next.f code at_ n = some (v, at_ + 1) ∧ 0 ≤ v ∧ (1 ≤ n → v < n) ∧ (n < 1 → v = 0) := by
 unfold spec_l1Next.f
 have e1 : wrap64 (at_ + 1) = at_ + 1 := w64 (by omega) (by omega)
 have e2 : wrap64 (at_ + 1 - 1) = at_ := by rw [w64 (by omega) (by omega)]; omega
 rw [e1, e2]
 by_cases c : n < 1
 ·rw [if_pos c]; exact ⟨0, rfl, by omega, by omega, fun _ => rfl⟩
 ·rw [if_neg c]
  by_cases c2 : (code.length : Int) = 0
  ·have e3 : wrap64 (at_ * 7) = at_ * 7 := w64 (by omega) (by omega)
   rw [if_pos c2, if_neg (by omega), e3]
   exact ⟨_, rfl, Int.tmod_nonneg n (by omega), fun _ => Int.tmod_lt_of_pos _ (by omega), fun h => absurd h c⟩
  ·have hk : 0 < (code.length : Int) := by omega
   have t0 : 0 ≤ Int.tmod at_ code.length := Int.tmod_nonneg _ h0
   have t1 : Int.tmod at_ code.length < code.length := Int.tmod_lt_of_pos _ hk
   have b1 := hb.at_ (Int.tmod at_ code.length).toNat
   have hd : Int.tdiv at_ code.length = at_ / code.length := Int.tdiv_eq_ediv_of_nonneg h0
   have d0 : 0 ≤ at_ / code.length := Int.ediv_nonneg h0 (by omega)
   have d1 : at_ / code.length ≤ at_ := Int.ediv_le_self _ h0
   have r1 : rd code (Int.tmod at_ code.length) = code.getD (Int.tmod at_ code.length).toNat 0 := rfl
   rw [if_neg c2, if_pos t0, if_pos t1, hd, r1, w64 (n := at_ / code.length) (by omega) (by omega), w64 (n := at_ / code.length * 37) (by omega) (by omega)]
   rw [w64 (n := code.getD (Int.tmod at_ code.length).toNat 0) (by omega) (by omega), w64 (n := code.getD (Int.tmod at_ code.length).toNat 0 + at_ / code.length * 37) (by omega) (by omega)]
   by_cases c3 : n > 200
   ·have s0 : 0 ≤ Int.tmod (wrap64 (at_ + 1)) code.length := by rw [e1]; exact Int.tmod_nonneg _ (by omega)
    have s1 : Int.tmod (wrap64 (at_ + 1)) code.length < code.length := Int.tmod_lt_of_pos _ hk
    have b2 := hb.at_ (Int.tmod (wrap64 (at_ + 1)) code.length).toNat
    have r2 : rd code (Int.tmod (wrap64 (at_ + 1)) code.length) = code.getD (Int.tmod (wrap64 (at_ + 1)) code.length).toNat 0 := rfl
    rw [e1] at s0 s1 b2 r2
    rw [if_pos c3, e1, if_pos s0, if_pos s1, if_neg (by omega), r2]
    generalize code.getD (Int.tmod at_ code.length).toNat 0 = x at *
    generalize code.getD (Int.tmod (at_ + 1) code.length).toNat 0 = y at *
    generalize at_ / code.length = q at *
    rw [w64 (n := y) (by omega) (by omega), w64 (n := y * 13) (by omega) (by omega), w64 (n := (x + q * 37) * 251) (by omega) (by omega), w64 (n := (x + q * 37) * 251 + y * 13) (by omega) (by omega), w64 (n := (x + q * 37) * 251 + y * 13 + at_) (by omega) (by omega)]
    exact ⟨_, rfl, Int.tmod_nonneg n (by omega), fun _ => Int.tmod_lt_of_pos _ (by omega), fun h => absurd h c⟩
   ·rw [if_neg c3, if_neg (by omega)]
    exact ⟨_, rfl, Int.tmod_nonneg n (by omega), fun _ => Int.tmod_lt_of_pos _ (by omega), fun h => absurd h c⟩
theorem Chance_is (code : List Int) (hb : IsBytes code) (hn : code.length ≤ 2097152) (at_ : Int) (h0 : 0 ≤ at_) (h1 : at_ ≤ 1073741824) (n : Int) (hn1 : n ≤ 1000) : ∃ v, spec_l1Chance.f code at_ n = some (v, at_ + 1) := by
 obtain ⟨v, e, _⟩ := Next_is code hb hn at_ n h0 h1 (by omega)
 unfold spec_l1Chance.f
 rw [e, bind_s]
 exact ⟨_, rfl⟩
theorem Pick_is (code : List Int) (hb : IsBytes code) (hn : code.length ≤ 2097152) (at_ : Int) (h0 : 0 ≤ at_) (h1 : at_ ≤ 1073741824) (l : List Int) (hl : 0 < l.length) (hl2 : l.length ≤ 1000) :
  ∃ v, spec_l1Pick.f code at_ l = some (v, at_ + 1) ∧ v ∈ l := by
 obtain ⟨v, hv, v0, v1, _⟩ := Next_is code hb hn at_ l.length h0 h1 (by omega)
 have v2 := v1 (by omega)
 unfold spec_l1Pick.f
 rw [hv, Option.bind_some, if_pos v0, if_pos v2]
 refine ⟨_, rfl, ?_⟩
 unfold rd
 have hlt : v.toNat < l.length := by omega
 have : l.getD v.toNat 0 = l[v.toNat] := by simp [List.getD, hlt]
 rw [this]; exact List.getElem_mem hlt
theorem Needs_is (x : Int) : ∃ a b c d, spec_l5Needs.f x = some (a, b, c, d) := by
 unfold spec_l5Needs.f spec_l1In.f
 by_cases h : x ≥ 5
 ·rw [if_pos h, bind_s]
  by_cases h1 : x = 5
  ·rw [if_pos h1, if_neg (by omega)]; exact ⟨_, _, _, _, rfl⟩
  ·rw [if_neg h1, if_neg (by omega)]; exact ⟨_, _, _, _, rfl⟩
 ·rw [if_neg h, bind_s, if_neg (by omega)]
  by_cases h1 : x = 1
  ·rw [if_pos h1]; exact ⟨_, _, _, _, rfl⟩
  ·rw [if_neg h1]; exact ⟨_, _, _, _, rfl⟩
/-- The source of the draws, with at most b bytes read. -/
def Sr (w0 w : World) (g : Nat) (code : List Int) (b : Nat) : Prop := IsBytes code ∧ code.length ≤ 2097152 ∧ Below w0.heap.size w0 w ∧ ∃ at_ : Int, IsS148 w0 w g code at_ ∧ 0 ≤ at_ ∧ at_ ≤ b
theorem Sr.below {w0 w w' : World} {g : Nat} {code : List Int} {b : Nat} (h : Sr w0 w g code b) (hb : Below w.heap.size w w') : Sr w0 w' g code b := by
 obtain ⟨h1, h2, h3, a, h4, h5⟩ := h
 exact ⟨h1, h2, up h3 hb, a, h4.below hb, h5⟩
theorem Sr.lt {w0 w : World} {g : Nat} {code : List Int} {b : Nat} (h : Sr w0 w g code b) : g < w.heap.size := by
 obtain ⟨h1, h2, h3, a, h4, h5⟩ := h
 exact h4.lt
theorem Sr.ge {w0 w : World} {g : Nat} {code : List Int} {b : Nat} (h : Sr w0 w g code b) : w0.heap.size ≤ g := by
 obtain ⟨h1, h2, h3, a, h4, h5⟩ := h
 exact h4.ge
theorem Sr.le {w0 w : World} {g : Nat} {code : List Int} {b b' : Nat} (h : Sr w0 w g code b) (hb : b ≤ b') : Sr w0 w g code b' := by
 obtain ⟨h1, h2, h3, a, h4, h5, h6⟩ := h
 exact ⟨h1, h2, h3, a, h4, h5, by omega⟩
theorem Sr.apart {w0 w : World} {g : Nat} {code : List Int} {b : Nat} (h : Sr w0 w g code b) {α : Type} {d : Kd α} {e base : Nat} {ok : Nat → Prop} {v : Value} {xs : List α} (ho : d.R e w base ok v xs) (ht : ∀ q, q ∈ e :: d.E → q ≠ 148) : d.R e w base (fun k => ok k ∧ k ≠ g) v xs := by
 obtain ⟨h1, h2, h3, a, h4, h5⟩ := h
 exact h4.apart ho ht
theorem Sr.ne_blk {w0 w : World} {g : Nat} {code : List Int} {b : Nat} (h : Sr w0 w g code b) {a : Nat} {cs : Array Value} {t : TypeId} {fr : Nat × Nat} (hb2 : w.heap[a]? = some (.cells cs t fr)) (ht : t ≠ 148) : g ≠ a := by
 obtain ⟨h1, h2, h3, a, h4, h5⟩ := h
 exact h4.ne_blk hb2 ht
theorem Sr.far {w0 w : World} {g : Nat} {code : List Int} {b : Nat} (h : Sr w0 w g code b) {p : Addr} (hne : g ≠ p.block) (hp : w0.heap.size ≤ p.block) (u : Value) : Sr w0 (w.setCell p u) g code b := by
 obtain ⟨h1, h2, h3, a, h4, h5⟩ := h
 refine ⟨h1, h2, ?_, a, h4.far hne u, h5⟩
 exact h3.setCell hp u
theorem next {w0 w : World} {g : Nat} {code : List Int} {b : Nat} (h : Sr w0 w g code b) (hb : b ≤ 1000000) (n : Int) (hn : n ≤ 1000) :
  Calls Try.prog 120 #[.pointer (some ⟨g, 0, none⟩), .int .i64 n] w fun e w' => ∃ v : Int, e = .returned (.int .i64 v) ∧ 0 ≤ v ∧ (1 ≤ n → v < n) ∧ Sr w0 w' g code (b + 1) ∧ KeepBut w w' g none := by
 obtain ⟨h1, h2, h3, a, h4, h5, h6⟩ := h
 obtain ⟨v, e, v0, v1, _⟩ := Next_is code h1 h2 a n h5 (by omega) (by omega)
 refine (spec_l1Next.calls g code a n v (a + 1) w0 w h4 h3 e).mono ?_
 rintro e w' ⟨rfl, hi, hw, hk⟩
 exact ⟨v, rfl, v0, v1, ⟨h1, h2, hw, a + 1, hi, by omega, by omega⟩, hk⟩
theorem pick {w0 w : World} {g : Nat} {code : List Int} {b : Nat} (h : Sr w0 w g code b) (hb : b ≤ 1000000) (A : Option Addr) (c : Nat) (l : List Int) (hr : Kd.C (Kd.int .i64) w A l.length l) (hc : l.length ≤ c) (hf : ∀ ad, A = some ad → 0 < l.length → ad.block ≠ g) (h0 : 0 < l.length) (hl : l.length ≤ 1000) :
  Calls Try.prog 81 #[.pointer (some ⟨g, 0, none⟩), .slice A l.length c] w fun e w' => ∃ v : Int, e = .returned (.int .i64 v) ∧ Sr w0 w' g code (b + 1) ∧ KeepBut w w' g none := by
 obtain ⟨h1, h2, h3, a, h4, h5, h6⟩ := h
 obtain ⟨v, e, _⟩ := Pick_is code h1 h2 a h5 (by omega) l h0 hl
 refine (spec_l1Pick.calls g code a A c l v (a + 1) w0 w h4 h3 hr hc hf e).mono ?_
 rintro e w' ⟨rfl, hi, hw, hk⟩
 exact ⟨v, rfl, ⟨h1, h2, hw, a + 1, hi, by omega, by omega⟩, hk⟩
theorem ne_ty {w : World} {a b : Nat} {cs cs' : Array Value} {t t' : TypeId} {f f' : Nat × Nat} (h : w.heap[a]? = some (.cells cs t f)) (h' : w.heap[b]? = some (.cells cs' t' f')) (ht : t ≠ t') : a ≠ b := by
 rintro rfl
 rw [h] at h'
 injection h' with h'
 injection h' with _ h2 _
 exact ht h2
theorem keepB {w0 W W' : World} {g : Nat} {code : List Int} {b : Nat} (h : Sr w0 W g code b) {a : Nat} {cs : Array Value} {t : TypeId} {fr : Nat × Nat} (hb : W.heap[a]? = some (.cells cs t fr)) (ht : t ≠ 148) (hk : KeepBut W W' g none) : W'.heap[a]? = some (.cells cs t fr) :=
 hk.blk hb (Ne.symm (h.ne_blk hb ht)) (by simp)
theorem keepR {w0 W W' : World} {g : Nat} {code : List Int} {b : Nat} (h : Sr w0 W g code b) {α : Type} {d : Kd α} {e base : Nat} {v : Value} {xs : List α} (ho : d.R e W base (fun _ => True) v xs) (ht : ∀ q, q ∈ e :: d.E → q ≠ 148) (hk : KeepBut W W' g none) : d.R e W' base (fun _ => True) v xs :=
 Kd.R_mono (Kd.R_keep (h.apart ho ht) hk (fun _ hk => hk.2)) (fun _ _ => trivial)
theorem pick' {w0 w : World} {g : Nat} {code : List Int} {b base : Nat} (h : Sr w0 w g code b) (hb : b ≤ 1000000) {A : Option Addr} {c : Nat} {l : List Int} (hr : Kd.R (Kd.int .i64) 2 w base (fun _ => True) (.slice A l.length c) l) (h0 : 0 < l.length) (hl : l.length ≤ 1000) :
  Calls Try.prog 81 #[.pointer (some ⟨g, 0, none⟩), .slice A l.length c] w fun e w' => ∃ v : Int, e = .returned (.int .i64 v) ∧ Sr w0 w' g code (b + 1) ∧ KeepBut w w' g none := by
 have r1 := Kd.R_reads' hr
 refine pick h hb A c l r1.2.2 r1.2.1 ?_ h0 hl
 intro ad hA _ he
 obtain ⟨g', cap, hv, _, _, cells, hc⟩ := Kd.R_form hr h0
 injection hv with hv _ _
 subst hv
 cases hA
 exact h.ne_blk hc (by decide) he.symm
end Dr
namespace Dr
/-- The source of the draws beside the call's empty result box. -/
def Xp (w0 w W : World) (g : Nat) (code : List Int) (b : Nat) : Prop :=
 Sr w0 W g code b ∧ KeepBut w W g none ∧ w0.heap.size ≤ w.heap.size ∧ W.heap[w.heap.size]? = some (.cells #[.int .i64 0, .int .i64 0, .int .i64 0, .int .i64 0, .int .i64 0, .int .i64 0] 128 (0, 0))
/-- The same, and a command in a box. -/
def Xc (w0 w W : World) (g : Nat) (code : List Int) (b c : Nat) (x0 x1 x2 x3 x4 x5 : Int) : Prop :=
 Xp w0 w W g code b ∧ w.heap.size < c ∧ W.heap[c]? = some (.cells #[.int .i64 x0, .int .i64 x1, .int .i64 x2, .int .i64 x3, .int .i64 x4, .int .i64 x5] 128 (0, 0))
section
variable {w0 w W W' : World} {g : Nat} {code : List Int} {b b' c : Nat} {x0 x1 x2 x3 x4 x5 : Int}
theorem Xp.below (h : Xp w0 w W g code b) (hb : Below W.heap.size W W') : Xp w0 w W' g code b :=
 ⟨h.1.below hb, h.2.1.trans (KeepBut.of_below hb g none) (.inl rfl), h.2.2.1, blk_below h.2.2.2 hb⟩
theorem Xp.keep (h : Xp w0 w W g code b) (hs : Sr w0 W' g code b') (hk : KeepBut W W' g none) : Xp w0 w W' g code b' :=
 ⟨hs, h.2.1.trans hk (.inl rfl), h.2.2.1, keepB h.1 h.2.2.2 (by decide) hk⟩
theorem Xc.keep (h : Xc w0 w W g code b c x0 x1 x2 x3 x4 x5) (hs : Sr w0 W' g code b') (hk : KeepBut W W' g none) : Xc w0 w W' g code b' c x0 x1 x2 x3 x4 x5 :=
 ⟨h.1.keep hs hk, h.2.1, keepB h.1.1 h.2.2 (by decide) hk⟩
theorem Xc.below (h : Xc w0 w W g code b c x0 x1 x2 x3 x4 x5) (hb : Below W.heap.size W W') : Xc w0 w W' g code b c x0 x1 x2 x3 x4 x5 :=
 ⟨h.1.below hb, h.2.1, blk_below h.2.2 hb⟩
theorem Xc.le (h : Xc w0 w W g code b c x0 x1 x2 x3 x4 x5) (hb : b ≤ b') : Xc w0 w W g code b' c x0 x1 x2 x3 x4 x5 := ⟨⟨h.1.1.le hb, h.1.2⟩, h.2⟩
theorem Xp.box (h : Xp w0 w W g code b) : Xc w0 w (W.alloc (.cells #[.int .i64 x0, .int .i64 x1, .int .i64 x2, .int .i64 x3, .int .i64 x4, .int .i64 x5] 128)) g code b W.heap.size x0 x1 x2 x3 x4 x5 :=
 ⟨h.below (below_alloc (Below.refl _ _) _), blk_lt h.2.2.2, blk_new W _⟩
theorem Xc.put (h : Xc w0 w W g code b c x0 x1 x2 x3 x4 x5) (j : Nat) (v : Value) (y0 y1 y2 y3 y4 y5 : Int) (e : (#[.int .i64 x0, .int .i64 x1, .int .i64 x2, .int .i64 x3, .int .i64 x4, .int .i64 x5] : Array Value).setIfInBounds j v = #[.int .i64 y0, .int .i64 y1, .int .i64 y2, .int .i64 y3, .int .i64 y4, .int .i64 y5]) : Xc w0 w (W.setCell ⟨c, j, none⟩ v) g code b c y0 y1 y2 y3 y4 y5 := by
 obtain ⟨⟨h1, h2, h3, h4⟩, h5, h6⟩ := h
 have n1 : g ≠ c := h1.ne_blk h6 (by decide)
 exact ⟨⟨h1.far n1 (by show _ ≤ c; omega) _, keep_far h2 (by show _ ≤ c; omega) _, h3, blk_far h4 (by show _ ≠ c; omega) _⟩, h5, blk_put h6 j _ e⟩
theorem chance {w0 w : World} {g : Nat} {code : List Int} {b : Nat} (h : Sr w0 w g code b) (hb : b ≤ 1000000) (n : Int) (hn : n ≤ 1000) :
  Calls Try.prog 97 #[.pointer (some ⟨g, 0, none⟩), .int .i64 n] w fun e w' => ∃ v : Bool, e = .returned (.bool v) ∧ Sr w0 w' g code (b + 1) ∧ KeepBut w w' g none := by
 obtain ⟨h1, h2, h3, a, h4, h5, h6⟩ := h
 obtain ⟨v, e⟩ := Chance_is code h1 h2 a h5 (by omega) n hn
 refine (spec_l1Chance.calls g code a n v (a + 1) w0 w h4 h3 e).mono ?_
 rintro e w' ⟨rfl, hi, hw, hk⟩
 exact ⟨v, rfl, ⟨h1, h2, hw, a + 1, hi, by omega, by omega⟩, hk⟩
theorem put6 {w : World} {g : Nat} {t : TypeId} {u0 u1 u2 u3 u4 u5 : Value} (h : w.heap[g]? = some (.cells #[u0, u1, u2, u3, u4, u5] t (0, 0))) (v0 v1 v2 v3 v4 v5 : Value) :
  ((((((w.setCell ⟨g, 0, none⟩ v0).setCell ⟨g, 1, none⟩ v1).setCell ⟨g, 2, none⟩ v2).setCell ⟨g, 3, none⟩ v3).setCell ⟨g, 4, none⟩ v4).setCell ⟨g, 5, none⟩ v5).heap[g]? = some (.cells #[v0, v1, v2, v3, v4, v5] t (0, 0)) :=
 blk_put (blk_put (blk_put (blk_put (blk_put (blk_put h 0 v0 rfl) 1 v1 rfl) 2 v2 rfl) 3 v3 rfl) 4 v4 rfl) 5 v5 rfl
theorem Xc.post (h : Xc w0 w W g code b c x0 x1 x2 x3 x4 x5) (v0 v1 v2 v3 v4 v5 : Value) : Sr w0 ((((((W.setCell ⟨w.heap.size, 0, none⟩ v0).setCell ⟨w.heap.size, 1, none⟩ v1).setCell ⟨w.heap.size, 2, none⟩ v2).setCell ⟨w.heap.size, 3, none⟩ v3).setCell ⟨w.heap.size, 4, none⟩ v4).setCell ⟨w.heap.size, 5, none⟩ v5) g code b ∧ KeepBut w ((((((W.setCell ⟨w.heap.size, 0, none⟩ v0).setCell ⟨w.heap.size, 1, none⟩ v1).setCell ⟨w.heap.size, 2, none⟩ v2).setCell ⟨w.heap.size, 3, none⟩ v3).setCell ⟨w.heap.size, 4, none⟩ v4).setCell ⟨w.heap.size, 5, none⟩ v5) g none := by
 obtain ⟨⟨h1, h2, h3, h4⟩, h5, h6⟩ := h
 have n0 : g ≠ w.heap.size := h1.ne_blk h4 (by decide)
 exact ⟨(((((h1.far (p := ⟨w.heap.size, 0, none⟩) n0 h3 _).far (p := ⟨w.heap.size, 1, none⟩) n0 h3 _).far (p := ⟨w.heap.size, 2, none⟩) n0 h3 _).far (p := ⟨w.heap.size, 3, none⟩) n0 h3 _).far (p := ⟨w.heap.size, 4, none⟩) n0 h3 _).far (p := ⟨w.heap.size, 5, none⟩) n0 h3 _,
  keep_far (keep_far (keep_far (keep_far (keep_far (keep_far h2 (Nat.le_refl _) _) (Nat.le_refl _) _) (Nat.le_refl _) _) (Nat.le_refl _) _) (Nat.le_refl _) _) (Nat.le_refl _) _⟩
end
end Dr
set_option maxHeartbeats 16000000 in
set_option maxRecDepth 100000 in
/-- A right command is drawn. -/
theorem spec_l5Cmd.cf (g : Nat) (code : List Int) (b : Nat) (w0 w : World) (hs : Dr.Sr w0 w g code b) (hb : b ≤ 500000) :
  Calls Try.prog 100 #[.pointer (some ⟨g, 0, none⟩)] w fun e w' => ∃ x0 x1 x2 x3 x4 x5 : Int, e = .returned (.agg #[.int .i64 x0, .int .i64 x1, .int .i64 x2, .int .i64 x3, .int .i64 x4, .int .i64 x5]) ∧ Dr.Sr w0 w' g code (b + 10) ∧ KeepBut w w' g none := by
 have hu128 := Try.underlying128
 obtain ⟨y9, hy9_⟩ : ∃ y : List Int, y = [1, 1, 2, 3, 4, 5, 6, 7, 7, 7, 8, 9] := ⟨_, rfl⟩
 have hl9 : 0 < y9.length ∧ y9.length ≤ 1000 := by rw [hy9_]; decide
 have hy9 := Aside0.mk hy9_
 obtain ⟨y18, hy18_⟩ : ∃ y : List Int, y = [80, 80, 443] := ⟨_, rfl⟩
 have hl18 : 0 < y18.length ∧ y18.length ≤ 1000 := by rw [hy18_]; decide
 have hy18 := Aside0.mk hy18_
 clear hy9_ hy18_
 have hB1 : Below w.heap.size w (w.alloc (.cells #[.int .i64 0, .int .i64 0, .int .i64 0, .int .i64 0, .int .i64 0, .int .i64 0] 128)) := (Below.refl _ w).alloc (Nat.le_refl _) _
 have HX := Aside0.mk (show Dr.Xp w0 w (w.alloc (.cells #[.int .i64 0, .int .i64 0, .int .i64 0, .int .i64 0, .int .i64 0, .int .i64 0] 128)) g code b from ⟨hs.below hB1, KeepBut.of_below hB1 g none, hs.2.2.1.size, blk_new w _⟩)
 clear hB1 hs
 go_enter Try.func100, Try.ntmps100
 go_upto_block 0 with (first
  | ((with_reducible refine gate_dst (N := 9) rfl ?_); refine Kd.R_lit (Kd.int .i64) _ 2 ?hg (N := 9) ?hd (xs := ([1, 1, 2, 3, 4, 5, 6, 7, 7, 7, 8, 9] : List Int)) (inner := [.int .i64 1, .int .i64 1, .int .i64 2, .int .i64 3, .int .i64 4, .int .i64 5, .int .i64 6, .int .i64 7, .int .i64 7, .int .i64 7, .int .i64 8, .int .i64 9]) (ok := fun _ => True) (okp := fun _ => True) ?hr ?hp (fun _ hk => hk) trivial (Below.refl _ _) (Nat.le_refl _) (by simp) ?_; (case hd => rfl); (case hg => rfl); (case hr => first | (go_simp; done) | (go_simp; rfl)); (case hp => exact (Reps.one (show Kd.M (Kd.int .i64) _ _ _ 1 [.int .i64 1] from rfl) (Reps.one (show Kd.M (Kd.int .i64) _ _ _ 1 [.int .i64 1] from rfl) (Reps.one (show Kd.M (Kd.int .i64) _ _ _ 2 [.int .i64 2] from rfl) (Reps.one (show Kd.M (Kd.int .i64) _ _ _ 3 [.int .i64 3] from rfl) (Reps.one (show Kd.M (Kd.int .i64) _ _ _ 4 [.int .i64 4] from rfl) (Reps.one (show Kd.M (Kd.int .i64) _ _ _ 5 [.int .i64 5] from rfl) (Reps.one (show Kd.M (Kd.int .i64) _ _ _ 6 [.int .i64 6] from rfl) (Reps.one (show Kd.M (Kd.int .i64) _ _ _ 7 [.int .i64 7] from rfl) (Reps.one (show Kd.M (Kd.int .i64) _ _ _ 7 [.int .i64 7] from rfl) (Reps.one (show Kd.M (Kd.int .i64) _ _ _ 7 [.int .i64 7] from rfl) (Reps.one (show Kd.M (Kd.int .i64) _ _ _ 8 [.int .i64 8] from rfl) (Reps.one (show Kd.M (Kd.int .i64) _ _ _ 9 [.int .i64 9] from rfl) (Reps.none _ _)))))))))))))); intro v_ wa hR hb_ _ _; rw [← hy9.out] at hR; obtain ⟨A9, c9, e_⟩ := Kd.R_slice hR; subst e_; have HR := Aside0.mk hR; have HX' := Aside0.mk (Dr.Xp.below HX.out hb_); clear HX hb_ hR; have HX := HX'; clear HX')
  | ((with_reducible refine gate_dst (N := 18) rfl ?_); refine Kd.R_lit (Kd.int .i64) _ 2 ?hg (N := 18) ?hd (xs := ([80, 80, 443] : List Int)) (inner := [.int .i64 80, .int .i64 80, .int .i64 443]) (ok := fun _ => True) (okp := fun _ => True) ?hr ?hp (fun _ hk => hk) trivial (Below.refl _ _) (Nat.le_refl _) (by simp) ?_; (case hd => rfl); (case hg => rfl); (case hr => first | (go_simp; done) | (go_simp; rfl)); (case hp => exact (Reps.one (show Kd.M (Kd.int .i64) _ _ _ 80 [.int .i64 80] from rfl) (Reps.one (show Kd.M (Kd.int .i64) _ _ _ 80 [.int .i64 80] from rfl) (Reps.one (show Kd.M (Kd.int .i64) _ _ _ 443 [.int .i64 443] from rfl) (Reps.none _ _))))); intro v_ wb hR hb_ _ _; rw [← hy18.out] at hR; obtain ⟨A18, c18, e_⟩ := Kd.R_slice hR; subst e_; have HR := Aside0.mk hR; have HX' := Aside0.mk (Dr.Xp.below HX.out hb_); clear HX hb_ hR; have HX := HX'; clear HX')
  | (go_at_call 81; have hs0 := HX.out.1; (with_reducible refine (Dr.pick' hs0 (by omega) HR.out hl9.1 hl9.2).mono ?_); rintro e_ wp ⟨p10, rfl, hs_, hk_⟩; have HX' := Aside0.mk (Dr.Xp.keep HX.out hs_ hk_); clear HX hs_ hk_ hs0 HR; have HX := HX'; clear HX')
  | (go_at_call 81; have hs0 := HX.out.1; (with_reducible refine (Dr.pick' hs0 (by omega) HR.out hl18.1 hl18.2).mono ?_); rintro e_ wp ⟨p19, rfl, hs_, hk_⟩; have HX' := Aside0.mk (Dr.Xp.keep HX.out hs_ hk_); clear HX hs_ hk_ hs0 HR; have HX := HX'; clear HX')
  | (go_at_call 120; have hs0 := HX.out.1; (with_reducible refine (Dr.next hs0 (by omega) 5 (by omega)).mono ?_); rintro e_ wn ⟨p12, rfl, hp12, hq12, hs_, hk_⟩; have HX' := Aside0.mk (Dr.Xp.keep HX.out hs_ hk_); clear HX hs_ hk_ hs0; have HX := HX'; clear HX')
  | (go_at_call 120; have hs0 := HX.out.1; (with_reducible refine (Dr.next hs0 (by omega) 3 (by omega)).mono ?_); rintro e_ wn ⟨p15, rfl, hp15, hq15, hs_, hk_⟩; have HX' := Aside0.mk (Dr.Xp.keep HX.out hs_ hk_); clear HX hs_ hk_ hs0; have HX := HX'; clear HX'))
 obtain ⟨c, hc⟩ : ∃ c, c = wp.heap.size := ⟨_, rfl⟩
 obtain ⟨w6, hw6⟩ : ∃ W, W = wp.alloc (.cells #[.int .i64 p10, .int .i64 (-1), .int .i64 (1 + p12), .int .i64 (167772160 + p15), .int .i64 p19, .int .i64 6] 128) := ⟨_, rfl⟩
 have HC := Aside0.mk (Dr.Xp.box (x0 := p10) (x1 := -1) (x2 := 1 + p12) (x3 := 167772160 + p15) (x4 := p19) (x5 := 6) HX.out)
 rw [← hc, ← hw6] at HC ⊢
 replace hq12 := hq12 (by omega)
 replace hq15 := hq15 (by omega)
 clear hc hw6 HX
 go_cut [] (fun wc => ∃ (x0 x1 x2 x3 x4 x5 : Int), Aside0 (Dr.Xc w0 w wc g code (b + 5) c x0 x1 x2 x3 x4 x5))
 case first =>
  have z0 := blk_cell HC.out.2.2 0; have z1 := blk_cell HC.out.2.2 1; have z2 := blk_cell HC.out.2.2 2; have z3 := blk_cell HC.out.2.2 3; have z4 := blk_cell HC.out.2.2 4; have z5 := blk_cell HC.out.2.2 5; have f1 := blk_frozen HC.out.2.2 1; have f2 := blk_frozen HC.out.2.2 2; have f3 := blk_frozen HC.out.2.2 3; have f4 := blk_frozen HC.out.2.2 4; have f5 := blk_frozen HC.out.2.2 5
  by_cases h1 : p10 = 1
  ·have e1 : (p10 == 1) = true := beq_iff_eq.mpr h1
   clear h1
   have HC7 := Aside0.mk (Dr.Xc.put HC.out 3 (.int .i64 (500 + (1 + p12))) p10 (-1) (1 + p12) (500 + (1 + p12)) p19 6 rfl)
   go_wp2_with (go_at_call 120; have hs0 := HC7.out.1.1; (with_reducible refine (Dr.next hs0 (by omega) 4 (by omega)).mono ?_); rintro e_ w8 ⟨p, rfl, hp0, hp1, hs_, hk_⟩; replace hp1 := hp1 (by omega); have HC8 := Aside0.mk (Dr.Xc.keep HC7.out hs_ hk_); clear hs_ hk_ hs0 z0 z1 z2 z3 z4 z5 f1 f2 f3 f4 f5; have z0 := blk_cell HC8.out.2.2 0; have z1 := blk_cell HC8.out.2.2 1; have z2 := blk_cell HC8.out.2.2 2; have z3 := blk_cell HC8.out.2.2 3; have z4 := blk_cell HC8.out.2.2 4; have z5 := blk_cell HC8.out.2.2 5; have f1 := blk_frozen HC8.out.2.2 1; have f2 := blk_frozen HC8.out.2.2 2; have f3 := blk_frozen HC8.out.2.2 3; have f4 := blk_frozen HC8.out.2.2 4; have f5 := blk_frozen HC8.out.2.2 5)
   go_meet
   case rel => exact ⟨_, _, _, _, _, _, ⟨Dr.Xc.put HC8.out 4 _ _ _ _ _ _ _ rfl⟩⟩
  have e1 : (p10 == 1) = false := beq_eq_false_iff_ne.mpr h1
  clear h1
  by_cases h2 : p10 = 2
  ·have e2 : (p10 == 2) = true := beq_iff_eq.mpr h2
   clear h2
   go_wp2_with (go_at_call 120; have hs0 := HC.out.1.1; (with_reducible refine (Dr.next hs0 (by omega) 10 (by omega)).mono ?_); rintro e_ w8 ⟨p, rfl, hp0, hp1, hs_, hk_⟩; replace hp1 := hp1 (by omega); have HC8 := Aside0.mk (Dr.Xc.keep HC.out hs_ hk_); clear hs_ hk_ hs0 z0 z1 z2 z3 z4 z5 f1 f2 f3 f4 f5; have z0 := blk_cell HC8.out.2.2 0; have z1 := blk_cell HC8.out.2.2 1; have z2 := blk_cell HC8.out.2.2 2; have z3 := blk_cell HC8.out.2.2 3; have z4 := blk_cell HC8.out.2.2 4; have z5 := blk_cell HC8.out.2.2 5; have f1 := blk_frozen HC8.out.2.2 1; have f2 := blk_frozen HC8.out.2.2 2; have f3 := blk_frozen HC8.out.2.2 3; have f4 := blk_frozen HC8.out.2.2 4; have f5 := blk_frozen HC8.out.2.2 5)
   go_meet
   case rel => exact ⟨_, _, _, _, _, _, ⟨Dr.Xc.put HC8.out 4 _ _ _ _ _ _ _ rfl⟩⟩
  have e2 : (p10 == 2) = false := beq_eq_false_iff_ne.mpr h2
  clear h2
  by_cases h3 : p10 = 3
  ·have e3 : (p10 == 3) = true := beq_iff_eq.mpr h3
   clear h3
   go_wp2_with (go_at_call 120; have hs0 := HC.out.1.1; (with_reducible refine (Dr.next hs0 (by omega) 3 (by omega)).mono ?_); rintro e_ w8 ⟨p, rfl, hp0, hp1, hs_, hk_⟩; replace hp1 := hp1 (by omega); have HC8 := Aside0.mk (Dr.Xc.keep HC.out hs_ hk_); clear hs_ hk_ hs0 z0 z1 z2 z3 z4 z5 f1 f2 f3 f4 f5; have z0 := blk_cell HC8.out.2.2 0; have z1 := blk_cell HC8.out.2.2 1; have z2 := blk_cell HC8.out.2.2 2; have z3 := blk_cell HC8.out.2.2 3; have z4 := blk_cell HC8.out.2.2 4; have z5 := blk_cell HC8.out.2.2 5; have f1 := blk_frozen HC8.out.2.2 1; have f2 := blk_frozen HC8.out.2.2 2; have f3 := blk_frozen HC8.out.2.2 3; have f4 := blk_frozen HC8.out.2.2 4; have f5 := blk_frozen HC8.out.2.2 5)
   go_meet
   case rel => exact ⟨_, _, _, _, _, _, ⟨Dr.Xc.put HC8.out 4 _ _ _ _ _ _ _ rfl⟩⟩
  have e3 : (p10 == 3) = false := beq_eq_false_iff_ne.mpr h3
  clear h3
  by_cases h9 : p10 = 9
  ·have e9 : (p10 == 9) = true := beq_iff_eq.mpr h9
   clear h9
   go_wp2_with (go_at_call 120; have hs0 := HC.out.1.1; (with_reducible refine (Dr.next hs0 (by omega) 2 (by omega)).mono ?_); rintro e_ w8 ⟨p, rfl, hp0, hp1, hs_, hk_⟩; replace hp1 := hp1 (by omega); have HC8 := Aside0.mk (Dr.Xc.keep HC.out hs_ hk_); clear hs_ hk_ hs0 z0 z1 z2 z3 z4 z5 f1 f2 f3 f4 f5; have z0 := blk_cell HC8.out.2.2 0; have z1 := blk_cell HC8.out.2.2 1; have z2 := blk_cell HC8.out.2.2 2; have z3 := blk_cell HC8.out.2.2 3; have z4 := blk_cell HC8.out.2.2 4; have z5 := blk_cell HC8.out.2.2 5; have f1 := blk_frozen HC8.out.2.2 1; have f2 := blk_frozen HC8.out.2.2 2; have f3 := blk_frozen HC8.out.2.2 3; have f4 := blk_frozen HC8.out.2.2 4; have f5 := blk_frozen HC8.out.2.2 5)
   go_meet
   case rel => exact ⟨_, _, _, _, _, _, ⟨Dr.Xc.put HC8.out 4 _ _ _ _ _ _ _ rfl⟩⟩
  have e9 : (p10 == 9) = false := beq_eq_false_iff_ne.mpr h9
  clear h9
  go_wp2
  go_meet
  case rel => exact ⟨_, _, _, _, _, _, ⟨Dr.Xc.le HC.out (by omega)⟩⟩
 case rest =>
  clear HC hp12 hq12 hp15 hq15
  obtain ⟨x0, x1, x2, x3, x4, x5, HC⟩ := hcut
  have z0 := blk_cell HC.out.2.2 0; have z1 := blk_cell HC.out.2.2 1; have z2 := blk_cell HC.out.2.2 2; have z3 := blk_cell HC.out.2.2 3; have z4 := blk_cell HC.out.2.2 4; have z5 := blk_cell HC.out.2.2 5; have f1 := blk_frozen HC.out.2.2 1; have f2 := blk_frozen HC.out.2.2 2; have f3 := blk_frozen HC.out.2.2 3; have f4 := blk_frozen HC.out.2.2 4; have f5 := blk_frozen HC.out.2.2 5
  obtain ⟨q0, q1, q2, q3, hq⟩ := Dr.Needs_is x0
  have hneeds := fun (W : World) => (spec_l5Needs.calls x0 q0 q1 q2 q3 W hq).mono (fun _ _ h => (⟨h.1, h.2.below⟩ : _ ∧ Below W.heap.size W _))
  go_upto_if 57 with (go_at_call 131; refine (hneeds _).mono ?_; rintro e_ w5 ⟨rfl, hb_⟩; have HC5 := Aside0.mk (Dr.Xc.below HC.out hb_); clear hb_ HC hneeds z0 z1 z2 z3 z4 z5 f1 f2 f3 f4 f5)
  clear hq
  go_cut [] (fun wc => ∃ (x0 x1 x2 x3 x4 x5 : Int), Aside0 (Dr.Xc w0 w wc g code (b + 5) c x0 x1 x2 x3 x4 x5))
  case first =>
   have z0 := blk_cell HC5.out.2.2 0; have z1 := blk_cell HC5.out.2.2 1; have z2 := blk_cell HC5.out.2.2 2; have z3 := blk_cell HC5.out.2.2 3; have z4 := blk_cell HC5.out.2.2 4; have z5 := blk_cell HC5.out.2.2 5; have f1 := blk_frozen HC5.out.2.2 1; have f2 := blk_frozen HC5.out.2.2 2; have f3 := blk_frozen HC5.out.2.2 3; have f4 := blk_frozen HC5.out.2.2 4; have f5 := blk_frozen HC5.out.2.2 5
   cases q0
   ·go_wp2
    go_meet
    case rel => exact ⟨_, _, _, _, _, _, ⟨Dr.Xc.put HC5.out 2 _ _ _ _ _ _ _ rfl⟩⟩
   ·go_wp2
    go_meet
    case rel => exact ⟨_, _, _, _, _, _, ⟨HC5.out⟩⟩
  case rest =>
   clear HC5 
   obtain ⟨x0, x1, x2, x3, x4, x5, HC6⟩ := hcut
   go_upto_if 60 with (fail)
   go_cut [] (fun wc => ∃ (x0 x1 x2 x3 x4 x5 : Int), Aside0 (Dr.Xc w0 w wc g code (b + 5) c x0 x1 x2 x3 x4 x5))
   case first =>
    have z0 := blk_cell HC6.out.2.2 0; have z1 := blk_cell HC6.out.2.2 1; have z2 := blk_cell HC6.out.2.2 2; have z3 := blk_cell HC6.out.2.2 3; have z4 := blk_cell HC6.out.2.2 4; have z5 := blk_cell HC6.out.2.2 5; have f1 := blk_frozen HC6.out.2.2 1; have f2 := blk_frozen HC6.out.2.2 2; have f3 := blk_frozen HC6.out.2.2 3; have f4 := blk_frozen HC6.out.2.2 4; have f5 := blk_frozen HC6.out.2.2 5
    cases q1
    ·go_wp2
     go_meet
     case rel => exact ⟨_, _, _, _, _, _, ⟨Dr.Xc.put HC6.out 3 _ _ _ _ _ _ _ rfl⟩⟩
    ·go_wp2
     go_meet
     case rel => exact ⟨_, _, _, _, _, _, ⟨HC6.out⟩⟩
   case rest =>
    clear HC6 
    obtain ⟨x0, x1, x2, x3, x4, x5, HC7⟩ := hcut
    go_upto_if 63 with (fail)
    go_cut [] (fun wc => ∃ (x0 x1 x2 x3 x4 x5 : Int), Aside0 (Dr.Xc w0 w wc g code (b + 5) c x0 x1 x2 x3 x4 x5))
    case first =>
     have z0 := blk_cell HC7.out.2.2 0; have z1 := blk_cell HC7.out.2.2 1; have z2 := blk_cell HC7.out.2.2 2; have z3 := blk_cell HC7.out.2.2 3; have z4 := blk_cell HC7.out.2.2 4; have z5 := blk_cell HC7.out.2.2 5; have f1 := blk_frozen HC7.out.2.2 1; have f2 := blk_frozen HC7.out.2.2 2; have f3 := blk_frozen HC7.out.2.2 3; have f4 := blk_frozen HC7.out.2.2 4; have f5 := blk_frozen HC7.out.2.2 5
     cases q2
     ·go_wp2
      go_meet
      case rel => exact ⟨_, _, _, _, _, _, ⟨Dr.Xc.put HC7.out 4 _ _ _ _ _ _ _ rfl⟩⟩
     ·go_wp2
      go_meet
      case rel => exact ⟨_, _, _, _, _, _, ⟨HC7.out⟩⟩
    case rest =>
     clear HC7 
     obtain ⟨x0, x1, x2, x3, x4, x5, HC8⟩ := hcut
     go_upto_if 66 with (fail)
     go_cut [] (fun wc => ∃ (x0 x1 x2 x3 x4 x5 : Int), Aside0 (Dr.Xc w0 w wc g code (b + 5) c x0 x1 x2 x3 x4 x5))
     case first =>
      have z0 := blk_cell HC8.out.2.2 0; have z1 := blk_cell HC8.out.2.2 1; have z2 := blk_cell HC8.out.2.2 2; have z3 := blk_cell HC8.out.2.2 3; have z4 := blk_cell HC8.out.2.2 4; have z5 := blk_cell HC8.out.2.2 5; have f1 := blk_frozen HC8.out.2.2 1; have f2 := blk_frozen HC8.out.2.2 2; have f3 := blk_frozen HC8.out.2.2 3; have f4 := blk_frozen HC8.out.2.2 4; have f5 := blk_frozen HC8.out.2.2 5
      cases q3
      ·go_wp2
       go_meet
       case rel => exact ⟨_, _, _, _, _, _, ⟨Dr.Xc.put HC8.out 5 _ _ _ _ _ _ _ rfl⟩⟩
      ·go_wp2
       go_meet
       case rel => exact ⟨_, _, _, _, _, _, ⟨HC8.out⟩⟩
     case rest =>
      clear HC8 
      obtain ⟨x0, x1, x2, x3, x4, x5, HC9⟩ := hcut
      have z0 := blk_cell HC9.out.2.2 0; have z1 := blk_cell HC9.out.2.2 1; have z2 := blk_cell HC9.out.2.2 2; have z3 := blk_cell HC9.out.2.2 3; have z4 := blk_cell HC9.out.2.2 4; have z5 := blk_cell HC9.out.2.2 5; have f1 := blk_frozen HC9.out.2.2 1; have f2 := blk_frozen HC9.out.2.2 2; have f3 := blk_frozen HC9.out.2.2 3; have f4 := blk_frozen HC9.out.2.2 4; have f5 := blk_frozen HC9.out.2.2 5
      go_wp2_with (fail)
      refine (Dr.chance HC9.out.1.1 (by omega) 12 (by omega)).mono ?_
      rintro e_ w11 ⟨bc, rfl, hs_, hk_⟩
      have HC11 := Aside0.mk (Dr.Xc.keep HC9.out hs_ hk_)
      clear hs_ hk_ HC9 z0 z1 z2 z3 z4 z5 f1 f2 f3 f4 f5
      cases bc
      ·have z0 := blk_cell HC11.out.2.2 0; have z1 := blk_cell HC11.out.2.2 1; have z2 := blk_cell HC11.out.2.2 2; have z3 := blk_cell HC11.out.2.2 3; have z4 := blk_cell HC11.out.2.2 4; have z5 := blk_cell HC11.out.2.2 5
       have r0 := blk_cell HC11.out.1.2.2.2 0; have r1 := blk_cell HC11.out.1.2.2.2 1; have r2 := blk_cell HC11.out.1.2.2.2 2; have r3 := blk_cell HC11.out.1.2.2.2 3; have r4 := blk_cell HC11.out.1.2.2.2 4; have r5 := blk_cell HC11.out.1.2.2.2 5; have g0 := blk_frozen HC11.out.1.2.2.2 0; have g1 := blk_frozen HC11.out.1.2.2.2 1; have g2 := blk_frozen HC11.out.1.2.2.2 2; have g3 := blk_frozen HC11.out.1.2.2.2 3; have g4 := blk_frozen HC11.out.1.2.2.2 4; have g5 := blk_frozen HC11.out.1.2.2.2 5
       go_wp2
       refine bodyPost_ret (results_cell_row rfl _ _ w.heap.size 128 #[.int .i64 _, .int .i64 _, .int .i64 _, .int .i64 _, .int .i64 _, .int .i64 _] (0, 0) _ rfl (by exact Dr.put6 HC11.out.1.2.2.2 _ _ _ _ _ _) Try.underlying128 rfl (by kernel_rfl)) rfl ?_
       exact ⟨_, _, _, _, _, _, rfl, (Dr.Xc.post HC11.out _ _ _ _ _ _).1.le (by omega), (Dr.Xc.post HC11.out _ _ _ _ _ _).2⟩
      ·go_wp2_with (go_at_call 120; have hs0 := HC11.out.1.1; (with_reducible refine (Dr.next hs0 (by omega) 9 (by omega)).mono ?_); rintro e_ w12 ⟨p, rfl, _, _, hs_, hk_⟩; have HC12 := Aside0.mk (Dr.Xc.keep HC11.out hs_ hk_); clear hs_ hk_ hs0; have k1 := blk_cell HC12.out.2.2 1; have kf := blk_frozen HC12.out.2.2 1; obtain ⟨w13, hw13⟩ : ∃ W, W = w12.setCell ⟨c, 1, none⟩ (.int .i64 p) := ⟨_, rfl⟩; have HC13 := Aside0.mk (Dr.Xc.put HC12.out 1 (.int .i64 p) x0 p x2 x3 x4 x5 rfl); rw [← hw13] at HC13; have z0 := blk_cell HC13.out.2.2 0; have z1 := blk_cell HC13.out.2.2 1; have z2 := blk_cell HC13.out.2.2 2; have z3 := blk_cell HC13.out.2.2 3; have z4 := blk_cell HC13.out.2.2 4; have z5 := blk_cell HC13.out.2.2 5; have r0 := blk_cell HC13.out.1.2.2.2 0; have r1 := blk_cell HC13.out.1.2.2.2 1; have r2 := blk_cell HC13.out.1.2.2.2 2; have r3 := blk_cell HC13.out.1.2.2.2 3; have r4 := blk_cell HC13.out.1.2.2.2 4; have r5 := blk_cell HC13.out.1.2.2.2 5; have g0 := blk_frozen HC13.out.1.2.2.2 0; have g1 := blk_frozen HC13.out.1.2.2.2 1; have g2 := blk_frozen HC13.out.1.2.2.2 2; have g3 := blk_frozen HC13.out.1.2.2.2 3; have g4 := blk_frozen HC13.out.1.2.2.2 4; have g5 := blk_frozen HC13.out.1.2.2.2 5; rw [hw13] at z0 z1 z2 z3 z4 z5 r0 r1 r2 r3 r4 r5 g0 g1 g2 g3 g4 g5)
       rw [← hw13]
       refine bodyPost_ret (results_cell_row rfl _ _ w.heap.size 128 #[.int .i64 _, .int .i64 _, .int .i64 _, .int .i64 _, .int .i64 _, .int .i64 _] (0, 0) _ rfl (by exact Dr.put6 HC13.out.1.2.2.2 _ _ _ _ _ _) Try.underlying128 rfl (by kernel_rfl)) rfl ?_
       exact ⟨_, _, _, _, _, _, rfl, (Dr.Xc.post HC13.out _ _ _ _ _ _).1.le (by omega), (Dr.Xc.post HC13.out _ _ _ _ _ _).2⟩
namespace Dr
/-- A configuration that lies in a box of the call's own, beside the source of the draws; the call's result box is still empty. -/
def Cg (w0 w W : World) (g : Nat) (code : List Int) (b c : Nat) (v : Int) (s1 s2 : Value) (l1 : List S36) (l2 : List S64) (N1 N2 M : Nat) : Prop :=
 Sr w0 W g code b ∧ KeepBut w W g none ∧ w0.heap.size ≤ w.heap.size ∧ w.heap.size < c ∧ W.heap[w.heap.size]? = some (.cells #[.int .i64 0, .slice none 0 0, .slice none 0 0] 31 (0, 0)) ∧ W.heap[c]? = some (.cells #[.int .i64 v, s1, s2] 31 (0, 0)) ∧ Kd.R k36 36 W w.heap.size (fun _ => True) s1 l1 ∧ Kd.R k64 64 W w.heap.size (fun _ => True) s2 l2 ∧ l1.length ≤ N1 ∧ l2.length ≤ N2 ∧ ∀ y, y ∈ l2 → y.f3.length ≤ M
/-- Two rows of a configuration. -/
def Rs (w W : World) (s1 s2 : Value) (l1 : List S36) (l2 : List S64) (N1 N2 M : Nat) : Prop :=
 Kd.R k36 36 W w.heap.size (fun _ => True) s1 l1 ∧ Kd.R k64 64 W w.heap.size (fun _ => True) s2 l2 ∧ l1.length ≤ N1 ∧ l2.length ≤ N2 ∧ ∀ y, y ∈ l2 → y.f3.length ≤ M
theorem Rs.below {w W W' : World} {s1 s2 : Value} {l1 : List S36} {l2 : List S64} {N1 N2 M : Nat} (h : Rs w W s1 s2 l1 l2 N1 N2 M) (hb : Below W.heap.size W W') : Rs w W' s1 s2 l1 l2 N1 N2 M :=
 ⟨Kd.R_below h.1 hb, Kd.R_below h.2.1 hb, h.2.2⟩
theorem Rs.keep {w0 w W W' : World} {g : Nat} {code : List Int} {b : Nat} {s1 s2 : Value} {l1 : List S36} {l2 : List S64} {N1 N2 M : Nat} (h : Rs w W s1 s2 l1 l2 N1 N2 M) (hs : Sr w0 W g code b) (hk : KeepBut W W' g none) : Rs w W' s1 s2 l1 l2 N1 N2 M :=
 ⟨keepR hs h.1 (by decide) hk, keepR hs h.2.1 (by decide) hk, h.2.2⟩
theorem Rs.put4 {w W : World} {s1 s2 u0 u1 u2 u3 : Value} {l1 : List S36} {l2 : List S64} {N1 N2 M gb : Nat} (h : Rs w W s1 s2 l1 l2 N1 N2 M) (hb : W.heap[gb]? = some (.cells #[u0, u1, u2, u3] 125 (0, 0))) (v0 v1 v2 v3 : Value) :
  Rs w ((((W.setCell ⟨gb, 0, none⟩ v0).setCell ⟨gb, 1, none⟩ v1).setCell ⟨gb, 2, none⟩ v2).setCell ⟨gb, 3, none⟩ v3) s1 s2 l1 l2 N1 N2 M :=
 ⟨R_put4 h.1 hb (by decide) _ _ _ _, R_put4 h.2.1 hb (by decide) _ _ _ _, h.2.2⟩
section
variable {w0 w W W' : World} {g : Nat} {code : List Int} {b c : Nat} {v : Int} {s1 s2 : Value} {l1 : List S36} {l2 : List S64} {N1 N2 M : Nat}
theorem Cg.held (h : Cg w0 w W g code b c v s1 s2 l1 l2 N1 N2 M) : W.cell? ⟨c, 0, none⟩ = some (.int .i64 v) ∧ W.cell? ⟨c, 1, none⟩ = some s1 ∧ W.cell? ⟨c, 2, none⟩ = some s2 :=
 ⟨blk_cell h.2.2.2.2.2.1 0, blk_cell h.2.2.2.2.2.1 1, blk_cell h.2.2.2.2.2.1 2⟩
theorem Cg.below (h : Cg w0 w W g code b c v s1 s2 l1 l2 N1 N2 M) (hb : Below W.heap.size W W') : Cg w0 w W' g code b c v s1 s2 l1 l2 N1 N2 M := by
 obtain ⟨h1, h2, h3, h4, h5, h6, h7, h8, h9⟩ := h
 exact ⟨h1.below hb, h2.trans (KeepBut.of_below hb g none) (.inl rfl), h3, h4, blk_below h5 hb, blk_below h6 hb, Kd.R_below h7 hb, Kd.R_below h8 hb, h9⟩
theorem Cg.keep {b' : Nat} (h : Cg w0 w W g code b c v s1 s2 l1 l2 N1 N2 M) (hs : Sr w0 W' g code b') (hk : KeepBut W W' g none) : Cg w0 w W' g code b' c v s1 s2 l1 l2 N1 N2 M := by
 obtain ⟨h1, h2, h3, h4, h5, h6, h7, h8, h9⟩ := h
 exact ⟨hs, h2.trans hk (.inl rfl), h3, h4, keepB h1 h5 (by decide) hk, keepB h1 h6 (by decide) hk, keepR h1 h7 (by decide) hk, keepR h1 h8 (by decide) hk, h9⟩
theorem Cg.le {b' M' : Nat} (h : Cg w0 w W g code b c v s1 s2 l1 l2 N1 N2 M) (hb : b ≤ b') (hM : M ≤ M') : Cg w0 w W g code b' c v s1 s2 l1 l2 N1 N2 M' := by
 obtain ⟨h1, h2, h3, h4, h5, h6, h7, h8, h9, h10, h11⟩ := h
 exact ⟨h1.le hb, h2, h3, h4, h5, h6, h7, h8, h9, h10, fun y hy => Nat.le_trans (h11 y hy) hM⟩
/-- A store into another box. -/
theorem Cg.off {a j : Nat} {cs : Array Value} {t : TypeId} (h : Cg w0 w W g code b c v s1 s2 l1 l2 N1 N2 M) (hb : W.heap[a]? = some (.cells cs t (0, 0))) (ha : w.heap.size ≤ a) (ht : t ≠ 148 ∧ t ≠ 31) (ht1 : ∀ q, q ∈ 36 :: k36.E → q ≠ t) (ht2 : ∀ q, q ∈ 64 :: k64.E → q ≠ t) (u : Value) : Cg w0 w (W.setCell ⟨a, j, none⟩ u) g code b c v s1 s2 l1 l2 N1 N2 M := by
 obtain ⟨h1, h2, h3, h4, h5, h6, h7, h8, h9⟩ := h
 refine ⟨h1.far (h1.ne_blk hb ht.1) (Nat.le_trans h3 ha) u, keep_far h2 ha u, h3, h4, blk_far h5 (ne_ty h5 hb (Ne.symm ht.2)) u, blk_far h6 (ne_ty h6 hb (Ne.symm ht.2)) u, Kd.R_set h7 hb ht1 j u, Kd.R_set h8 hb ht2 j u, h9⟩
theorem Cg.put4 {gb : Nat} {u0 u1 u2 u3 : Value} (h : Cg w0 w W g code b c v s1 s2 l1 l2 N1 N2 M) (hb : W.heap[gb]? = some (.cells #[u0, u1, u2, u3] 125 (0, 0))) (ha : w.heap.size ≤ gb) (v0 v1 v2 v3 : Value) :
  Cg w0 w ((((W.setCell ⟨gb, 0, none⟩ v0).setCell ⟨gb, 1, none⟩ v1).setCell ⟨gb, 2, none⟩ v2).setCell ⟨gb, 3, none⟩ v3) g code b c v s1 s2 l1 l2 N1 N2 M := by
 have n1 := blk_put (cs := #[u0, u1, u2, u3]) hb 0 v0 rfl
 have n2 := blk_put (cs := #[v0, u1, u2, u3]) n1 1 v1 rfl
 have n3 := blk_put (cs := #[v0, v1, u2, u3]) n2 2 v2 rfl
 exact (((h.off hb ha (by decide) (by decide) (by decide) v0).off n1 ha (by decide) (by decide) (by decide) v1).off n2 ha (by decide) (by decide) (by decide) v2).off n3 ha (by decide) (by decide) (by decide) v3
theorem box_ne (h : Cg w0 w W g code b c v s1 s2 l1 l2 N1 N2 M) : g ≠ c ∧ w.heap.size ≠ c ∧ w0.heap.size ≤ c ∧ w.heap.size ≤ c := by
 obtain ⟨h1, h2, h3, h4, h5, h6, h7, h8, h9⟩ := h
 exact ⟨h1.ne_blk h6 (by decide), by omega, by omega, by omega⟩
/-- The box's version written. -/
theorem Cg.set0 (h : Cg w0 w W g code b c v s1 s2 l1 l2 N1 N2 M) (v' : Int) : Cg w0 w (W.setCell ⟨c, 0, none⟩ (.int .i64 v')) g code b c v' s1 s2 l1 l2 N1 N2 M := by
 obtain ⟨n1, n2, n3, n4⟩ := box_ne h
 obtain ⟨h1, h2, h3, h4, h5, h6, h7, h8, h9⟩ := h
 exact ⟨h1.far n1 n3 _, keep_far h2 n4 _, h3, h4, blk_far h5 n2 _, blk_put (cs := #[.int .i64 v, s1, s2]) h6 0 _ rfl, Kd.R_set h7 h6 (by decide) 0 _, Kd.R_set h8 h6 (by decide) 0 _, h9⟩
/-- The box's backends written. -/
theorem Cg.set1 {s1' : Value} {l1' : List S36} {N1' : Nat} (h : Cg w0 w W g code b c v s1 s2 l1 l2 N1 N2 M) (hR : Kd.R k36 36 W w.heap.size (fun _ => True) s1' l1') (hl : l1'.length ≤ N1') : Cg w0 w (W.setCell ⟨c, 1, none⟩ s1') g code b c v s1' s2 l1' l2 N1' N2 M := by
 obtain ⟨n1, n2, n3, n4⟩ := box_ne h
 obtain ⟨h1, h2, h3, h4, h5, h6, h7, h8, h9, h10⟩ := h
 exact ⟨h1.far n1 n3 _, keep_far h2 n4 _, h3, h4, blk_far h5 n2 _, blk_put (cs := #[.int .i64 v, s1, s2]) h6 1 _ rfl, Kd.R_set hR h6 (by decide) 1 _, Kd.R_set h8 h6 (by decide) 1 _, hl, h10⟩
/-- The box's vips written. -/
theorem Cg.set2 {s2' : Value} {l2' : List S64} {N2' M' : Nat} (h : Cg w0 w W g code b c v s1 s2 l1 l2 N1 N2 M) (hR : Kd.R k64 64 W w.heap.size (fun _ => True) s2' l2') (hl : l2'.length ≤ N2') (hm : ∀ y, y ∈ l2' → y.f3.length ≤ M') : Cg w0 w (W.setCell ⟨c, 2, none⟩ s2') g code b c v s1 s2' l1 l2' N1 N2' M' := by
 obtain ⟨n1, n2, n3, n4⟩ := box_ne h
 obtain ⟨h1, h2, h3, h4, h5, h6, h7, h8, h9, h10⟩ := h
 exact ⟨h1.far n1 n3 _, keep_far h2 n4 _, h3, h4, blk_far h5 n2 _, blk_put (cs := #[.int .i64 v, s1, s2]) h6 2 _ rfl, Kd.R_set h7 h6 (by decide) 2 _, Kd.R_set hR h6 (by decide) 2 _, h9, hl, hm⟩
theorem Cg.fill {v' : Int} {s1' s2' : Value} {l1' : List S36} {l2' : List S64} {N1' N2' M' : Nat} (h : Cg w0 w W g code b c v s1 s2 l1 l2 N1 N2 M) (hR : Rs w W s1' s2' l1' l2' N1' N2' M') : Cg w0 w (((W.setCell ⟨c, 0, none⟩ (.int .i64 v')).setCell ⟨c, 1, none⟩ s1').setCell ⟨c, 2, none⟩ s2') g code b c v' s1' s2' l1' l2' N1' N2' M' := by
 have k0 := h.set0 v'
 have k1 := k0.set1 (Kd.R_set hR.1 h.2.2.2.2.2.1 (by decide) 0 _) hR.2.2.1
 exact k1.set2 (Kd.R_set (Kd.R_set hR.2.1 h.2.2.2.2.2.1 (by decide) 0 _) k0.2.2.2.2.2.1 (by decide) 1 _) hR.2.2.2.1 hR.2.2.2.2
/-- What the draw of a configuration comes to. -/
def RPost (w0 w : World) (g : Nat) (code : List Int) (b N1 N2 M : Nat) (e : Ending) (w' : World) : Prop := ∃ (v : Int) (s1 s2 : Value) (l1 : List S36) (l2 : List S64), e = .returned (.agg #[.int .i64 v, s1, s2]) ∧ Rs w w' s1 s2 l1 l2 N1 N2 M ∧ Sr w0 w' g code b ∧ KeepBut w w' g none
theorem put3 {w : World} {g : Nat} {t : TypeId} {u0 u1 u2 : Value} (h : w.heap[g]? = some (.cells #[u0, u1, u2] t (0, 0))) (v0 v1 v2 : Value) :
  (((w.setCell ⟨g, 0, none⟩ v0).setCell ⟨g, 1, none⟩ v1).setCell ⟨g, 2, none⟩ v2).heap[g]? = some (.cells #[v0, v1, v2] t (0, 0)) := by
 refine blk_put (cs := #[v0, v1, u2]) ?_ 2 _ rfl
 refine blk_put (cs := #[v0, u1, u2]) ?_ 1 _ rfl
 exact blk_put (cs := #[u0, u1, u2]) h 0 _ rfl
theorem Cg.post (h : Cg w0 w W g code b c v s1 s2 l1 l2 N1 N2 M) : RPost w0 w g code b N1 N2 M (.returned (.agg #[.int .i64 v, s1, s2])) (((W.setCell ⟨w.heap.size, 0, none⟩ (.int .i64 v)).setCell ⟨w.heap.size, 1, none⟩ s1).setCell ⟨w.heap.size, 2, none⟩ s2) := by
 obtain ⟨h1, h2, h3, h4, h5, h6, h7, h8, h9⟩ := h
 have n0 : g ≠ w.heap.size := h1.ne_blk h5 (by decide)
 have k1 := blk_put (cs := #[.int .i64 0, .slice none 0 0, .slice none 0 0]) h5 0 (.int .i64 v) rfl
 have k2 := blk_put (cs := #[.int .i64 v, .slice none 0 0, .slice none 0 0]) k1 1 s1 rfl
 refine ⟨v, s1, s2, l1, l2, rfl, ⟨?_, ?_, h9⟩, ?_, ?_⟩
 ·exact Kd.R_set (Kd.R_set (Kd.R_set h7 h5 (by decide) 0 _) k1 (by decide) 1 _) k2 (by decide) 2 _
 ·exact Kd.R_set (Kd.R_set (Kd.R_set h8 h5 (by decide) 0 _) k1 (by decide) 1 _) k2 (by decide) 2 _
 ·exact ((h1.far (p := ⟨w.heap.size, 0, none⟩) n0 h3 _).far (p := ⟨w.heap.size, 1, none⟩) n0 h3 _).far (p := ⟨w.heap.size, 2, none⟩) n0 h3 _
 ·exact keep_far (keep_far (keep_far h2 (Nat.le_refl _) _) (Nat.le_refl _) _) (Nat.le_refl _) _
end
theorem apply' {w0 w W : World} {g : Nat} {code : List Int} {b c : Nat} {v : Int} {A1 A2 : Option Addr} {c1 c2 : Nat} {l1 : List S36} {l2 : List S64} {M : Nat} (h : Cg w0 w W g code b c v (.slice A1 l1.length c1) (.slice A2 l2.length c2) l1 l2 8 4 M) (hM : M ≤ 1000) (x0 x1 x2 x3 x4 x5 : Int) :
  Calls Try.prog 130 #[.agg #[.int .i64 v, .slice A1 l1.length c1, .slice A2 l2.length c2], .agg #[.int .i64 x0, .int .i64 x1, .int .i64 x2, .int .i64 x3, .int .i64 x4, .int .i64 x5]] W fun e w' => ∃ (q v' : Int) (s1 s2 : Value) (l1' : List S36) (l2' : List S64), e = .returned (.agg #[.int .i64 q, .int .i64 v', s1, s2]) ∧ Rs w w' s1 s2 l1' l2' 8 4 (M + 1) ∧ Below W.heap.size W w' := by
 obtain ⟨h1, h2, h3, h4, h5, h6, h7, h8, h9, h10, h11⟩ := h
 have r1 := Kd.R_reads' h7
 have r2 := Kd.R_reads' h8
 refine (spec_l5Apply.cf A1 c1 l1 A2 c2 l2 v x0 x1 x2 x3 x4 x5 M W r1.2.2 r1.2.1 r2.2.2 r2.2.1 h9 h10 hM h11).mono ?_
 rintro e w' ⟨q, v', s1, s2, l1', l2', rfl, hR1, hR2, k1, k2, k3, hb⟩
 have hsz := h2.1
 exact ⟨q, v', s1, s2, l1', l2', rfl, ⟨Kd.R_lower hR1 hsz, Kd.R_lower hR2 hsz, k1, k2, k3⟩, hb⟩
end Dr
set_option maxHeartbeats 16000000 in
set_option maxRecDepth 100000 in
/-- A right configuration is drawn. -/
theorem spec_l5Right.cf (g : Nat) (code : List Int) (b : Nat) (w0 w : World) (hs : Dr.Sr w0 w g code b) (hb : b ≤ 100000) :
  Calls Try.prog 119 #[.pointer (some ⟨g, 0, none⟩)] w fun e w' => Dr.RPost w0 w g code (b + 241) 8 4 24 e w' := by
 have hu31 := Try.underlying31
 have hu125 := Try.underlying125
 obtain ⟨w1, hw1⟩ : ∃ W, W = (w.alloc (.cells #[.int .i64 0, .slice none 0 0, .slice none 0 0] 31)).alloc (.cells #[.int .i64 0, .slice none 0 0, .slice none 0 0] 31) := ⟨_, rfl⟩
 obtain ⟨c, hc⟩ : ∃ c, c = w.heap.size + 1 := ⟨_, rfl⟩
 have hB1 : Below w.heap.size w w1 := by rw [hw1]; exact (((Below.refl _ w).alloc (Nat.le_refl _) _).alloc (by simp) _)
 have hC1 : Dr.Cg w0 w w1 g code b c 0 (.slice none 0 0) (.slice none 0 0) [] [] 8 4 0 := by
  refine ⟨hs.below hB1, KeepBut.of_below hB1 g none, hs.2.2.1.size, by omega, ?_, ?_, Kd.R_nil _ _ _ _ _, Kd.R_nil _ _ _ _ _, by simp, by simp, fun y hy => by simp at hy⟩
  ·rw [hw1]; exact blk_alloc (blk_new w _) _
  ·rw [hw1, hc]
   have h_ := heap_alloc_new (w.alloc (.cells #[.int .i64 0, .slice none 0 0, .slice none 0 0] 31)) (.cells #[.int .i64 0, .slice none 0 0, .slice none 0 0] 31)
   rwa [World.size_alloc] at h_
 have HC1 := Aside0.mk hC1
 have hnext := Dr.next hC1.1 (by omega) 24 (by omega)
 rw [hw1] at hnext
 clear hB1 hC1
 go_enter Try.func119, Try.ntmps119
 go_wp2_with (go_at_call 120; refine hnext.mono ?_; rintro e w2 ⟨vn, rfl, hv0, hv1, hs2, hk2⟩; rw [← hw1] at hk2; have HC2 := Aside0.mk (Dr.Cg.keep HC1.out hs2 hk2); clear hnext HC1 hs2 hk2)
 rw [← hc]
 clear hc
 replace hv1 := hv1 (by omega)
 obtain ⟨k0, rfl⟩ : ∃ k0 : Nat, vn = (k0 : Int) := ⟨vn.toNat, by omega⟩
 go_loopg [4] 24 (fun gg s4 wr => ∃ (kk : Nat) (v : Int) (s1 s2 : Value) (l1 : List S36) (l2 : List S64), kk ≤ 24 ∧ kk ≤ gg ∧ s4 = .int .i64 kk ∧ Aside0 (Dr.Cg w0 w wr g code (b + 1 + 10 * (24 - kk)) c v s1 s2 l1 l2 8 4 (24 - kk)))
 case atStart => exact ⟨k0, 0, _, _, [], [], by omega, by omega, rfl, ⟨Dr.Cg.le HC2.out (by omega) (by omega)⟩⟩
 case round =>
  clear HC2
  obtain ⟨kk, v, s1, s2, l1, l2, hkk, hg, rfl, HC⟩ := hrel
  obtain ⟨A1, c1, t1⟩ := Kd.R_slice HC.out.2.2.2.2.2.2.1
  subst t1
  obtain ⟨A2, c2, t2⟩ := Kd.R_slice HC.out.2.2.2.2.2.2.2.1
  subst t2
  obtain ⟨b', hb'⟩ : ∃ b', b' = b + 1 + 10 * (24 - kk) := ⟨_, rfl⟩
  obtain ⟨M, hM⟩ : ∃ M, M = 24 - kk := ⟨_, rfl⟩
  rw [← hb', ← hM] at HC
  by_cases hlt : 0 < kk
  ·have hd0 : decide (0 < (kk : Int)) = true := decide_eq_true (by omega)
   go_wp2
   have hC := Dr.Cg.below HC.out (below_drew1 (Below.refl _ _))
   refine start_ (n := 6) (S := fun w' => w'.cell? ⟨c, 0, none⟩ = some (.int .i64 v) ∧ w'.cell? ⟨c, 1, none⟩ = some (.slice A1 l1.length c1) ∧ w'.cell? ⟨c, 2, none⟩ = some (.slice A2 l2.length c2)) (ds := []) (Mk 6 0) (by kernel_rfl) rfl rfl (Dr.Cg.held hC) (fun hHeld => ?_)
   generalize wr.drew = wd at hC hHeld ⊢
   clear HC
   refine pure_ (i := 1) (N := some 14) (v := ?_) (a' := ?_) (Mk 6 2) rfl rfl (by kernel_rfl) (fun _ _ _ h => h) (Or.inl ⟨by rfl, ?_⟩) ?_ ?_
   rotate_left
   ·intro w'
    first | (go_simp; with_reducible rfl) | (go_simp; (try unfold Instr.field); go_simp; (try simp only [asAgg]); go_simp; with_reducible rfl)
   rotate_left
   ·simp only [Act.put, List.setIfInBounds_toArray, List.set_cons_zero, List.set_cons_succ, i64_w, i32_w]
    rfl
   refine take_ (i := 0) (N := some 13) (v := ?_) (a' := ?_) (Mk 6 3) rfl rfl (by kernel_rfl) (fun _ _ _ h => h) (Or.inl ⟨by rfl, ?_⟩) hHeld ?_ ?_
   rotate_left
   ·rintro w' ⟨s0, s1, s2⟩
    go_simp
    with_reducible rfl
   rotate_left
   ·simp only [Act.put, List.setIfInBounds_toArray, List.set_cons_zero, List.set_cons_succ, i64_w, i32_w]
    rfl
   refine join_ (σ := Value × Value × Nat) 1 (Mk 6 31) (fun s_ => [(15, s_.1), (16, s_.2.1), (5, .pointer (some ⟨s_.2.2, 0, none⟩))]) (fun s_ w' => Dr.Cg w0 w w' g code (b' + 10) c v (.slice A1 l1.length c1) (.slice A2 l2.length c2) l1 l2 8 4 M ∧ (∃ (q v' : Int) (s1' s2' : Value) (l1' : List S36) (l2' : List S64), s_.2.1 = .agg #[.int .i64 q, .int .i64 v', s1', s2'] ∧ Dr.Rs w w' s1' s2' l1' l2' 8 4 (M + 1)) ∧ w'.heap[s_.2.2]? = some (.cells #[.int .i64 0, .int .i64 0, .slice none 0 0, .slice none 0 0] 125 (0, 0)) ∧ w.heap.size ≤ s_.2.2) ?_ ?_
   rotate_left
   ·intro hCont
    refine two_ (i := 2) (j := 4) (Ni := some 15) (Nj := some 5) (Mk 6 7) (Mk 6 19) rfl rfl rfl rfl (by kernel_rfl) (by decide) (by decide) (fun K hK => ?_) (fun K hK => ?_)
    ·skip
     refine goes_ Try.func100 (by kernel_rfl) rfl #[.pointer (some ⟨g, 0, none⟩)] (by rfl) rfl rfl (by (try simp only [List.map_toArray, List.map_cons, List.map_nil]); first | done | rfl) ?_
     refine (spec_l5Cmd.cf g code _ w0 _ hC.1 (by omega)).mono ?_
     rintro e_ wc ⟨x0, x1, x2, x3, x4, x5, rfl, hs_, hk_⟩
     refine ⟨_, rfl, ?_⟩
     replace hC := Dr.Cg.keep hC hs_ hk_
     clear hs_ hk_
     refine hK.out _ _ (Dr.Cg.held hC) (fun hHeld => ?_)
     clear hK K
     refine norm_ (a' := ?_) ?_ ?_
     rotate_left
     ·show Act.put _ (some 15) _ = _
      simp only [Act.put, List.setIfInBounds_toArray, List.set_cons_zero, List.set_cons_succ, i64_w, i32_w]
      rfl
     refine two_ (i := 3) (j := 4) (Ni := some 16) (Nj := some 5) (Mk 6 15) (Mk 6 23) rfl rfl rfl rfl (by kernel_rfl) (by decide) (by decide) (fun K hK => ?_) (fun K hK => ?_)
     ·skip
      refine goes_ Try.func130 (by kernel_rfl) rfl #[.agg #[.int .i64 v, .slice A1 l1.length c1, .slice A2 l2.length c2], .agg #[.int .i64 x0, .int .i64 x1, .int .i64 x2, .int .i64 x3, .int .i64 x4, .int .i64 x5]] (by rfl) rfl rfl (by (try simp only [List.map_toArray, List.map_cons, List.map_nil]); first | done | rfl) ?_
      refine (Dr.apply' hC (by omega) x0 x1 x2 x3 x4 x5).mono ?_
      rintro e_ wc ⟨q, v', s1', s2', l1', l2', rfl, hN, hb_⟩
      refine ⟨_, rfl, ?_⟩
      replace hC := Dr.Cg.below hC hb_
      clear hb_
      refine hK.out _ _ (Dr.Cg.held hC) (fun hHeld => ?_)
      clear hK K
      refine norm_ (a' := ?_) ?_ ?_
      rotate_left
      ·show Act.put _ (some 16) _ = _
       simp only [Act.put, List.setIfInBounds_toArray, List.set_cons_zero, List.set_cons_succ, i64_w, i32_w]
       rfl
      refine one_ (i := 4) (N := some 5) (Mk 6 31) rfl rfl (by kernel_rfl) (by decide) (fun K hK => ?_)
      refine box_step ?hg (N := 5) ?hd (cs := #[.int .i64 0, .int .i64 0, .slice none 0 0, .slice none 0 0]) (t := 125) ?hr ?_; (case hd => rfl); (case hg => rfl); (case hr => first | (go_simp; done) | (go_simp; rfl))
      intro gb hg_ wb hbox hbb
      have hgb : w.heap.size ≤ gb := by rw [hg_]; exact hC.2.1.1
      replace hN := Dr.Rs.below hN hbb
      replace hC := Dr.Cg.below hC hbb
      clear hbb hg_
      refine hK.out _ _ (Dr.Cg.held hC) (fun hHeld => ?_)
      clear hK K
      refine norm_ (a' := ?_) ?_ ?_
      rotate_left
      ·show Act.put _ (some 5) _ = _
       simp only [Act.put, List.setIfInBounds_toArray, List.set_cons_zero, List.set_cons_succ, i64_w, i32_w]
       rfl
      exact norm_ (by simp only [putAll, Act.put, List.setIfInBounds_toArray, List.set_cons_zero, List.set_cons_succ]) (hCont (.agg #[.int .i64 x0, .int .i64 x1, .int .i64 x2, .int .i64 x3, .int .i64 x4, .int .i64 x5], _, gb) _ ⟨hC, ⟨q, v', s1', s2', l1', l2', rfl, hN⟩, hbox, hgb⟩)
     ·skip
      refine box_step ?hg (N := 5) ?hd (cs := #[.int .i64 0, .int .i64 0, .slice none 0 0, .slice none 0 0]) (t := 125) ?hr ?_; (case hd => rfl); (case hg => rfl); (case hr => first | (go_simp; done) | (go_simp; rfl))
      intro gb hg_ wb hbox hbb
      have hgb : w.heap.size ≤ gb := by rw [hg_]; exact hC.2.1.1
      replace hC := Dr.Cg.below hC hbb
      clear hbb hg_
      refine hK.out _ _ (Dr.Cg.held hC) (fun hHeld => ?_)
      clear hK K
      refine norm_ (a' := ?_) ?_ ?_
      rotate_left
      ·show Act.put _ (some 5) _ = _
       simp only [Act.put, List.setIfInBounds_toArray, List.set_cons_zero, List.set_cons_succ, i64_w, i32_w]
       rfl
      refine one_ (i := 3) (N := some 16) (Mk 6 31) rfl rfl (by kernel_rfl) (by decide) (fun K hK => ?_)
      refine goes_ Try.func130 (by kernel_rfl) rfl #[.agg #[.int .i64 v, .slice A1 l1.length c1, .slice A2 l2.length c2], .agg #[.int .i64 x0, .int .i64 x1, .int .i64 x2, .int .i64 x3, .int .i64 x4, .int .i64 x5]] (by rfl) rfl rfl (by (try simp only [List.map_toArray, List.map_cons, List.map_nil]); first | done | rfl) ?_
      refine (Dr.apply' hC (by omega) x0 x1 x2 x3 x4 x5).mono ?_
      rintro e_ wc ⟨q, v', s1', s2', l1', l2', rfl, hN, hb_⟩
      refine ⟨_, rfl, ?_⟩
      replace hbox := blk_below hbox hb_
      replace hC := Dr.Cg.below hC hb_
      clear hb_
      refine hK.out _ _ (Dr.Cg.held hC) (fun hHeld => ?_)
      clear hK K
      refine norm_ (a' := ?_) ?_ ?_
      rotate_left
      ·show Act.put _ (some 16) _ = _
       simp only [Act.put, List.setIfInBounds_toArray, List.set_cons_zero, List.set_cons_succ, i64_w, i32_w]
       rfl
      exact norm_ (by simp only [putAll, Act.put, List.setIfInBounds_toArray, List.set_cons_zero, List.set_cons_succ]) (hCont (.agg #[.int .i64 x0, .int .i64 x1, .int .i64 x2, .int .i64 x3, .int .i64 x4, .int .i64 x5], _, gb) _ ⟨hC, ⟨q, v', s1', s2', l1', l2', rfl, hN⟩, hbox, hgb⟩)
    ·skip
     refine box_step ?hg (N := 5) ?hd (cs := #[.int .i64 0, .int .i64 0, .slice none 0 0, .slice none 0 0]) (t := 125) ?hr ?_; (case hd => rfl); (case hg => rfl); (case hr => first | (go_simp; done) | (go_simp; rfl))
     intro gb hg_ wb hbox hbb
     have hgb : w.heap.size ≤ gb := by rw [hg_]; exact hC.2.1.1
     replace hC := Dr.Cg.below hC hbb
     clear hbb hg_
     refine hK.out _ _ (Dr.Cg.held hC) (fun hHeld => ?_)
     clear hK K
     refine norm_ (a' := ?_) ?_ ?_
     rotate_left
     ·show Act.put _ (some 5) _ = _
      simp only [Act.put, List.setIfInBounds_toArray, List.set_cons_zero, List.set_cons_succ, i64_w, i32_w]
      rfl
     refine one_ (i := 2) (N := some 15) (Mk 6 23) rfl rfl (by kernel_rfl) (by decide) (fun K hK => ?_)
     refine goes_ Try.func100 (by kernel_rfl) rfl #[.pointer (some ⟨g, 0, none⟩)] (by rfl) rfl rfl (by (try simp only [List.map_toArray, List.map_cons, List.map_nil]); first | done | rfl) ?_
     refine (spec_l5Cmd.cf g code _ w0 _ hC.1 (by omega)).mono ?_
     rintro e_ wc ⟨x0, x1, x2, x3, x4, x5, rfl, hs_, hk_⟩
     refine ⟨_, rfl, ?_⟩
     replace hbox := Dr.keepB hC.1 hbox (by decide) hk_
     replace hC := Dr.Cg.keep hC hs_ hk_
     clear hs_ hk_
     refine hK.out _ _ (Dr.Cg.held hC) (fun hHeld => ?_)
     clear hK K
     refine norm_ (a' := ?_) ?_ ?_
     rotate_left
     ·show Act.put _ (some 15) _ = _
      simp only [Act.put, List.setIfInBounds_toArray, List.set_cons_zero, List.set_cons_succ, i64_w, i32_w]
      rfl
     refine one_ (i := 3) (N := some 16) (Mk 6 31) rfl rfl (by kernel_rfl) (by decide) (fun K hK => ?_)
     refine goes_ Try.func130 (by kernel_rfl) rfl #[.agg #[.int .i64 v, .slice A1 l1.length c1, .slice A2 l2.length c2], .agg #[.int .i64 x0, .int .i64 x1, .int .i64 x2, .int .i64 x3, .int .i64 x4, .int .i64 x5]] (by rfl) rfl rfl (by (try simp only [List.map_toArray, List.map_cons, List.map_nil]); first | done | rfl) ?_
     refine (Dr.apply' hC (by omega) x0 x1 x2 x3 x4 x5).mono ?_
     rintro e_ wc ⟨q, v', s1', s2', l1', l2', rfl, hN, hb_⟩
     refine ⟨_, rfl, ?_⟩
     replace hbox := blk_below hbox hb_
     replace hC := Dr.Cg.below hC hb_
     clear hb_
     refine hK.out _ _ (Dr.Cg.held hC) (fun hHeld => ?_)
     clear hK K
     refine norm_ (a' := ?_) ?_ ?_
     rotate_left
     ·show Act.put _ (some 16) _ = _
      simp only [Act.put, List.setIfInBounds_toArray, List.set_cons_zero, List.set_cons_succ, i64_w, i32_w]
      rfl
     exact norm_ (by simp only [putAll, Act.put, List.setIfInBounds_toArray, List.set_cons_zero, List.set_cons_succ]) (hCont (.agg #[.int .i64 x0, .int .i64 x1, .int .i64 x2, .int .i64 x3, .int .i64 x4, .int .i64 x5], _, gb) _ ⟨hC, ⟨q, v', s1', s2', l1', l2', rfl, hN⟩, hbox, hgb⟩)
   clear hHeld hC
   rintro ⟨t15, t16, gb⟩ wj ⟨hC, ⟨q, v', s1', s2', l1', l2', e16, hN⟩, hbox, hgb⟩
   simp only at e16 hbox hgb
   subst e16
   have hHeld := Dr.Cg.held hC
   obtain ⟨E1, d1, t1⟩ := Kd.R_slice hN.1
   subst t1
   obtain ⟨E2, d2, t2⟩ := Kd.R_slice hN.2.1
   subst t2
   refine norm_ (a' := ?_) ?_ ?_
   rotate_left
   ·simp only [putAll, Act.put, List.setIfInBounds_toArray, List.set_cons_zero, List.set_cons_succ]
    rfl
   refine one_ (i := 5) (N := none) (Mk 6 63) rfl rfl (by kernel_rfl) (by decide) (fun K hK => ?_)
   have y0 := blk_cell hbox 0
   have f0 := blk_frozen hbox 0
   have y1 := blk_cell hbox 1
   have f1 := blk_frozen hbox 1
   have y2 := blk_cell hbox 2
   have f2 := blk_frozen hbox 2
   have y3 := blk_cell hbox 3
   have f3 := blk_frozen hbox 3
   refine skip_ (w1 := ?_) (by rfl) rfl ?_ ?_
   rotate_left
   ·go_simp
    rfl
   have hC6 := Dr.Cg.put4 hC hbox hgb (.int .i64 q) (.int .i64 v') (.slice E1 l1'.length d1) (.slice E2 l2'.length d2)
   have hN6 := Dr.Rs.put4 hN hbox (.int .i64 q) (.int .i64 v') (.slice E1 l1'.length d1) (.slice E2 l2'.length d2)
   have hb6 := Dr.put4 hbox (.int .i64 q) (.int .i64 v') (.slice E1 l1'.length d1) (.slice E2 l2'.length d2)
   refine hK.out _ _ (Dr.Cg.held hC6) (fun hHeld => ?_)
   clear hK K hHeld y0 y1 y2 y3 f0 f1 f2 f3 hbox hC hN
   generalize ((((wj.setCell ⟨gb, 0, none⟩ (.int .i64 q)).setCell ⟨gb, 1, none⟩ (.int .i64 v')).setCell ⟨gb, 2, none⟩ (.slice E1 l1'.length d1)).setCell ⟨gb, 3, none⟩ (.slice E2 l2'.length d2)) = w6 at hC6 hN6 hb6 ⊢
   refine done_ (by kernel_rfl) ?_
   obtain ⟨z0, z1, z2⟩ := Dr.Cg.held hC6
   have zf0 := blk_frozen hC6.2.2.2.2.2.1 0
   have zf1 := blk_frozen hC6.2.2.2.2.2.1 1
   have zf2 := blk_frozen hC6.2.2.2.2.2.1 2
   have y0 := blk_cell hb6 0
   have y1 := blk_cell hb6 1
   have y2 := blk_cell hb6 2
   have y3 := blk_cell hb6 3
   have HC6 := Aside0.mk hC6
   have HN6 := Aside0.mk hN6
   clear hC6 hN6 hb6
   have hk1 : wrap64 ((kk : Int) - 1) = ((kk - 1 : Nat) : Int) := by unfold wrap64; omega
   by_cases hq : q = 0
   ·have hq1 : (q == 0) = true := beq_iff_eq.mpr hq
    clear hq
    go_wp2
    go_roundg (kk - 1)
    case measure => omega
    case rel => exact ⟨kk - 1, v', _, _, l1', l2', by omega, by omega, by rw [show ((kk - 1 : Nat) : Int) = (kk : Int) - 1 by omega], ⟨Dr.Cg.le (Dr.Cg.fill HC6.out HN6.out) (by omega) (by omega)⟩⟩
   ·have hq1 : (q == 0) = false := beq_eq_false_iff_ne.mpr hq
    clear hq
    go_wp2
    go_roundg (kk - 1)
    case measure => omega
    case rel => exact ⟨kk - 1, v, _, _, l1, l2, by omega, by omega, by rw [show ((kk - 1 : Nat) : Int) = (kk : Int) - 1 by omega], ⟨Dr.Cg.le HC6.out (by omega) (by omega)⟩⟩
  ·have hd0 : decide (0 < (kk : Int)) = false := decide_eq_false (by omega)
   obtain ⟨z0, z1, z2⟩ := Dr.Cg.held HC.out
   have y0 := blk_cell HC.out.2.2.2.2.1 0
   have y1 := blk_cell HC.out.2.2.2.2.1 1
   have y2 := blk_cell HC.out.2.2.2.2.1 2
   have f0 := blk_frozen HC.out.2.2.2.2.1 0
   have f1 := blk_frozen HC.out.2.2.2.2.1 1
   have f2 := blk_frozen HC.out.2.2.2.2.1 2
   go_wp2
   refine bodyPost_ret (results_cell_row rfl _ _ w.heap.size 31 #[.int .i64 v, .slice A1 l1.length c1, .slice A2 l2.length c2] (0, 0) _ rfl (by exact Dr.put3 HC.out.2.2.2.2.1 _ _ _) Try.underlying31 rfl (by kernel_rfl)) rfl ?_
   exact Dr.Cg.post (Dr.Cg.le HC.out (by omega) (by omega))
end Go.Proofs.Ytfmlhpoaipeoeaa.QFnDeltas
