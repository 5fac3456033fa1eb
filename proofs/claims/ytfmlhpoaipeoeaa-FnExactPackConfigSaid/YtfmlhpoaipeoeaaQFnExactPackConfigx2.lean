-- MADE BY PROGRAM (qprint.py): walks of the functions that the law FnExactPackConfig reaches. Lean checks it.
import Derived.Test.YtfmlhpoaipeoeaaQFnExactPackConfigx0
namespace Go.Proofs.Ytfmlhpoaipeoeaa.QFnExactPackConfig
open Go.RowKit Go.Proofs.YtfmlhpoaipeoeaaW.PrintWords Go.Proofs.YtfmlhpoaipeoeaaW.PrintLast Go.Proofs.YtfmlhpoaipeoeaaW.PrintMore
open Go.Proofs.YtfmlhpoaipeoeaaW.PrintWords renaming blk_drewN → bN, blk_drew → bd, blk_alloc → ba, blk_cell → bc, blk_frozen → bf, below_set → bs, pw_below_drewN → pN, below_drew1 → p1, below_alloc → pa, blk_below → bb, below_size → bz, below_step → bp, blk_lt → bl, blk_far → bq, add_block → ab
open Go.Proofs.YtfmlhpoaipeoeaaW.PrintWords.Kd renaming R_drewN → rN, R_drew → rd1, R_alloc → ra, R_far → rf, R_below → rb, R_new' → rn, R_lt → rl, R_elder' → re, R_lower → rw1, C_alloc → ca, C_drewN → cN, C_drew → cd1, S_alloc → sa, S_drewN → sN, S_drew → sd, S_far → sf, S_mono → sm, S_types → st, S_lt → sl
open Go.Proofs.YtfmlhpoaipeoeaaW.PrintWords.Aside0 renaming mk → am
open Go.Value renaming int → I, slice → J
open Go.IntKind renaming i64 → q
attribute [local go_sem] max2_int min2_int max_two min_two max_three min_three max_four min_four   -- for this text's walks alone
set_option linter.unusedVariables false
set_option linter.unusedSimpArgs false

/-! ### laws_eqBackend: function 65 -/
def laws_eqBackend.f (aa0 : Int) (aa1 : Int) (aa2 : Int) (aa3 : Int) (aa4 : Bool) (ab0 : Int) (ab1 : Int) (ab2 : Int) (ab3 : Int) (ab4 : Bool) : Option (Bool) := if aa0 = ab0 then (if aa1 = ab1 then (if aa2 = ab2 then (if aa3 = ab3 then (if (aa4 != ab4) = true then (some false) else (some true)) else (some false)) else (some false)) else (some false)) else (some false)
set_option maxHeartbeats 8000000 in
set_option maxRecDepth 100000 in
theorem laws_eqBackend.calls (aa0 : Int) (aa1 : Int) (aa2 : Int) (aa3 : Int) (aa4 : Bool) (ab0 : Int) (ab1 : Int) (ab2 : Int) (ab3 : Int) (ab4 : Bool) (r : Bool) (w : World) (h : laws_eqBackend.f aa0 aa1 aa2 aa3 aa4 ab0 ab1 ab2 ab3 ab4 = some r) :
  Calls Try.prog 65 #[.agg #[I q aa0, I q aa1, I q aa2, I q aa3, .bool aa4], .agg #[I q ab0, I q ab1, I q ab2, I q ab3, .bool ab4]] w fun e w' => e = .returned (.bool r) ∧ Below w.heap.size w w' := by
 have hu36 := Try.underlying36
 have HB := am (Below.refl w.heap.size w)
 have H : (if aa0 = ab0 then (if aa1 = ab1 then (if aa2 = ab2 then (if aa3 = ab3 then (if (aa4 != ab4) = true then (some false) else (some true)) else (some false)) else (some false)) else (some false)) else (some false)) = some r := h
 clear h
 by_cases c3 : aa0 = ab0
 ·rw [if_pos c3] at H
  have c3b0 : (aa0 == ab0) = true := beq_iff_eq.mpr c3
  have c3b1 : (aa0 != ab0) = false := bne_eq_false_iff_eq.mpr c3
  clear c3
  by_cases c4 : aa1 = ab1
  ·rw [if_pos c4] at H
   have c4b0 : (aa1 == ab1) = true := beq_iff_eq.mpr c4
   have c4b1 : (aa1 != ab1) = false := bne_eq_false_iff_eq.mpr c4
   clear c4
   by_cases c5 : aa2 = ab2
   ·rw [if_pos c5] at H
    have c5b0 : (aa2 == ab2) = true := beq_iff_eq.mpr c5
    have c5b1 : (aa2 != ab2) = false := bne_eq_false_iff_eq.mpr c5
    clear c5
    by_cases c6 : aa3 = ab3
    ·rw [if_pos c6] at H
     have c6b0 : (aa3 == ab3) = true := beq_iff_eq.mpr c6
     have c6b1 : (aa3 != ab3) = false := bne_eq_false_iff_eq.mpr c6
     clear c6
     by_cases c7 : (aa4 != ab4) = true
     ·rw [if_pos c7] at H
      have c7b0 : (aa4 != ab4) = true := c7
      (try (have c7b1 : decide (aa4 = ab4) = false := by simpa using c7))
      (try (have c7b2 : (aa4 == ab4) = false := by simpa using c7))
      (try (have c7b3 : ¬ (aa4 = ab4) := by simpa using c7))
      clear c7
      obtain rfl := Option.some.inj H
      go_enter Try.func65, Try.ntmps65
      go_wp2_with (first | ((with_reducible refine gate_dst (N := 2) rfl ?_); refine box_event ?hg (N := 2) ?hd (cs := #[I q aa0, I q aa1, I q aa2, I q aa3, .bool aa4]) (t := 36) ?hr ?_; (case hd => rfl); (case hg => rfl); (case hr => first | (go_simp; done) | (go_simp; rfl)); intro g152 hg w8 hbox hb; have N0 := am (bp (by repeat (first | (with_reducible first | exact HB.out | apply pa | apply pN | apply p1) | exact HB.out)) hb); have N1 := am (hbox); have N2 := am ((by rw [hg]; exact (bz (by repeat (first | (with_reducible first | exact HB.out | apply pa | apply pN | apply p1) | exact HB.out))) : w.heap.size ≤ g152)); have N3 := am ((by rw [hg]; exact (bz (by repeat (first | (with_reducible first | exact HB.out | apply pa | apply pN | apply p1) | exact HB.out))) : w.heap.size ≤ g152)); clear HB; have HB := N0; have B152 := N1; have GW152 := N2; have E152 := N3; clear N0 N1 N2 N3 hb hbox hg) | ((with_reducible refine gate_dst (N := 3) rfl ?_); refine box_event ?hg (N := 3) ?hd (cs := #[I q ab0, I q ab1, I q ab2, I q ab3, .bool ab4]) (t := 36) ?hr ?_; (case hd => rfl); (case hg => rfl); (case hr => first | (go_simp; done) | (go_simp; rfl)); intro g153 hg w9 hbox hb; have N0 := am (bb (g := g152) (by (with_reducible repeat (first | apply bN | apply bd | apply ba)); exact B152.out) hb); have N1 := am (bp (by repeat (first | (with_reducible first | exact HB.out | apply pa | apply pN | apply p1 | refine bs ?_ E152.out) | exact HB.out)) hb); have N2 := am (hbox); have N3 := am ((by rw [hg]; exact (bz (by repeat (first | (with_reducible first | exact HB.out | apply pa | apply pN | apply p1 | refine bs ?_ E152.out) | exact HB.out))) : w.heap.size ≤ g153)); have N4 := am ((by rw [hg]; exact (bz (by repeat (first | (with_reducible first | exact HB.out | apply pa | apply pN | apply p1 | refine bs ?_ E152.out) | exact HB.out))) : w.heap.size ≤ g153)); have N5 := am ((by rw [hg]; exact Nat.ne_of_lt (bl (g := g152) (by (with_reducible repeat (first | apply bN | apply bd | apply ba)); exact B152.out)) : g152 ≠ g153)); have N6 := am ((by rw [hg]; exact Nat.ne_of_gt (bl (g := g152) (by (with_reducible repeat (first | apply bN | apply bd | apply ba)); exact B152.out)) : g153 ≠ g152)); clear B152 HB; have B152 := N0; have HB := N1; have B153 := N2; have GW153 := N3; have E153 := N4; have NB152_153 := N5; have NB153_152 := N6; clear N0 N1 N2 N3 N4 N5 N6 hb hbox hg; have hnb10 := NB152_153.out; have hnc10 := NB153_152.out; have hcz11_0 : w9.cell? ⟨g152, 0, none⟩ = some (I q aa0) := (bc B152.out 0).trans rfl; have hcz11_1 : w9.cell? ⟨g152, 1, none⟩ = some (I q aa1) := (bc B152.out 1).trans rfl; have hcz11_2 : w9.cell? ⟨g152, 2, none⟩ = some (I q aa2) := (bc B152.out 2).trans rfl; have hcz11_3 : w9.cell? ⟨g152, 3, none⟩ = some (I q aa3) := (bc B152.out 3).trans rfl; have hcz11_4 : w9.cell? ⟨g152, 4, none⟩ = some (.bool aa4) := (bc B152.out 4).trans rfl; have hfz11_0 := bf B152.out 0; have hfz11_1 := bf B152.out 1; have hfz11_2 := bf B152.out 2; have hfz11_3 := bf B152.out 3; have hfz11_4 := bf B152.out 4; have hcz12_0 : w9.cell? ⟨g153, 0, none⟩ = some (I q ab0) := (bc B153.out 0).trans rfl; have hcz12_1 : w9.cell? ⟨g153, 1, none⟩ = some (I q ab1) := (bc B153.out 1).trans rfl; have hcz12_2 : w9.cell? ⟨g153, 2, none⟩ = some (I q ab2) := (bc B153.out 2).trans rfl; have hcz12_3 : w9.cell? ⟨g153, 3, none⟩ = some (I q ab3) := (bc B153.out 3).trans rfl; have hcz12_4 : w9.cell? ⟨g153, 4, none⟩ = some (.bool ab4) := (bc B153.out 4).trans rfl; have hfz12_0 := bf B153.out 0; have hfz12_1 := bf B153.out 1; have hfz12_2 := bf B153.out 2; have hfz12_3 := bf B153.out 3; have hfz12_4 := bf B153.out 4))
      go_ret
      exact ⟨by first | rfl | (simp [errW_none, errW_some] <;> rfl) | (simp [*, errW_none, errW_some] <;> rfl), by repeat (first | (with_reducible first | exact HB.out | apply pa | apply pN | apply p1 | refine bs ?_ E152.out | refine bs ?_ E153.out) | exact HB.out)⟩
     ·rw [if_neg c7] at H
      have c7b0 : (aa4 != ab4) = false := by simpa using c7
      (try (have c7b1 : decide (aa4 = ab4) = true := by simpa using c7))
      (try (have c7b2 : (aa4 == ab4) = true := by simpa using c7))
      clear c7
      obtain rfl := Option.some.inj H
      go_enter Try.func65, Try.ntmps65
      go_wp2_with (first | ((with_reducible refine gate_dst (N := 2) rfl ?_); refine box_event ?hg (N := 2) ?hd (cs := #[I q aa0, I q aa1, I q aa2, I q aa3, .bool aa4]) (t := 36) ?hr ?_; (case hd => rfl); (case hg => rfl); (case hr => first | (go_simp; done) | (go_simp; rfl)); intro g152 hg w13 hbox hb; have N0 := am (bp (by repeat (first | (with_reducible first | exact HB.out | apply pa | apply pN | apply p1) | exact HB.out)) hb); have N1 := am (hbox); have N2 := am ((by rw [hg]; exact (bz (by repeat (first | (with_reducible first | exact HB.out | apply pa | apply pN | apply p1) | exact HB.out))) : w.heap.size ≤ g152)); have N3 := am ((by rw [hg]; exact (bz (by repeat (first | (with_reducible first | exact HB.out | apply pa | apply pN | apply p1) | exact HB.out))) : w.heap.size ≤ g152)); clear HB; have HB := N0; have B152 := N1; have GW152 := N2; have E152 := N3; clear N0 N1 N2 N3 hb hbox hg) | ((with_reducible refine gate_dst (N := 3) rfl ?_); refine box_event ?hg (N := 3) ?hd (cs := #[I q ab0, I q ab1, I q ab2, I q ab3, .bool ab4]) (t := 36) ?hr ?_; (case hd => rfl); (case hg => rfl); (case hr => first | (go_simp; done) | (go_simp; rfl)); intro g153 hg w14 hbox hb; have N0 := am (bb (g := g152) (by (with_reducible repeat (first | apply bN | apply bd | apply ba)); exact B152.out) hb); have N1 := am (bp (by repeat (first | (with_reducible first | exact HB.out | apply pa | apply pN | apply p1 | refine bs ?_ E152.out) | exact HB.out)) hb); have N2 := am (hbox); have N3 := am ((by rw [hg]; exact (bz (by repeat (first | (with_reducible first | exact HB.out | apply pa | apply pN | apply p1 | refine bs ?_ E152.out) | exact HB.out))) : w.heap.size ≤ g153)); have N4 := am ((by rw [hg]; exact (bz (by repeat (first | (with_reducible first | exact HB.out | apply pa | apply pN | apply p1 | refine bs ?_ E152.out) | exact HB.out))) : w.heap.size ≤ g153)); have N5 := am ((by rw [hg]; exact Nat.ne_of_lt (bl (g := g152) (by (with_reducible repeat (first | apply bN | apply bd | apply ba)); exact B152.out)) : g152 ≠ g153)); have N6 := am ((by rw [hg]; exact Nat.ne_of_gt (bl (g := g152) (by (with_reducible repeat (first | apply bN | apply bd | apply ba)); exact B152.out)) : g153 ≠ g152)); clear B152 HB; have B152 := N0; have HB := N1; have B153 := N2; have GW153 := N3; have E153 := N4; have NB152_153 := N5; have NB153_152 := N6; clear N0 N1 N2 N3 N4 N5 N6 hb hbox hg; have hnb15 := NB152_153.out; have hnc15 := NB153_152.out; have hcz16_0 : w14.cell? ⟨g152, 0, none⟩ = some (I q aa0) := (bc B152.out 0).trans rfl; have hcz16_1 : w14.cell? ⟨g152, 1, none⟩ = some (I q aa1) := (bc B152.out 1).trans rfl; have hcz16_2 : w14.cell? ⟨g152, 2, none⟩ = some (I q aa2) := (bc B152.out 2).trans rfl; have hcz16_3 : w14.cell? ⟨g152, 3, none⟩ = some (I q aa3) := (bc B152.out 3).trans rfl; have hcz16_4 : w14.cell? ⟨g152, 4, none⟩ = some (.bool aa4) := (bc B152.out 4).trans rfl; have hfz16_0 := bf B152.out 0; have hfz16_1 := bf B152.out 1; have hfz16_2 := bf B152.out 2; have hfz16_3 := bf B152.out 3; have hfz16_4 := bf B152.out 4; have hcz17_0 : w14.cell? ⟨g153, 0, none⟩ = some (I q ab0) := (bc B153.out 0).trans rfl; have hcz17_1 : w14.cell? ⟨g153, 1, none⟩ = some (I q ab1) := (bc B153.out 1).trans rfl; have hcz17_2 : w14.cell? ⟨g153, 2, none⟩ = some (I q ab2) := (bc B153.out 2).trans rfl; have hcz17_3 : w14.cell? ⟨g153, 3, none⟩ = some (I q ab3) := (bc B153.out 3).trans rfl; have hcz17_4 : w14.cell? ⟨g153, 4, none⟩ = some (.bool ab4) := (bc B153.out 4).trans rfl; have hfz17_0 := bf B153.out 0; have hfz17_1 := bf B153.out 1; have hfz17_2 := bf B153.out 2; have hfz17_3 := bf B153.out 3; have hfz17_4 := bf B153.out 4))
      go_ret
      exact ⟨by first | rfl | (simp [errW_none, errW_some] <;> rfl) | (simp [*, errW_none, errW_some] <;> rfl), by repeat (first | (with_reducible first | exact HB.out | apply pa | apply pN | apply p1 | refine bs ?_ E152.out | refine bs ?_ E153.out) | exact HB.out)⟩
    ·rw [if_neg c6] at H
     have c6b0 : (aa3 == ab3) = false := beq_eq_false_iff_ne.mpr c6
     have c6b1 : (aa3 != ab3) = true := bne_iff_ne.mpr c6
     obtain rfl := Option.some.inj H
     go_enter Try.func65, Try.ntmps65
     go_wp2_with (first | ((with_reducible refine gate_dst (N := 2) rfl ?_); refine box_event ?hg (N := 2) ?hd (cs := #[I q aa0, I q aa1, I q aa2, I q aa3, .bool aa4]) (t := 36) ?hr ?_; (case hd => rfl); (case hg => rfl); (case hr => first | (go_simp; done) | (go_simp; rfl)); intro g152 hg w18 hbox hb; have N0 := am (bp (by repeat (first | (with_reducible first | exact HB.out | apply pa | apply pN | apply p1) | exact HB.out)) hb); have N1 := am (hbox); have N2 := am ((by rw [hg]; exact (bz (by repeat (first | (with_reducible first | exact HB.out | apply pa | apply pN | apply p1) | exact HB.out))) : w.heap.size ≤ g152)); have N3 := am ((by rw [hg]; exact (bz (by repeat (first | (with_reducible first | exact HB.out | apply pa | apply pN | apply p1) | exact HB.out))) : w.heap.size ≤ g152)); clear HB; have HB := N0; have B152 := N1; have GW152 := N2; have E152 := N3; clear N0 N1 N2 N3 hb hbox hg) | ((with_reducible refine gate_dst (N := 3) rfl ?_); refine box_event ?hg (N := 3) ?hd (cs := #[I q ab0, I q ab1, I q ab2, I q ab3, .bool ab4]) (t := 36) ?hr ?_; (case hd => rfl); (case hg => rfl); (case hr => first | (go_simp; done) | (go_simp; rfl)); intro g153 hg w19 hbox hb; have N0 := am (bb (g := g152) (by (with_reducible repeat (first | apply bN | apply bd | apply ba)); exact B152.out) hb); have N1 := am (bp (by repeat (first | (with_reducible first | exact HB.out | apply pa | apply pN | apply p1 | refine bs ?_ E152.out) | exact HB.out)) hb); have N2 := am (hbox); have N3 := am ((by rw [hg]; exact (bz (by repeat (first | (with_reducible first | exact HB.out | apply pa | apply pN | apply p1 | refine bs ?_ E152.out) | exact HB.out))) : w.heap.size ≤ g153)); have N4 := am ((by rw [hg]; exact (bz (by repeat (first | (with_reducible first | exact HB.out | apply pa | apply pN | apply p1 | refine bs ?_ E152.out) | exact HB.out))) : w.heap.size ≤ g153)); have N5 := am ((by rw [hg]; exact Nat.ne_of_lt (bl (g := g152) (by (with_reducible repeat (first | apply bN | apply bd | apply ba)); exact B152.out)) : g152 ≠ g153)); have N6 := am ((by rw [hg]; exact Nat.ne_of_gt (bl (g := g152) (by (with_reducible repeat (first | apply bN | apply bd | apply ba)); exact B152.out)) : g153 ≠ g152)); clear B152 HB; have B152 := N0; have HB := N1; have B153 := N2; have GW153 := N3; have E153 := N4; have NB152_153 := N5; have NB153_152 := N6; clear N0 N1 N2 N3 N4 N5 N6 hb hbox hg; have hnb20 := NB152_153.out; have hnc20 := NB153_152.out; have hcz21_0 : w19.cell? ⟨g152, 0, none⟩ = some (I q aa0) := (bc B152.out 0).trans rfl; have hcz21_1 : w19.cell? ⟨g152, 1, none⟩ = some (I q aa1) := (bc B152.out 1).trans rfl; have hcz21_2 : w19.cell? ⟨g152, 2, none⟩ = some (I q aa2) := (bc B152.out 2).trans rfl; have hcz21_3 : w19.cell? ⟨g152, 3, none⟩ = some (I q aa3) := (bc B152.out 3).trans rfl; have hcz21_4 : w19.cell? ⟨g152, 4, none⟩ = some (.bool aa4) := (bc B152.out 4).trans rfl; have hfz21_0 := bf B152.out 0; have hfz21_1 := bf B152.out 1; have hfz21_2 := bf B152.out 2; have hfz21_3 := bf B152.out 3; have hfz21_4 := bf B152.out 4; have hcz22_0 : w19.cell? ⟨g153, 0, none⟩ = some (I q ab0) := (bc B153.out 0).trans rfl; have hcz22_1 : w19.cell? ⟨g153, 1, none⟩ = some (I q ab1) := (bc B153.out 1).trans rfl; have hcz22_2 : w19.cell? ⟨g153, 2, none⟩ = some (I q ab2) := (bc B153.out 2).trans rfl; have hcz22_3 : w19.cell? ⟨g153, 3, none⟩ = some (I q ab3) := (bc B153.out 3).trans rfl; have hcz22_4 : w19.cell? ⟨g153, 4, none⟩ = some (.bool ab4) := (bc B153.out 4).trans rfl; have hfz22_0 := bf B153.out 0; have hfz22_1 := bf B153.out 1; have hfz22_2 := bf B153.out 2; have hfz22_3 := bf B153.out 3; have hfz22_4 := bf B153.out 4))
     go_ret
     exact ⟨by first | rfl | (simp [errW_none, errW_some] <;> rfl) | (simp [*, errW_none, errW_some] <;> rfl), by repeat (first | (with_reducible first | exact HB.out | apply pa | apply pN | apply p1 | refine bs ?_ E152.out | refine bs ?_ E153.out) | exact HB.out)⟩
   ·rw [if_neg c5] at H
    have c5b0 : (aa2 == ab2) = false := beq_eq_false_iff_ne.mpr c5
    have c5b1 : (aa2 != ab2) = true := bne_iff_ne.mpr c5
    obtain rfl := Option.some.inj H
    go_enter Try.func65, Try.ntmps65
    go_wp2_with (first | ((with_reducible refine gate_dst (N := 2) rfl ?_); refine box_event ?hg (N := 2) ?hd (cs := #[I q aa0, I q aa1, I q aa2, I q aa3, .bool aa4]) (t := 36) ?hr ?_; (case hd => rfl); (case hg => rfl); (case hr => first | (go_simp; done) | (go_simp; rfl)); intro g152 hg w23 hbox hb; have N0 := am (bp (by repeat (first | (with_reducible first | exact HB.out | apply pa | apply pN | apply p1) | exact HB.out)) hb); have N1 := am (hbox); have N2 := am ((by rw [hg]; exact (bz (by repeat (first | (with_reducible first | exact HB.out | apply pa | apply pN | apply p1) | exact HB.out))) : w.heap.size ≤ g152)); have N3 := am ((by rw [hg]; exact (bz (by repeat (first | (with_reducible first | exact HB.out | apply pa | apply pN | apply p1) | exact HB.out))) : w.heap.size ≤ g152)); clear HB; have HB := N0; have B152 := N1; have GW152 := N2; have E152 := N3; clear N0 N1 N2 N3 hb hbox hg) | ((with_reducible refine gate_dst (N := 3) rfl ?_); refine box_event ?hg (N := 3) ?hd (cs := #[I q ab0, I q ab1, I q ab2, I q ab3, .bool ab4]) (t := 36) ?hr ?_; (case hd => rfl); (case hg => rfl); (case hr => first | (go_simp; done) | (go_simp; rfl)); intro g153 hg w24 hbox hb; have N0 := am (bb (g := g152) (by (with_reducible repeat (first | apply bN | apply bd | apply ba)); exact B152.out) hb); have N1 := am (bp (by repeat (first | (with_reducible first | exact HB.out | apply pa | apply pN | apply p1 | refine bs ?_ E152.out) | exact HB.out)) hb); have N2 := am (hbox); have N3 := am ((by rw [hg]; exact (bz (by repeat (first | (with_reducible first | exact HB.out | apply pa | apply pN | apply p1 | refine bs ?_ E152.out) | exact HB.out))) : w.heap.size ≤ g153)); have N4 := am ((by rw [hg]; exact (bz (by repeat (first | (with_reducible first | exact HB.out | apply pa | apply pN | apply p1 | refine bs ?_ E152.out) | exact HB.out))) : w.heap.size ≤ g153)); have N5 := am ((by rw [hg]; exact Nat.ne_of_lt (bl (g := g152) (by (with_reducible repeat (first | apply bN | apply bd | apply ba)); exact B152.out)) : g152 ≠ g153)); have N6 := am ((by rw [hg]; exact Nat.ne_of_gt (bl (g := g152) (by (with_reducible repeat (first | apply bN | apply bd | apply ba)); exact B152.out)) : g153 ≠ g152)); clear B152 HB; have B152 := N0; have HB := N1; have B153 := N2; have GW153 := N3; have E153 := N4; have NB152_153 := N5; have NB153_152 := N6; clear N0 N1 N2 N3 N4 N5 N6 hb hbox hg; have hnb25 := NB152_153.out; have hnc25 := NB153_152.out; have hcz26_0 : w24.cell? ⟨g152, 0, none⟩ = some (I q aa0) := (bc B152.out 0).trans rfl; have hcz26_1 : w24.cell? ⟨g152, 1, none⟩ = some (I q aa1) := (bc B152.out 1).trans rfl; have hcz26_2 : w24.cell? ⟨g152, 2, none⟩ = some (I q aa2) := (bc B152.out 2).trans rfl; have hcz26_3 : w24.cell? ⟨g152, 3, none⟩ = some (I q aa3) := (bc B152.out 3).trans rfl; have hcz26_4 : w24.cell? ⟨g152, 4, none⟩ = some (.bool aa4) := (bc B152.out 4).trans rfl; have hfz26_0 := bf B152.out 0; have hfz26_1 := bf B152.out 1; have hfz26_2 := bf B152.out 2; have hfz26_3 := bf B152.out 3; have hfz26_4 := bf B152.out 4; have hcz27_0 : w24.cell? ⟨g153, 0, none⟩ = some (I q ab0) := (bc B153.out 0).trans rfl; have hcz27_1 : w24.cell? ⟨g153, 1, none⟩ = some (I q ab1) := (bc B153.out 1).trans rfl; have hcz27_2 : w24.cell? ⟨g153, 2, none⟩ = some (I q ab2) := (bc B153.out 2).trans rfl; have hcz27_3 : w24.cell? ⟨g153, 3, none⟩ = some (I q ab3) := (bc B153.out 3).trans rfl; have hcz27_4 : w24.cell? ⟨g153, 4, none⟩ = some (.bool ab4) := (bc B153.out 4).trans rfl; have hfz27_0 := bf B153.out 0; have hfz27_1 := bf B153.out 1; have hfz27_2 := bf B153.out 2; have hfz27_3 := bf B153.out 3; have hfz27_4 := bf B153.out 4))
    go_ret
    exact ⟨by first | rfl | (simp [errW_none, errW_some] <;> rfl) | (simp [*, errW_none, errW_some] <;> rfl), by repeat (first | (with_reducible first | exact HB.out | apply pa | apply pN | apply p1 | refine bs ?_ E152.out | refine bs ?_ E153.out) | exact HB.out)⟩
  ·rw [if_neg c4] at H
   have c4b0 : (aa1 == ab1) = false := beq_eq_false_iff_ne.mpr c4
   have c4b1 : (aa1 != ab1) = true := bne_iff_ne.mpr c4
   obtain rfl := Option.some.inj H
   go_enter Try.func65, Try.ntmps65
   go_wp2_with (first | ((with_reducible refine gate_dst (N := 2) rfl ?_); refine box_event ?hg (N := 2) ?hd (cs := #[I q aa0, I q aa1, I q aa2, I q aa3, .bool aa4]) (t := 36) ?hr ?_; (case hd => rfl); (case hg => rfl); (case hr => first | (go_simp; done) | (go_simp; rfl)); intro g152 hg w28 hbox hb; have N0 := am (bp (by repeat (first | (with_reducible first | exact HB.out | apply pa | apply pN | apply p1) | exact HB.out)) hb); have N1 := am (hbox); have N2 := am ((by rw [hg]; exact (bz (by repeat (first | (with_reducible first | exact HB.out | apply pa | apply pN | apply p1) | exact HB.out))) : w.heap.size ≤ g152)); have N3 := am ((by rw [hg]; exact (bz (by repeat (first | (with_reducible first | exact HB.out | apply pa | apply pN | apply p1) | exact HB.out))) : w.heap.size ≤ g152)); clear HB; have HB := N0; have B152 := N1; have GW152 := N2; have E152 := N3; clear N0 N1 N2 N3 hb hbox hg) | ((with_reducible refine gate_dst (N := 3) rfl ?_); refine box_event ?hg (N := 3) ?hd (cs := #[I q ab0, I q ab1, I q ab2, I q ab3, .bool ab4]) (t := 36) ?hr ?_; (case hd => rfl); (case hg => rfl); (case hr => first | (go_simp; done) | (go_simp; rfl)); intro g153 hg w29 hbox hb; have N0 := am (bb (g := g152) (by (with_reducible repeat (first | apply bN | apply bd | apply ba)); exact B152.out) hb); have N1 := am (bp (by repeat (first | (with_reducible first | exact HB.out | apply pa | apply pN | apply p1 | refine bs ?_ E152.out) | exact HB.out)) hb); have N2 := am (hbox); have N3 := am ((by rw [hg]; exact (bz (by repeat (first | (with_reducible first | exact HB.out | apply pa | apply pN | apply p1 | refine bs ?_ E152.out) | exact HB.out))) : w.heap.size ≤ g153)); have N4 := am ((by rw [hg]; exact (bz (by repeat (first | (with_reducible first | exact HB.out | apply pa | apply pN | apply p1 | refine bs ?_ E152.out) | exact HB.out))) : w.heap.size ≤ g153)); have N5 := am ((by rw [hg]; exact Nat.ne_of_lt (bl (g := g152) (by (with_reducible repeat (first | apply bN | apply bd | apply ba)); exact B152.out)) : g152 ≠ g153)); have N6 := am ((by rw [hg]; exact Nat.ne_of_gt (bl (g := g152) (by (with_reducible repeat (first | apply bN | apply bd | apply ba)); exact B152.out)) : g153 ≠ g152)); clear B152 HB; have B152 := N0; have HB := N1; have B153 := N2; have GW153 := N3; have E153 := N4; have NB152_153 := N5; have NB153_152 := N6; clear N0 N1 N2 N3 N4 N5 N6 hb hbox hg; have hnb30 := NB152_153.out; have hnc30 := NB153_152.out; have hcz31_0 : w29.cell? ⟨g152, 0, none⟩ = some (I q aa0) := (bc B152.out 0).trans rfl; have hcz31_1 : w29.cell? ⟨g152, 1, none⟩ = some (I q aa1) := (bc B152.out 1).trans rfl; have hcz31_2 : w29.cell? ⟨g152, 2, none⟩ = some (I q aa2) := (bc B152.out 2).trans rfl; have hcz31_3 : w29.cell? ⟨g152, 3, none⟩ = some (I q aa3) := (bc B152.out 3).trans rfl; have hcz31_4 : w29.cell? ⟨g152, 4, none⟩ = some (.bool aa4) := (bc B152.out 4).trans rfl; have hfz31_0 := bf B152.out 0; have hfz31_1 := bf B152.out 1; have hfz31_2 := bf B152.out 2; have hfz31_3 := bf B152.out 3; have hfz31_4 := bf B152.out 4; have hcz32_0 : w29.cell? ⟨g153, 0, none⟩ = some (I q ab0) := (bc B153.out 0).trans rfl; have hcz32_1 : w29.cell? ⟨g153, 1, none⟩ = some (I q ab1) := (bc B153.out 1).trans rfl; have hcz32_2 : w29.cell? ⟨g153, 2, none⟩ = some (I q ab2) := (bc B153.out 2).trans rfl; have hcz32_3 : w29.cell? ⟨g153, 3, none⟩ = some (I q ab3) := (bc B153.out 3).trans rfl; have hcz32_4 : w29.cell? ⟨g153, 4, none⟩ = some (.bool ab4) := (bc B153.out 4).trans rfl; have hfz32_0 := bf B153.out 0; have hfz32_1 := bf B153.out 1; have hfz32_2 := bf B153.out 2; have hfz32_3 := bf B153.out 3; have hfz32_4 := bf B153.out 4))
   go_ret
   exact ⟨by first | rfl | (simp [errW_none, errW_some] <;> rfl) | (simp [*, errW_none, errW_some] <;> rfl), by repeat (first | (with_reducible first | exact HB.out | apply pa | apply pN | apply p1 | refine bs ?_ E152.out | refine bs ?_ E153.out) | exact HB.out)⟩
 ·rw [if_neg c3] at H
  have c3b0 : (aa0 == ab0) = false := beq_eq_false_iff_ne.mpr c3
  have c3b1 : (aa0 != ab0) = true := bne_iff_ne.mpr c3
  obtain rfl := Option.some.inj H
  go_enter Try.func65, Try.ntmps65
  go_wp2_with (first | ((with_reducible refine gate_dst (N := 2) rfl ?_); refine box_event ?hg (N := 2) ?hd (cs := #[I q aa0, I q aa1, I q aa2, I q aa3, .bool aa4]) (t := 36) ?hr ?_; (case hd => rfl); (case hg => rfl); (case hr => first | (go_simp; done) | (go_simp; rfl)); intro g152 hg w33 hbox hb; have N0 := am (bp (by repeat (first | (with_reducible first | exact HB.out | apply pa | apply pN | apply p1) | exact HB.out)) hb); have N1 := am (hbox); have N2 := am ((by rw [hg]; exact (bz (by repeat (first | (with_reducible first | exact HB.out | apply pa | apply pN | apply p1) | exact HB.out))) : w.heap.size ≤ g152)); have N3 := am ((by rw [hg]; exact (bz (by repeat (first | (with_reducible first | exact HB.out | apply pa | apply pN | apply p1) | exact HB.out))) : w.heap.size ≤ g152)); clear HB; have HB := N0; have B152 := N1; have GW152 := N2; have E152 := N3; clear N0 N1 N2 N3 hb hbox hg) | ((with_reducible refine gate_dst (N := 3) rfl ?_); refine box_event ?hg (N := 3) ?hd (cs := #[I q ab0, I q ab1, I q ab2, I q ab3, .bool ab4]) (t := 36) ?hr ?_; (case hd => rfl); (case hg => rfl); (case hr => first | (go_simp; done) | (go_simp; rfl)); intro g153 hg w34 hbox hb; have N0 := am (bb (g := g152) (by (with_reducible repeat (first | apply bN | apply bd | apply ba)); exact B152.out) hb); have N1 := am (bp (by repeat (first | (with_reducible first | exact HB.out | apply pa | apply pN | apply p1 | refine bs ?_ E152.out) | exact HB.out)) hb); have N2 := am (hbox); have N3 := am ((by rw [hg]; exact (bz (by repeat (first | (with_reducible first | exact HB.out | apply pa | apply pN | apply p1 | refine bs ?_ E152.out) | exact HB.out))) : w.heap.size ≤ g153)); have N4 := am ((by rw [hg]; exact (bz (by repeat (first | (with_reducible first | exact HB.out | apply pa | apply pN | apply p1 | refine bs ?_ E152.out) | exact HB.out))) : w.heap.size ≤ g153)); have N5 := am ((by rw [hg]; exact Nat.ne_of_lt (bl (g := g152) (by (with_reducible repeat (first | apply bN | apply bd | apply ba)); exact B152.out)) : g152 ≠ g153)); have N6 := am ((by rw [hg]; exact Nat.ne_of_gt (bl (g := g152) (by (with_reducible repeat (first | apply bN | apply bd | apply ba)); exact B152.out)) : g153 ≠ g152)); clear B152 HB; have B152 := N0; have HB := N1; have B153 := N2; have GW153 := N3; have E153 := N4; have NB152_153 := N5; have NB153_152 := N6; clear N0 N1 N2 N3 N4 N5 N6 hb hbox hg; have hnb35 := NB152_153.out; have hnc35 := NB153_152.out; have hcz36_0 : w34.cell? ⟨g152, 0, none⟩ = some (I q aa0) := (bc B152.out 0).trans rfl; have hcz36_1 : w34.cell? ⟨g152, 1, none⟩ = some (I q aa1) := (bc B152.out 1).trans rfl; have hcz36_2 : w34.cell? ⟨g152, 2, none⟩ = some (I q aa2) := (bc B152.out 2).trans rfl; have hcz36_3 : w34.cell? ⟨g152, 3, none⟩ = some (I q aa3) := (bc B152.out 3).trans rfl; have hcz36_4 : w34.cell? ⟨g152, 4, none⟩ = some (.bool aa4) := (bc B152.out 4).trans rfl; have hfz36_0 := bf B152.out 0; have hfz36_1 := bf B152.out 1; have hfz36_2 := bf B152.out 2; have hfz36_3 := bf B152.out 3; have hfz36_4 := bf B152.out 4; have hcz37_0 : w34.cell? ⟨g153, 0, none⟩ = some (I q ab0) := (bc B153.out 0).trans rfl; have hcz37_1 : w34.cell? ⟨g153, 1, none⟩ = some (I q ab1) := (bc B153.out 1).trans rfl; have hcz37_2 : w34.cell? ⟨g153, 2, none⟩ = some (I q ab2) := (bc B153.out 2).trans rfl; have hcz37_3 : w34.cell? ⟨g153, 3, none⟩ = some (I q ab3) := (bc B153.out 3).trans rfl; have hcz37_4 : w34.cell? ⟨g153, 4, none⟩ = some (.bool ab4) := (bc B153.out 4).trans rfl; have hfz37_0 := bf B153.out 0; have hfz37_1 := bf B153.out 1; have hfz37_2 := bf B153.out 2; have hfz37_3 := bf B153.out 3; have hfz37_4 := bf B153.out 4))
  go_ret
  exact ⟨by first | rfl | (simp [errW_none, errW_some] <;> rfl) | (simp [*, errW_none, errW_some] <;> rfl), by repeat (first | (with_reducible first | exact HB.out | apply pa | apply pN | apply p1 | refine bs ?_ E152.out | refine bs ?_ E153.out) | exact HB.out)⟩

/-! ### laws_eqBackendS: function 62 -/
def laws_eqBackendS.l0 : Nat → List (S36) → List (S36) → Int → Option (Bool)
 | 0, _, _, _ => none
 | k + 1, x0, x1, x5 => if x5 < (x0.length : Int) then (if 0 ≤ x5 then (if x5 < (x1.length : Int) then ((laws_eqBackend.f ((rd_T36 x0 x5).f0) ((rd_T36 x0 x5).f1) ((rd_T36 x0 x5).f2) ((rd_T36 x0 x5).f3) ((rd_T36 x0 x5).f4) ((rd_T36 x1 x5).f0) ((rd_T36 x1 x5).f1) ((rd_T36 x1 x5).f2) ((rd_T36 x1 x5).f3) ((rd_T36 x1 x5).f4)).bind fun t156 => (if t156 = true then (laws_eqBackendS.l0 k x0 x1 (wrap64 (x5 + 1))) else (some false))) else (none)) else (none)) else (some true)
def laws_eqBackendS.f (k : Nat) (l0 : List (S36)) (l1 : List (S36)) : Option (Bool) := if (l0.length : Int) = (l1.length : Int) then (laws_eqBackendS.l0 k l0 l1 0) else (some false)
theorem laws_eqBackendS.mono_l : ∀ k, (∀ y0 y1 y2, LeO (laws_eqBackendS.l0 k y0 y1 y2) (laws_eqBackendS.l0 (k + 1) y0 y1 y2))
 | 0 => fun _ _ _ r h => by simp [laws_eqBackendS.l0] at h
 | k + 1 => by
  have ih0 := laws_eqBackendS.mono_l k
  ·intro y0 y1 y2
   unfold laws_eqBackendS.l0
   repeat' first
   | (with_reducible exact ih0 _ _ _)
   | (with_reducible exact LeO.refl _)
   | (with_reducible exact LeO.none _)
   | (with_reducible refine LeO.ite ?_ ?_)
   | (with_reducible refine LeO.bind ?_ (fun _ => ?_))
   | exact ih0 _ _ _
   | exact LeO.none _
   | refine LeO.ite ?_ ?_
   | refine LeO.bind ?_ (fun _ => ?_)
theorem laws_eqBackendS.mono : ∀ a0 a1 k, LeO (laws_eqBackendS.f k a0 a1) (laws_eqBackendS.f (k + 1) a0 a1) := by
 intro a0 a1 k
 have ih0 := laws_eqBackendS.mono_l k
 unfold laws_eqBackendS.f
 repeat' first
   | (with_reducible exact ih0 _ _ _)
   | (with_reducible exact LeO.refl _)
   | (with_reducible exact LeO.none _)
   | (with_reducible refine LeO.ite ?_ ?_)
   | (with_reducible refine LeO.bind ?_ (fun _ => ?_))
   | exact ih0 _ _ _
   | exact LeO.none _
   | refine LeO.ite ?_ ?_
   | refine LeO.bind ?_ (fun _ => ?_)
def laws_eqBackendS.T6 : Bool × List (List Nat × List Nat) := (true, [([], []), ([], []), ([0, 1], [0, 1]), ([2], [2]), ([], []), ([], []), ([4, 5], [4, 5]), ([6], [6]), ([3, 7], [3, 7]), ([8], [8])])
def laws_eqBackendS.B6 : List Nat := [0, 0, 3, 7, 0, 0, 48, 112, 255, 511]
theorem laws_eqBackendS.tab6 : rtab .any (opsOf Try.f62 6) = laws_eqBackendS.T6 := by kernel_rfl
theorem laws_eqBackendS.bits6 : waitsOk laws_eqBackendS.T6.2 laws_eqBackendS.B6 = true := by kernel_rfl
set_option maxHeartbeats 8000000 in
set_option maxRecDepth 100000 in
theorem laws_eqBackendS.calls (k : Nat) (A0 : Option Addr) (c0 : Nat) (l0 : List (S36)) (A1 : Option Addr) (c1 : Nat) (l1 : List (S36)) (r : Bool) (w : World) (hr0 : Kd.C k36 w A0 l0.length l0) (hc0 : l0.length ≤ c0) (hr1 : Kd.C k36 w A1 l1.length l1) (hc1 : l1.length ≤ c1) (h : laws_eqBackendS.f k l0 l1 = some r) :
  Calls Try.prog 62 #[J A0 l0.length c0, J A1 l1.length c1] w fun e w' => e = .returned (.bool r) ∧ Below w.heap.size w w' := by
 have hu36 := Try.underlying36
 have HR0 := am hr0
 have HC0 := am hc0
 clear hr0 hc0
 have HR1 := am hr1
 have HC1 := am hc1
 clear hr1 hc1
 have HB := am (Below.refl w.heap.size w)
 have H : (if (l0.length : Int) = (l1.length : Int) then (laws_eqBackendS.l0 k l0 l1 0) else (some false)) = some r := h
 clear h
 by_cases c3 : (l0.length : Int) = (l1.length : Int)
 ·rw [if_pos c3] at H
  have c3b0 : ((l0.length : Int) == (l1.length : Int)) = true := beq_iff_eq.mpr c3
  have c3b1 : ((l0.length : Int) != (l1.length : Int)) = false := bne_eq_false_iff_eq.mpr c3
  have c3b2 : (l0.length == l1.length) = true := by first | simpa using c3 | (simp at c3 ⊢; omega)
  clear c3
  have H' := am H
  clear H
  go_enter Try.func62, Try.ntmps62
  go_wp2
  go_loopg [5] k (fun kq v5 w' => ∃ (x5_1 : Int), v5 = I q x5_1 ∧ Aside0 (laws_eqBackendS.l0 kq l0 l1 x5_1 = some r) ∧ Aside0 (kq ≤ k) ∧ Aside0 (Below w.heap.size w w'))
  case atStart => exact ⟨(0), (by first | rfl | (simp; done) | (simp [*]; done)), H', ⟨Nat.le_refl _⟩, ⟨by repeat (first | (with_reducible first | exact HB.out | apply pa | apply pN | apply p1) | exact HB.out)⟩⟩
  case round =>
   clear H'
   try clear c1
   try clear p2
   try clear c3
   try clear c3b0
   try clear c3b1
   try clear c3b2
   obtain ⟨x5_1, rfl, HA, HK1, HB⟩ := hrel
   cases gk with
   | zero => exact absurd HA.out (by simp [laws_eqBackendS.l0])
   | succ k1 =>
    have H := HA.out
    clear HA
    simp only [laws_eqBackendS.l0] at H
    by_cases c4 : x5_1 < (l0.length : Int)
    ·rw [if_pos c4] at H
     have c4b0 : decide (x5_1 < (l0.length : Int)) = true := decide_eq_true c4
     clear c4
     by_cases c5 : 0 ≤ x5_1
     ·rw [if_pos c5] at H
      have c5b0 : decide (0 ≤ x5_1) = true := decide_eq_true c5
      clear c5
      by_cases c6 : x5_1 < (l1.length : Int)
      ·rw [if_pos c6] at H
       have c6b0 : decide (x5_1 < (l1.length : Int)) = true := decide_eq_true c6
       clear c6
       replace H := Option.bind_eq_some_iff.mp H
       obtain ⟨t156, A70, H⟩ := H
       replace H : (if t156 = true then (laws_eqBackendS.l0 k1 l0 l1 (wrap64 (x5_1 + 1))) else (some false)) = some r := H
       have A7 := am A70
       clear A70
       by_cases c8 : t156 = true
       ·subst c8
        have H1 : (laws_eqBackendS.l0 k1 l0 l1 (wrap64 (x5_1 + 1))) = some r := by rw [if_pos rfl] at H; exact H
        clear H
        have H := H1
        clear H1
        have H' := am H
        clear H
        try go_wp2
        have N0 := am (p1 HB.out)
        clear HB
        have HB := N0
        clear N0
        have p154 : 0 ≤ (x5_1 : Int) := of_decide_eq_true (by first | (with_reducible assumption) | assumption)
        have q154 : x5_1 < (l0.length : Int) := of_decide_eq_true (by first | (with_reducible assumption) | assumption)
        obtain ⟨ad154, e154, hx154_0, hx154_1, hx154_2, hx154_3, hx154_4⟩ := at_T36 HR0.out x5_1 p154 q154
        have hw154_4 := hx154_4
        have hw154_3 := hx154_3
        have hw154_2 := hx154_2
        have hw154_1 := hx154_1
        have hw154_0 := hx154_0
        cases e154
        replace hx154_0 := (HB.out.cell (World.block_lt_of_cell? w _ hx154_0)).trans hx154_0
        replace hx154_1 := (HB.out.cell (World.block_lt_of_cell? w _ hx154_1)).trans hx154_1
        replace hx154_2 := (HB.out.cell (World.block_lt_of_cell? w _ hx154_2)).trans hx154_2
        replace hx154_3 := (HB.out.cell (World.block_lt_of_cell? w _ hx154_3)).trans hx154_3
        replace hx154_4 := (HB.out.cell (World.block_lt_of_cell? w _ hx154_4)).trans hx154_4
        replace p154 := eq_true p154
        replace q154 := eq_true q154
        have p155 : 0 ≤ (x5_1 : Int) := of_decide_eq_true (by first | (with_reducible assumption) | assumption)
        have q155 : x5_1 < (l1.length : Int) := of_decide_eq_true (by first | (with_reducible assumption) | assumption)
        obtain ⟨ad155, e155, hx155_0, hx155_1, hx155_2, hx155_3, hx155_4⟩ := at_T36 HR1.out x5_1 p155 q155
        have hw155_4 := hx155_4
        have hw155_3 := hx155_3
        have hw155_2 := hx155_2
        have hw155_1 := hx155_1
        have hw155_0 := hx155_0
        cases e155
        replace hx155_0 := (HB.out.cell (World.block_lt_of_cell? w _ hx155_0)).trans hx155_0
        replace hx155_1 := (HB.out.cell (World.block_lt_of_cell? w _ hx155_1)).trans hx155_1
        replace hx155_2 := (HB.out.cell (World.block_lt_of_cell? w _ hx155_2)).trans hx155_2
        replace hx155_3 := (HB.out.cell (World.block_lt_of_cell? w _ hx155_3)).trans hx155_3
        replace hx155_4 := (HB.out.cell (World.block_lt_of_cell? w _ hx155_4)).trans hx155_4
        replace p155 := eq_true p155
        replace q155 := eq_true q155
        refine start_ (n := 10) (S := fun w' => w'.cell? (ad154.add ((x5_1).toNat * 5)) = some (I q ((rd_T36 l0 x5_1).f0)) ∧ w'.cell? ⟨(ad154.add ((x5_1).toNat * 5)).block, (ad154.add ((x5_1).toNat * 5)).off + 1, none⟩ = some (I q ((rd_T36 l0 x5_1).f1)) ∧ w'.cell? ⟨(ad154.add ((x5_1).toNat * 5)).block, (ad154.add ((x5_1).toNat * 5)).off + 2, none⟩ = some (I q ((rd_T36 l0 x5_1).f2)) ∧ w'.cell? ⟨(ad154.add ((x5_1).toNat * 5)).block, (ad154.add ((x5_1).toNat * 5)).off + 3, none⟩ = some (I q ((rd_T36 l0 x5_1).f3)) ∧ w'.cell? ⟨(ad154.add ((x5_1).toNat * 5)).block, (ad154.add ((x5_1).toNat * 5)).off + 4, none⟩ = some (.bool ((rd_T36 l0 x5_1).f4)) ∧ w'.cell? (ad155.add ((x5_1).toNat * 5)) = some (I q ((rd_T36 l1 x5_1).f0)) ∧ w'.cell? ⟨(ad155.add ((x5_1).toNat * 5)).block, (ad155.add ((x5_1).toNat * 5)).off + 1, none⟩ = some (I q ((rd_T36 l1 x5_1).f1)) ∧ w'.cell? ⟨(ad155.add ((x5_1).toNat * 5)).block, (ad155.add ((x5_1).toNat * 5)).off + 2, none⟩ = some (I q ((rd_T36 l1 x5_1).f2)) ∧ w'.cell? ⟨(ad155.add ((x5_1).toNat * 5)).block, (ad155.add ((x5_1).toNat * 5)).off + 3, none⟩ = some (I q ((rd_T36 l1 x5_1).f3)) ∧ w'.cell? ⟨(ad155.add ((x5_1).toNat * 5)).block, (ad155.add ((x5_1).toNat * 5)).off + 4, none⟩ = some (.bool ((rd_T36 l1 x5_1).f4))) (ds := []) #[false, false, false, false, false, false, false, false, false, false] (by kernel_rfl) rfl rfl ⟨((HB.out.cell (World.block_lt_of_cell? w _ hw154_0)).trans hw154_0), ((HB.out.cell (World.block_lt_of_cell? w _ hw154_1)).trans hw154_1), ((HB.out.cell (World.block_lt_of_cell? w _ hw154_2)).trans hw154_2), ((HB.out.cell (World.block_lt_of_cell? w _ hw154_3)).trans hw154_3), ((HB.out.cell (World.block_lt_of_cell? w _ hw154_4)).trans hw154_4), ((HB.out.cell (World.block_lt_of_cell? w _ hw155_0)).trans hw155_0), ((HB.out.cell (World.block_lt_of_cell? w _ hw155_1)).trans hw155_1), ((HB.out.cell (World.block_lt_of_cell? w _ hw155_2)).trans hw155_2), ((HB.out.cell (World.block_lt_of_cell? w _ hw155_3)).trans hw155_3), ((HB.out.cell (World.block_lt_of_cell? w _ hw155_4)).trans hw155_4)⟩ (fun hHeld => ?_); refine with_tabW laws_eqBackendS.tab6 laws_eqBackendS.bits6 (fun HT_ HW_ => ?_)
        generalize wr.drew = w9 at HB hx154_0 hx154_1 hx154_2 hx154_3 hx154_4 hx155_0 hx155_1 hx155_2 hx155_3 hx155_4 hHeld ⊢
        refine pure_ (i := 0) (N := some 17) (v := ?_) (a' := ?_) #[true, false, false, false, false, false, false, false, false, false] rfl rfl (any_of HT_.out (by kernel_rfl)) (fun _ _ _ h => h) (Or.inl ⟨by rfl, ?_⟩) ?_ ?_
        rotate_left
        ·intro w'
         first | (go_simp; with_reducible rfl) | (go_simp; (try unfold Instr.field); go_simp; (try simp only [asAgg]); go_simp; with_reducible rfl)
        rotate_left
        ·simp only [Act.put, List.setIfInBounds_toArray, List.set_cons_zero, List.set_cons_succ, i64_w, i32_w]
         rfl
        refine pure_ (i := 1) (N := some 18) (v := ?_) (a' := ?_) #[true, true, false, false, false, false, false, false, false, false] rfl rfl (any_of HT_.out (by kernel_rfl)) (fun _ _ _ h => h) (Or.inl ⟨by rfl, ?_⟩) ?_ ?_
        rotate_left
        ·intro w'
         first | (go_simp; with_reducible rfl) | (go_simp; (try unfold Instr.field); go_simp; (try simp only [asAgg]); go_simp; with_reducible rfl)
        rotate_left
        ·simp only [Act.put, List.setIfInBounds_toArray, List.set_cons_zero, List.set_cons_succ, i64_w, i32_w]
         rfl
        refine pure_ (i := 2) (N := some 19) (v := ?_) (a' := ?_) #[true, true, true, false, false, false, false, false, false, false] rfl rfl (any_of HT_.out (by kernel_rfl)) (fun _ _ _ h => h) (Or.inl ⟨by rfl, ?_⟩) ?_ ?_
        rotate_left
        ·intro w'
         first | (go_simp; with_reducible rfl) | (go_simp; (try unfold Instr.field); go_simp; (try simp only [asAgg]); go_simp; with_reducible rfl)
        rotate_left
        ·simp only [Act.put, List.setIfInBounds_toArray, List.set_cons_zero, List.set_cons_succ, i64_w, i32_w]
         rfl
        refine pure_ (i := 4) (N := some 21) (v := ?_) (a' := ?_) #[true, true, true, false, true, false, false, false, false, false] rfl rfl (any_of HT_.out (by kernel_rfl)) (fun _ _ _ h => h) (Or.inl ⟨by rfl, ?_⟩) ?_ ?_
        rotate_left
        ·intro w'
         first | (go_simp; with_reducible rfl) | (go_simp; (try unfold Instr.field); go_simp; (try simp only [asAgg]); go_simp; with_reducible rfl)
        rotate_left
        ·simp only [Act.put, List.setIfInBounds_toArray, List.set_cons_zero, List.set_cons_succ, i64_w, i32_w]
         rfl
        refine pure_ (i := 5) (N := some 22) (v := ?_) (a' := ?_) #[true, true, true, false, true, true, false, false, false, false] rfl rfl (any_of HT_.out (by kernel_rfl)) (fun _ _ _ h => h) (Or.inl ⟨by rfl, ?_⟩) ?_ ?_
        rotate_left
        ·intro w'
         first | (go_simp; with_reducible rfl) | (go_simp; (try unfold Instr.field); go_simp; (try simp only [asAgg]); go_simp; with_reducible rfl)
        rotate_left
        ·simp only [Act.put, List.setIfInBounds_toArray, List.set_cons_zero, List.set_cons_succ, i64_w, i32_w]
         rfl
        refine pure_ (i := 6) (N := some 23) (v := ?_) (a' := ?_) #[true, true, true, false, true, true, true, false, false, false] rfl rfl (any_of HT_.out (by kernel_rfl)) (fun _ _ _ h => h) (Or.inl ⟨by rfl, ?_⟩) ?_ ?_
        rotate_left
        ·intro w'
         first | (go_simp; with_reducible rfl) | (go_simp; (try unfold Instr.field); go_simp; (try simp only [asAgg]); go_simp; with_reducible rfl)
        rotate_left
        ·simp only [Act.put, List.setIfInBounds_toArray, List.set_cons_zero, List.set_cons_succ, i64_w, i32_w]
         rfl
        refine take_ (i := 3) (N := some 20) (v := ?_) (a' := ?_) #[true, true, true, true, true, true, true, false, false, false] rfl rfl (take_ofW HT_.out HW_.out (by kernel_rfl)) (fun _ _ _ h => h) (Or.inl ⟨by rfl, ?_⟩) hHeld ?_ ?_
        rotate_left
        ·rintro w' ⟨s0, s1, s2, s3, s4, s5, s6, s7, s8, s9⟩
         go_simp
         with_reducible rfl
        rotate_left
        ·simp only [Act.put, List.setIfInBounds_toArray, List.set_cons_zero, List.set_cons_succ, i64_w, i32_w]
         rfl
        refine take_ (i := 7) (N := some 24) (v := ?_) (a' := ?_) #[true, true, true, true, true, true, true, true, false, false] rfl rfl (take_ofW HT_.out HW_.out (by kernel_rfl)) (fun _ _ _ h => h) (Or.inl ⟨by rfl, ?_⟩) hHeld ?_ ?_
        rotate_left
        ·rintro w' ⟨s0, s1, s2, s3, s4, s5, s6, s7, s8, s9⟩
         go_simp
         with_reducible rfl
        rotate_left
        ·simp only [Act.put, List.setIfInBounds_toArray, List.set_cons_zero, List.set_cons_succ, i64_w, i32_w]
         rfl
        refine one_ (i := 8) (N := some 25) #[true, true, true, true, true, true, true, true, true, false] rfl rfl (one_of HT_.out (by kernel_rfl)) (by decide) (fun K hK => ?_)
        refine goes_ Try.func65 (by kernel_rfl) rfl #[.agg #[I q ((rd_T36 l0 x5_1).f0), I q ((rd_T36 l0 x5_1).f1), I q ((rd_T36 l0 x5_1).f2), I q ((rd_T36 l0 x5_1).f3), .bool ((rd_T36 l0 x5_1).f4)], .agg #[I q ((rd_T36 l1 x5_1).f0), I q ((rd_T36 l1 x5_1).f1), I q ((rd_T36 l1 x5_1).f2), I q ((rd_T36 l1 x5_1).f3), .bool ((rd_T36 l1 x5_1).f4)]] (by rfl) rfl rfl (by (try simp only [List.map_toArray, List.map_cons, List.map_nil]); first | done | rfl | (simp only [List.length_drop, List.length_take]; rfl)) ?_
        with_reducible refine (laws_eqBackend.calls ((rd_T36 l0 x5_1).f0) ((rd_T36 l0 x5_1).f1) ((rd_T36 l0 x5_1).f2) ((rd_T36 l0 x5_1).f3) ((rd_T36 l0 x5_1).f4) ((rd_T36 l1 x5_1).f0) ((rd_T36 l1 x5_1).f1) ((rd_T36 l1 x5_1).f2) ((rd_T36 l1 x5_1).f3) ((rd_T36 l1 x5_1).f4) true _ A7.out).mono ?_
        rintro e w10 ⟨rfl, hb⟩
        refine ⟨_, rfl, ?_⟩
        have N0 := am (bp (by repeat (first | (with_reducible first | exact HB.out | apply pa | apply pN | apply p1) | exact HB.out)) hb)
        clear HB
        have HB := N0
        clear N0
        (try clear hb)
        (try clear hb2)
        (try clear hk)
        (try clear hi)
        refine hK.out _ _ ⟨((HB.out.cell (World.block_lt_of_cell? w _ hw154_0)).trans hw154_0), ((HB.out.cell (World.block_lt_of_cell? w _ hw154_1)).trans hw154_1), ((HB.out.cell (World.block_lt_of_cell? w _ hw154_2)).trans hw154_2), ((HB.out.cell (World.block_lt_of_cell? w _ hw154_3)).trans hw154_3), ((HB.out.cell (World.block_lt_of_cell? w _ hw154_4)).trans hw154_4), ((HB.out.cell (World.block_lt_of_cell? w _ hw155_0)).trans hw155_0), ((HB.out.cell (World.block_lt_of_cell? w _ hw155_1)).trans hw155_1), ((HB.out.cell (World.block_lt_of_cell? w _ hw155_2)).trans hw155_2), ((HB.out.cell (World.block_lt_of_cell? w _ hw155_3)).trans hw155_3), ((HB.out.cell (World.block_lt_of_cell? w _ hw155_4)).trans hw155_4)⟩ (fun hHeld => ?_)
        clear hK K
        refine norm_ (a' := ?_) ?_ ?_
        rotate_left
        ·show Act.put _ (some 25) _ = _
         simp only [Act.put, List.setIfInBounds_toArray, List.set_cons_zero, List.set_cons_succ, i64_w, i32_w]
         rfl
        refine pure_ (i := 9) (N := some 26) (v := ?_) (a' := ?_) #[true, true, true, true, true, true, true, true, true, true] rfl rfl (any_of HT_.out (by kernel_rfl)) (fun _ _ _ h => h) (Or.inl ⟨by rfl, ?_⟩) ?_ ?_
        rotate_left
        ·intro w'
         first | (go_simp; with_reducible rfl) | (go_simp; (try unfold Instr.field); go_simp; (try simp only [asAgg]); go_simp; with_reducible rfl)
        rotate_left
        ·simp only [Act.put, List.setIfInBounds_toArray, List.set_cons_zero, List.set_cons_succ, i64_w, i32_w]
         rfl
        refine done_ (done_of HT_.out (by kernel_rfl)) ?_
        try go_wp2
        go_roundg k1
        case measure => have := HK1.out; omega
        case rel => exact ⟨(wrap64 (x5_1 + 1)), (by first | rfl | (simp; done) | (simp [*]; done)), H', ⟨by have := HK1.out; omega⟩, ⟨by repeat (first | (with_reducible first | exact HB.out | apply pa | apply pN | apply p1) | exact HB.out)⟩⟩
       ·replace c8 := Bool.eq_false_iff.mpr c8
        subst c8
        have H1 : (some false) = some r := by rw [if_neg (show ¬ (false = true) by decide)] at H; exact H
        clear H
        have H := H1
        clear H1
        obtain rfl := Option.some.inj H
        try go_wp2
        have N0 := am (p1 HB.out)
        clear HB
        have HB := N0
        clear N0
        have p154 : 0 ≤ (x5_1 : Int) := of_decide_eq_true (by first | (with_reducible assumption) | assumption)
        have q154 : x5_1 < (l0.length : Int) := of_decide_eq_true (by first | (with_reducible assumption) | assumption)
        obtain ⟨ad154, e154, hx154_0, hx154_1, hx154_2, hx154_3, hx154_4⟩ := at_T36 HR0.out x5_1 p154 q154
        have hw154_4 := hx154_4
        have hw154_3 := hx154_3
        have hw154_2 := hx154_2
        have hw154_1 := hx154_1
        have hw154_0 := hx154_0
        cases e154
        replace hx154_0 := (HB.out.cell (World.block_lt_of_cell? w _ hx154_0)).trans hx154_0
        replace hx154_1 := (HB.out.cell (World.block_lt_of_cell? w _ hx154_1)).trans hx154_1
        replace hx154_2 := (HB.out.cell (World.block_lt_of_cell? w _ hx154_2)).trans hx154_2
        replace hx154_3 := (HB.out.cell (World.block_lt_of_cell? w _ hx154_3)).trans hx154_3
        replace hx154_4 := (HB.out.cell (World.block_lt_of_cell? w _ hx154_4)).trans hx154_4
        replace p154 := eq_true p154
        replace q154 := eq_true q154
        have p155 : 0 ≤ (x5_1 : Int) := of_decide_eq_true (by first | (with_reducible assumption) | assumption)
        have q155 : x5_1 < (l1.length : Int) := of_decide_eq_true (by first | (with_reducible assumption) | assumption)
        obtain ⟨ad155, e155, hx155_0, hx155_1, hx155_2, hx155_3, hx155_4⟩ := at_T36 HR1.out x5_1 p155 q155
        have hw155_4 := hx155_4
        have hw155_3 := hx155_3
        have hw155_2 := hx155_2
        have hw155_1 := hx155_1
        have hw155_0 := hx155_0
        cases e155
        replace hx155_0 := (HB.out.cell (World.block_lt_of_cell? w _ hx155_0)).trans hx155_0
        replace hx155_1 := (HB.out.cell (World.block_lt_of_cell? w _ hx155_1)).trans hx155_1
        replace hx155_2 := (HB.out.cell (World.block_lt_of_cell? w _ hx155_2)).trans hx155_2
        replace hx155_3 := (HB.out.cell (World.block_lt_of_cell? w _ hx155_3)).trans hx155_3
        replace hx155_4 := (HB.out.cell (World.block_lt_of_cell? w _ hx155_4)).trans hx155_4
        replace p155 := eq_true p155
        replace q155 := eq_true q155
        refine start_ (n := 10) (S := fun w' => w'.cell? (ad154.add ((x5_1).toNat * 5)) = some (I q ((rd_T36 l0 x5_1).f0)) ∧ w'.cell? ⟨(ad154.add ((x5_1).toNat * 5)).block, (ad154.add ((x5_1).toNat * 5)).off + 1, none⟩ = some (I q ((rd_T36 l0 x5_1).f1)) ∧ w'.cell? ⟨(ad154.add ((x5_1).toNat * 5)).block, (ad154.add ((x5_1).toNat * 5)).off + 2, none⟩ = some (I q ((rd_T36 l0 x5_1).f2)) ∧ w'.cell? ⟨(ad154.add ((x5_1).toNat * 5)).block, (ad154.add ((x5_1).toNat * 5)).off + 3, none⟩ = some (I q ((rd_T36 l0 x5_1).f3)) ∧ w'.cell? ⟨(ad154.add ((x5_1).toNat * 5)).block, (ad154.add ((x5_1).toNat * 5)).off + 4, none⟩ = some (.bool ((rd_T36 l0 x5_1).f4)) ∧ w'.cell? (ad155.add ((x5_1).toNat * 5)) = some (I q ((rd_T36 l1 x5_1).f0)) ∧ w'.cell? ⟨(ad155.add ((x5_1).toNat * 5)).block, (ad155.add ((x5_1).toNat * 5)).off + 1, none⟩ = some (I q ((rd_T36 l1 x5_1).f1)) ∧ w'.cell? ⟨(ad155.add ((x5_1).toNat * 5)).block, (ad155.add ((x5_1).toNat * 5)).off + 2, none⟩ = some (I q ((rd_T36 l1 x5_1).f2)) ∧ w'.cell? ⟨(ad155.add ((x5_1).toNat * 5)).block, (ad155.add ((x5_1).toNat * 5)).off + 3, none⟩ = some (I q ((rd_T36 l1 x5_1).f3)) ∧ w'.cell? ⟨(ad155.add ((x5_1).toNat * 5)).block, (ad155.add ((x5_1).toNat * 5)).off + 4, none⟩ = some (.bool ((rd_T36 l1 x5_1).f4))) (ds := []) #[false, false, false, false, false, false, false, false, false, false] (by kernel_rfl) rfl rfl ⟨((HB.out.cell (World.block_lt_of_cell? w _ hw154_0)).trans hw154_0), ((HB.out.cell (World.block_lt_of_cell? w _ hw154_1)).trans hw154_1), ((HB.out.cell (World.block_lt_of_cell? w _ hw154_2)).trans hw154_2), ((HB.out.cell (World.block_lt_of_cell? w _ hw154_3)).trans hw154_3), ((HB.out.cell (World.block_lt_of_cell? w _ hw154_4)).trans hw154_4), ((HB.out.cell (World.block_lt_of_cell? w _ hw155_0)).trans hw155_0), ((HB.out.cell (World.block_lt_of_cell? w _ hw155_1)).trans hw155_1), ((HB.out.cell (World.block_lt_of_cell? w _ hw155_2)).trans hw155_2), ((HB.out.cell (World.block_lt_of_cell? w _ hw155_3)).trans hw155_3), ((HB.out.cell (World.block_lt_of_cell? w _ hw155_4)).trans hw155_4)⟩ (fun hHeld => ?_); refine with_tabW laws_eqBackendS.tab6 laws_eqBackendS.bits6 (fun HT_ HW_ => ?_)
        generalize wr.drew = w11 at HB hx154_0 hx154_1 hx154_2 hx154_3 hx154_4 hx155_0 hx155_1 hx155_2 hx155_3 hx155_4 hHeld ⊢
        refine pure_ (i := 0) (N := some 17) (v := ?_) (a' := ?_) #[true, false, false, false, false, false, false, false, false, false] rfl rfl (any_of HT_.out (by kernel_rfl)) (fun _ _ _ h => h) (Or.inl ⟨by rfl, ?_⟩) ?_ ?_
        rotate_left
        ·intro w'
         first | (go_simp; with_reducible rfl) | (go_simp; (try unfold Instr.field); go_simp; (try simp only [asAgg]); go_simp; with_reducible rfl)
        rotate_left
        ·simp only [Act.put, List.setIfInBounds_toArray, List.set_cons_zero, List.set_cons_succ, i64_w, i32_w]
         rfl
        refine pure_ (i := 1) (N := some 18) (v := ?_) (a' := ?_) #[true, true, false, false, false, false, false, false, false, false] rfl rfl (any_of HT_.out (by kernel_rfl)) (fun _ _ _ h => h) (Or.inl ⟨by rfl, ?_⟩) ?_ ?_
        rotate_left
        ·intro w'
         first | (go_simp; with_reducible rfl) | (go_simp; (try unfold Instr.field); go_simp; (try simp only [asAgg]); go_simp; with_reducible rfl)
        rotate_left
        ·simp only [Act.put, List.setIfInBounds_toArray, List.set_cons_zero, List.set_cons_succ, i64_w, i32_w]
         rfl
        refine pure_ (i := 2) (N := some 19) (v := ?_) (a' := ?_) #[true, true, true, false, false, false, false, false, false, false] rfl rfl (any_of HT_.out (by kernel_rfl)) (fun _ _ _ h => h) (Or.inl ⟨by rfl, ?_⟩) ?_ ?_
        rotate_left
        ·intro w'
         first | (go_simp; with_reducible rfl) | (go_simp; (try unfold Instr.field); go_simp; (try simp only [asAgg]); go_simp; with_reducible rfl)
        rotate_left
        ·simp only [Act.put, List.setIfInBounds_toArray, List.set_cons_zero, List.set_cons_succ, i64_w, i32_w]
         rfl
        refine pure_ (i := 4) (N := some 21) (v := ?_) (a' := ?_) #[true, true, true, false, true, false, false, false, false, false] rfl rfl (any_of HT_.out (by kernel_rfl)) (fun _ _ _ h => h) (Or.inl ⟨by rfl, ?_⟩) ?_ ?_
        rotate_left
        ·intro w'
         first | (go_simp; with_reducible rfl) | (go_simp; (try unfold Instr.field); go_simp; (try simp only [asAgg]); go_simp; with_reducible rfl)
        rotate_left
        ·simp only [Act.put, List.setIfInBounds_toArray, List.set_cons_zero, List.set_cons_succ, i64_w, i32_w]
         rfl
        refine pure_ (i := 5) (N := some 22) (v := ?_) (a' := ?_) #[true, true, true, false, true, true, false, false, false, false] rfl rfl (any_of HT_.out (by kernel_rfl)) (fun _ _ _ h => h) (Or.inl ⟨by rfl, ?_⟩) ?_ ?_
        rotate_left
        ·intro w'
         first | (go_simp; with_reducible rfl) | (go_simp; (try unfold Instr.field); go_simp; (try simp only [asAgg]); go_simp; with_reducible rfl)
        rotate_left
        ·simp only [Act.put, List.setIfInBounds_toArray, List.set_cons_zero, List.set_cons_succ, i64_w, i32_w]
         rfl
        refine pure_ (i := 6) (N := some 23) (v := ?_) (a' := ?_) #[true, true, true, false, true, true, true, false, false, false] rfl rfl (any_of HT_.out (by kernel_rfl)) (fun _ _ _ h => h) (Or.inl ⟨by rfl, ?_⟩) ?_ ?_
        rotate_left
        ·intro w'
         first | (go_simp; with_reducible rfl) | (go_simp; (try unfold Instr.field); go_simp; (try simp only [asAgg]); go_simp; with_reducible rfl)
        rotate_left
        ·simp only [Act.put, List.setIfInBounds_toArray, List.set_cons_zero, List.set_cons_succ, i64_w, i32_w]
         rfl
        refine take_ (i := 3) (N := some 20) (v := ?_) (a' := ?_) #[true, true, true, true, true, true, true, false, false, false] rfl rfl (take_ofW HT_.out HW_.out (by kernel_rfl)) (fun _ _ _ h => h) (Or.inl ⟨by rfl, ?_⟩) hHeld ?_ ?_
        rotate_left
        ·rintro w' ⟨s0, s1, s2, s3, s4, s5, s6, s7, s8, s9⟩
         go_simp
         with_reducible rfl
        rotate_left
        ·simp only [Act.put, List.setIfInBounds_toArray, List.set_cons_zero, List.set_cons_succ, i64_w, i32_w]
         rfl
        refine take_ (i := 7) (N := some 24) (v := ?_) (a' := ?_) #[true, true, true, true, true, true, true, true, false, false] rfl rfl (take_ofW HT_.out HW_.out (by kernel_rfl)) (fun _ _ _ h => h) (Or.inl ⟨by rfl, ?_⟩) hHeld ?_ ?_
        rotate_left
        ·rintro w' ⟨s0, s1, s2, s3, s4, s5, s6, s7, s8, s9⟩
         go_simp
         with_reducible rfl
        rotate_left
        ·simp only [Act.put, List.setIfInBounds_toArray, List.set_cons_zero, List.set_cons_succ, i64_w, i32_w]
         rfl
        refine one_ (i := 8) (N := some 25) #[true, true, true, true, true, true, true, true, true, false] rfl rfl (one_of HT_.out (by kernel_rfl)) (by decide) (fun K hK => ?_)
        refine goes_ Try.func65 (by kernel_rfl) rfl #[.agg #[I q ((rd_T36 l0 x5_1).f0), I q ((rd_T36 l0 x5_1).f1), I q ((rd_T36 l0 x5_1).f2), I q ((rd_T36 l0 x5_1).f3), .bool ((rd_T36 l0 x5_1).f4)], .agg #[I q ((rd_T36 l1 x5_1).f0), I q ((rd_T36 l1 x5_1).f1), I q ((rd_T36 l1 x5_1).f2), I q ((rd_T36 l1 x5_1).f3), .bool ((rd_T36 l1 x5_1).f4)]] (by rfl) rfl rfl (by (try simp only [List.map_toArray, List.map_cons, List.map_nil]); first | done | rfl | (simp only [List.length_drop, List.length_take]; rfl)) ?_
        with_reducible refine (laws_eqBackend.calls ((rd_T36 l0 x5_1).f0) ((rd_T36 l0 x5_1).f1) ((rd_T36 l0 x5_1).f2) ((rd_T36 l0 x5_1).f3) ((rd_T36 l0 x5_1).f4) ((rd_T36 l1 x5_1).f0) ((rd_T36 l1 x5_1).f1) ((rd_T36 l1 x5_1).f2) ((rd_T36 l1 x5_1).f3) ((rd_T36 l1 x5_1).f4) false _ A7.out).mono ?_
        rintro e w12 ⟨rfl, hb⟩
        refine ⟨_, rfl, ?_⟩
        have N0 := am (bp (by repeat (first | (with_reducible first | exact HB.out | apply pa | apply pN | apply p1) | exact HB.out)) hb)
        clear HB
        have HB := N0
        clear N0
        (try clear hb)
        (try clear hb2)
        (try clear hk)
        (try clear hi)
        refine hK.out _ _ ⟨((HB.out.cell (World.block_lt_of_cell? w _ hw154_0)).trans hw154_0), ((HB.out.cell (World.block_lt_of_cell? w _ hw154_1)).trans hw154_1), ((HB.out.cell (World.block_lt_of_cell? w _ hw154_2)).trans hw154_2), ((HB.out.cell (World.block_lt_of_cell? w _ hw154_3)).trans hw154_3), ((HB.out.cell (World.block_lt_of_cell? w _ hw154_4)).trans hw154_4), ((HB.out.cell (World.block_lt_of_cell? w _ hw155_0)).trans hw155_0), ((HB.out.cell (World.block_lt_of_cell? w _ hw155_1)).trans hw155_1), ((HB.out.cell (World.block_lt_of_cell? w _ hw155_2)).trans hw155_2), ((HB.out.cell (World.block_lt_of_cell? w _ hw155_3)).trans hw155_3), ((HB.out.cell (World.block_lt_of_cell? w _ hw155_4)).trans hw155_4)⟩ (fun hHeld => ?_)
        clear hK K
        refine norm_ (a' := ?_) ?_ ?_
        rotate_left
        ·show Act.put _ (some 25) _ = _
         simp only [Act.put, List.setIfInBounds_toArray, List.set_cons_zero, List.set_cons_succ, i64_w, i32_w]
         rfl
        refine pure_ (i := 9) (N := some 26) (v := ?_) (a' := ?_) #[true, true, true, true, true, true, true, true, true, true] rfl rfl (any_of HT_.out (by kernel_rfl)) (fun _ _ _ h => h) (Or.inl ⟨by rfl, ?_⟩) ?_ ?_
        rotate_left
        ·intro w'
         first | (go_simp; with_reducible rfl) | (go_simp; (try unfold Instr.field); go_simp; (try simp only [asAgg]); go_simp; with_reducible rfl)
        rotate_left
        ·simp only [Act.put, List.setIfInBounds_toArray, List.set_cons_zero, List.set_cons_succ, i64_w, i32_w]
         rfl
        refine done_ (done_of HT_.out (by kernel_rfl)) ?_
        try go_wp2
        go_ret
        exact ⟨by first | rfl | (simp [errW_none, errW_some] <;> rfl) | (simp [*, errW_none, errW_some] <;> rfl), by repeat (first | (with_reducible first | exact HB.out | apply pa | apply pN | apply p1) | exact HB.out)⟩
      ·rw [if_neg c6] at H
       exact absurd H (by simp)
     ·rw [if_neg c5] at H
      exact absurd H (by simp)
    ·rw [if_neg c4] at H
     have c4b0 : decide (x5_1 < (l0.length : Int)) = false := decide_eq_false c4
     clear c4
     obtain rfl := Option.some.inj H
     go_wp2
     go_ret
     exact ⟨by first | rfl | (simp [errW_none, errW_some] <;> rfl) | (simp [*, errW_none, errW_some] <;> rfl), by repeat (first | (with_reducible first | exact HB.out | apply pa | apply pN | apply p1) | exact HB.out)⟩
 ·rw [if_neg c3] at H
  have c3b0 : ((l0.length : Int) == (l1.length : Int)) = false := beq_eq_false_iff_ne.mpr c3
  have c3b1 : ((l0.length : Int) != (l1.length : Int)) = true := bne_iff_ne.mpr c3
  have c3b2 : (l0.length == l1.length) = false := by first | simpa using c3 | (simp at c3 ⊢; omega)
  obtain rfl := Option.some.inj H
  go_enter Try.func62, Try.ntmps62
  go_wp2
  go_ret
  exact ⟨by first | rfl | (simp [errW_none, errW_some] <;> rfl) | (simp [*, errW_none, errW_some] <;> rfl), by repeat (first | (with_reducible first | exact HB.out | apply pa | apply pN | apply p1) | exact HB.out)⟩

/-! ### laws_eqInt64S: function 94 -/
def laws_eqInt64S.l0 : Nat → List Int → List Int → Int → Option (Bool)
 | 0, _, _, _ => none
 | k + 1, x0, x1, x5 => if x5 < (x0.length : Int) then (if 0 ≤ x5 then (if x5 < (x1.length : Int) then (if (rd x0 x5) = (rd x1 x5) then (laws_eqInt64S.l0 k x0 x1 (wrap64 (x5 + 1))) else (some false)) else (none)) else (none)) else (some true)
def laws_eqInt64S.f (k : Nat) (l0 : List Int) (l1 : List Int) : Option (Bool) := if (l0.length : Int) = (l1.length : Int) then (laws_eqInt64S.l0 k l0 l1 0) else (some false)
theorem laws_eqInt64S.mono_l : ∀ k, (∀ y0 y1 y2, LeO (laws_eqInt64S.l0 k y0 y1 y2) (laws_eqInt64S.l0 (k + 1) y0 y1 y2))
 | 0 => fun _ _ _ r h => by simp [laws_eqInt64S.l0] at h
 | k + 1 => by
  have ih0 := laws_eqInt64S.mono_l k
  ·intro y0 y1 y2
   unfold laws_eqInt64S.l0
   repeat' first
   | (with_reducible exact ih0 _ _ _)
   | (with_reducible exact LeO.refl _)
   | (with_reducible exact LeO.none _)
   | (with_reducible refine LeO.ite ?_ ?_)
   | (with_reducible refine LeO.bind ?_ (fun _ => ?_))
   | exact ih0 _ _ _
   | exact LeO.none _
   | refine LeO.ite ?_ ?_
   | refine LeO.bind ?_ (fun _ => ?_)
theorem laws_eqInt64S.mono : ∀ a0 a1 k, LeO (laws_eqInt64S.f k a0 a1) (laws_eqInt64S.f (k + 1) a0 a1) := by
 intro a0 a1 k
 have ih0 := laws_eqInt64S.mono_l k
 unfold laws_eqInt64S.f
 repeat' first
   | (with_reducible exact ih0 _ _ _)
   | (with_reducible exact LeO.refl _)
   | (with_reducible exact LeO.none _)
   | (with_reducible refine LeO.ite ?_ ?_)
   | (with_reducible refine LeO.bind ?_ (fun _ => ?_))
   | exact ih0 _ _ _
   | exact LeO.none _
   | refine LeO.ite ?_ ?_
   | refine LeO.bind ?_ (fun _ => ?_)
set_option maxHeartbeats 8000000 in
set_option maxRecDepth 100000 in
theorem laws_eqInt64S.calls (k : Nat) (A0 : Option Addr) (c0 : Nat) (l0 : List Int) (A1 : Option Addr) (c1 : Nat) (l1 : List Int) (r : Bool) (w : World) (hr0 : Kd.C (Kd.int .i64) w A0 l0.length l0) (hc0 : l0.length ≤ c0) (hr1 : Kd.C (Kd.int .i64) w A1 l1.length l1) (hc1 : l1.length ≤ c1) (h : laws_eqInt64S.f k l0 l1 = some r) :
  Calls Try.prog 94 #[J A0 l0.length c0, J A1 l1.length c1] w fun e w' => e = .returned (.bool r) ∧ Drawn0 w w' := by
 have HR0 := am hr0
 have HC0 := am hc0
 clear hr0 hc0
 have HR1 := am hr1
 have HC1 := am hc1
 clear hr1 hc1
 have H : (if (l0.length : Int) = (l1.length : Int) then (laws_eqInt64S.l0 k l0 l1 0) else (some false)) = some r := h
 clear h
 by_cases c3 : (l0.length : Int) = (l1.length : Int)
 ·rw [if_pos c3] at H
  have c3b0 : ((l0.length : Int) == (l1.length : Int)) = true := beq_iff_eq.mpr c3
  have c3b1 : ((l0.length : Int) != (l1.length : Int)) = false := bne_eq_false_iff_eq.mpr c3
  have c3b2 : (l0.length == l1.length) = true := by first | simpa using c3 | (simp at c3 ⊢; omega)
  clear c3
  have H' := am H
  clear H
  go_enter Try.func94, Try.ntmps94
  go_wp2
  repeat (go_quiet (fail); try go_wp2)
  go_loopg [5] k (fun kq v5 w' => ∃ (x5_1 : Int), v5 = I q x5_1 ∧ Aside0 (laws_eqInt64S.l0 kq l0 l1 x5_1 = some r) ∧ Aside0 (kq ≤ k) ∧ Drawn0 w w')
  case atStart => exact ⟨(0), (by first | rfl | (simp; done) | (simp [*]; done)), H', ⟨Nat.le_refl _⟩, by repeat (first | exact Drawn0.refl _ | apply Drawn0.step)⟩
  case round =>
   clear H'
   try clear c1
   try clear p2
   try clear c3
   try clear c3b0
   try clear c3b1
   try clear c3b2
   obtain ⟨x5_1, rfl, HA, HK1, ⟨m1, rfl⟩⟩ := hrel
   cases gk with
   | zero => exact absurd HA.out (by simp [laws_eqInt64S.l0])
   | succ k1 =>
    have H := HA.out
    clear HA
    simp only [laws_eqInt64S.l0] at H
    by_cases c4 : x5_1 < (l0.length : Int)
    ·rw [if_pos c4] at H
     have c4b0 : decide (x5_1 < (l0.length : Int)) = true := decide_eq_true c4
     clear c4
     by_cases c5 : 0 ≤ x5_1
     ·rw [if_pos c5] at H
      have c5b0 : decide (0 ≤ x5_1) = true := decide_eq_true c5
      clear c5
      by_cases c6 : x5_1 < (l1.length : Int)
      ·rw [if_pos c6] at H
       have c6b0 : decide (x5_1 < (l1.length : Int)) = true := decide_eq_true c6
       clear c6
       by_cases c7 : (rd l0 x5_1) = (rd l1 x5_1)
       ·rw [if_pos c7] at H
        have c7b0 : ((rd l0 x5_1) == (rd l1 x5_1)) = true := beq_iff_eq.mpr c7
        have c7b1 : ((rd l0 x5_1) != (rd l1 x5_1)) = false := bne_eq_false_iff_eq.mpr c7
        clear c7
        have H' := am H
        clear H
        have p157 : 0 ≤ (x5_1 : Int) := of_decide_eq_true (by first | (with_reducible assumption) | assumption)
        have q157 : x5_1 < (l0.length : Int) := of_decide_eq_true (by first | (with_reducible assumption) | assumption)
        obtain ⟨ad157, e157, hx157_0⟩ := Kd.at_int HR0.out x5_1 p157 q157
        cases e157
        replace p157 := eq_true p157
        replace q157 := eq_true q157
        have p158 : 0 ≤ (x5_1 : Int) := of_decide_eq_true (by first | (with_reducible assumption) | assumption)
        have q158 : x5_1 < (l1.length : Int) := of_decide_eq_true (by first | (with_reducible assumption) | assumption)
        obtain ⟨ad158, e158, hx158_0⟩ := Kd.at_int HR1.out x5_1 p158 q158
        cases e158
        replace p158 := eq_true p158
        replace q158 := eq_true q158
        go_wp2
        repeat (go_quiet (fail); try go_wp2)
        go_roundg k1
        case measure => have := HK1.out; omega
        case rel => exact ⟨(wrap64 (x5_1 + 1)), (by first | rfl | (simp; done) | (simp [*]; done)), H', ⟨by have := HK1.out; omega⟩, by repeat (first | exact Drawn0.refl _ | apply Drawn0.step)⟩
       ·rw [if_neg c7] at H
        have c7b0 : ((rd l0 x5_1) == (rd l1 x5_1)) = false := beq_eq_false_iff_ne.mpr c7
        have c7b1 : ((rd l0 x5_1) != (rd l1 x5_1)) = true := bne_iff_ne.mpr c7
        obtain rfl := Option.some.inj H
        have p157 : 0 ≤ (x5_1 : Int) := of_decide_eq_true (by first | (with_reducible assumption) | assumption)
        have q157 : x5_1 < (l0.length : Int) := of_decide_eq_true (by first | (with_reducible assumption) | assumption)
        obtain ⟨ad157, e157, hx157_0⟩ := Kd.at_int HR0.out x5_1 p157 q157
        cases e157
        replace p157 := eq_true p157
        replace q157 := eq_true q157
        have p158 : 0 ≤ (x5_1 : Int) := of_decide_eq_true (by first | (with_reducible assumption) | assumption)
        have q158 : x5_1 < (l1.length : Int) := of_decide_eq_true (by first | (with_reducible assumption) | assumption)
        obtain ⟨ad158, e158, hx158_0⟩ := Kd.at_int HR1.out x5_1 p158 q158
        cases e158
        replace p158 := eq_true p158
        replace q158 := eq_true q158
        go_wp2
        repeat (go_quiet (fail); try go_wp2)
        go_ret
        exact ⟨by first | rfl | (simp; done) | (simp [*]; done), by repeat (first | exact Drawn0.refl _ | apply Drawn0.step)⟩
      ·rw [if_neg c6] at H
       exact absurd H (by simp)
     ·rw [if_neg c5] at H
      exact absurd H (by simp)
    ·rw [if_neg c4] at H
     have c4b0 : decide (x5_1 < (l0.length : Int)) = false := decide_eq_false c4
     clear c4
     obtain rfl := Option.some.inj H
     go_wp2
     repeat (go_quiet (fail); try go_wp2)
     go_ret
     exact ⟨by first | rfl | (simp; done) | (simp [*]; done), by repeat (first | exact Drawn0.refl _ | apply Drawn0.step)⟩
 ·rw [if_neg c3] at H
  have c3b0 : ((l0.length : Int) == (l1.length : Int)) = false := beq_eq_false_iff_ne.mpr c3
  have c3b1 : ((l0.length : Int) != (l1.length : Int)) = true := bne_iff_ne.mpr c3
  have c3b2 : (l0.length == l1.length) = false := by first | simpa using c3 | (simp at c3 ⊢; omega)
  obtain rfl := Option.some.inj H
  go_enter Try.func94, Try.ntmps94
  go_wp2
  repeat (go_quiet (fail); try go_wp2)
  go_ret
  exact ⟨by first | rfl | (simp; done) | (simp [*]; done), by repeat (first | exact Drawn0.refl _ | apply Drawn0.step)⟩

/-! ### laws_eqVip: function 112 -/
def laws_eqVip.f (k : Nat) (aa0 : Int) (aa1 : Int) (aa2 : Int) (la3 : List Int) (ab0 : Int) (ab1 : Int) (ab2 : Int) (lb3 : List Int) : Option (Bool) := if aa0 = ab0 then (if aa1 = ab1 then (if aa2 = ab2 then ((laws_eqInt64S.f k la3 lb3).bind fun t161 => (if t161 = true then (some true) else (some false))) else (some false)) else (some false)) else (some false)
theorem laws_eqVip.mono : ∀ a0 a1 a2 a3 a4 a5 a6 a7 k, LeO (laws_eqVip.f k a0 a1 a2 a3 a4 a5 a6 a7) (laws_eqVip.f (k + 1) a0 a1 a2 a3 a4 a5 a6 a7) := by
 intro a0 a1 a2 a3 a4 a5 a6 a7 k
 unfold laws_eqVip.f
 repeat' first
   | (with_reducible exact laws_eqInt64S.mono _ _ _)
   | (with_reducible exact LeO.refl _)
   | (with_reducible exact LeO.none _)
   | (with_reducible refine LeO.ite ?_ ?_)
   | (with_reducible refine LeO.bind ?_ (fun _ => ?_))
   | exact laws_eqInt64S.mono _ _ _
   | exact LeO.none _
   | refine LeO.ite ?_ ?_
   | refine LeO.bind ?_ (fun _ => ?_)
set_option maxHeartbeats 8000000 in
set_option maxRecDepth 100000 in
theorem laws_eqVip.calls (k : Nat) (aa0 : Int) (aa1 : Int) (aa2 : Int) (Aa3 : Option Addr) (ca3 : Nat) (la3 : List Int) (ab0 : Int) (ab1 : Int) (ab2 : Int) (Ab3 : Option Addr) (cb3 : Nat) (lb3 : List Int) (r : Bool) (w : World) (hr0_3 : Kd.C (Kd.int .i64) w Aa3 la3.length la3) (hc0_3 : la3.length ≤ ca3) (hr1_3 : Kd.C (Kd.int .i64) w Ab3 lb3.length lb3) (hc1_3 : lb3.length ≤ cb3) (h : laws_eqVip.f k aa0 aa1 aa2 la3 ab0 ab1 ab2 lb3 = some r) :
  Calls Try.prog 112 #[.agg #[I q aa0, I q aa1, I q aa2, J Aa3 la3.length ca3], .agg #[I q ab0, I q ab1, I q ab2, J Ab3 lb3.length cb3]] w fun e w' => e = .returned (.bool r) ∧ Below w.heap.size w w' := by
 have hu64 := Try.underlying64
 have HR0_3 := am hr0_3
 have HC0_3 := am hc0_3
 clear hr0_3 hc0_3
 have HR1_3 := am hr1_3
 have HC1_3 := am hc1_3
 clear hr1_3 hc1_3
 have HB := am (Below.refl w.heap.size w)
 have H : (if aa0 = ab0 then (if aa1 = ab1 then (if aa2 = ab2 then ((laws_eqInt64S.f k la3 lb3).bind fun t161 => (if t161 = true then (some true) else (some false))) else (some false)) else (some false)) else (some false)) = some r := h
 clear h
 by_cases c3 : aa0 = ab0
 ·rw [if_pos c3] at H
  have c3b0 : (aa0 == ab0) = true := beq_iff_eq.mpr c3
  have c3b1 : (aa0 != ab0) = false := bne_eq_false_iff_eq.mpr c3
  clear c3
  by_cases c4 : aa1 = ab1
  ·rw [if_pos c4] at H
   have c4b0 : (aa1 == ab1) = true := beq_iff_eq.mpr c4
   have c4b1 : (aa1 != ab1) = false := bne_eq_false_iff_eq.mpr c4
   clear c4
   by_cases c5 : aa2 = ab2
   ·rw [if_pos c5] at H
    have c5b0 : (aa2 == ab2) = true := beq_iff_eq.mpr c5
    have c5b1 : (aa2 != ab2) = false := bne_eq_false_iff_eq.mpr c5
    clear c5
    replace H := Option.bind_eq_some_iff.mp H
    obtain ⟨t161, A60, H⟩ := H
    replace H : (if t161 = true then (some true) else (some false)) = some r := H
    have A6 := am A60
    clear A60
    by_cases c7 : t161 = true
    ·subst c7
     have H1 : (some true) = some r := by rw [if_pos rfl] at H; exact H
     clear H
     have H := H1
     clear H1
     obtain rfl := Option.some.inj H
     go_enter Try.func112, Try.ntmps112
     go_wp2_with (first | ((with_reducible refine gate_dst (N := 2) rfl ?_); refine box_event ?hg (N := 2) ?hd (cs := #[I q aa0, I q aa1, I q aa2, J Aa3 la3.length ca3]) (t := 64) ?hr ?_; (case hd => rfl); (case hg => rfl); (case hr => first | (go_simp; done) | (go_simp; rfl)); intro g159 hg w8 hbox hb; have N0 := am (bp (by repeat (first | (with_reducible first | exact HB.out | apply pa | apply pN | apply p1) | exact HB.out)) hb); have N1 := am (hbox); have N2 := am ((by rw [hg]; exact (bz (by repeat (first | (with_reducible first | exact HB.out | apply pa | apply pN | apply p1) | exact HB.out))) : w.heap.size ≤ g159)); have N3 := am ((by rw [hg]; exact (bz (by repeat (first | (with_reducible first | exact HB.out | apply pa | apply pN | apply p1) | exact HB.out))) : w.heap.size ≤ g159)); clear HB; have HB := N0; have B159 := N1; have GW159 := N2; have E159 := N3; clear N0 N1 N2 N3 hb hbox hg) | ((with_reducible refine gate_dst (N := 3) rfl ?_); refine box_event ?hg (N := 3) ?hd (cs := #[I q ab0, I q ab1, I q ab2, J Ab3 lb3.length cb3]) (t := 64) ?hr ?_; (case hd => rfl); (case hg => rfl); (case hr => first | (go_simp; done) | (go_simp; rfl)); intro g160 hg w9 hbox hb; have N0 := am (bb (g := g159) (by (with_reducible repeat (first | apply bN | apply bd | apply ba)); exact B159.out) hb); have N1 := am (bp (by repeat (first | (with_reducible first | exact HB.out | apply pa | apply pN | apply p1 | refine bs ?_ E159.out) | exact HB.out)) hb); have N2 := am (hbox); have N3 := am ((by rw [hg]; exact (bz (by repeat (first | (with_reducible first | exact HB.out | apply pa | apply pN | apply p1 | refine bs ?_ E159.out) | exact HB.out))) : w.heap.size ≤ g160)); have N4 := am ((by rw [hg]; exact (bz (by repeat (first | (with_reducible first | exact HB.out | apply pa | apply pN | apply p1 | refine bs ?_ E159.out) | exact HB.out))) : w.heap.size ≤ g160)); have N5 := am ((by rw [hg]; exact Nat.ne_of_lt (bl (g := g159) (by (with_reducible repeat (first | apply bN | apply bd | apply ba)); exact B159.out)) : g159 ≠ g160)); have N6 := am ((by rw [hg]; exact Nat.ne_of_gt (bl (g := g159) (by (with_reducible repeat (first | apply bN | apply bd | apply ba)); exact B159.out)) : g160 ≠ g159)); clear B159 HB; have B159 := N0; have HB := N1; have B160 := N2; have GW160 := N3; have E160 := N4; have NB159_160 := N5; have NB160_159 := N6; clear N0 N1 N2 N3 N4 N5 N6 hb hbox hg; have hnb10 := NB159_160.out; have hnc10 := NB160_159.out; have hcz11_0 : w9.cell? ⟨g159, 0, none⟩ = some (I q aa0) := (bc B159.out 0).trans rfl; have hcz11_1 : w9.cell? ⟨g159, 1, none⟩ = some (I q aa1) := (bc B159.out 1).trans rfl; have hcz11_2 : w9.cell? ⟨g159, 2, none⟩ = some (I q aa2) := (bc B159.out 2).trans rfl; have hcz11_3 : w9.cell? ⟨g159, 3, none⟩ = some (J Aa3 la3.length ca3) := (bc B159.out 3).trans rfl; have hfz11_0 := bf B159.out 0; have hfz11_1 := bf B159.out 1; have hfz11_2 := bf B159.out 2; have hfz11_3 := bf B159.out 3; have hcz12_0 : w9.cell? ⟨g160, 0, none⟩ = some (I q ab0) := (bc B160.out 0).trans rfl; have hcz12_1 : w9.cell? ⟨g160, 1, none⟩ = some (I q ab1) := (bc B160.out 1).trans rfl; have hcz12_2 : w9.cell? ⟨g160, 2, none⟩ = some (I q ab2) := (bc B160.out 2).trans rfl; have hcz12_3 : w9.cell? ⟨g160, 3, none⟩ = some (J Ab3 lb3.length cb3) := (bc B160.out 3).trans rfl; have hfz12_0 := bf B160.out 0; have hfz12_1 := bf B160.out 1; have hfz12_2 := bf B160.out 2; have hfz12_3 := bf B160.out 3) | ((with_reducible refine gate_callee (f := 94) rfl ?_); refine goesL_ (some 24) rfl rfl Try.func94 (by kernel_rfl) rfl #[J Aa3 la3.length ca3, J Ab3 lb3.length cb3] rfl (by (try simp only [List.map_toArray, List.map_cons, List.map_nil]); first | done | rfl) ?_; (with_reducible refine (laws_eqInt64S.calls k _ _ la3 _ _ lb3 true _ ?side1 ?side2 ?side3 ?side4 A6.out).mono ?_); (case side1 => repeat (first | exact (Kd.C_below HR0_3.out HB.out) | (with_reducible refine ca ?_ _) | (with_reducible refine cN ?_ _) | (with_reducible refine cd1 ?_))); (case side2 => exact HC0_3.out); (case side3 => repeat (first | exact (Kd.C_below HR1_3.out HB.out) | (with_reducible refine ca ?_ _) | (with_reducible refine cN ?_ _) | (with_reducible refine cd1 ?_))); (case side4 => exact HC1_3.out); rintro e w' ⟨rfl, ⟨nd, rfl⟩⟩; refine ⟨_, rfl, ?_⟩))
     go_ret
     exact ⟨by first | rfl | (simp [errW_none, errW_some] <;> rfl) | (simp [*, errW_none, errW_some] <;> rfl), by repeat (first | (with_reducible first | exact HB.out | apply pa | apply pN | apply p1 | refine bs ?_ E159.out | refine bs ?_ E160.out) | exact HB.out)⟩
    ·replace c7 := Bool.eq_false_iff.mpr c7
     subst c7
     have H1 : (some false) = some r := by rw [if_neg (show ¬ (false = true) by decide)] at H; exact H
     clear H
     have H := H1
     clear H1
     obtain rfl := Option.some.inj H
     go_enter Try.func112, Try.ntmps112
     go_wp2_with (first | ((with_reducible refine gate_dst (N := 2) rfl ?_); refine box_event ?hg (N := 2) ?hd (cs := #[I q aa0, I q aa1, I q aa2, J Aa3 la3.length ca3]) (t := 64) ?hr ?_; (case hd => rfl); (case hg => rfl); (case hr => first | (go_simp; done) | (go_simp; rfl)); intro g159 hg w13 hbox hb; have N0 := am (bp (by repeat (first | (with_reducible first | exact HB.out | apply pa | apply pN | apply p1) | exact HB.out)) hb); have N1 := am (hbox); have N2 := am ((by rw [hg]; exact (bz (by repeat (first | (with_reducible first | exact HB.out | apply pa | apply pN | apply p1) | exact HB.out))) : w.heap.size ≤ g159)); have N3 := am ((by rw [hg]; exact (bz (by repeat (first | (with_reducible first | exact HB.out | apply pa | apply pN | apply p1) | exact HB.out))) : w.heap.size ≤ g159)); clear HB; have HB := N0; have B159 := N1; have GW159 := N2; have E159 := N3; clear N0 N1 N2 N3 hb hbox hg) | ((with_reducible refine gate_dst (N := 3) rfl ?_); refine box_event ?hg (N := 3) ?hd (cs := #[I q ab0, I q ab1, I q ab2, J Ab3 lb3.length cb3]) (t := 64) ?hr ?_; (case hd => rfl); (case hg => rfl); (case hr => first | (go_simp; done) | (go_simp; rfl)); intro g160 hg w14 hbox hb; have N0 := am (bb (g := g159) (by (with_reducible repeat (first | apply bN | apply bd | apply ba)); exact B159.out) hb); have N1 := am (bp (by repeat (first | (with_reducible first | exact HB.out | apply pa | apply pN | apply p1 | refine bs ?_ E159.out) | exact HB.out)) hb); have N2 := am (hbox); have N3 := am ((by rw [hg]; exact (bz (by repeat (first | (with_reducible first | exact HB.out | apply pa | apply pN | apply p1 | refine bs ?_ E159.out) | exact HB.out))) : w.heap.size ≤ g160)); have N4 := am ((by rw [hg]; exact (bz (by repeat (first | (with_reducible first | exact HB.out | apply pa | apply pN | apply p1 | refine bs ?_ E159.out) | exact HB.out))) : w.heap.size ≤ g160)); have N5 := am ((by rw [hg]; exact Nat.ne_of_lt (bl (g := g159) (by (with_reducible repeat (first | apply bN | apply bd | apply ba)); exact B159.out)) : g159 ≠ g160)); have N6 := am ((by rw [hg]; exact Nat.ne_of_gt (bl (g := g159) (by (with_reducible repeat (first | apply bN | apply bd | apply ba)); exact B159.out)) : g160 ≠ g159)); clear B159 HB; have B159 := N0; have HB := N1; have B160 := N2; have GW160 := N3; have E160 := N4; have NB159_160 := N5; have NB160_159 := N6; clear N0 N1 N2 N3 N4 N5 N6 hb hbox hg; have hnb15 := NB159_160.out; have hnc15 := NB160_159.out; have hcz16_0 : w14.cell? ⟨g159, 0, none⟩ = some (I q aa0) := (bc B159.out 0).trans rfl; have hcz16_1 : w14.cell? ⟨g159, 1, none⟩ = some (I q aa1) := (bc B159.out 1).trans rfl; have hcz16_2 : w14.cell? ⟨g159, 2, none⟩ = some (I q aa2) := (bc B159.out 2).trans rfl; have hcz16_3 : w14.cell? ⟨g159, 3, none⟩ = some (J Aa3 la3.length ca3) := (bc B159.out 3).trans rfl; have hfz16_0 := bf B159.out 0; have hfz16_1 := bf B159.out 1; have hfz16_2 := bf B159.out 2; have hfz16_3 := bf B159.out 3; have hcz17_0 : w14.cell? ⟨g160, 0, none⟩ = some (I q ab0) := (bc B160.out 0).trans rfl; have hcz17_1 : w14.cell? ⟨g160, 1, none⟩ = some (I q ab1) := (bc B160.out 1).trans rfl; have hcz17_2 : w14.cell? ⟨g160, 2, none⟩ = some (I q ab2) := (bc B160.out 2).trans rfl; have hcz17_3 : w14.cell? ⟨g160, 3, none⟩ = some (J Ab3 lb3.length cb3) := (bc B160.out 3).trans rfl; have hfz17_0 := bf B160.out 0; have hfz17_1 := bf B160.out 1; have hfz17_2 := bf B160.out 2; have hfz17_3 := bf B160.out 3) | ((with_reducible refine gate_callee (f := 94) rfl ?_); refine goesL_ (some 24) rfl rfl Try.func94 (by kernel_rfl) rfl #[J Aa3 la3.length ca3, J Ab3 lb3.length cb3] rfl (by (try simp only [List.map_toArray, List.map_cons, List.map_nil]); first | done | rfl) ?_; (with_reducible refine (laws_eqInt64S.calls k _ _ la3 _ _ lb3 false _ ?side1 ?side2 ?side3 ?side4 A6.out).mono ?_); (case side1 => repeat (first | exact (Kd.C_below HR0_3.out HB.out) | (with_reducible refine ca ?_ _) | (with_reducible refine cN ?_ _) | (with_reducible refine cd1 ?_))); (case side2 => exact HC0_3.out); (case side3 => repeat (first | exact (Kd.C_below HR1_3.out HB.out) | (with_reducible refine ca ?_ _) | (with_reducible refine cN ?_ _) | (with_reducible refine cd1 ?_))); (case side4 => exact HC1_3.out); rintro e w' ⟨rfl, ⟨nd, rfl⟩⟩; refine ⟨_, rfl, ?_⟩))
     go_ret
     exact ⟨by first | rfl | (simp [errW_none, errW_some] <;> rfl) | (simp [*, errW_none, errW_some] <;> rfl), by repeat (first | (with_reducible first | exact HB.out | apply pa | apply pN | apply p1 | refine bs ?_ E159.out | refine bs ?_ E160.out) | exact HB.out)⟩
   ·rw [if_neg c5] at H
    have c5b0 : (aa2 == ab2) = false := beq_eq_false_iff_ne.mpr c5
    have c5b1 : (aa2 != ab2) = true := bne_iff_ne.mpr c5
    obtain rfl := Option.some.inj H
    go_enter Try.func112, Try.ntmps112
    go_wp2_with (first | ((with_reducible refine gate_dst (N := 2) rfl ?_); refine box_event ?hg (N := 2) ?hd (cs := #[I q aa0, I q aa1, I q aa2, J Aa3 la3.length ca3]) (t := 64) ?hr ?_; (case hd => rfl); (case hg => rfl); (case hr => first | (go_simp; done) | (go_simp; rfl)); intro g159 hg w18 hbox hb; have N0 := am (bp (by repeat (first | (with_reducible first | exact HB.out | apply pa | apply pN | apply p1) | exact HB.out)) hb); have N1 := am (hbox); have N2 := am ((by rw [hg]; exact (bz (by repeat (first | (with_reducible first | exact HB.out | apply pa | apply pN | apply p1) | exact HB.out))) : w.heap.size ≤ g159)); have N3 := am ((by rw [hg]; exact (bz (by repeat (first | (with_reducible first | exact HB.out | apply pa | apply pN | apply p1) | exact HB.out))) : w.heap.size ≤ g159)); clear HB; have HB := N0; have B159 := N1; have GW159 := N2; have E159 := N3; clear N0 N1 N2 N3 hb hbox hg) | ((with_reducible refine gate_dst (N := 3) rfl ?_); refine box_event ?hg (N := 3) ?hd (cs := #[I q ab0, I q ab1, I q ab2, J Ab3 lb3.length cb3]) (t := 64) ?hr ?_; (case hd => rfl); (case hg => rfl); (case hr => first | (go_simp; done) | (go_simp; rfl)); intro g160 hg w19 hbox hb; have N0 := am (bb (g := g159) (by (with_reducible repeat (first | apply bN | apply bd | apply ba)); exact B159.out) hb); have N1 := am (bp (by repeat (first | (with_reducible first | exact HB.out | apply pa | apply pN | apply p1 | refine bs ?_ E159.out) | exact HB.out)) hb); have N2 := am (hbox); have N3 := am ((by rw [hg]; exact (bz (by repeat (first | (with_reducible first | exact HB.out | apply pa | apply pN | apply p1 | refine bs ?_ E159.out) | exact HB.out))) : w.heap.size ≤ g160)); have N4 := am ((by rw [hg]; exact (bz (by repeat (first | (with_reducible first | exact HB.out | apply pa | apply pN | apply p1 | refine bs ?_ E159.out) | exact HB.out))) : w.heap.size ≤ g160)); have N5 := am ((by rw [hg]; exact Nat.ne_of_lt (bl (g := g159) (by (with_reducible repeat (first | apply bN | apply bd | apply ba)); exact B159.out)) : g159 ≠ g160)); have N6 := am ((by rw [hg]; exact Nat.ne_of_gt (bl (g := g159) (by (with_reducible repeat (first | apply bN | apply bd | apply ba)); exact B159.out)) : g160 ≠ g159)); clear B159 HB; have B159 := N0; have HB := N1; have B160 := N2; have GW160 := N3; have E160 := N4; have NB159_160 := N5; have NB160_159 := N6; clear N0 N1 N2 N3 N4 N5 N6 hb hbox hg; have hnb20 := NB159_160.out; have hnc20 := NB160_159.out; have hcz21_0 : w19.cell? ⟨g159, 0, none⟩ = some (I q aa0) := (bc B159.out 0).trans rfl; have hcz21_1 : w19.cell? ⟨g159, 1, none⟩ = some (I q aa1) := (bc B159.out 1).trans rfl; have hcz21_2 : w19.cell? ⟨g159, 2, none⟩ = some (I q aa2) := (bc B159.out 2).trans rfl; have hcz21_3 : w19.cell? ⟨g159, 3, none⟩ = some (J Aa3 la3.length ca3) := (bc B159.out 3).trans rfl; have hfz21_0 := bf B159.out 0; have hfz21_1 := bf B159.out 1; have hfz21_2 := bf B159.out 2; have hfz21_3 := bf B159.out 3; have hcz22_0 : w19.cell? ⟨g160, 0, none⟩ = some (I q ab0) := (bc B160.out 0).trans rfl; have hcz22_1 : w19.cell? ⟨g160, 1, none⟩ = some (I q ab1) := (bc B160.out 1).trans rfl; have hcz22_2 : w19.cell? ⟨g160, 2, none⟩ = some (I q ab2) := (bc B160.out 2).trans rfl; have hcz22_3 : w19.cell? ⟨g160, 3, none⟩ = some (J Ab3 lb3.length cb3) := (bc B160.out 3).trans rfl; have hfz22_0 := bf B160.out 0; have hfz22_1 := bf B160.out 1; have hfz22_2 := bf B160.out 2; have hfz22_3 := bf B160.out 3))
    go_ret
    exact ⟨by first | rfl | (simp [errW_none, errW_some] <;> rfl) | (simp [*, errW_none, errW_some] <;> rfl), by repeat (first | (with_reducible first | exact HB.out | apply pa | apply pN | apply p1 | refine bs ?_ E159.out | refine bs ?_ E160.out) | exact HB.out)⟩
  ·rw [if_neg c4] at H
   have c4b0 : (aa1 == ab1) = false := beq_eq_false_iff_ne.mpr c4
   have c4b1 : (aa1 != ab1) = true := bne_iff_ne.mpr c4
   obtain rfl := Option.some.inj H
   go_enter Try.func112, Try.ntmps112
   go_wp2_with (first | ((with_reducible refine gate_dst (N := 2) rfl ?_); refine box_event ?hg (N := 2) ?hd (cs := #[I q aa0, I q aa1, I q aa2, J Aa3 la3.length ca3]) (t := 64) ?hr ?_; (case hd => rfl); (case hg => rfl); (case hr => first | (go_simp; done) | (go_simp; rfl)); intro g159 hg w23 hbox hb; have N0 := am (bp (by repeat (first | (with_reducible first | exact HB.out | apply pa | apply pN | apply p1) | exact HB.out)) hb); have N1 := am (hbox); have N2 := am ((by rw [hg]; exact (bz (by repeat (first | (with_reducible first | exact HB.out | apply pa | apply pN | apply p1) | exact HB.out))) : w.heap.size ≤ g159)); have N3 := am ((by rw [hg]; exact (bz (by repeat (first | (with_reducible first | exact HB.out | apply pa | apply pN | apply p1) | exact HB.out))) : w.heap.size ≤ g159)); clear HB; have HB := N0; have B159 := N1; have GW159 := N2; have E159 := N3; clear N0 N1 N2 N3 hb hbox hg) | ((with_reducible refine gate_dst (N := 3) rfl ?_); refine box_event ?hg (N := 3) ?hd (cs := #[I q ab0, I q ab1, I q ab2, J Ab3 lb3.length cb3]) (t := 64) ?hr ?_; (case hd => rfl); (case hg => rfl); (case hr => first | (go_simp; done) | (go_simp; rfl)); intro g160 hg w24 hbox hb; have N0 := am (bb (g := g159) (by (with_reducible repeat (first | apply bN | apply bd | apply ba)); exact B159.out) hb); have N1 := am (bp (by repeat (first | (with_reducible first | exact HB.out | apply pa | apply pN | apply p1 | refine bs ?_ E159.out) | exact HB.out)) hb); have N2 := am (hbox); have N3 := am ((by rw [hg]; exact (bz (by repeat (first | (with_reducible first | exact HB.out | apply pa | apply pN | apply p1 | refine bs ?_ E159.out) | exact HB.out))) : w.heap.size ≤ g160)); have N4 := am ((by rw [hg]; exact (bz (by repeat (first | (with_reducible first | exact HB.out | apply pa | apply pN | apply p1 | refine bs ?_ E159.out) | exact HB.out))) : w.heap.size ≤ g160)); have N5 := am ((by rw [hg]; exact Nat.ne_of_lt (bl (g := g159) (by (with_reducible repeat (first | apply bN | apply bd | apply ba)); exact B159.out)) : g159 ≠ g160)); have N6 := am ((by rw [hg]; exact Nat.ne_of_gt (bl (g := g159) (by (with_reducible repeat (first | apply bN | apply bd | apply ba)); exact B159.out)) : g160 ≠ g159)); clear B159 HB; have B159 := N0; have HB := N1; have B160 := N2; have GW160 := N3; have E160 := N4; have NB159_160 := N5; have NB160_159 := N6; clear N0 N1 N2 N3 N4 N5 N6 hb hbox hg; have hnb25 := NB159_160.out; have hnc25 := NB160_159.out; have hcz26_0 : w24.cell? ⟨g159, 0, none⟩ = some (I q aa0) := (bc B159.out 0).trans rfl; have hcz26_1 : w24.cell? ⟨g159, 1, none⟩ = some (I q aa1) := (bc B159.out 1).trans rfl; have hcz26_2 : w24.cell? ⟨g159, 2, none⟩ = some (I q aa2) := (bc B159.out 2).trans rfl; have hcz26_3 : w24.cell? ⟨g159, 3, none⟩ = some (J Aa3 la3.length ca3) := (bc B159.out 3).trans rfl; have hfz26_0 := bf B159.out 0; have hfz26_1 := bf B159.out 1; have hfz26_2 := bf B159.out 2; have hfz26_3 := bf B159.out 3; have hcz27_0 : w24.cell? ⟨g160, 0, none⟩ = some (I q ab0) := (bc B160.out 0).trans rfl; have hcz27_1 : w24.cell? ⟨g160, 1, none⟩ = some (I q ab1) := (bc B160.out 1).trans rfl; have hcz27_2 : w24.cell? ⟨g160, 2, none⟩ = some (I q ab2) := (bc B160.out 2).trans rfl; have hcz27_3 : w24.cell? ⟨g160, 3, none⟩ = some (J Ab3 lb3.length cb3) := (bc B160.out 3).trans rfl; have hfz27_0 := bf B160.out 0; have hfz27_1 := bf B160.out 1; have hfz27_2 := bf B160.out 2; have hfz27_3 := bf B160.out 3))
   go_ret
   exact ⟨by first | rfl | (simp [errW_none, errW_some] <;> rfl) | (simp [*, errW_none, errW_some] <;> rfl), by repeat (first | (with_reducible first | exact HB.out | apply pa | apply pN | apply p1 | refine bs ?_ E159.out | refine bs ?_ E160.out) | exact HB.out)⟩
 ·rw [if_neg c3] at H
  have c3b0 : (aa0 == ab0) = false := beq_eq_false_iff_ne.mpr c3
  have c3b1 : (aa0 != ab0) = true := bne_iff_ne.mpr c3
  obtain rfl := Option.some.inj H
  go_enter Try.func112, Try.ntmps112
  go_wp2_with (first | ((with_reducible refine gate_dst (N := 2) rfl ?_); refine box_event ?hg (N := 2) ?hd (cs := #[I q aa0, I q aa1, I q aa2, J Aa3 la3.length ca3]) (t := 64) ?hr ?_; (case hd => rfl); (case hg => rfl); (case hr => first | (go_simp; done) | (go_simp; rfl)); intro g159 hg w28 hbox hb; have N0 := am (bp (by repeat (first | (with_reducible first | exact HB.out | apply pa | apply pN | apply p1) | exact HB.out)) hb); have N1 := am (hbox); have N2 := am ((by rw [hg]; exact (bz (by repeat (first | (with_reducible first | exact HB.out | apply pa | apply pN | apply p1) | exact HB.out))) : w.heap.size ≤ g159)); have N3 := am ((by rw [hg]; exact (bz (by repeat (first | (with_reducible first | exact HB.out | apply pa | apply pN | apply p1) | exact HB.out))) : w.heap.size ≤ g159)); clear HB; have HB := N0; have B159 := N1; have GW159 := N2; have E159 := N3; clear N0 N1 N2 N3 hb hbox hg) | ((with_reducible refine gate_dst (N := 3) rfl ?_); refine box_event ?hg (N := 3) ?hd (cs := #[I q ab0, I q ab1, I q ab2, J Ab3 lb3.length cb3]) (t := 64) ?hr ?_; (case hd => rfl); (case hg => rfl); (case hr => first | (go_simp; done) | (go_simp; rfl)); intro g160 hg w29 hbox hb; have N0 := am (bb (g := g159) (by (with_reducible repeat (first | apply bN | apply bd | apply ba)); exact B159.out) hb); have N1 := am (bp (by repeat (first | (with_reducible first | exact HB.out | apply pa | apply pN | apply p1 | refine bs ?_ E159.out) | exact HB.out)) hb); have N2 := am (hbox); have N3 := am ((by rw [hg]; exact (bz (by repeat (first | (with_reducible first | exact HB.out | apply pa | apply pN | apply p1 | refine bs ?_ E159.out) | exact HB.out))) : w.heap.size ≤ g160)); have N4 := am ((by rw [hg]; exact (bz (by repeat (first | (with_reducible first | exact HB.out | apply pa | apply pN | apply p1 | refine bs ?_ E159.out) | exact HB.out))) : w.heap.size ≤ g160)); have N5 := am ((by rw [hg]; exact Nat.ne_of_lt (bl (g := g159) (by (with_reducible repeat (first | apply bN | apply bd | apply ba)); exact B159.out)) : g159 ≠ g160)); have N6 := am ((by rw [hg]; exact Nat.ne_of_gt (bl (g := g159) (by (with_reducible repeat (first | apply bN | apply bd | apply ba)); exact B159.out)) : g160 ≠ g159)); clear B159 HB; have B159 := N0; have HB := N1; have B160 := N2; have GW160 := N3; have E160 := N4; have NB159_160 := N5; have NB160_159 := N6; clear N0 N1 N2 N3 N4 N5 N6 hb hbox hg; have hnb30 := NB159_160.out; have hnc30 := NB160_159.out; have hcz31_0 : w29.cell? ⟨g159, 0, none⟩ = some (I q aa0) := (bc B159.out 0).trans rfl; have hcz31_1 : w29.cell? ⟨g159, 1, none⟩ = some (I q aa1) := (bc B159.out 1).trans rfl; have hcz31_2 : w29.cell? ⟨g159, 2, none⟩ = some (I q aa2) := (bc B159.out 2).trans rfl; have hcz31_3 : w29.cell? ⟨g159, 3, none⟩ = some (J Aa3 la3.length ca3) := (bc B159.out 3).trans rfl; have hfz31_0 := bf B159.out 0; have hfz31_1 := bf B159.out 1; have hfz31_2 := bf B159.out 2; have hfz31_3 := bf B159.out 3; have hcz32_0 : w29.cell? ⟨g160, 0, none⟩ = some (I q ab0) := (bc B160.out 0).trans rfl; have hcz32_1 : w29.cell? ⟨g160, 1, none⟩ = some (I q ab1) := (bc B160.out 1).trans rfl; have hcz32_2 : w29.cell? ⟨g160, 2, none⟩ = some (I q ab2) := (bc B160.out 2).trans rfl; have hcz32_3 : w29.cell? ⟨g160, 3, none⟩ = some (J Ab3 lb3.length cb3) := (bc B160.out 3).trans rfl; have hfz32_0 := bf B160.out 0; have hfz32_1 := bf B160.out 1; have hfz32_2 := bf B160.out 2; have hfz32_3 := bf B160.out 3))
  go_ret
  exact ⟨by first | rfl | (simp [errW_none, errW_some] <;> rfl) | (simp [*, errW_none, errW_some] <;> rfl), by repeat (first | (with_reducible first | exact HB.out | apply pa | apply pN | apply p1 | refine bs ?_ E159.out | refine bs ?_ E160.out) | exact HB.out)⟩

end Go.Proofs.Ytfmlhpoaipeoeaa.QFnExactPackConfig
