-- MADE BY PROGRAM (qprint.py): walks of the functions that the law FnExactSameConfigs reaches. Lean checks it.
import Derived.Test.YtfmlhpoaipeoeaaQFnExactSameConfigsx0
import Derived.Test.YtfmlhpoaipeoeaaQFnExactSameConfigsx2
import Derived.Test.YtfmlhpoaipeoeaaQFnExactSameConfigsx4
import Derived.Test.YtfmlhpoaipeoeaaQFnExactSameConfigsx5
import Derived.Test.YtfmlhpoaipeoeaaQFnExactSameConfigsx7
namespace Go.Proofs.Ytfmlhpoaipeoeaa.QFnExactSameConfigs
open Go.RowKit Go.Proofs.YtfmlhpoaipeoeaaW.PrintWords Go.Proofs.YtfmlhpoaipeoeaaW.PrintLast Go.Proofs.YtfmlhpoaipeoeaaW.PrintMore
open Go.Proofs.YtfmlhpoaipeoeaaW.PrintWords renaming blk_drewN → bN, blk_drew → bd, blk_alloc → ba, blk_cell → bc, blk_frozen → bf, below_set → bs, pw_below_drewN → pN, below_drew1 → p1, below_alloc → pa, blk_below → bb, below_size → bz, below_step → bp, blk_lt → bl, blk_far → bq, add_block → ab
open Go.Proofs.YtfmlhpoaipeoeaaW.PrintWords.Kd renaming R_drewN → rN, R_drew → rd1, R_alloc → ra, R_far → rf, R_below → rb, R_new' → rn, R_lt → rl, R_elder' → re, R_lower → rw1, C_alloc → ca, C_drewN → cN, C_drew → cd1, S_alloc → sa, S_drewN → sN, S_drew → sd, S_far → sf, S_mono → sm, S_types → st, S_lt → sl
open Go.Proofs.YtfmlhpoaipeoeaaW.PrintWords.Aside0 renaming mk → am
open Go.Value renaming int → I, slice → J
open Go.IntKind renaming i64 → q
attribute [local go_sem] max2_int min2_int max_two min_two max_three min_three max_four min_four   -- for this text's walks alone
set_option linter.unusedVariables false
set_option linter.unusedSimpArgs false
theorem pu3 {W : World} {g t : Nat} {u0 u1 u2 v0 v1 v2 : Value} (h : W.heap[g]? = some (.cells #[u0, u1, u2] t (0, 0))) : (((W.setCell ⟨g, 0, none⟩ v0).setCell ⟨g, 1, none⟩ v1).setCell ⟨g, 2, none⟩ v2).heap[g]? = some (.cells #[v0, v1, v2] t (0, 0)) := by
  refine blk_put (cs := #[v0, v1, u2]) ?_ 2 _ rfl
  refine blk_put (cs := #[v0, u1, u2]) ?_ 1 _ rfl
  exact blk_put (cs := #[u0, u1, u2]) h 0 _ rfl

/-! ### laws_FnExactSameConfigs: function 8 -/
def laws_FnExactSameConfigs.f (k : Nat) (aa0 : Int) (la1 : List (S134)) (la2 : List (S131)) (ab0 : Int) (lb1 : List (S134)) (lb2 : List (S131)) : Option (Bool) := (laws_szConfig.f k aa0 la1 la2 1048576).bind fun t214 => (if t214 < 0 then (some true) else ((laws_szConfig.f k ab0 lb1 lb2 t214).bind fun t215 => (if t215 < 0 then (some true) else ((laws_toConfig.f k aa0 la1 la2).bind fun bt216 => ((laws_toConfig.f k ab0 lb1 lb2).bind fun bt223 => ((spec_SameConfigs.f k bt216.1 bt216.2.1 bt216.2.2 bt223.1 bt223.2.1 bt223.2.2).bind fun t230 => ((laws_toConfig.f k aa0 la1 la2).bind fun bt231 => ((laws_toConfig.f k ab0 lb1 lb2).bind fun bt239 => ((impl_SameConfigs.f k bt231.1 bt231.2.1 bt231.2.2 bt239.1 bt239.2.1 bt239.2.2).bind fun t247 => (if (t247 != t230) = true then (some false) else ((laws_toConfig.f k aa0 la1 la2).bind fun bt248 => ((laws_eqConfig.f k bt231.1 bt231.2.1 bt231.2.2 bt248.1 bt248.2.1 bt248.2.2).bind fun t255 => (if t255 = true then ((laws_toConfig.f k ab0 lb1 lb2).bind fun bt256 => ((laws_eqConfig.f k bt239.1 bt239.2.1 bt239.2.2 bt256.1 bt256.2.1 bt256.2.2).bind fun t263 => (if t263 = true then (some true) else (some false)))) else (some false))))))))))))))
theorem laws_FnExactSameConfigs.mono : ∀ a0 a1 a2 a3 a4 a5 k, LeO (laws_FnExactSameConfigs.f k a0 a1 a2 a3 a4 a5) (laws_FnExactSameConfigs.f (k + 1) a0 a1 a2 a3 a4 a5) := by
  intro a0 a1 a2 a3 a4 a5 k
  unfold laws_FnExactSameConfigs.f
  repeat' first
      | (with_reducible exact impl_SameConfigs.mono _ _ _ _ _ _ _)
      | (with_reducible exact laws_eqConfig.mono _ _ _ _ _ _ _)
      | (with_reducible exact laws_szConfig.mono _ _ _ _ _)
      | (with_reducible exact laws_toConfig.mono _ _ _ _)
      | (with_reducible exact spec_SameConfigs.mono _ _ _ _ _ _ _)
      | (with_reducible exact LeO.refl _)
      | (with_reducible exact LeO.none _)
      | (with_reducible refine LeO.ite ?_ ?_)
      | (with_reducible refine LeO.bind ?_ (fun _ => ?_))
      | exact impl_SameConfigs.mono _ _ _ _ _ _ _
      | exact laws_eqConfig.mono _ _ _ _ _ _ _
      | exact laws_szConfig.mono _ _ _ _ _
      | exact laws_toConfig.mono _ _ _ _
      | exact spec_SameConfigs.mono _ _ _ _ _ _ _
      | exact LeO.none _
      | refine LeO.ite ?_ ?_
      | refine LeO.bind ?_ (fun _ => ?_)
set_option maxHeartbeats 8000000 in
set_option maxRecDepth 100000 in
theorem laws_FnExactSameConfigs.calls (k : Nat) (aa0 : Int) (Aa1 : Option Addr) (ca1 : Nat) (la1 : List (S134)) (Aa2 : Option Addr) (ca2 : Nat) (la2 : List (S131)) (ab0 : Int) (Ab1 : Option Addr) (cb1 : Nat) (lb1 : List (S134)) (Ab2 : Option Addr) (cb2 : Nat) (lb2 : List (S131)) (r : Bool) (w : World) (hr0_1 : Kd.C k134 w Aa1 la1.length la1) (hc0_1 : la1.length ≤ ca1) (hr0_2 : Kd.C k131 w Aa2 la2.length la2) (hc0_2 : la2.length ≤ ca2) (hr1_1 : Kd.C k134 w Ab1 lb1.length lb1) (hc1_1 : lb1.length ≤ cb1) (hr1_2 : Kd.C k131 w Ab2 lb2.length lb2) (hc1_2 : lb2.length ≤ cb2) (h : laws_FnExactSameConfigs.f k aa0 la1 la2 ab0 lb1 lb2 = some r) :
    Calls Try.prog 8 #[.agg #[I q aa0, J Aa1 la1.length ca1, J Aa2 la2.length ca2], .agg #[I q ab0, J Ab1 lb1.length cb1, J Ab2 lb2.length cb2]] w fun e w' => e = .returned (.bool r) ∧ Below w.heap.size w w' := by
  have hu25 := Try.underlying25
  have hu31 := Try.underlying31
  have HR0_1 := am hr0_1
  have HC0_1 := am hc0_1
  clear hr0_1 hc0_1
  have HR0_2 := am hr0_2
  have HC0_2 := am hc0_2
  clear hr0_2 hc0_2
  have HR1_1 := am hr1_1
  have HC1_1 := am hc1_1
  clear hr1_1 hc1_1
  have HR1_2 := am hr1_2
  have HC1_2 := am hc1_2
  clear hr1_2 hc1_2
  have HB := am (Below.refl w.heap.size w)
  have H : ((laws_szConfig.f k aa0 la1 la2 1048576).bind fun t214 => (if t214 < 0 then (some true) else ((laws_szConfig.f k ab0 lb1 lb2 t214).bind fun t215 => (if t215 < 0 then (some true) else ((laws_toConfig.f k aa0 la1 la2).bind fun bt216 => ((laws_toConfig.f k ab0 lb1 lb2).bind fun bt223 => ((spec_SameConfigs.f k bt216.1 bt216.2.1 bt216.2.2 bt223.1 bt223.2.1 bt223.2.2).bind fun t230 => ((laws_toConfig.f k aa0 la1 la2).bind fun bt231 => ((laws_toConfig.f k ab0 lb1 lb2).bind fun bt239 => ((impl_SameConfigs.f k bt231.1 bt231.2.1 bt231.2.2 bt239.1 bt239.2.1 bt239.2.2).bind fun t247 => (if (t247 != t230) = true then (some false) else ((laws_toConfig.f k aa0 la1 la2).bind fun bt248 => ((laws_eqConfig.f k bt231.1 bt231.2.1 bt231.2.2 bt248.1 bt248.2.1 bt248.2.2).bind fun t255 => (if t255 = true then ((laws_toConfig.f k ab0 lb1 lb2).bind fun bt256 => ((laws_eqConfig.f k bt239.1 bt239.2.1 bt239.2.2 bt256.1 bt256.2.1 bt256.2.2).bind fun t263 => (if t263 = true then (some true) else (some false)))) else (some false))))))))))))))) = some r := h
  clear h
  replace H := Option.bind_eq_some_iff.mp H
  obtain ⟨t214, A30, H⟩ := H
  replace H : (if t214 < 0 then (some true) else ((laws_szConfig.f k ab0 lb1 lb2 t214).bind fun t215 => (if t215 < 0 then (some true) else ((laws_toConfig.f k aa0 la1 la2).bind fun bt216 => ((laws_toConfig.f k ab0 lb1 lb2).bind fun bt223 => ((spec_SameConfigs.f k bt216.1 bt216.2.1 bt216.2.2 bt223.1 bt223.2.1 bt223.2.2).bind fun t230 => ((laws_toConfig.f k aa0 la1 la2).bind fun bt231 => ((laws_toConfig.f k ab0 lb1 lb2).bind fun bt239 => ((impl_SameConfigs.f k bt231.1 bt231.2.1 bt231.2.2 bt239.1 bt239.2.1 bt239.2.2).bind fun t247 => (if (t247 != t230) = true then (some false) else ((laws_toConfig.f k aa0 la1 la2).bind fun bt248 => ((laws_eqConfig.f k bt231.1 bt231.2.1 bt231.2.2 bt248.1 bt248.2.1 bt248.2.2).bind fun t255 => (if t255 = true then ((laws_toConfig.f k ab0 lb1 lb2).bind fun bt256 => ((laws_eqConfig.f k bt239.1 bt239.2.1 bt239.2.2 bt256.1 bt256.2.1 bt256.2.2).bind fun t263 => (if t263 = true then (some true) else (some false)))) else (some false)))))))))))))) = some r := H
  have A3 := am A30
  clear A30
  by_cases c4 : t214 < 0
  · rw [if_pos c4] at H
    have c4b0 : decide (t214 < 0) = true := decide_eq_true c4
    clear c4
    obtain rfl := Option.some.inj H
    go_enter Try.func8, Try.ntmps8
    go_wp2_with (first | ((with_reducible refine gate_dst (N := 2) rfl ?_); refine box_event ?hg (N := 2) ?hd (cs := #[I q aa0, J Aa1 la1.length ca1, J Aa2 la2.length ca2]) (t := 25) ?hr ?_; (case hd => rfl); (case hg => rfl); (case hr => first | (go_simp; done) | (go_simp; rfl)); intro g212 hg w5 hbox hb; have N0 := am (bp (by repeat (first | (with_reducible first | exact HB.out | apply pa | apply pN | apply p1) | exact HB.out)) hb); have N1 := am (hbox); have N2 := am ((by rw [hg]; exact (bz (by repeat (first | (with_reducible first | exact HB.out | apply pa | apply pN | apply p1) | exact HB.out))) : w.heap.size ≤ g212)); have N3 := am ((by rw [hg]; exact (bz (by repeat (first | (with_reducible first | exact HB.out | apply pa | apply pN | apply p1) | exact HB.out))) : w.heap.size ≤ g212)); clear HB; have HB := N0; have B212 := N1; have GW212 := N2; have E212 := N3; clear N0 N1 N2 N3 hb hbox hg) | ((with_reducible refine gate_dst (N := 3) rfl ?_); refine box_event ?hg (N := 3) ?hd (cs := #[I q ab0, J Ab1 lb1.length cb1, J Ab2 lb2.length cb2]) (t := 25) ?hr ?_; (case hd => rfl); (case hg => rfl); (case hr => first | (go_simp; done) | (go_simp; rfl)); intro g213 hg w6 hbox hb; have N0 := am (bb (g := g212) (by (with_reducible repeat (first | apply bN | apply bd | apply ba)); exact B212.out) hb); have N1 := am (bp (by repeat (first | (with_reducible first | exact HB.out | apply pa | apply pN | apply p1 | refine bs ?_ E212.out) | exact HB.out)) hb); have N2 := am (hbox); have N3 := am ((by rw [hg]; exact (bz (by repeat (first | (with_reducible first | exact HB.out | apply pa | apply pN | apply p1 | refine bs ?_ E212.out) | exact HB.out))) : w.heap.size ≤ g213)); have N4 := am ((by rw [hg]; exact (bz (by repeat (first | (with_reducible first | exact HB.out | apply pa | apply pN | apply p1 | refine bs ?_ E212.out) | exact HB.out))) : w.heap.size ≤ g213)); have N5 := am ((by rw [hg]; exact Nat.ne_of_lt (bl (g := g212) (by (with_reducible repeat (first | apply bN | apply bd | apply ba)); exact B212.out)) : g212 ≠ g213)); have N6 := am ((by rw [hg]; exact Nat.ne_of_gt (bl (g := g212) (by (with_reducible repeat (first | apply bN | apply bd | apply ba)); exact B212.out)) : g213 ≠ g212)); clear B212 HB; have B212 := N0; have HB := N1; have B213 := N2; have GW213 := N3; have E213 := N4; have NB212_213 := N5; have NB213_212 := N6; clear N0 N1 N2 N3 N4 N5 N6 hb hbox hg; have hnb7 := NB212_213.out; have hnc7 := NB213_212.out; have hcz8_0 : w6.cell? ⟨g212, 0, none⟩ = some (I q aa0) := (bc B212.out 0).trans rfl; have hcz8_1 : w6.cell? ⟨g212, 1, none⟩ = some (J Aa1 la1.length ca1) := (bc B212.out 1).trans rfl; have hcz8_2 : w6.cell? ⟨g212, 2, none⟩ = some (J Aa2 la2.length ca2) := (bc B212.out 2).trans rfl; have hfz8_0 := bf B212.out 0; have hfz8_1 := bf B212.out 1; have hfz8_2 := bf B212.out 2) | ((with_reducible refine gate_callee (f := 12) rfl ?_); refine goesL_ (some 12) rfl rfl Try.func12 (by kernel_rfl) rfl #[.agg #[I q aa0, J Aa1 la1.length ca1, J Aa2 la2.length ca2], I q 1048576] rfl (by (try simp only [List.map_toArray, List.map_cons, List.map_nil]); first | done | rfl) ?_; (with_reducible refine (laws_szConfig.calls k aa0 _ _ la1 _ _ la2 1048576 t214 _ ?side1 ?side2 ?side3 ?side4 A3.out).mono ?_); (case side1 => repeat (first | exact (Kd.C_below HR0_1.out HB.out) | (with_reducible refine ca ?_ _) | (with_reducible refine cN ?_ _) | (with_reducible refine cd1 ?_))); (case side2 => exact HC0_1.out); (case side3 => repeat (first | exact (Kd.C_below HR0_2.out HB.out) | (with_reducible refine ca ?_ _) | (with_reducible refine cN ?_ _) | (with_reducible refine cd1 ?_))); (case side4 => exact HC0_2.out); rintro e w9 ⟨rfl, hb⟩; refine ⟨_, rfl, ?_⟩; have N0 := am (bb (g := g212) (by (with_reducible repeat (first | apply bN | apply bd | apply ba)); exact B212.out) hb); have N1 := am (bb (g := g213) (by (with_reducible repeat (first | apply bN | apply bd | apply ba)); exact B213.out) hb); have N2 := am (bp (by repeat (first | (with_reducible first | exact HB.out | apply pa | apply pN | apply p1 | refine bs ?_ E212.out | refine bs ?_ E213.out) | exact HB.out)) hb); clear B212 B213 HB; have B212 := N0; have B213 := N1; have HB := N2; clear N0 N1 N2; (try clear hb); (try clear hb2); (try clear hk); (try clear hi)))
    go_ret
    exact ⟨by first | rfl | (simp [errW_none, errW_some] <;> rfl) | (simp [*, errW_none, errW_some] <;> rfl), by repeat (first | (with_reducible first | exact HB.out | apply pa | apply pN | apply p1 | refine bs ?_ E212.out | refine bs ?_ E213.out) | exact HB.out)⟩
  · rw [if_neg c4] at H
    have c4b0 : decide (t214 < 0) = false := decide_eq_false c4
    clear c4
    replace H := Option.bind_eq_some_iff.mp H
    obtain ⟨t215, A100, H⟩ := H
    replace H : (if t215 < 0 then (some true) else ((laws_toConfig.f k aa0 la1 la2).bind fun bt216 => ((laws_toConfig.f k ab0 lb1 lb2).bind fun bt223 => ((spec_SameConfigs.f k bt216.1 bt216.2.1 bt216.2.2 bt223.1 bt223.2.1 bt223.2.2).bind fun t230 => ((laws_toConfig.f k aa0 la1 la2).bind fun bt231 => ((laws_toConfig.f k ab0 lb1 lb2).bind fun bt239 => ((impl_SameConfigs.f k bt231.1 bt231.2.1 bt231.2.2 bt239.1 bt239.2.1 bt239.2.2).bind fun t247 => (if (t247 != t230) = true then (some false) else ((laws_toConfig.f k aa0 la1 la2).bind fun bt248 => ((laws_eqConfig.f k bt231.1 bt231.2.1 bt231.2.2 bt248.1 bt248.2.1 bt248.2.2).bind fun t255 => (if t255 = true then ((laws_toConfig.f k ab0 lb1 lb2).bind fun bt256 => ((laws_eqConfig.f k bt239.1 bt239.2.1 bt239.2.2 bt256.1 bt256.2.1 bt256.2.2).bind fun t263 => (if t263 = true then (some true) else (some false)))) else (some false)))))))))))) = some r := H
    have A10 := am A100
    clear A100
    by_cases c11 : t215 < 0
    · rw [if_pos c11] at H
      have c11b0 : decide (t215 < 0) = true := decide_eq_true c11
      clear c11
      obtain rfl := Option.some.inj H
      go_enter Try.func8, Try.ntmps8
      go_wp2_with (first | ((with_reducible refine gate_dst (N := 2) rfl ?_); refine box_event ?hg (N := 2) ?hd (cs := #[I q aa0, J Aa1 la1.length ca1, J Aa2 la2.length ca2]) (t := 25) ?hr ?_; (case hd => rfl); (case hg => rfl); (case hr => first | (go_simp; done) | (go_simp; rfl)); intro g212 hg w12 hbox hb; have N0 := am (bp (by repeat (first | (with_reducible first | exact HB.out | apply pa | apply pN | apply p1) | exact HB.out)) hb); have N1 := am (hbox); have N2 := am ((by rw [hg]; exact (bz (by repeat (first | (with_reducible first | exact HB.out | apply pa | apply pN | apply p1) | exact HB.out))) : w.heap.size ≤ g212)); have N3 := am ((by rw [hg]; exact (bz (by repeat (first | (with_reducible first | exact HB.out | apply pa | apply pN | apply p1) | exact HB.out))) : w.heap.size ≤ g212)); clear HB; have HB := N0; have B212 := N1; have GW212 := N2; have E212 := N3; clear N0 N1 N2 N3 hb hbox hg) | ((with_reducible refine gate_dst (N := 3) rfl ?_); refine box_event ?hg (N := 3) ?hd (cs := #[I q ab0, J Ab1 lb1.length cb1, J Ab2 lb2.length cb2]) (t := 25) ?hr ?_; (case hd => rfl); (case hg => rfl); (case hr => first | (go_simp; done) | (go_simp; rfl)); intro g213 hg w13 hbox hb; have N0 := am (bb (g := g212) (by (with_reducible repeat (first | apply bN | apply bd | apply ba)); exact B212.out) hb); have N1 := am (bp (by repeat (first | (with_reducible first | exact HB.out | apply pa | apply pN | apply p1 | refine bs ?_ E212.out) | exact HB.out)) hb); have N2 := am (hbox); have N3 := am ((by rw [hg]; exact (bz (by repeat (first | (with_reducible first | exact HB.out | apply pa | apply pN | apply p1 | refine bs ?_ E212.out) | exact HB.out))) : w.heap.size ≤ g213)); have N4 := am ((by rw [hg]; exact (bz (by repeat (first | (with_reducible first | exact HB.out | apply pa | apply pN | apply p1 | refine bs ?_ E212.out) | exact HB.out))) : w.heap.size ≤ g213)); have N5 := am ((by rw [hg]; exact Nat.ne_of_lt (bl (g := g212) (by (with_reducible repeat (first | apply bN | apply bd | apply ba)); exact B212.out)) : g212 ≠ g213)); have N6 := am ((by rw [hg]; exact Nat.ne_of_gt (bl (g := g212) (by (with_reducible repeat (first | apply bN | apply bd | apply ba)); exact B212.out)) : g213 ≠ g212)); clear B212 HB; have B212 := N0; have HB := N1; have B213 := N2; have GW213 := N3; have E213 := N4; have NB212_213 := N5; have NB213_212 := N6; clear N0 N1 N2 N3 N4 N5 N6 hb hbox hg; have hnb14 := NB212_213.out; have hnc14 := NB213_212.out; have hcz15_0 : w13.cell? ⟨g212, 0, none⟩ = some (I q aa0) := (bc B212.out 0).trans rfl; have hcz15_1 : w13.cell? ⟨g212, 1, none⟩ = some (J Aa1 la1.length ca1) := (bc B212.out 1).trans rfl; have hcz15_2 : w13.cell? ⟨g212, 2, none⟩ = some (J Aa2 la2.length ca2) := (bc B212.out 2).trans rfl; have hfz15_0 := bf B212.out 0; have hfz15_1 := bf B212.out 1; have hfz15_2 := bf B212.out 2) | ((with_reducible refine gate_callee (f := 12) rfl ?_); refine goesL_ (some 12) rfl rfl Try.func12 (by kernel_rfl) rfl #[.agg #[I q aa0, J Aa1 la1.length ca1, J Aa2 la2.length ca2], I q 1048576] rfl (by (try simp only [List.map_toArray, List.map_cons, List.map_nil]); first | done | rfl) ?_; (with_reducible refine (laws_szConfig.calls k aa0 _ _ la1 _ _ la2 1048576 t214 _ ?side1 ?side2 ?side3 ?side4 A3.out).mono ?_); (case side1 => repeat (first | exact (Kd.C_below HR0_1.out HB.out) | (with_reducible refine ca ?_ _) | (with_reducible refine cN ?_ _) | (with_reducible refine cd1 ?_))); (case side2 => exact HC0_1.out); (case side3 => repeat (first | exact (Kd.C_below HR0_2.out HB.out) | (with_reducible refine ca ?_ _) | (with_reducible refine cN ?_ _) | (with_reducible refine cd1 ?_))); (case side4 => exact HC0_2.out); rintro e w16 ⟨rfl, hb⟩; refine ⟨_, rfl, ?_⟩; have N0 := am (bb (g := g212) (by (with_reducible repeat (first | apply bN | apply bd | apply ba)); exact B212.out) hb); have N1 := am (bb (g := g213) (by (with_reducible repeat (first | apply bN | apply bd | apply ba)); exact B213.out) hb); have N2 := am (bp (by repeat (first | (with_reducible first | exact HB.out | apply pa | apply pN | apply p1 | refine bs ?_ E212.out | refine bs ?_ E213.out) | exact HB.out)) hb); clear B212 B213 HB; have B212 := N0; have B213 := N1; have HB := N2; clear N0 N1 N2; (try clear hb); (try clear hb2); (try clear hk); (try clear hi); have hcz17_0 : w16.cell? ⟨g213, 0, none⟩ = some (I q ab0) := (bc B213.out 0).trans rfl; have hcz17_1 : w16.cell? ⟨g213, 1, none⟩ = some (J Ab1 lb1.length cb1) := (bc B213.out 1).trans rfl; have hcz17_2 : w16.cell? ⟨g213, 2, none⟩ = some (J Ab2 lb2.length cb2) := (bc B213.out 2).trans rfl; have hfz17_0 := bf B213.out 0; have hfz17_1 := bf B213.out 1; have hfz17_2 := bf B213.out 2) | ((with_reducible refine gate_callee (f := 12) rfl ?_); refine goesL_ (some 17) rfl rfl Try.func12 (by kernel_rfl) rfl #[.agg #[I q ab0, J Ab1 lb1.length cb1, J Ab2 lb2.length cb2], I q t214] rfl (by (try simp only [List.map_toArray, List.map_cons, List.map_nil]); first | done | rfl) ?_; (with_reducible refine (laws_szConfig.calls k ab0 _ _ lb1 _ _ lb2 t214 t215 _ ?side1 ?side2 ?side3 ?side4 A10.out).mono ?_); (case side1 => repeat (first | exact (Kd.C_below HR1_1.out HB.out) | (with_reducible refine ca ?_ _) | (with_reducible refine cN ?_ _) | (with_reducible refine cd1 ?_))); (case side2 => exact HC1_1.out); (case side3 => repeat (first | exact (Kd.C_below HR1_2.out HB.out) | (with_reducible refine ca ?_ _) | (with_reducible refine cN ?_ _) | (with_reducible refine cd1 ?_))); (case side4 => exact HC1_2.out); rintro e w18 ⟨rfl, hb⟩; refine ⟨_, rfl, ?_⟩; have N0 := am (bb (g := g212) (by (with_reducible repeat (first | apply bN | apply bd | apply ba)); exact B212.out) hb); have N1 := am (bb (g := g213) (by (with_reducible repeat (first | apply bN | apply bd | apply ba)); exact B213.out) hb); have N2 := am (bp (by repeat (first | (with_reducible first | exact HB.out | apply pa | apply pN | apply p1 | refine bs ?_ E212.out | refine bs ?_ E213.out) | exact HB.out)) hb); clear B212 B213 HB; have B212 := N0; have B213 := N1; have HB := N2; clear N0 N1 N2; (try clear hb); (try clear hb2); (try clear hk); (try clear hi)))
      go_ret
      exact ⟨by first | rfl | (simp [errW_none, errW_some] <;> rfl) | (simp [*, errW_none, errW_some] <;> rfl), by repeat (first | (with_reducible first | exact HB.out | apply pa | apply pN | apply p1 | refine bs ?_ E212.out | refine bs ?_ E213.out) | exact HB.out)⟩
    · rw [if_neg c11] at H
      have c11b0 : decide (t215 < 0) = false := decide_eq_false c11
      clear c11
      replace H := Option.bind_eq_some_iff.mp H
      obtain ⟨⟨t216, t217, t220⟩, A190, H⟩ := H
      replace H : ((laws_toConfig.f k ab0 lb1 lb2).bind fun bt223 => ((spec_SameConfigs.f k t216 t217 t220 bt223.1 bt223.2.1 bt223.2.2).bind fun t230 => ((laws_toConfig.f k aa0 la1 la2).bind fun bt231 => ((laws_toConfig.f k ab0 lb1 lb2).bind fun bt239 => ((impl_SameConfigs.f k bt231.1 bt231.2.1 bt231.2.2 bt239.1 bt239.2.1 bt239.2.2).bind fun t247 => (if (t247 != t230) = true then (some false) else ((laws_toConfig.f k aa0 la1 la2).bind fun bt248 => ((laws_eqConfig.f k bt231.1 bt231.2.1 bt231.2.2 bt248.1 bt248.2.1 bt248.2.2).bind fun t255 => (if t255 = true then ((laws_toConfig.f k ab0 lb1 lb2).bind fun bt256 => ((laws_eqConfig.f k bt239.1 bt239.2.1 bt239.2.2 bt256.1 bt256.2.1 bt256.2.2).bind fun t263 => (if t263 = true then (some true) else (some false)))) else (some false)))))))))) = some r := H
      have A19 := am A190
      clear A190
      replace H := Option.bind_eq_some_iff.mp H
      obtain ⟨⟨t223, t224, t227⟩, A200, H⟩ := H
      replace H : ((spec_SameConfigs.f k t216 t217 t220 t223 t224 t227).bind fun t230 => ((laws_toConfig.f k aa0 la1 la2).bind fun bt231 => ((laws_toConfig.f k ab0 lb1 lb2).bind fun bt239 => ((impl_SameConfigs.f k bt231.1 bt231.2.1 bt231.2.2 bt239.1 bt239.2.1 bt239.2.2).bind fun t247 => (if (t247 != t230) = true then (some false) else ((laws_toConfig.f k aa0 la1 la2).bind fun bt248 => ((laws_eqConfig.f k bt231.1 bt231.2.1 bt231.2.2 bt248.1 bt248.2.1 bt248.2.2).bind fun t255 => (if t255 = true then ((laws_toConfig.f k ab0 lb1 lb2).bind fun bt256 => ((laws_eqConfig.f k bt239.1 bt239.2.1 bt239.2.2 bt256.1 bt256.2.1 bt256.2.2).bind fun t263 => (if t263 = true then (some true) else (some false)))) else (some false))))))))) = some r := H
      have A20 := am A200
      clear A200
      replace H := Option.bind_eq_some_iff.mp H
      obtain ⟨t230, A210, H⟩ := H
      replace H : ((laws_toConfig.f k aa0 la1 la2).bind fun bt231 => ((laws_toConfig.f k ab0 lb1 lb2).bind fun bt239 => ((impl_SameConfigs.f k bt231.1 bt231.2.1 bt231.2.2 bt239.1 bt239.2.1 bt239.2.2).bind fun t247 => (if (t247 != t230) = true then (some false) else ((laws_toConfig.f k aa0 la1 la2).bind fun bt248 => ((laws_eqConfig.f k bt231.1 bt231.2.1 bt231.2.2 bt248.1 bt248.2.1 bt248.2.2).bind fun t255 => (if t255 = true then ((laws_toConfig.f k ab0 lb1 lb2).bind fun bt256 => ((laws_eqConfig.f k bt239.1 bt239.2.1 bt239.2.2 bt256.1 bt256.2.1 bt256.2.2).bind fun t263 => (if t263 = true then (some true) else (some false)))) else (some false)))))))) = some r := H
      have A21 := am A210
      clear A210
      replace H := Option.bind_eq_some_iff.mp H
      obtain ⟨⟨t231, t232, t235⟩, A220, H⟩ := H
      replace H : ((laws_toConfig.f k ab0 lb1 lb2).bind fun bt239 => ((impl_SameConfigs.f k t231 t232 t235 bt239.1 bt239.2.1 bt239.2.2).bind fun t247 => (if (t247 != t230) = true then (some false) else ((laws_toConfig.f k aa0 la1 la2).bind fun bt248 => ((laws_eqConfig.f k t231 t232 t235 bt248.1 bt248.2.1 bt248.2.2).bind fun t255 => (if t255 = true then ((laws_toConfig.f k ab0 lb1 lb2).bind fun bt256 => ((laws_eqConfig.f k bt239.1 bt239.2.1 bt239.2.2 bt256.1 bt256.2.1 bt256.2.2).bind fun t263 => (if t263 = true then (some true) else (some false)))) else (some false))))))) = some r := H
      have A22 := am A220
      clear A220
      replace H := Option.bind_eq_some_iff.mp H
      obtain ⟨⟨t239, t240, t243⟩, A230, H⟩ := H
      replace H : ((impl_SameConfigs.f k t231 t232 t235 t239 t240 t243).bind fun t247 => (if (t247 != t230) = true then (some false) else ((laws_toConfig.f k aa0 la1 la2).bind fun bt248 => ((laws_eqConfig.f k t231 t232 t235 bt248.1 bt248.2.1 bt248.2.2).bind fun t255 => (if t255 = true then ((laws_toConfig.f k ab0 lb1 lb2).bind fun bt256 => ((laws_eqConfig.f k t239 t240 t243 bt256.1 bt256.2.1 bt256.2.2).bind fun t263 => (if t263 = true then (some true) else (some false)))) else (some false)))))) = some r := H
      have A23 := am A230
      clear A230
      replace H := Option.bind_eq_some_iff.mp H
      obtain ⟨t247, A240, H⟩ := H
      replace H : (if (t247 != t230) = true then (some false) else ((laws_toConfig.f k aa0 la1 la2).bind fun bt248 => ((laws_eqConfig.f k t231 t232 t235 bt248.1 bt248.2.1 bt248.2.2).bind fun t255 => (if t255 = true then ((laws_toConfig.f k ab0 lb1 lb2).bind fun bt256 => ((laws_eqConfig.f k t239 t240 t243 bt256.1 bt256.2.1 bt256.2.2).bind fun t263 => (if t263 = true then (some true) else (some false)))) else (some false))))) = some r := H
      have A24 := am A240
      clear A240
      by_cases c25 : (t247 != t230) = true
      · rw [if_pos c25] at H
        have c25b0 : (t247 != t230) = true := c25
        (try (have c25b1 : decide (t247 = t230) = false := by simpa using c25))
        (try (have c25b2 : (t247 == t230) = false := by simpa using c25))
        (try (have c25b3 : ¬ (t247 = t230) := by simpa using c25))
        clear c25
        obtain rfl := Option.some.inj H
        go_enter Try.func8, Try.ntmps8
        try go_wp2_with (first | ((with_reducible refine gate_dst (N := 2) rfl ?_); refine box_event ?hg (N := 2) ?hd (cs := #[I q aa0, J Aa1 la1.length ca1, J Aa2 la2.length ca2]) (t := 25) ?hr ?_; (case hd => rfl); (case hg => rfl); (case hr => first | (go_simp; done) | (go_simp; rfl)); intro g212 hg w26 hbox hb; have N0 := am (bp (by repeat (first | (with_reducible first | exact HB.out | apply pa | apply pN | apply p1) | exact HB.out)) hb); have N1 := am (hbox); have N2 := am ((by rw [hg]; exact (bz (by repeat (first | (with_reducible first | exact HB.out | apply pa | apply pN | apply p1) | exact HB.out))) : w.heap.size ≤ g212)); have N3 := am ((by rw [hg]; exact (bz (by repeat (first | (with_reducible first | exact HB.out | apply pa | apply pN | apply p1) | exact HB.out))) : w.heap.size ≤ g212)); clear HB; have HB := N0; have B212 := N1; have GW212 := N2; have E212 := N3; clear N0 N1 N2 N3 hb hbox hg) | ((with_reducible refine gate_dst (N := 3) rfl ?_); refine box_event ?hg (N := 3) ?hd (cs := #[I q ab0, J Ab1 lb1.length cb1, J Ab2 lb2.length cb2]) (t := 25) ?hr ?_; (case hd => rfl); (case hg => rfl); (case hr => first | (go_simp; done) | (go_simp; rfl)); intro g213 hg w27 hbox hb; have N0 := am (bb (g := g212) (by (with_reducible repeat (first | apply bN | apply bd | apply ba)); exact B212.out) hb); have N1 := am (bp (by repeat (first | (with_reducible first | exact HB.out | apply pa | apply pN | apply p1 | refine bs ?_ E212.out) | exact HB.out)) hb); have N2 := am (hbox); have N3 := am ((by rw [hg]; exact (bz (by repeat (first | (with_reducible first | exact HB.out | apply pa | apply pN | apply p1 | refine bs ?_ E212.out) | exact HB.out))) : w.heap.size ≤ g213)); have N4 := am ((by rw [hg]; exact (bz (by repeat (first | (with_reducible first | exact HB.out | apply pa | apply pN | apply p1 | refine bs ?_ E212.out) | exact HB.out))) : w.heap.size ≤ g213)); have N5 := am ((by rw [hg]; exact Nat.ne_of_lt (bl (g := g212) (by (with_reducible repeat (first | apply bN | apply bd | apply ba)); exact B212.out)) : g212 ≠ g213)); have N6 := am ((by rw [hg]; exact Nat.ne_of_gt (bl (g := g212) (by (with_reducible repeat (first | apply bN | apply bd | apply ba)); exact B212.out)) : g213 ≠ g212)); clear B212 HB; have B212 := N0; have HB := N1; have B213 := N2; have GW213 := N3; have E213 := N4; have NB212_213 := N5; have NB213_212 := N6; clear N0 N1 N2 N3 N4 N5 N6 hb hbox hg; have hnb28 := NB212_213.out; have hnc28 := NB213_212.out; have hcz29_0 : w27.cell? ⟨g212, 0, none⟩ = some (I q aa0) := (bc B212.out 0).trans rfl; have hcz29_1 : w27.cell? ⟨g212, 1, none⟩ = some (J Aa1 la1.length ca1) := (bc B212.out 1).trans rfl; have hcz29_2 : w27.cell? ⟨g212, 2, none⟩ = some (J Aa2 la2.length ca2) := (bc B212.out 2).trans rfl; have hfz29_0 := bf B212.out 0; have hfz29_1 := bf B212.out 1; have hfz29_2 := bf B212.out 2) | ((with_reducible refine gate_callee (f := 12) rfl ?_); refine goesL_ (some 12) rfl rfl Try.func12 (by kernel_rfl) rfl #[.agg #[I q aa0, J Aa1 la1.length ca1, J Aa2 la2.length ca2], I q 1048576] rfl (by (try simp only [List.map_toArray, List.map_cons, List.map_nil]); first | done | rfl) ?_; (with_reducible refine (laws_szConfig.calls k aa0 _ _ la1 _ _ la2 1048576 t214 _ ?side1 ?side2 ?side3 ?side4 A3.out).mono ?_); (case side1 => repeat (first | exact (Kd.C_below HR0_1.out HB.out) | (with_reducible refine ca ?_ _) | (with_reducible refine cN ?_ _) | (with_reducible refine cd1 ?_))); (case side2 => exact HC0_1.out); (case side3 => repeat (first | exact (Kd.C_below HR0_2.out HB.out) | (with_reducible refine ca ?_ _) | (with_reducible refine cN ?_ _) | (with_reducible refine cd1 ?_))); (case side4 => exact HC0_2.out); rintro e w30 ⟨rfl, hb⟩; refine ⟨_, rfl, ?_⟩; have N0 := am (bb (g := g212) (by (with_reducible repeat (first | apply bN | apply bd | apply ba)); exact B212.out) hb); have N1 := am (bb (g := g213) (by (with_reducible repeat (first | apply bN | apply bd | apply ba)); exact B213.out) hb); have N2 := am (bp (by repeat (first | (with_reducible first | exact HB.out | apply pa | apply pN | apply p1 | refine bs ?_ E212.out | refine bs ?_ E213.out) | exact HB.out)) hb); clear B212 B213 HB; have B212 := N0; have B213 := N1; have HB := N2; clear N0 N1 N2; (try clear hb); (try clear hb2); (try clear hk); (try clear hi); have hcz31_0 : w30.cell? ⟨g213, 0, none⟩ = some (I q ab0) := (bc B213.out 0).trans rfl; have hcz31_1 : w30.cell? ⟨g213, 1, none⟩ = some (J Ab1 lb1.length cb1) := (bc B213.out 1).trans rfl; have hcz31_2 : w30.cell? ⟨g213, 2, none⟩ = some (J Ab2 lb2.length cb2) := (bc B213.out 2).trans rfl; have hfz31_0 := bf B213.out 0; have hfz31_1 := bf B213.out 1; have hfz31_2 := bf B213.out 2) | ((with_reducible refine gate_callee (f := 12) rfl ?_); refine goesL_ (some 17) rfl rfl Try.func12 (by kernel_rfl) rfl #[.agg #[I q ab0, J Ab1 lb1.length cb1, J Ab2 lb2.length cb2], I q t214] rfl (by (try simp only [List.map_toArray, List.map_cons, List.map_nil]); first | done | rfl) ?_; (with_reducible refine (laws_szConfig.calls k ab0 _ _ lb1 _ _ lb2 t214 t215 _ ?side1 ?side2 ?side3 ?side4 A10.out).mono ?_); (case side1 => repeat (first | exact (Kd.C_below HR1_1.out HB.out) | (with_reducible refine ca ?_ _) | (with_reducible refine cN ?_ _) | (with_reducible refine cd1 ?_))); (case side2 => exact HC1_1.out); (case side3 => repeat (first | exact (Kd.C_below HR1_2.out HB.out) | (with_reducible refine ca ?_ _) | (with_reducible refine cN ?_ _) | (with_reducible refine cd1 ?_))); (case side4 => exact HC1_2.out); rintro e w32 ⟨rfl, hb⟩; refine ⟨_, rfl, ?_⟩; have N0 := am (bb (g := g212) (by (with_reducible repeat (first | apply bN | apply bd | apply ba)); exact B212.out) hb); have N1 := am (bb (g := g213) (by (with_reducible repeat (first | apply bN | apply bd | apply ba)); exact B213.out) hb); have N2 := am (bp (by repeat (first | (with_reducible first | exact HB.out | apply pa | apply pN | apply p1 | refine bs ?_ E212.out | refine bs ?_ E213.out) | exact HB.out)) hb); clear B212 B213 HB; have B212 := N0; have B213 := N1; have HB := N2; clear N0 N1 N2; (try clear hb); (try clear hb2); (try clear hk); (try clear hi)))
        have N0 := am (bd B212.out)
        have N1 := am (bd B213.out)
        have N2 := am (p1 HB.out)
        clear B212
        clear B213
        clear HB
        have B212 := N0
        have B213 := N1
        have HB := N2
        clear N0 N1 N2
        refine start_ (n := 6) (S := fun w' => w'.cell? ⟨g212, 0, none⟩ = some (I q aa0) ∧ w'.cell? ⟨g212, 1, none⟩ = some (J Aa1 la1.length ca1) ∧ w'.cell? ⟨g212, 2, none⟩ = some (J Aa2 la2.length ca2) ∧ w'.cell? ⟨g213, 0, none⟩ = some (I q ab0) ∧ w'.cell? ⟨g213, 1, none⟩ = some (J Ab1 lb1.length cb1) ∧ w'.cell? ⟨g213, 2, none⟩ = some (J Ab2 lb2.length cb2)) (ds := []) #[false, false, false, false, false, false] (by kernel_rfl) rfl rfl ⟨(bc B212.out 0).trans rfl, (bc B212.out 1).trans rfl, (bc B212.out 2).trans rfl, (bc B213.out 0).trans rfl, (bc B213.out 1).trans rfl, (bc B213.out 2).trans rfl⟩ (fun hHeld => ?_)
        generalize w32.drew = w33 at B212 B213 HB hHeld ⊢
        refine take_ (i := 0) (N := some 20) (v := ?_) (a' := ?_) #[true, false, false, false, false, false] rfl rfl (by kernel_rfl) (fun _ _ _ h => h) (Or.inl ⟨by rfl, ?_⟩) hHeld ?_ ?_
        rotate_left
        · rintro w' ⟨s0, s1, s2, s3, s4, s5⟩
          go_simp
          with_reducible rfl
        rotate_left
        · simp only [Act.put, List.setIfInBounds_toArray, List.set_cons_zero, List.set_cons_succ, i64_w, i32_w]
          rfl
        refine take_ (i := 2) (N := some 22) (v := ?_) (a' := ?_) #[true, false, true, false, false, false] rfl rfl (by kernel_rfl) (fun _ _ _ h => h) (Or.inl ⟨by rfl, ?_⟩) hHeld ?_ ?_
        rotate_left
        · rintro w' ⟨s0, s1, s2, s3, s4, s5⟩
          go_simp
          with_reducible rfl
        rotate_left
        · simp only [Act.put, List.setIfInBounds_toArray, List.set_cons_zero, List.set_cons_succ, i64_w, i32_w]
          rfl
        refine one_ (i := 1) (N := some 21) #[true, true, true, false, false, false] rfl rfl (by kernel_rfl) (by decide) (fun K hK => ?_)
        refine goes_ Try.func14 (by kernel_rfl) rfl #[.agg #[I q aa0, J Aa1 la1.length ca1, J Aa2 la2.length ca2]] (by rfl) rfl rfl (by (try simp only [List.map_toArray, List.map_cons, List.map_nil]); first | done | rfl | (simp only [List.length_drop, List.length_take]; rfl)) ?_
        with_reducible refine (laws_toConfig.calls k aa0 _ _ la1 _ _ la2 t216 t217 t220 _ ?side1 ?side2 ?side3 ?side4 A19.out).mono ?_
        (case side1 => repeat (first | exact (Kd.C_below HR0_1.out HB.out) | (with_reducible refine ca ?_ _) | (with_reducible refine cN ?_ _) | (with_reducible refine cd1 ?_)))
        (case side2 => exact HC0_1.out)
        (case side3 => repeat (first | exact (Kd.C_below HR0_2.out HB.out) | (with_reducible refine ca ?_ _) | (with_reducible refine cN ?_ _) | (with_reducible refine cd1 ?_)))
        (case side4 => exact HC0_2.out)
        rintro e w34 ⟨v218, v221, rfl, ho0, ho1, hb⟩
        refine ⟨_, rfl, ?_⟩
        have N0 := am (rw1 ho0 (bz (by repeat (first | (with_reducible first | exact HB.out | apply pa | apply pN | apply p1 | refine bs ?_ E212.out | refine bs ?_ E213.out) | exact HB.out))))
        have N1 := am (Kd.S_lower ho1 (bz (by repeat (first | (with_reducible first | exact HB.out | apply pa | apply pN | apply p1 | refine bs ?_ E212.out | refine bs ?_ E213.out) | exact HB.out))))
        have N2 := am (bb (g := g212) (by (with_reducible repeat (first | apply bN | apply bd | apply ba)); exact B212.out) hb)
        have N3 := am (bb (g := g213) (by (with_reducible repeat (first | apply bN | apply bd | apply ba)); exact B213.out) hb)
        have N4 := am (bp (by repeat (first | (with_reducible first | exact HB.out | apply pa | apply pN | apply p1 | refine bs ?_ E212.out | refine bs ?_ E213.out) | exact HB.out)) hb)
        clear B212
        clear B213
        clear HB
        have O219 := N0
        have O222 := N1
        have B212 := N2
        have B213 := N3
        have HB := N4
        clear N0 N1 N2 N3 N4
        (try clear hb)
        (try clear hb2)
        (try clear hk)
        (try clear hi)
        (try clear ho0)
        (try clear ho1)
        refine hK.out _ _ ⟨(bc B212.out 0).trans rfl, (bc B212.out 1).trans rfl, (bc B212.out 2).trans rfl, (bc B213.out 0).trans rfl, (bc B213.out 1).trans rfl, (bc B213.out 2).trans rfl⟩ (fun hHeld => ?_)
        clear hK K
        refine norm_ (a' := ?_) ?_ ?_
        rotate_left
        · show Act.put _ (some 21) _ = _
          simp only [Act.put, List.setIfInBounds_toArray, List.set_cons_zero, List.set_cons_succ, i64_w, i32_w]
          rfl
        refine one_ (i := 3) (N := some 23) #[true, true, true, true, false, false] rfl rfl (by kernel_rfl) (by decide) (fun K hK => ?_)
        refine goes_ Try.func14 (by kernel_rfl) rfl #[.agg #[I q ab0, J Ab1 lb1.length cb1, J Ab2 lb2.length cb2]] (by rfl) rfl rfl (by (try simp only [List.map_toArray, List.map_cons, List.map_nil]); first | done | rfl | (simp only [List.length_drop, List.length_take]; rfl)) ?_
        with_reducible refine (laws_toConfig.calls k ab0 _ _ lb1 _ _ lb2 t223 t224 t227 _ ?side1 ?side2 ?side3 ?side4 A20.out).mono ?_
        (case side1 => repeat (first | exact (Kd.C_below HR1_1.out HB.out) | (with_reducible refine ca ?_ _) | (with_reducible refine cN ?_ _) | (with_reducible refine cd1 ?_)))
        (case side2 => exact HC1_1.out)
        (case side3 => repeat (first | exact (Kd.C_below HR1_2.out HB.out) | (with_reducible refine ca ?_ _) | (with_reducible refine cN ?_ _) | (with_reducible refine cd1 ?_)))
        (case side4 => exact HC1_2.out)
        rintro e w35 ⟨v225, v228, rfl, ho0, ho1, hb⟩
        refine ⟨_, rfl, ?_⟩
        have N0 := am (re (by (with_reducible repeat (first | apply ra | apply rN | apply rd1)); exact O219.out) (Kd.R_base ho0) hb)
        have N1 := am (Kd.S_elder' (by (with_reducible repeat (first | apply sa | apply sN | apply sd)); exact O222.out) (Kd.S_base ho1) hb)
        have N2 := am (rw1 (rn ho0 (rl (by (with_reducible repeat (first | apply ra | apply rN | apply rd1)); exact O219.out))) (bz (by repeat (first | (with_reducible first | exact HB.out | apply pa | apply pN | apply p1 | refine bs ?_ E212.out | refine bs ?_ E213.out) | exact HB.out))))
        have N3 := am (Kd.S_lower (Kd.S_new' ho1 (sl (by (with_reducible repeat (first | apply sa | apply sN | apply sd)); exact O222.out))) (bz (by repeat (first | (with_reducible first | exact HB.out | apply pa | apply pN | apply p1 | refine bs ?_ E212.out | refine bs ?_ E213.out) | exact HB.out))))
        have N4 := am (bb (g := g212) (by (with_reducible repeat (first | apply bN | apply bd | apply ba)); exact B212.out) hb)
        have N5 := am (bb (g := g213) (by (with_reducible repeat (first | apply bN | apply bd | apply ba)); exact B213.out) hb)
        have N6 := am (bp (by repeat (first | (with_reducible first | exact HB.out | apply pa | apply pN | apply p1 | refine bs ?_ E212.out | refine bs ?_ E213.out) | exact HB.out)) hb)
        clear O219
        clear O222
        clear B212
        clear B213
        clear HB
        have O219 := N0
        have O222 := N1
        have O226 := N2
        have O229 := N3
        have B212 := N4
        have B213 := N5
        have HB := N6
        clear N0 N1 N2 N3 N4 N5 N6
        (try clear hb)
        (try clear hb2)
        (try clear hk)
        (try clear hi)
        (try clear ho0)
        (try clear ho1)
        obtain ⟨Ao36, co36, eo36⟩ := Kd.R_slice O219.out
        (first | subst eo36 | (injection eo36 with f1_ f2_ f3_; have f4_ := f1_.symm; have f5_ := f3_.symm; clear f1_ f2_ f3_; subst f4_; subst f5_))
        obtain ⟨Ao37, co37, eo37⟩ := Kd.S_slice O222.out
        (first | subst eo37 | (injection eo37 with f1_ f2_ f3_; have f4_ := f1_.symm; have f5_ := f3_.symm; clear f1_ f2_ f3_; subst f4_; subst f5_))
        obtain ⟨Ao38, co38, eo38⟩ := Kd.R_slice O226.out
        (first | subst eo38 | (injection eo38 with f1_ f2_ f3_; have f4_ := f1_.symm; have f5_ := f3_.symm; clear f1_ f2_ f3_; subst f4_; subst f5_))
        obtain ⟨Ao39, co39, eo39⟩ := Kd.S_slice O229.out
        (first | subst eo39 | (injection eo39 with f1_ f2_ f3_; have f4_ := f1_.symm; have f5_ := f3_.symm; clear f1_ f2_ f3_; subst f4_; subst f5_))
        refine hK.out _ _ ⟨(bc B212.out 0).trans rfl, (bc B212.out 1).trans rfl, (bc B212.out 2).trans rfl, (bc B213.out 0).trans rfl, (bc B213.out 1).trans rfl, (bc B213.out 2).trans rfl⟩ (fun hHeld => ?_)
        clear hK K
        refine norm_ (a' := ?_) ?_ ?_
        rotate_left
        · show Act.put _ (some 23) _ = _
          simp only [Act.put, List.setIfInBounds_toArray, List.set_cons_zero, List.set_cons_succ, i64_w, i32_w]
          rfl
        refine one_ (i := 4) (N := some 24) #[true, true, true, true, true, false] rfl rfl (by kernel_rfl) (by decide) (fun K hK => ?_)
        refine goes_ Try.func34 (by kernel_rfl) rfl #[.agg #[I q t216, J Ao36 t217.length co36, J Ao37 t220.length co37], .agg #[I q t223, J Ao38 t224.length co38, J Ao39 t227.length co39]] (by rfl) rfl rfl (by (try simp only [List.map_toArray, List.map_cons, List.map_nil]); first | done | rfl | (simp only [List.length_drop, List.length_take]; rfl)) ?_
        with_reducible refine (spec_SameConfigs.calls k t216 _ _ t217 _ _ t220 t223 _ _ t224 _ _ t227 t230 _ ?side1 ?side2 ?side3 ?side4 ?side5 ?side6 ?side7 ?side8 A21.out).mono ?_
        (case side1 => repeat (first | exact (Kd.R_reads' O219.out).2.2 | (with_reducible refine ca ?_ _) | (with_reducible refine cN ?_ _) | (with_reducible refine cd1 ?_)))
        (case side2 => exact (Kd.R_reads' O219.out).2.1)
        (case side3 => repeat (first | exact (Kd.S_reads' O222.out).2.2 | (with_reducible refine ca ?_ _) | (with_reducible refine cN ?_ _) | (with_reducible refine cd1 ?_)))
        (case side4 => exact (Kd.S_reads' O222.out).2.1)
        (case side5 => repeat (first | exact (Kd.R_reads' O226.out).2.2 | (with_reducible refine ca ?_ _) | (with_reducible refine cN ?_ _) | (with_reducible refine cd1 ?_)))
        (case side6 => exact (Kd.R_reads' O226.out).2.1)
        (case side7 => repeat (first | exact (Kd.S_reads' O229.out).2.2 | (with_reducible refine ca ?_ _) | (with_reducible refine cN ?_ _) | (with_reducible refine cd1 ?_)))
        (case side8 => exact (Kd.S_reads' O229.out).2.1)
        rintro e w40 ⟨rfl, hb⟩
        refine ⟨_, rfl, ?_⟩
        have N0 := am (rb (by (with_reducible repeat (first | apply ra | apply rN | apply rd1)); exact O219.out) hb)
        have N1 := am (Kd.S_below (by (with_reducible repeat (first | apply sa | apply sN | apply sd)); exact O222.out) hb)
        have N2 := am (rb (by (with_reducible repeat (first | apply ra | apply rN | apply rd1)); exact O226.out) hb)
        have N3 := am (Kd.S_below (by (with_reducible repeat (first | apply sa | apply sN | apply sd)); exact O229.out) hb)
        have N4 := am (bb (g := g212) (by (with_reducible repeat (first | apply bN | apply bd | apply ba)); exact B212.out) hb)
        have N5 := am (bb (g := g213) (by (with_reducible repeat (first | apply bN | apply bd | apply ba)); exact B213.out) hb)
        have N6 := am (bp (by repeat (first | (with_reducible first | exact HB.out | apply pa | apply pN | apply p1 | refine bs ?_ E212.out | refine bs ?_ E213.out) | exact HB.out)) hb)
        clear O219
        clear O222
        clear O226
        clear O229
        clear B212
        clear B213
        clear HB
        have O219 := N0
        have O222 := N1
        have O226 := N2
        have O229 := N3
        have B212 := N4
        have B213 := N5
        have HB := N6
        clear N0 N1 N2 N3 N4 N5 N6
        (try clear hb)
        (try clear hb2)
        (try clear hk)
        (try clear hi)
        refine hK.out _ _ ⟨(bc B212.out 0).trans rfl, (bc B212.out 1).trans rfl, (bc B212.out 2).trans rfl, (bc B213.out 0).trans rfl, (bc B213.out 1).trans rfl, (bc B213.out 2).trans rfl⟩ (fun hHeld => ?_)
        clear hK K
        refine norm_ (a' := ?_) ?_ ?_
        rotate_left
        · show Act.put _ (some 24) _ = _
          simp only [Act.put, List.setIfInBounds_toArray, List.set_cons_zero, List.set_cons_succ, i64_w, i32_w]
          rfl
        refine pure_ (i := 5) (N := some 6) (v := ?_) (a' := ?_) #[true, true, true, true, true, true] rfl rfl (by kernel_rfl) (fun _ _ _ h => h) (Or.inl ⟨by rfl, ?_⟩) ?_ ?_
        rotate_left
        · intro w'
          first | (go_simp; with_reducible rfl) | (go_simp; (try unfold Instr.field); go_simp; (try simp only [asAgg]); go_simp; with_reducible rfl)
        rotate_left
        · simp only [Act.put, List.setIfInBounds_toArray, List.set_cons_zero, List.set_cons_succ, i64_w, i32_w]
          rfl
        refine done_ (by kernel_rfl) ?_
        have hcz41_0 : w40.cell? ⟨g212, 0, none⟩ = some (I q aa0) := (bc B212.out 0).trans rfl
        have hcz41_1 : w40.cell? ⟨g212, 1, none⟩ = some (J Aa1 la1.length ca1) := (bc B212.out 1).trans rfl
        have hcz41_2 : w40.cell? ⟨g212, 2, none⟩ = some (J Aa2 la2.length ca2) := (bc B212.out 2).trans rfl
        have hfz41_0 := bf B212.out 0
        have hfz41_1 := bf B212.out 1
        have hfz41_2 := bf B212.out 2
        try go_wp2_with (first | ((with_reducible refine gate_callee (f := 14) rfl ?_); refine goesL_ (some 26) rfl rfl Try.func14 (by kernel_rfl) rfl #[.agg #[I q aa0, J Aa1 la1.length ca1, J Aa2 la2.length ca2]] rfl (by (try simp only [List.map_toArray, List.map_cons, List.map_nil]); first | done | rfl) ?_; (with_reducible refine (laws_toConfig.calls k aa0 _ _ la1 _ _ la2 t231 t232 t235 _ ?side1 ?side2 ?side3 ?side4 A22.out).mono ?_); (case side1 => repeat (first | exact (Kd.C_below HR0_1.out HB.out) | (with_reducible refine ca ?_ _) | (with_reducible refine cN ?_ _) | (with_reducible refine cd1 ?_))); (case side2 => exact HC0_1.out); (case side3 => repeat (first | exact (Kd.C_below HR0_2.out HB.out) | (with_reducible refine ca ?_ _) | (with_reducible refine cN ?_ _) | (with_reducible refine cd1 ?_))); (case side4 => exact HC0_2.out); rintro e w42 ⟨v233, v236, rfl, ho0, ho1, hb⟩; refine ⟨_, rfl, ?_⟩; have N0 := am (re (by (with_reducible repeat (first | apply ra | apply rN | apply rd1)); exact O219.out) (Kd.R_base ho0) hb); have N1 := am (Kd.S_elder' (by (with_reducible repeat (first | apply sa | apply sN | apply sd)); exact O222.out) (Kd.S_base ho1) hb); have N2 := am (re (by (with_reducible repeat (first | apply ra | apply rN | apply rd1)); exact O226.out) (Kd.R_base ho0) hb); have N3 := am (Kd.S_elder' (by (with_reducible repeat (first | apply sa | apply sN | apply sd)); exact O229.out) (Kd.S_base ho1) hb); have N4 := am (rw1 (rn (rn ho0 (rl (by (with_reducible repeat (first | apply ra | apply rN | apply rd1)); exact O219.out))) (rl (by (with_reducible repeat (first | apply ra | apply rN | apply rd1)); exact O226.out))) (bz (by repeat (first | (with_reducible first | exact HB.out | apply pa | apply pN | apply p1 | refine bs ?_ E212.out | refine bs ?_ E213.out) | exact HB.out)))); have N5 := am (Kd.S_lower (Kd.S_new' (Kd.S_new' ho1 (sl (by (with_reducible repeat (first | apply sa | apply sN | apply sd)); exact O222.out))) (sl (by (with_reducible repeat (first | apply sa | apply sN | apply sd)); exact O229.out))) (bz (by repeat (first | (with_reducible first | exact HB.out | apply pa | apply pN | apply p1 | refine bs ?_ E212.out | refine bs ?_ E213.out) | exact HB.out)))); have N6 := am (bb (g := g212) (by (with_reducible repeat (first | apply bN | apply bd | apply ba)); exact B212.out) hb); have N7 := am (bb (g := g213) (by (with_reducible repeat (first | apply bN | apply bd | apply ba)); exact B213.out) hb); have N8 := am (bp (by repeat (first | (with_reducible first | exact HB.out | apply pa | apply pN | apply p1 | refine bs ?_ E212.out | refine bs ?_ E213.out) | exact HB.out)) hb); clear O219 O222 O226 O229 B212 B213 HB; have O219 := N0; have O222 := N1; have O226 := N2; have O229 := N3; have O234 := N4; have O237 := N5; have B212 := N6; have B213 := N7; have HB := N8; clear N0 N1 N2 N3 N4 N5 N6 N7 N8; (try clear hb); (try clear hb2); (try clear hk); (try clear hi); (try clear ho0); (try clear ho1)) | ((with_reducible refine gate_dst (N := 7) rfl ?_); refine box_event ?hg (N := 7) ?hd (cs := #[I q 0, .slice none 0 0, .slice none 0 0]) (t := 31) ?hr ?_; (case hd => rfl); (case hg => rfl); (case hr => first | (go_simp; done) | (go_simp; rfl)); intro g238 hg w43 hbox hb; have N0 := am (rb (by (with_reducible repeat (first | apply ra | apply rN | apply rd1)); exact O219.out) hb); have N1 := am (Kd.S_below (by (with_reducible repeat (first | apply sa | apply sN | apply sd)); exact O222.out) hb); have N2 := am (rb (by (with_reducible repeat (first | apply ra | apply rN | apply rd1)); exact O226.out) hb); have N3 := am (Kd.S_below (by (with_reducible repeat (first | apply sa | apply sN | apply sd)); exact O229.out) hb); have N4 := am (rb (by (with_reducible repeat (first | apply ra | apply rN | apply rd1)); exact O234.out) hb); have N5 := am (Kd.S_below (by (with_reducible repeat (first | apply sa | apply sN | apply sd)); exact O237.out) hb); have N6 := am (bb (g := g212) (by (with_reducible repeat (first | apply bN | apply bd | apply ba)); exact B212.out) hb); have N7 := am (bb (g := g213) (by (with_reducible repeat (first | apply bN | apply bd | apply ba)); exact B213.out) hb); have N8 := am (bp (by repeat (first | (with_reducible first | exact HB.out | apply pa | apply pN | apply p1 | refine bs ?_ E212.out | refine bs ?_ E213.out) | exact HB.out)) hb); have N9 := am (hbox); have N10 := am ((by rw [hg]; exact (bz (by repeat (first | (with_reducible first | exact HB.out | apply pa | apply pN | apply p1 | refine bs ?_ E212.out | refine bs ?_ E213.out) | exact HB.out))) : w.heap.size ≤ g238)); have N11 := am ((by rw [hg]; exact (bz (by repeat (first | (with_reducible first | exact HB.out | apply pa | apply pN | apply p1 | refine bs ?_ E212.out | refine bs ?_ E213.out) | exact HB.out))) : w.heap.size ≤ g238)); have N12 := am ((by rw [hg]; exact Nat.ne_of_lt (bl (g := g212) (by (with_reducible repeat (first | apply bN | apply bd | apply ba)); exact B212.out)) : g212 ≠ g238)); have N13 := am ((by rw [hg]; exact Nat.ne_of_gt (bl (g := g212) (by (with_reducible repeat (first | apply bN | apply bd | apply ba)); exact B212.out)) : g238 ≠ g212)); have N14 := am ((by rw [hg]; exact Nat.ne_of_lt (bl (g := g213) (by (with_reducible repeat (first | apply bN | apply bd | apply ba)); exact B213.out)) : g213 ≠ g238)); have N15 := am ((by rw [hg]; exact Nat.ne_of_gt (bl (g := g213) (by (with_reducible repeat (first | apply bN | apply bd | apply ba)); exact B213.out)) : g238 ≠ g213)); clear O219 O222 O226 O229 O234 O237 B212 B213 HB; have O219 := N0; have O222 := N1; have O226 := N2; have O229 := N3; have O234 := N4; have O237 := N5; have B212 := N6; have B213 := N7; have HB := N8; have B238 := N9; have GW238 := N10; have E238 := N11; have NB212_238 := N12; have NB238_212 := N13; have NB213_238 := N14; have NB238_213 := N15; clear N0 N1 N2 N3 N4 N5 N6 N7 N8 N9 N10 N11 N12 N13 N14 N15 hb hbox hg; have hnb44 := NB238_212.out; have hnc44 := NB212_238.out; have hnb45 := NB238_213.out; have hnc45 := NB213_238.out; have hcz46_0 : w43.cell? ⟨g238, 0, none⟩ = some (I q 0) := (bc B238.out 0).trans rfl; have hcz46_1 : w43.cell? ⟨g238, 1, none⟩ = some (.slice none 0 0) := (bc B238.out 1).trans rfl; have hcz46_2 : w43.cell? ⟨g238, 2, none⟩ = some (.slice none 0 0) := (bc B238.out 2).trans rfl; have hfz46_0 := bf B238.out 0; have hfz46_1 := bf B238.out 1; have hfz46_2 := bf B238.out 2; obtain ⟨Ao47, co47, eo47⟩ := Kd.R_slice O234.out; subst eo47; obtain ⟨Ao48, co48, eo48⟩ := Kd.S_slice O237.out; subst eo48; have hcz49_0 : w43.cell? ⟨g213, 0, none⟩ = some (I q ab0) := (bc B213.out 0).trans rfl; have hcz49_1 : w43.cell? ⟨g213, 1, none⟩ = some (J Ab1 lb1.length cb1) := (bc B213.out 1).trans rfl; have hcz49_2 : w43.cell? ⟨g213, 2, none⟩ = some (J Ab2 lb2.length cb2) := (bc B213.out 2).trans rfl; have hfz49_0 := bf B213.out 0; have hfz49_1 := bf B213.out 1; have hfz49_2 := bf B213.out 2) | ((with_reducible refine gate_callee (f := 14) rfl ?_); refine goesL_ (some 28) rfl rfl Try.func14 (by kernel_rfl) rfl #[.agg #[I q ab0, J Ab1 lb1.length cb1, J Ab2 lb2.length cb2]] rfl (by (try simp only [List.map_toArray, List.map_cons, List.map_nil]); first | done | rfl) ?_; (with_reducible refine (laws_toConfig.calls k ab0 _ _ lb1 _ _ lb2 t239 t240 t243 _ ?side1 ?side2 ?side3 ?side4 A23.out).mono ?_); (case side1 => exact Kd.C_below HR1_1.out (by repeat (first | (with_reducible first | exact HB.out | apply pa | apply pN | apply p1 | refine bs ?_ E212.out | refine bs ?_ E213.out | refine bs ?_ E238.out) | exact HB.out))); (case side2 => exact HC1_1.out); (case side3 => exact Kd.C_below HR1_2.out (by repeat (first | (with_reducible first | exact HB.out | apply pa | apply pN | apply p1 | refine bs ?_ E212.out | refine bs ?_ E213.out | refine bs ?_ E238.out) | exact HB.out))); (case side4 => exact HC1_2.out); rintro e w50 ⟨v241, v244, rfl, ho0, ho1, hb⟩; refine ⟨_, rfl, ?_⟩; have N0 := am (re (by (with_reducible repeat (first | apply ra | apply rN | apply rd1)); exact (Kd.R_mono (rf (p := ⟨g238, 2, none⟩) (rf (p := ⟨g238, 1, none⟩) (rf (p := ⟨g238, 0, none⟩) (Kd.R_types O219.out B238.out (by decide)) (fun _ hk => hk.2) (I q t231)) (fun _ hk => hk.2) (J Ao47 t232.length co47)) (fun _ hk => hk.2) (J Ao48 t235.length co48)) (fun _ h_ => h_.1))) (Kd.R_base ho0) hb); have N1 := am (Kd.S_elder' (by (with_reducible repeat (first | apply sa | apply sN | apply sd)); exact (sm (sf (p := ⟨g238, 2, none⟩) (sf (p := ⟨g238, 1, none⟩) (sf (p := ⟨g238, 0, none⟩) (st O222.out B238.out (by decide)) (fun _ hk => hk.2) (I q t231)) (fun _ hk => hk.2) (J Ao47 t232.length co47)) (fun _ hk => hk.2) (J Ao48 t235.length co48)) (fun _ h_ => h_.1))) (Kd.S_base ho1) hb); have N2 := am (re (by (with_reducible repeat (first | apply ra | apply rN | apply rd1)); exact (Kd.R_mono (rf (p := ⟨g238, 2, none⟩) (rf (p := ⟨g238, 1, none⟩) (rf (p := ⟨g238, 0, none⟩) (Kd.R_types O226.out B238.out (by decide)) (fun _ hk => hk.2) (I q t231)) (fun _ hk => hk.2) (J Ao47 t232.length co47)) (fun _ hk => hk.2) (J Ao48 t235.length co48)) (fun _ h_ => h_.1))) (Kd.R_base ho0) hb); have N3 := am (Kd.S_elder' (by (with_reducible repeat (first | apply sa | apply sN | apply sd)); exact (sm (sf (p := ⟨g238, 2, none⟩) (sf (p := ⟨g238, 1, none⟩) (sf (p := ⟨g238, 0, none⟩) (st O229.out B238.out (by decide)) (fun _ hk => hk.2) (I q t231)) (fun _ hk => hk.2) (J Ao47 t232.length co47)) (fun _ hk => hk.2) (J Ao48 t235.length co48)) (fun _ h_ => h_.1))) (Kd.S_base ho1) hb); have N4 := am (re (by (with_reducible repeat (first | apply ra | apply rN | apply rd1)); exact (Kd.R_mono (rf (p := ⟨g238, 2, none⟩) (rf (p := ⟨g238, 1, none⟩) (rf (p := ⟨g238, 0, none⟩) (Kd.R_types O234.out B238.out (by decide)) (fun _ hk => hk.2) (I q t231)) (fun _ hk => hk.2) (J Ao47 t232.length co47)) (fun _ hk => hk.2) (J Ao48 t235.length co48)) (fun _ h_ => h_.1))) (Kd.R_base ho0) hb); have N5 := am (Kd.S_elder' (by (with_reducible repeat (first | apply sa | apply sN | apply sd)); exact (sm (sf (p := ⟨g238, 2, none⟩) (sf (p := ⟨g238, 1, none⟩) (sf (p := ⟨g238, 0, none⟩) (st O237.out B238.out (by decide)) (fun _ hk => hk.2) (I q t231)) (fun _ hk => hk.2) (J Ao47 t232.length co47)) (fun _ hk => hk.2) (J Ao48 t235.length co48)) (fun _ h_ => h_.1))) (Kd.S_base ho1) hb); have N6 := am (rw1 (rn (rn (rn ho0 (rl (by (with_reducible repeat (first | apply ra | apply rN | apply rd1)); exact (Kd.R_mono (rf (p := ⟨g238, 2, none⟩) (rf (p := ⟨g238, 1, none⟩) (rf (p := ⟨g238, 0, none⟩) (Kd.R_types O219.out B238.out (by decide)) (fun _ hk => hk.2) (I q t231)) (fun _ hk => hk.2) (J Ao47 t232.length co47)) (fun _ hk => hk.2) (J Ao48 t235.length co48)) (fun _ h_ => h_.1))))) (rl (by (with_reducible repeat (first | apply ra | apply rN | apply rd1)); exact (Kd.R_mono (rf (p := ⟨g238, 2, none⟩) (rf (p := ⟨g238, 1, none⟩) (rf (p := ⟨g238, 0, none⟩) (Kd.R_types O226.out B238.out (by decide)) (fun _ hk => hk.2) (I q t231)) (fun _ hk => hk.2) (J Ao47 t232.length co47)) (fun _ hk => hk.2) (J Ao48 t235.length co48)) (fun _ h_ => h_.1))))) (rl (by (with_reducible repeat (first | apply ra | apply rN | apply rd1)); exact (Kd.R_mono (rf (p := ⟨g238, 2, none⟩) (rf (p := ⟨g238, 1, none⟩) (rf (p := ⟨g238, 0, none⟩) (Kd.R_types O234.out B238.out (by decide)) (fun _ hk => hk.2) (I q t231)) (fun _ hk => hk.2) (J Ao47 t232.length co47)) (fun _ hk => hk.2) (J Ao48 t235.length co48)) (fun _ h_ => h_.1))))) (bz (by repeat (first | (with_reducible first | exact HB.out | apply pa | apply pN | apply p1 | refine bs ?_ E212.out | refine bs ?_ E213.out | refine bs ?_ E238.out) | exact HB.out)))); have N7 := am (Kd.S_lower (Kd.S_new' (Kd.S_new' (Kd.S_new' ho1 (sl (by (with_reducible repeat (first | apply sa | apply sN | apply sd)); exact (sm (sf (p := ⟨g238, 2, none⟩) (sf (p := ⟨g238, 1, none⟩) (sf (p := ⟨g238, 0, none⟩) (st O222.out B238.out (by decide)) (fun _ hk => hk.2) (I q t231)) (fun _ hk => hk.2) (J Ao47 t232.length co47)) (fun _ hk => hk.2) (J Ao48 t235.length co48)) (fun _ h_ => h_.1))))) (sl (by (with_reducible repeat (first | apply sa | apply sN | apply sd)); exact (sm (sf (p := ⟨g238, 2, none⟩) (sf (p := ⟨g238, 1, none⟩) (sf (p := ⟨g238, 0, none⟩) (st O229.out B238.out (by decide)) (fun _ hk => hk.2) (I q t231)) (fun _ hk => hk.2) (J Ao47 t232.length co47)) (fun _ hk => hk.2) (J Ao48 t235.length co48)) (fun _ h_ => h_.1))))) (sl (by (with_reducible repeat (first | apply sa | apply sN | apply sd)); exact (sm (sf (p := ⟨g238, 2, none⟩) (sf (p := ⟨g238, 1, none⟩) (sf (p := ⟨g238, 0, none⟩) (st O237.out B238.out (by decide)) (fun _ hk => hk.2) (I q t231)) (fun _ hk => hk.2) (J Ao47 t232.length co47)) (fun _ hk => hk.2) (J Ao48 t235.length co48)) (fun _ h_ => h_.1))))) (bz (by repeat (first | (with_reducible first | exact HB.out | apply pa | apply pN | apply p1 | refine bs ?_ E212.out | refine bs ?_ E213.out | refine bs ?_ E238.out) | exact HB.out)))); have N8 := am (bb (g := g212) (o := .cells #[I q aa0, J Aa1 la1.length ca1, J Aa2 la2.length ca2] 25 (0, 0)) (by (iterate 3 ((with_reducible repeat (first | apply bN | apply bd | apply ba)); refine bq ?_ NB212_238.out _)); (with_reducible repeat (first | apply bN | apply bd | apply ba)); exact B212.out) hb); have N9 := am (bb (g := g213) (o := .cells #[I q ab0, J Ab1 lb1.length cb1, J Ab2 lb2.length cb2] 25 (0, 0)) (by (iterate 3 ((with_reducible repeat (first | apply bN | apply bd | apply ba)); refine bq ?_ NB213_238.out _)); (with_reducible repeat (first | apply bN | apply bd | apply ba)); exact B213.out) hb); have N10 := am (bb (g := g238) (o := .cells #[I q t231, J Ao47 t232.length co47, J Ao48 t235.length co48] 31 (0, 0)) (by (with_reducible repeat (first | apply bN | apply bd | apply ba)); exact pu3 B238.out) hb); have N11 := am (bp (by repeat (first | (with_reducible first | exact HB.out | apply pa | apply pN | apply p1 | refine bs ?_ E212.out | refine bs ?_ E213.out | refine bs ?_ E238.out) | exact HB.out)) hb); clear O219 O222 O226 O229 O234 O237 B212 B213 B238 HB; have O219 := N0; have O222 := N1; have O226 := N2; have O229 := N3; have O234 := N4; have O237 := N5; have O242 := N6; have O245 := N7; have B212 := N8; have B213 := N9; have B238 := N10; have HB := N11; clear N0 N1 N2 N3 N4 N5 N6 N7 N8 N9 N10 N11; (try clear hb); (try clear hb2); (try clear hk); (try clear hi); (try clear ho0); (try clear ho1)) | ((with_reducible refine gate_dst (N := 8) rfl ?_); refine box_event ?hg (N := 8) ?hd (cs := #[I q 0, .slice none 0 0, .slice none 0 0]) (t := 31) ?hr ?_; (case hd => rfl); (case hg => rfl); (case hr => first | (go_simp; done) | (go_simp; rfl)); intro g246 hg w51 hbox hb; have N0 := am (rb (by (with_reducible repeat (first | apply ra | apply rN | apply rd1)); exact O219.out) hb); have N1 := am (Kd.S_below (by (with_reducible repeat (first | apply sa | apply sN | apply sd)); exact O222.out) hb); have N2 := am (rb (by (with_reducible repeat (first | apply ra | apply rN | apply rd1)); exact O226.out) hb); have N3 := am (Kd.S_below (by (with_reducible repeat (first | apply sa | apply sN | apply sd)); exact O229.out) hb); have N4 := am (rb (by (with_reducible repeat (first | apply ra | apply rN | apply rd1)); exact O234.out) hb); have N5 := am (Kd.S_below (by (with_reducible repeat (first | apply sa | apply sN | apply sd)); exact O237.out) hb); have N6 := am (rb (by (with_reducible repeat (first | apply ra | apply rN | apply rd1)); exact O242.out) hb); have N7 := am (Kd.S_below (by (with_reducible repeat (first | apply sa | apply sN | apply sd)); exact O245.out) hb); have N8 := am (bb (g := g212) (by (with_reducible repeat (first | apply bN | apply bd | apply ba)); exact B212.out) hb); have N9 := am (bb (g := g213) (by (with_reducible repeat (first | apply bN | apply bd | apply ba)); exact B213.out) hb); have N10 := am (bb (g := g238) (by (with_reducible repeat (first | apply bN | apply bd | apply ba)); exact B238.out) hb); have N11 := am (bp (by repeat (first | (with_reducible first | exact HB.out | apply pa | apply pN | apply p1 | refine bs ?_ E212.out | refine bs ?_ E213.out | refine bs ?_ E238.out) | exact HB.out)) hb); have N12 := am (hbox); have N13 := am ((by rw [hg]; exact (bz (by repeat (first | (with_reducible first | exact HB.out | apply pa | apply pN | apply p1 | refine bs ?_ E212.out | refine bs ?_ E213.out | refine bs ?_ E238.out) | exact HB.out))) : w.heap.size ≤ g246)); have N14 := am ((by rw [hg]; exact (bz (by repeat (first | (with_reducible first | exact HB.out | apply pa | apply pN | apply p1 | refine bs ?_ E212.out | refine bs ?_ E213.out | refine bs ?_ E238.out) | exact HB.out))) : w.heap.size ≤ g246)); have N15 := am ((by rw [hg]; exact Nat.ne_of_lt (bl (g := g212) (by (with_reducible repeat (first | apply bN | apply bd | apply ba)); exact B212.out)) : g212 ≠ g246)); have N16 := am ((by rw [hg]; exact Nat.ne_of_gt (bl (g := g212) (by (with_reducible repeat (first | apply bN | apply bd | apply ba)); exact B212.out)) : g246 ≠ g212)); have N17 := am ((by rw [hg]; exact Nat.ne_of_lt (bl (g := g213) (by (with_reducible repeat (first | apply bN | apply bd | apply ba)); exact B213.out)) : g213 ≠ g246)); have N18 := am ((by rw [hg]; exact Nat.ne_of_gt (bl (g := g213) (by (with_reducible repeat (first | apply bN | apply bd | apply ba)); exact B213.out)) : g246 ≠ g213)); have N19 := am ((by rw [hg]; exact Nat.ne_of_lt (bl (g := g238) (by (with_reducible repeat (first | apply bN | apply bd | apply ba)); exact B238.out)) : g238 ≠ g246)); have N20 := am ((by rw [hg]; exact Nat.ne_of_gt (bl (g := g238) (by (with_reducible repeat (first | apply bN | apply bd | apply ba)); exact B238.out)) : g246 ≠ g238)); clear O219 O222 O226 O229 O234 O237 O242 O245 B212 B213 B238 HB; have O219 := N0; have O222 := N1; have O226 := N2; have O229 := N3; have O234 := N4; have O237 := N5; have O242 := N6; have O245 := N7; have B212 := N8; have B213 := N9; have B238 := N10; have HB := N11; have B246 := N12; have GW246 := N13; have E246 := N14; have NB212_246 := N15; have NB246_212 := N16; have NB213_246 := N17; have NB246_213 := N18; have NB238_246 := N19; have NB246_238 := N20; clear N0 N1 N2 N3 N4 N5 N6 N7 N8 N9 N10 N11 N12 N13 N14 N15 N16 N17 N18 N19 N20 hb hbox hg; have hnb52 := NB246_212.out; have hnc52 := NB212_246.out; have hnb53 := NB246_213.out; have hnc53 := NB213_246.out; have hnb54 := NB246_238.out; have hnc54 := NB238_246.out; have hcz55_0 : w51.cell? ⟨g246, 0, none⟩ = some (I q 0) := (bc B246.out 0).trans rfl; have hcz55_1 : w51.cell? ⟨g246, 1, none⟩ = some (.slice none 0 0) := (bc B246.out 1).trans rfl; have hcz55_2 : w51.cell? ⟨g246, 2, none⟩ = some (.slice none 0 0) := (bc B246.out 2).trans rfl; have hfz55_0 := bf B246.out 0; have hfz55_1 := bf B246.out 1; have hfz55_2 := bf B246.out 2; obtain ⟨Ao56, co56, eo56⟩ := Kd.R_slice O242.out; subst eo56; obtain ⟨Ao57, co57, eo57⟩ := Kd.S_slice O245.out; subst eo57; have hcz58_0 : w51.cell? ⟨g238, 0, none⟩ = some (I q t231) := (bc B238.out 0).trans rfl; have hcz58_1 : w51.cell? ⟨g238, 1, none⟩ = some (J Ao47 t232.length co47) := (bc B238.out 1).trans rfl; have hcz58_2 : w51.cell? ⟨g238, 2, none⟩ = some (J Ao48 t235.length co48) := (bc B238.out 2).trans rfl; have hfz58_0 := bf B238.out 0; have hfz58_1 := bf B238.out 1; have hfz58_2 := bf B238.out 2) | ((with_reducible refine gate_callee (f := 35) rfl ?_); refine goesL_ (some 31) rfl rfl Try.func35 (by kernel_rfl) rfl #[.agg #[I q t231, J Ao47 t232.length co47, J Ao48 t235.length co48], .agg #[I q t239, J Ao56 t240.length co56, J Ao57 t243.length co57]] rfl (by (try simp only [List.map_toArray, List.map_cons, List.map_nil]); first | done | rfl) ?_; (with_reducible refine (impl_SameConfigs.calls k t231 _ _ t232 _ _ t235 t239 _ _ t240 _ _ t243 t247 _ ?side1 ?side2 ?side3 ?side4 ?side5 ?side6 ?side7 ?side8 A24.out).mono ?_); (case side1 => refine (Kd.R_reads' (e := 36) (base := w.heap.size) (ok := fun k_ => (((True ∧ some k_ ≠ (J Ao36 t217.length co36 : Value).ownBlock) ∧ some k_ ≠ (J Ao38 t224.length co38 : Value).ownBlock) ∧ some k_ ≠ (J Ao56 t240.length co56 : Value).ownBlock)) (n := t232.length) (c := co47) ?_).2.2; exact (by (with_reducible repeat (first | apply ra | apply rN | apply rd1)); exact (Kd.R_mono (rf (p := ⟨g246, 2, none⟩) (rf (p := ⟨g246, 1, none⟩) (rf (p := ⟨g246, 0, none⟩) (Kd.R_types O234.out B246.out (by decide)) (fun _ hk => hk.2) (I q t239)) (fun _ hk => hk.2) (J Ao56 t240.length co56)) (fun _ hk => hk.2) (J Ao57 t243.length co57)) (fun _ h_ => h_.1)))); (case side2 => exact (Kd.R_reads' O234.out).2.1); (case side3 => refine (Kd.S_reads' (e := 64) (base := w.heap.size) (ok := fun k_ => (((True ∧ some k_ ≠ (J Ao37 t220.length co37 : Value).ownBlock) ∧ some k_ ≠ (J Ao39 t227.length co39 : Value).ownBlock) ∧ some k_ ≠ (J Ao57 t243.length co57 : Value).ownBlock)) (n := t235.length) (c := co48) ?_).2.2; exact (by (with_reducible repeat (first | apply sa | apply sN | apply sd)); exact (sm (sf (p := ⟨g246, 2, none⟩) (sf (p := ⟨g246, 1, none⟩) (sf (p := ⟨g246, 0, none⟩) (st O237.out B246.out (by decide)) (fun _ hk => hk.2) (I q t239)) (fun _ hk => hk.2) (J Ao56 t240.length co56)) (fun _ hk => hk.2) (J Ao57 t243.length co57)) (fun _ h_ => h_.1)))); (case side4 => exact (Kd.S_reads' O237.out).2.1); (case side5 => refine (Kd.R_reads' (e := 36) (base := w.heap.size) (ok := fun k_ => (((True ∧ some k_ ≠ (J Ao36 t217.length co36 : Value).ownBlock) ∧ some k_ ≠ (J Ao38 t224.length co38 : Value).ownBlock) ∧ some k_ ≠ (J Ao47 t232.length co47 : Value).ownBlock)) (n := t240.length) (c := co56) ?_).2.2; exact (by (with_reducible repeat (first | apply ra | apply rN | apply rd1)); exact (Kd.R_mono (rf (p := ⟨g246, 2, none⟩) (rf (p := ⟨g246, 1, none⟩) (rf (p := ⟨g246, 0, none⟩) (Kd.R_types O242.out B246.out (by decide)) (fun _ hk => hk.2) (I q t239)) (fun _ hk => hk.2) (J Ao56 t240.length co56)) (fun _ hk => hk.2) (J Ao57 t243.length co57)) (fun _ h_ => h_.1)))); (case side6 => exact (Kd.R_reads' O242.out).2.1); (case side7 => refine (Kd.S_reads' (e := 64) (base := w.heap.size) (ok := fun k_ => (((True ∧ some k_ ≠ (J Ao37 t220.length co37 : Value).ownBlock) ∧ some k_ ≠ (J Ao39 t227.length co39 : Value).ownBlock) ∧ some k_ ≠ (J Ao48 t235.length co48 : Value).ownBlock)) (n := t243.length) (c := co57) ?_).2.2; exact (by (with_reducible repeat (first | apply sa | apply sN | apply sd)); exact (sm (sf (p := ⟨g246, 2, none⟩) (sf (p := ⟨g246, 1, none⟩) (sf (p := ⟨g246, 0, none⟩) (st O245.out B246.out (by decide)) (fun _ hk => hk.2) (I q t239)) (fun _ hk => hk.2) (J Ao56 t240.length co56)) (fun _ hk => hk.2) (J Ao57 t243.length co57)) (fun _ h_ => h_.1)))); (case side8 => exact (Kd.S_reads' O245.out).2.1); rintro e w59 ⟨rfl, hb⟩; refine ⟨_, rfl, ?_⟩; have N0 := am (rb (by (with_reducible repeat (first | apply ra | apply rN | apply rd1)); exact (Kd.R_mono (rf (p := ⟨g246, 2, none⟩) (rf (p := ⟨g246, 1, none⟩) (rf (p := ⟨g246, 0, none⟩) (Kd.R_types O219.out B246.out (by decide)) (fun _ hk => hk.2) (I q t239)) (fun _ hk => hk.2) (J Ao56 t240.length co56)) (fun _ hk => hk.2) (J Ao57 t243.length co57)) (fun _ h_ => h_.1))) hb); have N1 := am (Kd.S_below (by (with_reducible repeat (first | apply sa | apply sN | apply sd)); exact (sm (sf (p := ⟨g246, 2, none⟩) (sf (p := ⟨g246, 1, none⟩) (sf (p := ⟨g246, 0, none⟩) (st O222.out B246.out (by decide)) (fun _ hk => hk.2) (I q t239)) (fun _ hk => hk.2) (J Ao56 t240.length co56)) (fun _ hk => hk.2) (J Ao57 t243.length co57)) (fun _ h_ => h_.1))) hb); have N2 := am (rb (by (with_reducible repeat (first | apply ra | apply rN | apply rd1)); exact (Kd.R_mono (rf (p := ⟨g246, 2, none⟩) (rf (p := ⟨g246, 1, none⟩) (rf (p := ⟨g246, 0, none⟩) (Kd.R_types O226.out B246.out (by decide)) (fun _ hk => hk.2) (I q t239)) (fun _ hk => hk.2) (J Ao56 t240.length co56)) (fun _ hk => hk.2) (J Ao57 t243.length co57)) (fun _ h_ => h_.1))) hb); have N3 := am (Kd.S_below (by (with_reducible repeat (first | apply sa | apply sN | apply sd)); exact (sm (sf (p := ⟨g246, 2, none⟩) (sf (p := ⟨g246, 1, none⟩) (sf (p := ⟨g246, 0, none⟩) (st O229.out B246.out (by decide)) (fun _ hk => hk.2) (I q t239)) (fun _ hk => hk.2) (J Ao56 t240.length co56)) (fun _ hk => hk.2) (J Ao57 t243.length co57)) (fun _ h_ => h_.1))) hb); have N4 := am (rb (by (with_reducible repeat (first | apply ra | apply rN | apply rd1)); exact (Kd.R_mono (rf (p := ⟨g246, 2, none⟩) (rf (p := ⟨g246, 1, none⟩) (rf (p := ⟨g246, 0, none⟩) (Kd.R_types O234.out B246.out (by decide)) (fun _ hk => hk.2) (I q t239)) (fun _ hk => hk.2) (J Ao56 t240.length co56)) (fun _ hk => hk.2) (J Ao57 t243.length co57)) (fun _ h_ => h_.1))) hb); have N5 := am (Kd.S_below (by (with_reducible repeat (first | apply sa | apply sN | apply sd)); exact (sm (sf (p := ⟨g246, 2, none⟩) (sf (p := ⟨g246, 1, none⟩) (sf (p := ⟨g246, 0, none⟩) (st O237.out B246.out (by decide)) (fun _ hk => hk.2) (I q t239)) (fun _ hk => hk.2) (J Ao56 t240.length co56)) (fun _ hk => hk.2) (J Ao57 t243.length co57)) (fun _ h_ => h_.1))) hb); have N6 := am (rb (by (with_reducible repeat (first | apply ra | apply rN | apply rd1)); exact (Kd.R_mono (rf (p := ⟨g246, 2, none⟩) (rf (p := ⟨g246, 1, none⟩) (rf (p := ⟨g246, 0, none⟩) (Kd.R_types O242.out B246.out (by decide)) (fun _ hk => hk.2) (I q t239)) (fun _ hk => hk.2) (J Ao56 t240.length co56)) (fun _ hk => hk.2) (J Ao57 t243.length co57)) (fun _ h_ => h_.1))) hb); have N7 := am (Kd.S_below (by (with_reducible repeat (first | apply sa | apply sN | apply sd)); exact (sm (sf (p := ⟨g246, 2, none⟩) (sf (p := ⟨g246, 1, none⟩) (sf (p := ⟨g246, 0, none⟩) (st O245.out B246.out (by decide)) (fun _ hk => hk.2) (I q t239)) (fun _ hk => hk.2) (J Ao56 t240.length co56)) (fun _ hk => hk.2) (J Ao57 t243.length co57)) (fun _ h_ => h_.1))) hb); have N8 := am (bb (g := g212) (o := .cells #[I q aa0, J Aa1 la1.length ca1, J Aa2 la2.length ca2] 25 (0, 0)) (by (iterate 3 ((with_reducible repeat (first | apply bN | apply bd | apply ba)); refine bq ?_ NB212_246.out _)); (with_reducible repeat (first | apply bN | apply bd | apply ba)); exact B212.out) hb); have N9 := am (bb (g := g213) (o := .cells #[I q ab0, J Ab1 lb1.length cb1, J Ab2 lb2.length cb2] 25 (0, 0)) (by (iterate 3 ((with_reducible repeat (first | apply bN | apply bd | apply ba)); refine bq ?_ NB213_246.out _)); (with_reducible repeat (first | apply bN | apply bd | apply ba)); exact B213.out) hb); have N10 := am (bb (g := g238) (o := .cells #[I q t231, J Ao47 t232.length co47, J Ao48 t235.length co48] 31 (0, 0)) (by (iterate 3 ((with_reducible repeat (first | apply bN | apply bd | apply ba)); refine bq ?_ NB238_246.out _)); (with_reducible repeat (first | apply bN | apply bd | apply ba)); exact B238.out) hb); have N11 := am (bb (g := g246) (o := .cells #[I q t239, J Ao56 t240.length co56, J Ao57 t243.length co57] 31 (0, 0)) (by (with_reducible repeat (first | apply bN | apply bd | apply ba)); exact pu3 B246.out) hb); have N12 := am (bp (by repeat (first | (with_reducible first | exact HB.out | apply pa | apply pN | apply p1 | refine bs ?_ E212.out | refine bs ?_ E213.out | refine bs ?_ E238.out | refine bs ?_ E246.out) | exact HB.out)) hb); clear O219 O222 O226 O229 O234 O237 O242 O245 B212 B213 B238 B246 HB; have O219 := N0; have O222 := N1; have O226 := N2; have O229 := N3; have O234 := N4; have O237 := N5; have O242 := N6; have O245 := N7; have B212 := N8; have B213 := N9; have B238 := N10; have B246 := N11; have HB := N12; clear N0 N1 N2 N3 N4 N5 N6 N7 N8 N9 N10 N11 N12; (try clear hb); (try clear hb2); (try clear hk); (try clear hi)))
        go_ret
        exact ⟨by first | rfl | (simp [errW_none, errW_some] <;> rfl) | (simp [*, errW_none, errW_some] <;> rfl), by repeat (first | (with_reducible first | exact HB.out | apply pa | apply pN | apply p1 | refine bs ?_ E212.out | refine bs ?_ E213.out | refine bs ?_ E238.out | refine bs ?_ E246.out) | exact HB.out)⟩
      · rw [if_neg c25] at H
        have c25b0 : (t247 != t230) = false := by simpa using c25
        (try (have c25b1 : decide (t247 = t230) = true := by simpa using c25))
        (try (have c25b2 : (t247 == t230) = true := by simpa using c25))
        clear c25
        replace H := Option.bind_eq_some_iff.mp H
        obtain ⟨⟨t248, t249, t252⟩, A600, H⟩ := H
        replace H : ((laws_eqConfig.f k t231 t232 t235 t248 t249 t252).bind fun t255 => (if t255 = true then ((laws_toConfig.f k ab0 lb1 lb2).bind fun bt256 => ((laws_eqConfig.f k t239 t240 t243 bt256.1 bt256.2.1 bt256.2.2).bind fun t263 => (if t263 = true then (some true) else (some false)))) else (some false))) = some r := H
        have A60 := am A600
        clear A600
        replace H := Option.bind_eq_some_iff.mp H
        obtain ⟨t255, A610, H⟩ := H
        replace H : (if t255 = true then ((laws_toConfig.f k ab0 lb1 lb2).bind fun bt256 => ((laws_eqConfig.f k t239 t240 t243 bt256.1 bt256.2.1 bt256.2.2).bind fun t263 => (if t263 = true then (some true) else (some false)))) else (some false)) = some r := H
        have A61 := am A610
        clear A610
        by_cases c62 : t255 = true
        · subst c62
          have H1 : ((laws_toConfig.f k ab0 lb1 lb2).bind fun bt256 => ((laws_eqConfig.f k t239 t240 t243 bt256.1 bt256.2.1 bt256.2.2).bind fun t263 => (if t263 = true then (some true) else (some false)))) = some r := by rw [if_pos rfl] at H; exact H
          clear H
          have H := H1
          clear H1
          replace H := Option.bind_eq_some_iff.mp H
          obtain ⟨⟨t256, t257, t260⟩, A630, H⟩ := H
          replace H : ((laws_eqConfig.f k t239 t240 t243 t256 t257 t260).bind fun t263 => (if t263 = true then (some true) else (some false))) = some r := H
          have A63 := am A630
          clear A630
          replace H := Option.bind_eq_some_iff.mp H
          obtain ⟨t263, A640, H⟩ := H
          replace H : (if t263 = true then (some true) else (some false)) = some r := H
          have A64 := am A640
          clear A640
          by_cases c65 : t263 = true
          · subst c65
            have H1 : (some true) = some r := by rw [if_pos rfl] at H; exact H
            clear H
            have H := H1
            clear H1
            obtain rfl := Option.some.inj H
            go_enter Try.func8, Try.ntmps8
            try go_wp2_with (first | ((with_reducible refine gate_dst (N := 2) rfl ?_); refine box_event ?hg (N := 2) ?hd (cs := #[I q aa0, J Aa1 la1.length ca1, J Aa2 la2.length ca2]) (t := 25) ?hr ?_; (case hd => rfl); (case hg => rfl); (case hr => first | (go_simp; done) | (go_simp; rfl)); intro g212 hg w66 hbox hb; have N0 := am (bp (by repeat (first | (with_reducible first | exact HB.out | apply pa | apply pN | apply p1) | exact HB.out)) hb); have N1 := am (hbox); have N2 := am ((by rw [hg]; exact (bz (by repeat (first | (with_reducible first | exact HB.out | apply pa | apply pN | apply p1) | exact HB.out))) : w.heap.size ≤ g212)); have N3 := am ((by rw [hg]; exact (bz (by repeat (first | (with_reducible first | exact HB.out | apply pa | apply pN | apply p1) | exact HB.out))) : w.heap.size ≤ g212)); clear HB; have HB := N0; have B212 := N1; have GW212 := N2; have E212 := N3; clear N0 N1 N2 N3 hb hbox hg) | ((with_reducible refine gate_dst (N := 3) rfl ?_); refine box_event ?hg (N := 3) ?hd (cs := #[I q ab0, J Ab1 lb1.length cb1, J Ab2 lb2.length cb2]) (t := 25) ?hr ?_; (case hd => rfl); (case hg => rfl); (case hr => first | (go_simp; done) | (go_simp; rfl)); intro g213 hg w67 hbox hb; have N0 := am (bb (g := g212) (by (with_reducible repeat (first | apply bN | apply bd | apply ba)); exact B212.out) hb); have N1 := am (bp (by repeat (first | (with_reducible first | exact HB.out | apply pa | apply pN | apply p1 | refine bs ?_ E212.out) | exact HB.out)) hb); have N2 := am (hbox); have N3 := am ((by rw [hg]; exact (bz (by repeat (first | (with_reducible first | exact HB.out | apply pa | apply pN | apply p1 | refine bs ?_ E212.out) | exact HB.out))) : w.heap.size ≤ g213)); have N4 := am ((by rw [hg]; exact (bz (by repeat (first | (with_reducible first | exact HB.out | apply pa | apply pN | apply p1 | refine bs ?_ E212.out) | exact HB.out))) : w.heap.size ≤ g213)); have N5 := am ((by rw [hg]; exact Nat.ne_of_lt (bl (g := g212) (by (with_reducible repeat (first | apply bN | apply bd | apply ba)); exact B212.out)) : g212 ≠ g213)); have N6 := am ((by rw [hg]; exact Nat.ne_of_gt (bl (g := g212) (by (with_reducible repeat (first | apply bN | apply bd | apply ba)); exact B212.out)) : g213 ≠ g212)); clear B212 HB; have B212 := N0; have HB := N1; have B213 := N2; have GW213 := N3; have E213 := N4; have NB212_213 := N5; have NB213_212 := N6; clear N0 N1 N2 N3 N4 N5 N6 hb hbox hg; have hnb68 := NB212_213.out; have hnc68 := NB213_212.out; have hcz69_0 : w67.cell? ⟨g212, 0, none⟩ = some (I q aa0) := (bc B212.out 0).trans rfl; have hcz69_1 : w67.cell? ⟨g212, 1, none⟩ = some (J Aa1 la1.length ca1) := (bc B212.out 1).trans rfl; have hcz69_2 : w67.cell? ⟨g212, 2, none⟩ = some (J Aa2 la2.length ca2) := (bc B212.out 2).trans rfl; have hfz69_0 := bf B212.out 0; have hfz69_1 := bf B212.out 1; have hfz69_2 := bf B212.out 2) | ((with_reducible refine gate_callee (f := 12) rfl ?_); refine goesL_ (some 12) rfl rfl Try.func12 (by kernel_rfl) rfl #[.agg #[I q aa0, J Aa1 la1.length ca1, J Aa2 la2.length ca2], I q 1048576] rfl (by (try simp only [List.map_toArray, List.map_cons, List.map_nil]); first | done | rfl) ?_; (with_reducible refine (laws_szConfig.calls k aa0 _ _ la1 _ _ la2 1048576 t214 _ ?side1 ?side2 ?side3 ?side4 A3.out).mono ?_); (case side1 => repeat (first | exact (Kd.C_below HR0_1.out HB.out) | (with_reducible refine ca ?_ _) | (with_reducible refine cN ?_ _) | (with_reducible refine cd1 ?_))); (case side2 => exact HC0_1.out); (case side3 => repeat (first | exact (Kd.C_below HR0_2.out HB.out) | (with_reducible refine ca ?_ _) | (with_reducible refine cN ?_ _) | (with_reducible refine cd1 ?_))); (case side4 => exact HC0_2.out); rintro e w70 ⟨rfl, hb⟩; refine ⟨_, rfl, ?_⟩; have N0 := am (bb (g := g212) (by (with_reducible repeat (first | apply bN | apply bd | apply ba)); exact B212.out) hb); have N1 := am (bb (g := g213) (by (with_reducible repeat (first | apply bN | apply bd | apply ba)); exact B213.out) hb); have N2 := am (bp (by repeat (first | (with_reducible first | exact HB.out | apply pa | apply pN | apply p1 | refine bs ?_ E212.out | refine bs ?_ E213.out) | exact HB.out)) hb); clear B212 B213 HB; have B212 := N0; have B213 := N1; have HB := N2; clear N0 N1 N2; (try clear hb); (try clear hb2); (try clear hk); (try clear hi); have hcz71_0 : w70.cell? ⟨g213, 0, none⟩ = some (I q ab0) := (bc B213.out 0).trans rfl; have hcz71_1 : w70.cell? ⟨g213, 1, none⟩ = some (J Ab1 lb1.length cb1) := (bc B213.out 1).trans rfl; have hcz71_2 : w70.cell? ⟨g213, 2, none⟩ = some (J Ab2 lb2.length cb2) := (bc B213.out 2).trans rfl; have hfz71_0 := bf B213.out 0; have hfz71_1 := bf B213.out 1; have hfz71_2 := bf B213.out 2) | ((with_reducible refine gate_callee (f := 12) rfl ?_); refine goesL_ (some 17) rfl rfl Try.func12 (by kernel_rfl) rfl #[.agg #[I q ab0, J Ab1 lb1.length cb1, J Ab2 lb2.length cb2], I q t214] rfl (by (try simp only [List.map_toArray, List.map_cons, List.map_nil]); first | done | rfl) ?_; (with_reducible refine (laws_szConfig.calls k ab0 _ _ lb1 _ _ lb2 t214 t215 _ ?side1 ?side2 ?side3 ?side4 A10.out).mono ?_); (case side1 => repeat (first | exact (Kd.C_below HR1_1.out HB.out) | (with_reducible refine ca ?_ _) | (with_reducible refine cN ?_ _) | (with_reducible refine cd1 ?_))); (case side2 => exact HC1_1.out); (case side3 => repeat (first | exact (Kd.C_below HR1_2.out HB.out) | (with_reducible refine ca ?_ _) | (with_reducible refine cN ?_ _) | (with_reducible refine cd1 ?_))); (case side4 => exact HC1_2.out); rintro e w72 ⟨rfl, hb⟩; refine ⟨_, rfl, ?_⟩; have N0 := am (bb (g := g212) (by (with_reducible repeat (first | apply bN | apply bd | apply ba)); exact B212.out) hb); have N1 := am (bb (g := g213) (by (with_reducible repeat (first | apply bN | apply bd | apply ba)); exact B213.out) hb); have N2 := am (bp (by repeat (first | (with_reducible first | exact HB.out | apply pa | apply pN | apply p1 | refine bs ?_ E212.out | refine bs ?_ E213.out) | exact HB.out)) hb); clear B212 B213 HB; have B212 := N0; have B213 := N1; have HB := N2; clear N0 N1 N2; (try clear hb); (try clear hb2); (try clear hk); (try clear hi)))
            have N0 := am (bd B212.out)
            have N1 := am (bd B213.out)
            have N2 := am (p1 HB.out)
            clear B212
            clear B213
            clear HB
            have B212 := N0
            have B213 := N1
            have HB := N2
            clear N0 N1 N2
            refine start_ (n := 6) (S := fun w' => w'.cell? ⟨g212, 0, none⟩ = some (I q aa0) ∧ w'.cell? ⟨g212, 1, none⟩ = some (J Aa1 la1.length ca1) ∧ w'.cell? ⟨g212, 2, none⟩ = some (J Aa2 la2.length ca2) ∧ w'.cell? ⟨g213, 0, none⟩ = some (I q ab0) ∧ w'.cell? ⟨g213, 1, none⟩ = some (J Ab1 lb1.length cb1) ∧ w'.cell? ⟨g213, 2, none⟩ = some (J Ab2 lb2.length cb2)) (ds := []) #[false, false, false, false, false, false] (by kernel_rfl) rfl rfl ⟨(bc B212.out 0).trans rfl, (bc B212.out 1).trans rfl, (bc B212.out 2).trans rfl, (bc B213.out 0).trans rfl, (bc B213.out 1).trans rfl, (bc B213.out 2).trans rfl⟩ (fun hHeld => ?_)
            generalize w72.drew = w73 at B212 B213 HB hHeld ⊢
            refine take_ (i := 0) (N := some 20) (v := ?_) (a' := ?_) #[true, false, false, false, false, false] rfl rfl (by kernel_rfl) (fun _ _ _ h => h) (Or.inl ⟨by rfl, ?_⟩) hHeld ?_ ?_
            rotate_left
            · rintro w' ⟨s0, s1, s2, s3, s4, s5⟩
              go_simp
              with_reducible rfl
            rotate_left
            · simp only [Act.put, List.setIfInBounds_toArray, List.set_cons_zero, List.set_cons_succ, i64_w, i32_w]
              rfl
            refine take_ (i := 2) (N := some 22) (v := ?_) (a' := ?_) #[true, false, true, false, false, false] rfl rfl (by kernel_rfl) (fun _ _ _ h => h) (Or.inl ⟨by rfl, ?_⟩) hHeld ?_ ?_
            rotate_left
            · rintro w' ⟨s0, s1, s2, s3, s4, s5⟩
              go_simp
              with_reducible rfl
            rotate_left
            · simp only [Act.put, List.setIfInBounds_toArray, List.set_cons_zero, List.set_cons_succ, i64_w, i32_w]
              rfl
            refine one_ (i := 1) (N := some 21) #[true, true, true, false, false, false] rfl rfl (by kernel_rfl) (by decide) (fun K hK => ?_)
            refine goes_ Try.func14 (by kernel_rfl) rfl #[.agg #[I q aa0, J Aa1 la1.length ca1, J Aa2 la2.length ca2]] (by rfl) rfl rfl (by (try simp only [List.map_toArray, List.map_cons, List.map_nil]); first | done | rfl | (simp only [List.length_drop, List.length_take]; rfl)) ?_
            with_reducible refine (laws_toConfig.calls k aa0 _ _ la1 _ _ la2 t216 t217 t220 _ ?side1 ?side2 ?side3 ?side4 A19.out).mono ?_
            (case side1 => repeat (first | exact (Kd.C_below HR0_1.out HB.out) | (with_reducible refine ca ?_ _) | (with_reducible refine cN ?_ _) | (with_reducible refine cd1 ?_)))
            (case side2 => exact HC0_1.out)
            (case side3 => repeat (first | exact (Kd.C_below HR0_2.out HB.out) | (with_reducible refine ca ?_ _) | (with_reducible refine cN ?_ _) | (with_reducible refine cd1 ?_)))
            (case side4 => exact HC0_2.out)
            rintro e w74 ⟨v218, v221, rfl, ho0, ho1, hb⟩
            refine ⟨_, rfl, ?_⟩
            have N0 := am (rw1 ho0 (bz (by repeat (first | (with_reducible first | exact HB.out | apply pa | apply pN | apply p1 | refine bs ?_ E212.out | refine bs ?_ E213.out) | exact HB.out))))
            have N1 := am (Kd.S_lower ho1 (bz (by repeat (first | (with_reducible first | exact HB.out | apply pa | apply pN | apply p1 | refine bs ?_ E212.out | refine bs ?_ E213.out) | exact HB.out))))
            have N2 := am (bb (g := g212) (by (with_reducible repeat (first | apply bN | apply bd | apply ba)); exact B212.out) hb)
            have N3 := am (bb (g := g213) (by (with_reducible repeat (first | apply bN | apply bd | apply ba)); exact B213.out) hb)
            have N4 := am (bp (by repeat (first | (with_reducible first | exact HB.out | apply pa | apply pN | apply p1 | refine bs ?_ E212.out | refine bs ?_ E213.out) | exact HB.out)) hb)
            clear B212
            clear B213
            clear HB
            have O219 := N0
            have O222 := N1
            have B212 := N2
            have B213 := N3
            have HB := N4
            clear N0 N1 N2 N3 N4
            (try clear hb)
            (try clear hb2)
            (try clear hk)
            (try clear hi)
            (try clear ho0)
            (try clear ho1)
            refine hK.out _ _ ⟨(bc B212.out 0).trans rfl, (bc B212.out 1).trans rfl, (bc B212.out 2).trans rfl, (bc B213.out 0).trans rfl, (bc B213.out 1).trans rfl, (bc B213.out 2).trans rfl⟩ (fun hHeld => ?_)
            clear hK K
            refine norm_ (a' := ?_) ?_ ?_
            rotate_left
            · show Act.put _ (some 21) _ = _
              simp only [Act.put, List.setIfInBounds_toArray, List.set_cons_zero, List.set_cons_succ, i64_w, i32_w]
              rfl
            refine one_ (i := 3) (N := some 23) #[true, true, true, true, false, false] rfl rfl (by kernel_rfl) (by decide) (fun K hK => ?_)
            refine goes_ Try.func14 (by kernel_rfl) rfl #[.agg #[I q ab0, J Ab1 lb1.length cb1, J Ab2 lb2.length cb2]] (by rfl) rfl rfl (by (try simp only [List.map_toArray, List.map_cons, List.map_nil]); first | done | rfl | (simp only [List.length_drop, List.length_take]; rfl)) ?_
            with_reducible refine (laws_toConfig.calls k ab0 _ _ lb1 _ _ lb2 t223 t224 t227 _ ?side1 ?side2 ?side3 ?side4 A20.out).mono ?_
            (case side1 => repeat (first | exact (Kd.C_below HR1_1.out HB.out) | (with_reducible refine ca ?_ _) | (with_reducible refine cN ?_ _) | (with_reducible refine cd1 ?_)))
            (case side2 => exact HC1_1.out)
            (case side3 => repeat (first | exact (Kd.C_below HR1_2.out HB.out) | (with_reducible refine ca ?_ _) | (with_reducible refine cN ?_ _) | (with_reducible refine cd1 ?_)))
            (case side4 => exact HC1_2.out)
            rintro e w75 ⟨v225, v228, rfl, ho0, ho1, hb⟩
            refine ⟨_, rfl, ?_⟩
            have N0 := am (re (by (with_reducible repeat (first | apply ra | apply rN | apply rd1)); exact O219.out) (Kd.R_base ho0) hb)
            have N1 := am (Kd.S_elder' (by (with_reducible repeat (first | apply sa | apply sN | apply sd)); exact O222.out) (Kd.S_base ho1) hb)
            have N2 := am (rw1 (rn ho0 (rl (by (with_reducible repeat (first | apply ra | apply rN | apply rd1)); exact O219.out))) (bz (by repeat (first | (with_reducible first | exact HB.out | apply pa | apply pN | apply p1 | refine bs ?_ E212.out | refine bs ?_ E213.out) | exact HB.out))))
            have N3 := am (Kd.S_lower (Kd.S_new' ho1 (sl (by (with_reducible repeat (first | apply sa | apply sN | apply sd)); exact O222.out))) (bz (by repeat (first | (with_reducible first | exact HB.out | apply pa | apply pN | apply p1 | refine bs ?_ E212.out | refine bs ?_ E213.out) | exact HB.out))))
            have N4 := am (bb (g := g212) (by (with_reducible repeat (first | apply bN | apply bd | apply ba)); exact B212.out) hb)
            have N5 := am (bb (g := g213) (by (with_reducible repeat (first | apply bN | apply bd | apply ba)); exact B213.out) hb)
            have N6 := am (bp (by repeat (first | (with_reducible first | exact HB.out | apply pa | apply pN | apply p1 | refine bs ?_ E212.out | refine bs ?_ E213.out) | exact HB.out)) hb)
            clear O219
            clear O222
            clear B212
            clear B213
            clear HB
            have O219 := N0
            have O222 := N1
            have O226 := N2
            have O229 := N3
            have B212 := N4
            have B213 := N5
            have HB := N6
            clear N0 N1 N2 N3 N4 N5 N6
            (try clear hb)
            (try clear hb2)
            (try clear hk)
            (try clear hi)
            (try clear ho0)
            (try clear ho1)
            obtain ⟨Ao76, co76, eo76⟩ := Kd.R_slice O219.out
            (first | subst eo76 | (injection eo76 with f1_ f2_ f3_; have f4_ := f1_.symm; have f5_ := f3_.symm; clear f1_ f2_ f3_; subst f4_; subst f5_))
            obtain ⟨Ao77, co77, eo77⟩ := Kd.S_slice O222.out
            (first | subst eo77 | (injection eo77 with f1_ f2_ f3_; have f4_ := f1_.symm; have f5_ := f3_.symm; clear f1_ f2_ f3_; subst f4_; subst f5_))
            obtain ⟨Ao78, co78, eo78⟩ := Kd.R_slice O226.out
            (first | subst eo78 | (injection eo78 with f1_ f2_ f3_; have f4_ := f1_.symm; have f5_ := f3_.symm; clear f1_ f2_ f3_; subst f4_; subst f5_))
            obtain ⟨Ao79, co79, eo79⟩ := Kd.S_slice O229.out
            (first | subst eo79 | (injection eo79 with f1_ f2_ f3_; have f4_ := f1_.symm; have f5_ := f3_.symm; clear f1_ f2_ f3_; subst f4_; subst f5_))
            refine hK.out _ _ ⟨(bc B212.out 0).trans rfl, (bc B212.out 1).trans rfl, (bc B212.out 2).trans rfl, (bc B213.out 0).trans rfl, (bc B213.out 1).trans rfl, (bc B213.out 2).trans rfl⟩ (fun hHeld => ?_)
            clear hK K
            refine norm_ (a' := ?_) ?_ ?_
            rotate_left
            · show Act.put _ (some 23) _ = _
              simp only [Act.put, List.setIfInBounds_toArray, List.set_cons_zero, List.set_cons_succ, i64_w, i32_w]
              rfl
            refine one_ (i := 4) (N := some 24) #[true, true, true, true, true, false] rfl rfl (by kernel_rfl) (by decide) (fun K hK => ?_)
            refine goes_ Try.func34 (by kernel_rfl) rfl #[.agg #[I q t216, J Ao76 t217.length co76, J Ao77 t220.length co77], .agg #[I q t223, J Ao78 t224.length co78, J Ao79 t227.length co79]] (by rfl) rfl rfl (by (try simp only [List.map_toArray, List.map_cons, List.map_nil]); first | done | rfl | (simp only [List.length_drop, List.length_take]; rfl)) ?_
            with_reducible refine (spec_SameConfigs.calls k t216 _ _ t217 _ _ t220 t223 _ _ t224 _ _ t227 t230 _ ?side1 ?side2 ?side3 ?side4 ?side5 ?side6 ?side7 ?side8 A21.out).mono ?_
            (case side1 => repeat (first | exact (Kd.R_reads' O219.out).2.2 | (with_reducible refine ca ?_ _) | (with_reducible refine cN ?_ _) | (with_reducible refine cd1 ?_)))
            (case side2 => exact (Kd.R_reads' O219.out).2.1)
            (case side3 => repeat (first | exact (Kd.S_reads' O222.out).2.2 | (with_reducible refine ca ?_ _) | (with_reducible refine cN ?_ _) | (with_reducible refine cd1 ?_)))
            (case side4 => exact (Kd.S_reads' O222.out).2.1)
            (case side5 => repeat (first | exact (Kd.R_reads' O226.out).2.2 | (with_reducible refine ca ?_ _) | (with_reducible refine cN ?_ _) | (with_reducible refine cd1 ?_)))
            (case side6 => exact (Kd.R_reads' O226.out).2.1)
            (case side7 => repeat (first | exact (Kd.S_reads' O229.out).2.2 | (with_reducible refine ca ?_ _) | (with_reducible refine cN ?_ _) | (with_reducible refine cd1 ?_)))
            (case side8 => exact (Kd.S_reads' O229.out).2.1)
            rintro e w80 ⟨rfl, hb⟩
            refine ⟨_, rfl, ?_⟩
            have N0 := am (rb (by (with_reducible repeat (first | apply ra | apply rN | apply rd1)); exact O219.out) hb)
            have N1 := am (Kd.S_below (by (with_reducible repeat (first | apply sa | apply sN | apply sd)); exact O222.out) hb)
            have N2 := am (rb (by (with_reducible repeat (first | apply ra | apply rN | apply rd1)); exact O226.out) hb)
            have N3 := am (Kd.S_below (by (with_reducible repeat (first | apply sa | apply sN | apply sd)); exact O229.out) hb)
            have N4 := am (bb (g := g212) (by (with_reducible repeat (first | apply bN | apply bd | apply ba)); exact B212.out) hb)
            have N5 := am (bb (g := g213) (by (with_reducible repeat (first | apply bN | apply bd | apply ba)); exact B213.out) hb)
            have N6 := am (bp (by repeat (first | (with_reducible first | exact HB.out | apply pa | apply pN | apply p1 | refine bs ?_ E212.out | refine bs ?_ E213.out) | exact HB.out)) hb)
            clear O219
            clear O222
            clear O226
            clear O229
            clear B212
            clear B213
            clear HB
            have O219 := N0
            have O222 := N1
            have O226 := N2
            have O229 := N3
            have B212 := N4
            have B213 := N5
            have HB := N6
            clear N0 N1 N2 N3 N4 N5 N6
            (try clear hb)
            (try clear hb2)
            (try clear hk)
            (try clear hi)
            refine hK.out _ _ ⟨(bc B212.out 0).trans rfl, (bc B212.out 1).trans rfl, (bc B212.out 2).trans rfl, (bc B213.out 0).trans rfl, (bc B213.out 1).trans rfl, (bc B213.out 2).trans rfl⟩ (fun hHeld => ?_)
            clear hK K
            refine norm_ (a' := ?_) ?_ ?_
            rotate_left
            · show Act.put _ (some 24) _ = _
              simp only [Act.put, List.setIfInBounds_toArray, List.set_cons_zero, List.set_cons_succ, i64_w, i32_w]
              rfl
            refine pure_ (i := 5) (N := some 6) (v := ?_) (a' := ?_) #[true, true, true, true, true, true] rfl rfl (by kernel_rfl) (fun _ _ _ h => h) (Or.inl ⟨by rfl, ?_⟩) ?_ ?_
            rotate_left
            · intro w'
              first | (go_simp; with_reducible rfl) | (go_simp; (try unfold Instr.field); go_simp; (try simp only [asAgg]); go_simp; with_reducible rfl)
            rotate_left
            · simp only [Act.put, List.setIfInBounds_toArray, List.set_cons_zero, List.set_cons_succ, i64_w, i32_w]
              rfl
            refine done_ (by kernel_rfl) ?_
            have hcz81_0 : w80.cell? ⟨g212, 0, none⟩ = some (I q aa0) := (bc B212.out 0).trans rfl
            have hcz81_1 : w80.cell? ⟨g212, 1, none⟩ = some (J Aa1 la1.length ca1) := (bc B212.out 1).trans rfl
            have hcz81_2 : w80.cell? ⟨g212, 2, none⟩ = some (J Aa2 la2.length ca2) := (bc B212.out 2).trans rfl
            have hfz81_0 := bf B212.out 0
            have hfz81_1 := bf B212.out 1
            have hfz81_2 := bf B212.out 2
            try go_wp2_with (first | ((with_reducible refine gate_callee (f := 14) rfl ?_); refine goesL_ (some 26) rfl rfl Try.func14 (by kernel_rfl) rfl #[.agg #[I q aa0, J Aa1 la1.length ca1, J Aa2 la2.length ca2]] rfl (by (try simp only [List.map_toArray, List.map_cons, List.map_nil]); first | done | rfl) ?_; (with_reducible refine (laws_toConfig.calls k aa0 _ _ la1 _ _ la2 t231 t232 t235 _ ?side1 ?side2 ?side3 ?side4 A22.out).mono ?_); (case side1 => repeat (first | exact (Kd.C_below HR0_1.out HB.out) | (with_reducible refine ca ?_ _) | (with_reducible refine cN ?_ _) | (with_reducible refine cd1 ?_))); (case side2 => exact HC0_1.out); (case side3 => repeat (first | exact (Kd.C_below HR0_2.out HB.out) | (with_reducible refine ca ?_ _) | (with_reducible refine cN ?_ _) | (with_reducible refine cd1 ?_))); (case side4 => exact HC0_2.out); rintro e w82 ⟨v233, v236, rfl, ho0, ho1, hb⟩; refine ⟨_, rfl, ?_⟩; have N0 := am (re (by (with_reducible repeat (first | apply ra | apply rN | apply rd1)); exact O219.out) (Kd.R_base ho0) hb); have N1 := am (Kd.S_elder' (by (with_reducible repeat (first | apply sa | apply sN | apply sd)); exact O222.out) (Kd.S_base ho1) hb); have N2 := am (re (by (with_reducible repeat (first | apply ra | apply rN | apply rd1)); exact O226.out) (Kd.R_base ho0) hb); have N3 := am (Kd.S_elder' (by (with_reducible repeat (first | apply sa | apply sN | apply sd)); exact O229.out) (Kd.S_base ho1) hb); have N4 := am (rw1 (rn (rn ho0 (rl (by (with_reducible repeat (first | apply ra | apply rN | apply rd1)); exact O219.out))) (rl (by (with_reducible repeat (first | apply ra | apply rN | apply rd1)); exact O226.out))) (bz (by repeat (first | (with_reducible first | exact HB.out | apply pa | apply pN | apply p1 | refine bs ?_ E212.out | refine bs ?_ E213.out) | exact HB.out)))); have N5 := am (Kd.S_lower (Kd.S_new' (Kd.S_new' ho1 (sl (by (with_reducible repeat (first | apply sa | apply sN | apply sd)); exact O222.out))) (sl (by (with_reducible repeat (first | apply sa | apply sN | apply sd)); exact O229.out))) (bz (by repeat (first | (with_reducible first | exact HB.out | apply pa | apply pN | apply p1 | refine bs ?_ E212.out | refine bs ?_ E213.out) | exact HB.out)))); have N6 := am (bb (g := g212) (by (with_reducible repeat (first | apply bN | apply bd | apply ba)); exact B212.out) hb); have N7 := am (bb (g := g213) (by (with_reducible repeat (first | apply bN | apply bd | apply ba)); exact B213.out) hb); have N8 := am (bp (by repeat (first | (with_reducible first | exact HB.out | apply pa | apply pN | apply p1 | refine bs ?_ E212.out | refine bs ?_ E213.out) | exact HB.out)) hb); clear O219 O222 O226 O229 B212 B213 HB; have O219 := N0; have O222 := N1; have O226 := N2; have O229 := N3; have O234 := N4; have O237 := N5; have B212 := N6; have B213 := N7; have HB := N8; clear N0 N1 N2 N3 N4 N5 N6 N7 N8; (try clear hb); (try clear hb2); (try clear hk); (try clear hi); (try clear ho0); (try clear ho1)) | ((with_reducible refine gate_dst (N := 7) rfl ?_); refine box_event ?hg (N := 7) ?hd (cs := #[I q 0, .slice none 0 0, .slice none 0 0]) (t := 31) ?hr ?_; (case hd => rfl); (case hg => rfl); (case hr => first | (go_simp; done) | (go_simp; rfl)); intro g238 hg w83 hbox hb; have N0 := am (rb (by (with_reducible repeat (first | apply ra | apply rN | apply rd1)); exact O219.out) hb); have N1 := am (Kd.S_below (by (with_reducible repeat (first | apply sa | apply sN | apply sd)); exact O222.out) hb); have N2 := am (rb (by (with_reducible repeat (first | apply ra | apply rN | apply rd1)); exact O226.out) hb); have N3 := am (Kd.S_below (by (with_reducible repeat (first | apply sa | apply sN | apply sd)); exact O229.out) hb); have N4 := am (rb (by (with_reducible repeat (first | apply ra | apply rN | apply rd1)); exact O234.out) hb); have N5 := am (Kd.S_below (by (with_reducible repeat (first | apply sa | apply sN | apply sd)); exact O237.out) hb); have N6 := am (bb (g := g212) (by (with_reducible repeat (first | apply bN | apply bd | apply ba)); exact B212.out) hb); have N7 := am (bb (g := g213) (by (with_reducible repeat (first | apply bN | apply bd | apply ba)); exact B213.out) hb); have N8 := am (bp (by repeat (first | (with_reducible first | exact HB.out | apply pa | apply pN | apply p1 | refine bs ?_ E212.out | refine bs ?_ E213.out) | exact HB.out)) hb); have N9 := am (hbox); have N10 := am ((by rw [hg]; exact (bz (by repeat (first | (with_reducible first | exact HB.out | apply pa | apply pN | apply p1 | refine bs ?_ E212.out | refine bs ?_ E213.out) | exact HB.out))) : w.heap.size ≤ g238)); have N11 := am ((by rw [hg]; exact (bz (by repeat (first | (with_reducible first | exact HB.out | apply pa | apply pN | apply p1 | refine bs ?_ E212.out | refine bs ?_ E213.out) | exact HB.out))) : w.heap.size ≤ g238)); have N12 := am ((by rw [hg]; exact Nat.ne_of_lt (bl (g := g212) (by (with_reducible repeat (first | apply bN | apply bd | apply ba)); exact B212.out)) : g212 ≠ g238)); have N13 := am ((by rw [hg]; exact Nat.ne_of_gt (bl (g := g212) (by (with_reducible repeat (first | apply bN | apply bd | apply ba)); exact B212.out)) : g238 ≠ g212)); have N14 := am ((by rw [hg]; exact Nat.ne_of_lt (bl (g := g213) (by (with_reducible repeat (first | apply bN | apply bd | apply ba)); exact B213.out)) : g213 ≠ g238)); have N15 := am ((by rw [hg]; exact Nat.ne_of_gt (bl (g := g213) (by (with_reducible repeat (first | apply bN | apply bd | apply ba)); exact B213.out)) : g238 ≠ g213)); clear O219 O222 O226 O229 O234 O237 B212 B213 HB; have O219 := N0; have O222 := N1; have O226 := N2; have O229 := N3; have O234 := N4; have O237 := N5; have B212 := N6; have B213 := N7; have HB := N8; have B238 := N9; have GW238 := N10; have E238 := N11; have NB212_238 := N12; have NB238_212 := N13; have NB213_238 := N14; have NB238_213 := N15; clear N0 N1 N2 N3 N4 N5 N6 N7 N8 N9 N10 N11 N12 N13 N14 N15 hb hbox hg; have hnb84 := NB238_212.out; have hnc84 := NB212_238.out; have hnb85 := NB238_213.out; have hnc85 := NB213_238.out; have hcz86_0 : w83.cell? ⟨g238, 0, none⟩ = some (I q 0) := (bc B238.out 0).trans rfl; have hcz86_1 : w83.cell? ⟨g238, 1, none⟩ = some (.slice none 0 0) := (bc B238.out 1).trans rfl; have hcz86_2 : w83.cell? ⟨g238, 2, none⟩ = some (.slice none 0 0) := (bc B238.out 2).trans rfl; have hfz86_0 := bf B238.out 0; have hfz86_1 := bf B238.out 1; have hfz86_2 := bf B238.out 2; obtain ⟨Ao87, co87, eo87⟩ := Kd.R_slice O234.out; subst eo87; obtain ⟨Ao88, co88, eo88⟩ := Kd.S_slice O237.out; subst eo88; have hcz89_0 : w83.cell? ⟨g213, 0, none⟩ = some (I q ab0) := (bc B213.out 0).trans rfl; have hcz89_1 : w83.cell? ⟨g213, 1, none⟩ = some (J Ab1 lb1.length cb1) := (bc B213.out 1).trans rfl; have hcz89_2 : w83.cell? ⟨g213, 2, none⟩ = some (J Ab2 lb2.length cb2) := (bc B213.out 2).trans rfl; have hfz89_0 := bf B213.out 0; have hfz89_1 := bf B213.out 1; have hfz89_2 := bf B213.out 2) | ((with_reducible refine gate_callee (f := 14) rfl ?_); refine goesL_ (some 28) rfl rfl Try.func14 (by kernel_rfl) rfl #[.agg #[I q ab0, J Ab1 lb1.length cb1, J Ab2 lb2.length cb2]] rfl (by (try simp only [List.map_toArray, List.map_cons, List.map_nil]); first | done | rfl) ?_; (with_reducible refine (laws_toConfig.calls k ab0 _ _ lb1 _ _ lb2 t239 t240 t243 _ ?side1 ?side2 ?side3 ?side4 A23.out).mono ?_); (case side1 => exact Kd.C_below HR1_1.out (by repeat (first | (with_reducible first | exact HB.out | apply pa | apply pN | apply p1 | refine bs ?_ E212.out | refine bs ?_ E213.out | refine bs ?_ E238.out) | exact HB.out))); (case side2 => exact HC1_1.out); (case side3 => exact Kd.C_below HR1_2.out (by repeat (first | (with_reducible first | exact HB.out | apply pa | apply pN | apply p1 | refine bs ?_ E212.out | refine bs ?_ E213.out | refine bs ?_ E238.out) | exact HB.out))); (case side4 => exact HC1_2.out); rintro e w90 ⟨v241, v244, rfl, ho0, ho1, hb⟩; refine ⟨_, rfl, ?_⟩; have N0 := am (re (by (with_reducible repeat (first | apply ra | apply rN | apply rd1)); exact (Kd.R_mono (rf (p := ⟨g238, 2, none⟩) (rf (p := ⟨g238, 1, none⟩) (rf (p := ⟨g238, 0, none⟩) (Kd.R_types O219.out B238.out (by decide)) (fun _ hk => hk.2) (I q t231)) (fun _ hk => hk.2) (J Ao87 t232.length co87)) (fun _ hk => hk.2) (J Ao88 t235.length co88)) (fun _ h_ => h_.1))) (Kd.R_base ho0) hb); have N1 := am (Kd.S_elder' (by (with_reducible repeat (first | apply sa | apply sN | apply sd)); exact (sm (sf (p := ⟨g238, 2, none⟩) (sf (p := ⟨g238, 1, none⟩) (sf (p := ⟨g238, 0, none⟩) (st O222.out B238.out (by decide)) (fun _ hk => hk.2) (I q t231)) (fun _ hk => hk.2) (J Ao87 t232.length co87)) (fun _ hk => hk.2) (J Ao88 t235.length co88)) (fun _ h_ => h_.1))) (Kd.S_base ho1) hb); have N2 := am (re (by (with_reducible repeat (first | apply ra | apply rN | apply rd1)); exact (Kd.R_mono (rf (p := ⟨g238, 2, none⟩) (rf (p := ⟨g238, 1, none⟩) (rf (p := ⟨g238, 0, none⟩) (Kd.R_types O226.out B238.out (by decide)) (fun _ hk => hk.2) (I q t231)) (fun _ hk => hk.2) (J Ao87 t232.length co87)) (fun _ hk => hk.2) (J Ao88 t235.length co88)) (fun _ h_ => h_.1))) (Kd.R_base ho0) hb); have N3 := am (Kd.S_elder' (by (with_reducible repeat (first | apply sa | apply sN | apply sd)); exact (sm (sf (p := ⟨g238, 2, none⟩) (sf (p := ⟨g238, 1, none⟩) (sf (p := ⟨g238, 0, none⟩) (st O229.out B238.out (by decide)) (fun _ hk => hk.2) (I q t231)) (fun _ hk => hk.2) (J Ao87 t232.length co87)) (fun _ hk => hk.2) (J Ao88 t235.length co88)) (fun _ h_ => h_.1))) (Kd.S_base ho1) hb); have N4 := am (re (by (with_reducible repeat (first | apply ra | apply rN | apply rd1)); exact (Kd.R_mono (rf (p := ⟨g238, 2, none⟩) (rf (p := ⟨g238, 1, none⟩) (rf (p := ⟨g238, 0, none⟩) (Kd.R_types O234.out B238.out (by decide)) (fun _ hk => hk.2) (I q t231)) (fun _ hk => hk.2) (J Ao87 t232.length co87)) (fun _ hk => hk.2) (J Ao88 t235.length co88)) (fun _ h_ => h_.1))) (Kd.R_base ho0) hb); have N5 := am (Kd.S_elder' (by (with_reducible repeat (first | apply sa | apply sN | apply sd)); exact (sm (sf (p := ⟨g238, 2, none⟩) (sf (p := ⟨g238, 1, none⟩) (sf (p := ⟨g238, 0, none⟩) (st O237.out B238.out (by decide)) (fun _ hk => hk.2) (I q t231)) (fun _ hk => hk.2) (J Ao87 t232.length co87)) (fun _ hk => hk.2) (J Ao88 t235.length co88)) (fun _ h_ => h_.1))) (Kd.S_base ho1) hb); have N6 := am (rw1 (rn (rn (rn ho0 (rl (by (with_reducible repeat (first | apply ra | apply rN | apply rd1)); exact (Kd.R_mono (rf (p := ⟨g238, 2, none⟩) (rf (p := ⟨g238, 1, none⟩) (rf (p := ⟨g238, 0, none⟩) (Kd.R_types O219.out B238.out (by decide)) (fun _ hk => hk.2) (I q t231)) (fun _ hk => hk.2) (J Ao87 t232.length co87)) (fun _ hk => hk.2) (J Ao88 t235.length co88)) (fun _ h_ => h_.1))))) (rl (by (with_reducible repeat (first | apply ra | apply rN | apply rd1)); exact (Kd.R_mono (rf (p := ⟨g238, 2, none⟩) (rf (p := ⟨g238, 1, none⟩) (rf (p := ⟨g238, 0, none⟩) (Kd.R_types O226.out B238.out (by decide)) (fun _ hk => hk.2) (I q t231)) (fun _ hk => hk.2) (J Ao87 t232.length co87)) (fun _ hk => hk.2) (J Ao88 t235.length co88)) (fun _ h_ => h_.1))))) (rl (by (with_reducible repeat (first | apply ra | apply rN | apply rd1)); exact (Kd.R_mono (rf (p := ⟨g238, 2, none⟩) (rf (p := ⟨g238, 1, none⟩) (rf (p := ⟨g238, 0, none⟩) (Kd.R_types O234.out B238.out (by decide)) (fun _ hk => hk.2) (I q t231)) (fun _ hk => hk.2) (J Ao87 t232.length co87)) (fun _ hk => hk.2) (J Ao88 t235.length co88)) (fun _ h_ => h_.1))))) (bz (by repeat (first | (with_reducible first | exact HB.out | apply pa | apply pN | apply p1 | refine bs ?_ E212.out | refine bs ?_ E213.out | refine bs ?_ E238.out) | exact HB.out)))); have N7 := am (Kd.S_lower (Kd.S_new' (Kd.S_new' (Kd.S_new' ho1 (sl (by (with_reducible repeat (first | apply sa | apply sN | apply sd)); exact (sm (sf (p := ⟨g238, 2, none⟩) (sf (p := ⟨g238, 1, none⟩) (sf (p := ⟨g238, 0, none⟩) (st O222.out B238.out (by decide)) (fun _ hk => hk.2) (I q t231)) (fun _ hk => hk.2) (J Ao87 t232.length co87)) (fun _ hk => hk.2) (J Ao88 t235.length co88)) (fun _ h_ => h_.1))))) (sl (by (with_reducible repeat (first | apply sa | apply sN | apply sd)); exact (sm (sf (p := ⟨g238, 2, none⟩) (sf (p := ⟨g238, 1, none⟩) (sf (p := ⟨g238, 0, none⟩) (st O229.out B238.out (by decide)) (fun _ hk => hk.2) (I q t231)) (fun _ hk => hk.2) (J Ao87 t232.length co87)) (fun _ hk => hk.2) (J Ao88 t235.length co88)) (fun _ h_ => h_.1))))) (sl (by (with_reducible repeat (first | apply sa | apply sN | apply sd)); exact (sm (sf (p := ⟨g238, 2, none⟩) (sf (p := ⟨g238, 1, none⟩) (sf (p := ⟨g238, 0, none⟩) (st O237.out B238.out (by decide)) (fun _ hk => hk.2) (I q t231)) (fun _ hk => hk.2) (J Ao87 t232.length co87)) (fun _ hk => hk.2) (J Ao88 t235.length co88)) (fun _ h_ => h_.1))))) (bz (by repeat (first | (with_reducible first | exact HB.out | apply pa | apply pN | apply p1 | refine bs ?_ E212.out | refine bs ?_ E213.out | refine bs ?_ E238.out) | exact HB.out)))); have N8 := am (bb (g := g212) (o := .cells #[I q aa0, J Aa1 la1.length ca1, J Aa2 la2.length ca2] 25 (0, 0)) (by (iterate 3 ((with_reducible repeat (first | apply bN | apply bd | apply ba)); refine bq ?_ NB212_238.out _)); (with_reducible repeat (first | apply bN | apply bd | apply ba)); exact B212.out) hb); have N9 := am (bb (g := g213) (o := .cells #[I q ab0, J Ab1 lb1.length cb1, J Ab2 lb2.length cb2] 25 (0, 0)) (by (iterate 3 ((with_reducible repeat (first | apply bN | apply bd | apply ba)); refine bq ?_ NB213_238.out _)); (with_reducible repeat (first | apply bN | apply bd | apply ba)); exact B213.out) hb); have N10 := am (bb (g := g238) (o := .cells #[I q t231, J Ao87 t232.length co87, J Ao88 t235.length co88] 31 (0, 0)) (by (with_reducible repeat (first | apply bN | apply bd | apply ba)); exact pu3 B238.out) hb); have N11 := am (bp (by repeat (first | (with_reducible first | exact HB.out | apply pa | apply pN | apply p1 | refine bs ?_ E212.out | refine bs ?_ E213.out | refine bs ?_ E238.out) | exact HB.out)) hb); clear O219 O222 O226 O229 O234 O237 B212 B213 B238 HB; have O219 := N0; have O222 := N1; have O226 := N2; have O229 := N3; have O234 := N4; have O237 := N5; have O242 := N6; have O245 := N7; have B212 := N8; have B213 := N9; have B238 := N10; have HB := N11; clear N0 N1 N2 N3 N4 N5 N6 N7 N8 N9 N10 N11; (try clear hb); (try clear hb2); (try clear hk); (try clear hi); (try clear ho0); (try clear ho1)) | ((with_reducible refine gate_dst (N := 8) rfl ?_); refine box_event ?hg (N := 8) ?hd (cs := #[I q 0, .slice none 0 0, .slice none 0 0]) (t := 31) ?hr ?_; (case hd => rfl); (case hg => rfl); (case hr => first | (go_simp; done) | (go_simp; rfl)); intro g246 hg w91 hbox hb; have N0 := am (rb (by (with_reducible repeat (first | apply ra | apply rN | apply rd1)); exact O219.out) hb); have N1 := am (Kd.S_below (by (with_reducible repeat (first | apply sa | apply sN | apply sd)); exact O222.out) hb); have N2 := am (rb (by (with_reducible repeat (first | apply ra | apply rN | apply rd1)); exact O226.out) hb); have N3 := am (Kd.S_below (by (with_reducible repeat (first | apply sa | apply sN | apply sd)); exact O229.out) hb); have N4 := am (rb (by (with_reducible repeat (first | apply ra | apply rN | apply rd1)); exact O234.out) hb); have N5 := am (Kd.S_below (by (with_reducible repeat (first | apply sa | apply sN | apply sd)); exact O237.out) hb); have N6 := am (rb (by (with_reducible repeat (first | apply ra | apply rN | apply rd1)); exact O242.out) hb); have N7 := am (Kd.S_below (by (with_reducible repeat (first | apply sa | apply sN | apply sd)); exact O245.out) hb); have N8 := am (bb (g := g212) (by (with_reducible repeat (first | apply bN | apply bd | apply ba)); exact B212.out) hb); have N9 := am (bb (g := g213) (by (with_reducible repeat (first | apply bN | apply bd | apply ba)); exact B213.out) hb); have N10 := am (bb (g := g238) (by (with_reducible repeat (first | apply bN | apply bd | apply ba)); exact B238.out) hb); have N11 := am (bp (by repeat (first | (with_reducible first | exact HB.out | apply pa | apply pN | apply p1 | refine bs ?_ E212.out | refine bs ?_ E213.out | refine bs ?_ E238.out) | exact HB.out)) hb); have N12 := am (hbox); have N13 := am ((by rw [hg]; exact (bz (by repeat (first | (with_reducible first | exact HB.out | apply pa | apply pN | apply p1 | refine bs ?_ E212.out | refine bs ?_ E213.out | refine bs ?_ E238.out) | exact HB.out))) : w.heap.size ≤ g246)); have N14 := am ((by rw [hg]; exact (bz (by repeat (first | (with_reducible first | exact HB.out | apply pa | apply pN | apply p1 | refine bs ?_ E212.out | refine bs ?_ E213.out | refine bs ?_ E238.out) | exact HB.out))) : w.heap.size ≤ g246)); have N15 := am ((by rw [hg]; exact Nat.ne_of_lt (bl (g := g212) (by (with_reducible repeat (first | apply bN | apply bd | apply ba)); exact B212.out)) : g212 ≠ g246)); have N16 := am ((by rw [hg]; exact Nat.ne_of_gt (bl (g := g212) (by (with_reducible repeat (first | apply bN | apply bd | apply ba)); exact B212.out)) : g246 ≠ g212)); have N17 := am ((by rw [hg]; exact Nat.ne_of_lt (bl (g := g213) (by (with_reducible repeat (first | apply bN | apply bd | apply ba)); exact B213.out)) : g213 ≠ g246)); have N18 := am ((by rw [hg]; exact Nat.ne_of_gt (bl (g := g213) (by (with_reducible repeat (first | apply bN | apply bd | apply ba)); exact B213.out)) : g246 ≠ g213)); have N19 := am ((by rw [hg]; exact Nat.ne_of_lt (bl (g := g238) (by (with_reducible repeat (first | apply bN | apply bd | apply ba)); exact B238.out)) : g238 ≠ g246)); have N20 := am ((by rw [hg]; exact Nat.ne_of_gt (bl (g := g238) (by (with_reducible repeat (first | apply bN | apply bd | apply ba)); exact B238.out)) : g246 ≠ g238)); clear O219 O222 O226 O229 O234 O237 O242 O245 B212 B213 B238 HB; have O219 := N0; have O222 := N1; have O226 := N2; have O229 := N3; have O234 := N4; have O237 := N5; have O242 := N6; have O245 := N7; have B212 := N8; have B213 := N9; have B238 := N10; have HB := N11; have B246 := N12; have GW246 := N13; have E246 := N14; have NB212_246 := N15; have NB246_212 := N16; have NB213_246 := N17; have NB246_213 := N18; have NB238_246 := N19; have NB246_238 := N20; clear N0 N1 N2 N3 N4 N5 N6 N7 N8 N9 N10 N11 N12 N13 N14 N15 N16 N17 N18 N19 N20 hb hbox hg; have hnb92 := NB246_212.out; have hnc92 := NB212_246.out; have hnb93 := NB246_213.out; have hnc93 := NB213_246.out; have hnb94 := NB246_238.out; have hnc94 := NB238_246.out; have hcz95_0 : w91.cell? ⟨g246, 0, none⟩ = some (I q 0) := (bc B246.out 0).trans rfl; have hcz95_1 : w91.cell? ⟨g246, 1, none⟩ = some (.slice none 0 0) := (bc B246.out 1).trans rfl; have hcz95_2 : w91.cell? ⟨g246, 2, none⟩ = some (.slice none 0 0) := (bc B246.out 2).trans rfl; have hfz95_0 := bf B246.out 0; have hfz95_1 := bf B246.out 1; have hfz95_2 := bf B246.out 2; obtain ⟨Ao96, co96, eo96⟩ := Kd.R_slice O242.out; subst eo96; obtain ⟨Ao97, co97, eo97⟩ := Kd.S_slice O245.out; subst eo97; have hcz98_0 : w91.cell? ⟨g238, 0, none⟩ = some (I q t231) := (bc B238.out 0).trans rfl; have hcz98_1 : w91.cell? ⟨g238, 1, none⟩ = some (J Ao87 t232.length co87) := (bc B238.out 1).trans rfl; have hcz98_2 : w91.cell? ⟨g238, 2, none⟩ = some (J Ao88 t235.length co88) := (bc B238.out 2).trans rfl; have hfz98_0 := bf B238.out 0; have hfz98_1 := bf B238.out 1; have hfz98_2 := bf B238.out 2) | ((with_reducible refine gate_callee (f := 35) rfl ?_); refine goesL_ (some 31) rfl rfl Try.func35 (by kernel_rfl) rfl #[.agg #[I q t231, J Ao87 t232.length co87, J Ao88 t235.length co88], .agg #[I q t239, J Ao96 t240.length co96, J Ao97 t243.length co97]] rfl (by (try simp only [List.map_toArray, List.map_cons, List.map_nil]); first | done | rfl) ?_; (with_reducible refine (impl_SameConfigs.calls k t231 _ _ t232 _ _ t235 t239 _ _ t240 _ _ t243 t247 _ ?side1 ?side2 ?side3 ?side4 ?side5 ?side6 ?side7 ?side8 A24.out).mono ?_); (case side1 => refine (Kd.R_reads' (e := 36) (base := w.heap.size) (ok := fun k_ => (((True ∧ some k_ ≠ (J Ao76 t217.length co76 : Value).ownBlock) ∧ some k_ ≠ (J Ao78 t224.length co78 : Value).ownBlock) ∧ some k_ ≠ (J Ao96 t240.length co96 : Value).ownBlock)) (n := t232.length) (c := co87) ?_).2.2; exact (by (with_reducible repeat (first | apply ra | apply rN | apply rd1)); exact (Kd.R_mono (rf (p := ⟨g246, 2, none⟩) (rf (p := ⟨g246, 1, none⟩) (rf (p := ⟨g246, 0, none⟩) (Kd.R_types O234.out B246.out (by decide)) (fun _ hk => hk.2) (I q t239)) (fun _ hk => hk.2) (J Ao96 t240.length co96)) (fun _ hk => hk.2) (J Ao97 t243.length co97)) (fun _ h_ => h_.1)))); (case side2 => exact (Kd.R_reads' O234.out).2.1); (case side3 => refine (Kd.S_reads' (e := 64) (base := w.heap.size) (ok := fun k_ => (((True ∧ some k_ ≠ (J Ao77 t220.length co77 : Value).ownBlock) ∧ some k_ ≠ (J Ao79 t227.length co79 : Value).ownBlock) ∧ some k_ ≠ (J Ao97 t243.length co97 : Value).ownBlock)) (n := t235.length) (c := co88) ?_).2.2; exact (by (with_reducible repeat (first | apply sa | apply sN | apply sd)); exact (sm (sf (p := ⟨g246, 2, none⟩) (sf (p := ⟨g246, 1, none⟩) (sf (p := ⟨g246, 0, none⟩) (st O237.out B246.out (by decide)) (fun _ hk => hk.2) (I q t239)) (fun _ hk => hk.2) (J Ao96 t240.length co96)) (fun _ hk => hk.2) (J Ao97 t243.length co97)) (fun _ h_ => h_.1)))); (case side4 => exact (Kd.S_reads' O237.out).2.1); (case side5 => refine (Kd.R_reads' (e := 36) (base := w.heap.size) (ok := fun k_ => (((True ∧ some k_ ≠ (J Ao76 t217.length co76 : Value).ownBlock) ∧ some k_ ≠ (J Ao78 t224.length co78 : Value).ownBlock) ∧ some k_ ≠ (J Ao87 t232.length co87 : Value).ownBlock)) (n := t240.length) (c := co96) ?_).2.2; exact (by (with_reducible repeat (first | apply ra | apply rN | apply rd1)); exact (Kd.R_mono (rf (p := ⟨g246, 2, none⟩) (rf (p := ⟨g246, 1, none⟩) (rf (p := ⟨g246, 0, none⟩) (Kd.R_types O242.out B246.out (by decide)) (fun _ hk => hk.2) (I q t239)) (fun _ hk => hk.2) (J Ao96 t240.length co96)) (fun _ hk => hk.2) (J Ao97 t243.length co97)) (fun _ h_ => h_.1)))); (case side6 => exact (Kd.R_reads' O242.out).2.1); (case side7 => refine (Kd.S_reads' (e := 64) (base := w.heap.size) (ok := fun k_ => (((True ∧ some k_ ≠ (J Ao77 t220.length co77 : Value).ownBlock) ∧ some k_ ≠ (J Ao79 t227.length co79 : Value).ownBlock) ∧ some k_ ≠ (J Ao88 t235.length co88 : Value).ownBlock)) (n := t243.length) (c := co97) ?_).2.2; exact (by (with_reducible repeat (first | apply sa | apply sN | apply sd)); exact (sm (sf (p := ⟨g246, 2, none⟩) (sf (p := ⟨g246, 1, none⟩) (sf (p := ⟨g246, 0, none⟩) (st O245.out B246.out (by decide)) (fun _ hk => hk.2) (I q t239)) (fun _ hk => hk.2) (J Ao96 t240.length co96)) (fun _ hk => hk.2) (J Ao97 t243.length co97)) (fun _ h_ => h_.1)))); (case side8 => exact (Kd.S_reads' O245.out).2.1); rintro e w99 ⟨rfl, hb⟩; refine ⟨_, rfl, ?_⟩; have N0 := am (rb (by (with_reducible repeat (first | apply ra | apply rN | apply rd1)); exact (Kd.R_mono (rf (p := ⟨g246, 2, none⟩) (rf (p := ⟨g246, 1, none⟩) (rf (p := ⟨g246, 0, none⟩) (Kd.R_types O219.out B246.out (by decide)) (fun _ hk => hk.2) (I q t239)) (fun _ hk => hk.2) (J Ao96 t240.length co96)) (fun _ hk => hk.2) (J Ao97 t243.length co97)) (fun _ h_ => h_.1))) hb); have N1 := am (Kd.S_below (by (with_reducible repeat (first | apply sa | apply sN | apply sd)); exact (sm (sf (p := ⟨g246, 2, none⟩) (sf (p := ⟨g246, 1, none⟩) (sf (p := ⟨g246, 0, none⟩) (st O222.out B246.out (by decide)) (fun _ hk => hk.2) (I q t239)) (fun _ hk => hk.2) (J Ao96 t240.length co96)) (fun _ hk => hk.2) (J Ao97 t243.length co97)) (fun _ h_ => h_.1))) hb); have N2 := am (rb (by (with_reducible repeat (first | apply ra | apply rN | apply rd1)); exact (Kd.R_mono (rf (p := ⟨g246, 2, none⟩) (rf (p := ⟨g246, 1, none⟩) (rf (p := ⟨g246, 0, none⟩) (Kd.R_types O226.out B246.out (by decide)) (fun _ hk => hk.2) (I q t239)) (fun _ hk => hk.2) (J Ao96 t240.length co96)) (fun _ hk => hk.2) (J Ao97 t243.length co97)) (fun _ h_ => h_.1))) hb); have N3 := am (Kd.S_below (by (with_reducible repeat (first | apply sa | apply sN | apply sd)); exact (sm (sf (p := ⟨g246, 2, none⟩) (sf (p := ⟨g246, 1, none⟩) (sf (p := ⟨g246, 0, none⟩) (st O229.out B246.out (by decide)) (fun _ hk => hk.2) (I q t239)) (fun _ hk => hk.2) (J Ao96 t240.length co96)) (fun _ hk => hk.2) (J Ao97 t243.length co97)) (fun _ h_ => h_.1))) hb); have N4 := am (rb (by (with_reducible repeat (first | apply ra | apply rN | apply rd1)); exact (Kd.R_mono (rf (p := ⟨g246, 2, none⟩) (rf (p := ⟨g246, 1, none⟩) (rf (p := ⟨g246, 0, none⟩) (Kd.R_types O234.out B246.out (by decide)) (fun _ hk => hk.2) (I q t239)) (fun _ hk => hk.2) (J Ao96 t240.length co96)) (fun _ hk => hk.2) (J Ao97 t243.length co97)) (fun _ h_ => h_.1))) hb); have N5 := am (Kd.S_below (by (with_reducible repeat (first | apply sa | apply sN | apply sd)); exact (sm (sf (p := ⟨g246, 2, none⟩) (sf (p := ⟨g246, 1, none⟩) (sf (p := ⟨g246, 0, none⟩) (st O237.out B246.out (by decide)) (fun _ hk => hk.2) (I q t239)) (fun _ hk => hk.2) (J Ao96 t240.length co96)) (fun _ hk => hk.2) (J Ao97 t243.length co97)) (fun _ h_ => h_.1))) hb); have N6 := am (rb (by (with_reducible repeat (first | apply ra | apply rN | apply rd1)); exact (Kd.R_mono (rf (p := ⟨g246, 2, none⟩) (rf (p := ⟨g246, 1, none⟩) (rf (p := ⟨g246, 0, none⟩) (Kd.R_types O242.out B246.out (by decide)) (fun _ hk => hk.2) (I q t239)) (fun _ hk => hk.2) (J Ao96 t240.length co96)) (fun _ hk => hk.2) (J Ao97 t243.length co97)) (fun _ h_ => h_.1))) hb); have N7 := am (Kd.S_below (by (with_reducible repeat (first | apply sa | apply sN | apply sd)); exact (sm (sf (p := ⟨g246, 2, none⟩) (sf (p := ⟨g246, 1, none⟩) (sf (p := ⟨g246, 0, none⟩) (st O245.out B246.out (by decide)) (fun _ hk => hk.2) (I q t239)) (fun _ hk => hk.2) (J Ao96 t240.length co96)) (fun _ hk => hk.2) (J Ao97 t243.length co97)) (fun _ h_ => h_.1))) hb); have N8 := am (bb (g := g212) (o := .cells #[I q aa0, J Aa1 la1.length ca1, J Aa2 la2.length ca2] 25 (0, 0)) (by (iterate 3 ((with_reducible repeat (first | apply bN | apply bd | apply ba)); refine bq ?_ NB212_246.out _)); (with_reducible repeat (first | apply bN | apply bd | apply ba)); exact B212.out) hb); have N9 := am (bb (g := g213) (o := .cells #[I q ab0, J Ab1 lb1.length cb1, J Ab2 lb2.length cb2] 25 (0, 0)) (by (iterate 3 ((with_reducible repeat (first | apply bN | apply bd | apply ba)); refine bq ?_ NB213_246.out _)); (with_reducible repeat (first | apply bN | apply bd | apply ba)); exact B213.out) hb); have N10 := am (bb (g := g238) (o := .cells #[I q t231, J Ao87 t232.length co87, J Ao88 t235.length co88] 31 (0, 0)) (by (iterate 3 ((with_reducible repeat (first | apply bN | apply bd | apply ba)); refine bq ?_ NB238_246.out _)); (with_reducible repeat (first | apply bN | apply bd | apply ba)); exact B238.out) hb); have N11 := am (bb (g := g246) (o := .cells #[I q t239, J Ao96 t240.length co96, J Ao97 t243.length co97] 31 (0, 0)) (by (with_reducible repeat (first | apply bN | apply bd | apply ba)); exact pu3 B246.out) hb); have N12 := am (bp (by repeat (first | (with_reducible first | exact HB.out | apply pa | apply pN | apply p1 | refine bs ?_ E212.out | refine bs ?_ E213.out | refine bs ?_ E238.out | refine bs ?_ E246.out) | exact HB.out)) hb); clear O219 O222 O226 O229 O234 O237 O242 O245 B212 B213 B238 B246 HB; have O219 := N0; have O222 := N1; have O226 := N2; have O229 := N3; have O234 := N4; have O237 := N5; have O242 := N6; have O245 := N7; have B212 := N8; have B213 := N9; have B238 := N10; have B246 := N11; have HB := N12; clear N0 N1 N2 N3 N4 N5 N6 N7 N8 N9 N10 N11 N12; (try clear hb); (try clear hb2); (try clear hk); (try clear hi)))
            have N0 := am (rd1 O219.out)
            have N1 := am (sd O222.out)
            have N2 := am (rd1 O226.out)
            have N3 := am (sd O229.out)
            have N4 := am (rd1 O234.out)
            have N5 := am (sd O237.out)
            have N6 := am (rd1 O242.out)
            have N7 := am (sd O245.out)
            have N8 := am (bd B212.out)
            have N9 := am (bd B213.out)
            have N10 := am (bd B238.out)
            have N11 := am (bd B246.out)
            have N12 := am (p1 HB.out)
            clear O219
            clear O222
            clear O226
            clear O229
            clear O234
            clear O237
            clear O242
            clear O245
            clear B212
            clear B213
            clear B238
            clear B246
            clear HB
            have O219 := N0
            have O222 := N1
            have O226 := N2
            have O229 := N3
            have O234 := N4
            have O237 := N5
            have O242 := N6
            have O245 := N7
            have B212 := N8
            have B213 := N9
            have B238 := N10
            have B246 := N11
            have HB := N12
            clear N0 N1 N2 N3 N4 N5 N6 N7 N8 N9 N10 N11 N12
            refine start_ (n := 5) (S := fun w' => w'.cell? ⟨g238, 0, none⟩ = some (I q t231) ∧ w'.cell? ⟨g238, 1, none⟩ = some (J Ao87 t232.length co87) ∧ w'.cell? ⟨g238, 2, none⟩ = some (J Ao88 t235.length co88) ∧ w'.cell? ⟨g212, 0, none⟩ = some (I q aa0) ∧ w'.cell? ⟨g212, 1, none⟩ = some (J Aa1 la1.length ca1) ∧ w'.cell? ⟨g212, 2, none⟩ = some (J Aa2 la2.length ca2)) (ds := []) #[false, false, false, false, false] (by kernel_rfl) rfl rfl ⟨(bc B238.out 0).trans rfl, (bc B238.out 1).trans rfl, (bc B238.out 2).trans rfl, (bc B212.out 0).trans rfl, (bc B212.out 1).trans rfl, (bc B212.out 2).trans rfl⟩ (fun hHeld => ?_)
            generalize w99.drew = w100 at O219 O222 O226 O229 O234 O237 O242 O245 B212 B213 B238 B246 HB hHeld ⊢
            refine take_ (i := 0) (N := some 35) (v := ?_) (a' := ?_) #[true, false, false, false, false] rfl rfl (by kernel_rfl) (fun _ _ _ h => h) (Or.inl ⟨by rfl, ?_⟩) hHeld ?_ ?_
            rotate_left
            · rintro w' ⟨s0, s1, s2, s3, s4, s5⟩
              go_simp
              with_reducible rfl
            rotate_left
            · simp only [Act.put, List.setIfInBounds_toArray, List.set_cons_zero, List.set_cons_succ, i64_w, i32_w]
              rfl
            refine take_ (i := 1) (N := some 36) (v := ?_) (a' := ?_) #[true, true, false, false, false] rfl rfl (by kernel_rfl) (fun _ _ _ h => h) (Or.inl ⟨by rfl, ?_⟩) hHeld ?_ ?_
            rotate_left
            · rintro w' ⟨s0, s1, s2, s3, s4, s5⟩
              go_simp
              with_reducible rfl
            rotate_left
            · simp only [Act.put, List.setIfInBounds_toArray, List.set_cons_zero, List.set_cons_succ, i64_w, i32_w]
              rfl
            refine one_ (i := 2) (N := some 37) #[true, true, true, false, false] rfl rfl (by kernel_rfl) (by decide) (fun K hK => ?_)
            refine goes_ Try.func14 (by kernel_rfl) rfl #[.agg #[I q aa0, J Aa1 la1.length ca1, J Aa2 la2.length ca2]] (by rfl) rfl rfl (by (try simp only [List.map_toArray, List.map_cons, List.map_nil]); first | done | rfl | (simp only [List.length_drop, List.length_take]; rfl)) ?_
            with_reducible refine (laws_toConfig.calls k aa0 _ _ la1 _ _ la2 t248 t249 t252 _ ?side1 ?side2 ?side3 ?side4 A60.out).mono ?_
            (case side1 => repeat (first | exact (Kd.C_below HR0_1.out HB.out) | (with_reducible refine ca ?_ _) | (with_reducible refine cN ?_ _) | (with_reducible refine cd1 ?_)))
            (case side2 => exact HC0_1.out)
            (case side3 => repeat (first | exact (Kd.C_below HR0_2.out HB.out) | (with_reducible refine ca ?_ _) | (with_reducible refine cN ?_ _) | (with_reducible refine cd1 ?_)))
            (case side4 => exact HC0_2.out)
            rintro e w101 ⟨v250, v253, rfl, ho0, ho1, hb⟩
            refine ⟨_, rfl, ?_⟩
            have N0 := am (re (by (with_reducible repeat (first | apply ra | apply rN | apply rd1)); exact O219.out) (Kd.R_base ho0) hb)
            have N1 := am (Kd.S_elder' (by (with_reducible repeat (first | apply sa | apply sN | apply sd)); exact O222.out) (Kd.S_base ho1) hb)
            have N2 := am (re (by (with_reducible repeat (first | apply ra | apply rN | apply rd1)); exact O226.out) (Kd.R_base ho0) hb)
            have N3 := am (Kd.S_elder' (by (with_reducible repeat (first | apply sa | apply sN | apply sd)); exact O229.out) (Kd.S_base ho1) hb)
            have N4 := am (re (by (with_reducible repeat (first | apply ra | apply rN | apply rd1)); exact O234.out) (Kd.R_base ho0) hb)
            have N5 := am (Kd.S_elder' (by (with_reducible repeat (first | apply sa | apply sN | apply sd)); exact O237.out) (Kd.S_base ho1) hb)
            have N6 := am (re (by (with_reducible repeat (first | apply ra | apply rN | apply rd1)); exact O242.out) (Kd.R_base ho0) hb)
            have N7 := am (Kd.S_elder' (by (with_reducible repeat (first | apply sa | apply sN | apply sd)); exact O245.out) (Kd.S_base ho1) hb)
            have N8 := am (rw1 (rn (rn (rn (rn ho0 (rl (by (with_reducible repeat (first | apply ra | apply rN | apply rd1)); exact O219.out))) (rl (by (with_reducible repeat (first | apply ra | apply rN | apply rd1)); exact O226.out))) (rl (by (with_reducible repeat (first | apply ra | apply rN | apply rd1)); exact O234.out))) (rl (by (with_reducible repeat (first | apply ra | apply rN | apply rd1)); exact O242.out))) (bz (by repeat (first | (with_reducible first | exact HB.out | apply pa | apply pN | apply p1 | refine bs ?_ E212.out | refine bs ?_ E213.out | refine bs ?_ E238.out | refine bs ?_ E246.out) | exact HB.out))))
            have N9 := am (Kd.S_lower (Kd.S_new' (Kd.S_new' (Kd.S_new' (Kd.S_new' ho1 (sl (by (with_reducible repeat (first | apply sa | apply sN | apply sd)); exact O222.out))) (sl (by (with_reducible repeat (first | apply sa | apply sN | apply sd)); exact O229.out))) (sl (by (with_reducible repeat (first | apply sa | apply sN | apply sd)); exact O237.out))) (sl (by (with_reducible repeat (first | apply sa | apply sN | apply sd)); exact O245.out))) (bz (by repeat (first | (with_reducible first | exact HB.out | apply pa | apply pN | apply p1 | refine bs ?_ E212.out | refine bs ?_ E213.out | refine bs ?_ E238.out | refine bs ?_ E246.out) | exact HB.out))))
            have N10 := am (bb (g := g212) (by (with_reducible repeat (first | apply bN | apply bd | apply ba)); exact B212.out) hb)
            have N11 := am (bb (g := g213) (by (with_reducible repeat (first | apply bN | apply bd | apply ba)); exact B213.out) hb)
            have N12 := am (bb (g := g238) (by (with_reducible repeat (first | apply bN | apply bd | apply ba)); exact B238.out) hb)
            have N13 := am (bb (g := g246) (by (with_reducible repeat (first | apply bN | apply bd | apply ba)); exact B246.out) hb)
            have N14 := am (bp (by repeat (first | (with_reducible first | exact HB.out | apply pa | apply pN | apply p1 | refine bs ?_ E212.out | refine bs ?_ E213.out | refine bs ?_ E238.out | refine bs ?_ E246.out) | exact HB.out)) hb)
            clear O219
            clear O222
            clear O226
            clear O229
            clear O234
            clear O237
            clear O242
            clear O245
            clear B212
            clear B213
            clear B238
            clear B246
            clear HB
            have O219 := N0
            have O222 := N1
            have O226 := N2
            have O229 := N3
            have O234 := N4
            have O237 := N5
            have O242 := N6
            have O245 := N7
            have O251 := N8
            have O254 := N9
            have B212 := N10
            have B213 := N11
            have B238 := N12
            have B246 := N13
            have HB := N14
            clear N0 N1 N2 N3 N4 N5 N6 N7 N8 N9 N10 N11 N12 N13 N14
            (try clear hb)
            (try clear hb2)
            (try clear hk)
            (try clear hi)
            (try clear ho0)
            (try clear ho1)
            obtain ⟨Ao102, co102, eo102⟩ := Kd.R_slice O251.out
            (first | subst eo102 | (injection eo102 with f1_ f2_ f3_; have f4_ := f1_.symm; have f5_ := f3_.symm; clear f1_ f2_ f3_; subst f4_; subst f5_))
            obtain ⟨Ao103, co103, eo103⟩ := Kd.S_slice O254.out
            (first | subst eo103 | (injection eo103 with f1_ f2_ f3_; have f4_ := f1_.symm; have f5_ := f3_.symm; clear f1_ f2_ f3_; subst f4_; subst f5_))
            refine hK.out _ _ ⟨(bc B238.out 0).trans rfl, (bc B238.out 1).trans rfl, (bc B238.out 2).trans rfl, (bc B212.out 0).trans rfl, (bc B212.out 1).trans rfl, (bc B212.out 2).trans rfl⟩ (fun hHeld => ?_)
            clear hK K
            refine norm_ (a' := ?_) ?_ ?_
            rotate_left
            · show Act.put _ (some 37) _ = _
              simp only [Act.put, List.setIfInBounds_toArray, List.set_cons_zero, List.set_cons_succ, i64_w, i32_w]
              rfl
            refine one_ (i := 3) (N := some 38) #[true, true, true, true, false] rfl rfl (by kernel_rfl) (by decide) (fun K hK => ?_)
            refine goes_ Try.func16 (by kernel_rfl) rfl #[.agg #[I q t231, J Ao87 t232.length co87, J Ao88 t235.length co88], .agg #[I q t248, J Ao102 t249.length co102, J Ao103 t252.length co103]] (by rfl) rfl rfl (by (try simp only [List.map_toArray, List.map_cons, List.map_nil]); first | done | rfl | (simp only [List.length_drop, List.length_take]; rfl)) ?_
            with_reducible refine (laws_eqConfig.calls k t231 _ _ t232 _ _ t235 t248 _ _ t249 _ _ t252 true _ ?side1 ?side2 ?side3 ?side4 ?side5 ?side6 ?side7 ?side8 A61.out).mono ?_
            (case side1 => repeat (first | exact (Kd.R_reads' O234.out).2.2 | (with_reducible refine ca ?_ _) | (with_reducible refine cN ?_ _) | (with_reducible refine cd1 ?_)))
            (case side2 => exact (Kd.R_reads' O234.out).2.1)
            (case side3 => repeat (first | exact (Kd.S_reads' O237.out).2.2 | (with_reducible refine ca ?_ _) | (with_reducible refine cN ?_ _) | (with_reducible refine cd1 ?_)))
            (case side4 => exact (Kd.S_reads' O237.out).2.1)
            (case side5 => repeat (first | exact (Kd.R_reads' O251.out).2.2 | (with_reducible refine ca ?_ _) | (with_reducible refine cN ?_ _) | (with_reducible refine cd1 ?_)))
            (case side6 => exact (Kd.R_reads' O251.out).2.1)
            (case side7 => repeat (first | exact (Kd.S_reads' O254.out).2.2 | (with_reducible refine ca ?_ _) | (with_reducible refine cN ?_ _) | (with_reducible refine cd1 ?_)))
            (case side8 => exact (Kd.S_reads' O254.out).2.1)
            rintro e w104 ⟨rfl, hb⟩
            refine ⟨_, rfl, ?_⟩
            have N0 := am (rb (by (with_reducible repeat (first | apply ra | apply rN | apply rd1)); exact O219.out) hb)
            have N1 := am (Kd.S_below (by (with_reducible repeat (first | apply sa | apply sN | apply sd)); exact O222.out) hb)
            have N2 := am (rb (by (with_reducible repeat (first | apply ra | apply rN | apply rd1)); exact O226.out) hb)
            have N3 := am (Kd.S_below (by (with_reducible repeat (first | apply sa | apply sN | apply sd)); exact O229.out) hb)
            have N4 := am (rb (by (with_reducible repeat (first | apply ra | apply rN | apply rd1)); exact O234.out) hb)
            have N5 := am (Kd.S_below (by (with_reducible repeat (first | apply sa | apply sN | apply sd)); exact O237.out) hb)
            have N6 := am (rb (by (with_reducible repeat (first | apply ra | apply rN | apply rd1)); exact O242.out) hb)
            have N7 := am (Kd.S_below (by (with_reducible repeat (first | apply sa | apply sN | apply sd)); exact O245.out) hb)
            have N8 := am (rb (by (with_reducible repeat (first | apply ra | apply rN | apply rd1)); exact O251.out) hb)
            have N9 := am (Kd.S_below (by (with_reducible repeat (first | apply sa | apply sN | apply sd)); exact O254.out) hb)
            have N10 := am (bb (g := g212) (by (with_reducible repeat (first | apply bN | apply bd | apply ba)); exact B212.out) hb)
            have N11 := am (bb (g := g213) (by (with_reducible repeat (first | apply bN | apply bd | apply ba)); exact B213.out) hb)
            have N12 := am (bb (g := g238) (by (with_reducible repeat (first | apply bN | apply bd | apply ba)); exact B238.out) hb)
            have N13 := am (bb (g := g246) (by (with_reducible repeat (first | apply bN | apply bd | apply ba)); exact B246.out) hb)
            have N14 := am (bp (by repeat (first | (with_reducible first | exact HB.out | apply pa | apply pN | apply p1 | refine bs ?_ E212.out | refine bs ?_ E213.out | refine bs ?_ E238.out | refine bs ?_ E246.out) | exact HB.out)) hb)
            clear O219
            clear O222
            clear O226
            clear O229
            clear O234
            clear O237
            clear O242
            clear O245
            clear O251
            clear O254
            clear B212
            clear B213
            clear B238
            clear B246
            clear HB
            have O219 := N0
            have O222 := N1
            have O226 := N2
            have O229 := N3
            have O234 := N4
            have O237 := N5
            have O242 := N6
            have O245 := N7
            have O251 := N8
            have O254 := N9
            have B212 := N10
            have B213 := N11
            have B238 := N12
            have B246 := N13
            have HB := N14
            clear N0 N1 N2 N3 N4 N5 N6 N7 N8 N9 N10 N11 N12 N13 N14
            (try clear hb)
            (try clear hb2)
            (try clear hk)
            (try clear hi)
            refine hK.out _ _ ⟨(bc B238.out 0).trans rfl, (bc B238.out 1).trans rfl, (bc B238.out 2).trans rfl, (bc B212.out 0).trans rfl, (bc B212.out 1).trans rfl, (bc B212.out 2).trans rfl⟩ (fun hHeld => ?_)
            clear hK K
            refine norm_ (a' := ?_) ?_ ?_
            rotate_left
            · show Act.put _ (some 38) _ = _
              simp only [Act.put, List.setIfInBounds_toArray, List.set_cons_zero, List.set_cons_succ, i64_w, i32_w]
              rfl
            refine pure_ (i := 4) (N := some 39) (v := ?_) (a' := ?_) #[true, true, true, true, true] rfl rfl (by kernel_rfl) (fun _ _ _ h => h) (Or.inl ⟨by rfl, ?_⟩) ?_ ?_
            rotate_left
            · intro w'
              first | (go_simp; with_reducible rfl) | (go_simp; (try unfold Instr.field); go_simp; (try simp only [asAgg]); go_simp; with_reducible rfl)
            rotate_left
            · simp only [Act.put, List.setIfInBounds_toArray, List.set_cons_zero, List.set_cons_succ, i64_w, i32_w]
              rfl
            refine done_ (by kernel_rfl) ?_
            try go_wp2
            have N0 := am (rd1 O219.out)
            have N1 := am (sd O222.out)
            have N2 := am (rd1 O226.out)
            have N3 := am (sd O229.out)
            have N4 := am (rd1 O234.out)
            have N5 := am (sd O237.out)
            have N6 := am (rd1 O242.out)
            have N7 := am (sd O245.out)
            have N8 := am (rd1 O251.out)
            have N9 := am (sd O254.out)
            have N10 := am (bd B212.out)
            have N11 := am (bd B213.out)
            have N12 := am (bd B238.out)
            have N13 := am (bd B246.out)
            have N14 := am (p1 HB.out)
            clear O219
            clear O222
            clear O226
            clear O229
            clear O234
            clear O237
            clear O242
            clear O245
            clear O251
            clear O254
            clear B212
            clear B213
            clear B238
            clear B246
            clear HB
            have O219 := N0
            have O222 := N1
            have O226 := N2
            have O229 := N3
            have O234 := N4
            have O237 := N5
            have O242 := N6
            have O245 := N7
            have O251 := N8
            have O254 := N9
            have B212 := N10
            have B213 := N11
            have B238 := N12
            have B246 := N13
            have HB := N14
            clear N0 N1 N2 N3 N4 N5 N6 N7 N8 N9 N10 N11 N12 N13 N14
            refine start_ (n := 5) (S := fun w' => w'.cell? ⟨g246, 0, none⟩ = some (I q t239) ∧ w'.cell? ⟨g246, 1, none⟩ = some (J Ao96 t240.length co96) ∧ w'.cell? ⟨g246, 2, none⟩ = some (J Ao97 t243.length co97) ∧ w'.cell? ⟨g213, 0, none⟩ = some (I q ab0) ∧ w'.cell? ⟨g213, 1, none⟩ = some (J Ab1 lb1.length cb1) ∧ w'.cell? ⟨g213, 2, none⟩ = some (J Ab2 lb2.length cb2)) (ds := []) #[false, false, false, false, false] (by kernel_rfl) rfl rfl ⟨(bc B246.out 0).trans rfl, (bc B246.out 1).trans rfl, (bc B246.out 2).trans rfl, (bc B213.out 0).trans rfl, (bc B213.out 1).trans rfl, (bc B213.out 2).trans rfl⟩ (fun hHeld => ?_)
            generalize w104.drew = w105 at O219 O222 O226 O229 O234 O237 O242 O245 O251 O254 B212 B213 B238 B246 HB hHeld ⊢
            refine take_ (i := 0) (N := some 40) (v := ?_) (a' := ?_) #[true, false, false, false, false] rfl rfl (by kernel_rfl) (fun _ _ _ h => h) (Or.inl ⟨by rfl, ?_⟩) hHeld ?_ ?_
            rotate_left
            · rintro w' ⟨s0, s1, s2, s3, s4, s5⟩
              go_simp
              with_reducible rfl
            rotate_left
            · simp only [Act.put, List.setIfInBounds_toArray, List.set_cons_zero, List.set_cons_succ, i64_w, i32_w]
              rfl
            refine take_ (i := 1) (N := some 41) (v := ?_) (a' := ?_) #[true, true, false, false, false] rfl rfl (by kernel_rfl) (fun _ _ _ h => h) (Or.inl ⟨by rfl, ?_⟩) hHeld ?_ ?_
            rotate_left
            · rintro w' ⟨s0, s1, s2, s3, s4, s5⟩
              go_simp
              with_reducible rfl
            rotate_left
            · simp only [Act.put, List.setIfInBounds_toArray, List.set_cons_zero, List.set_cons_succ, i64_w, i32_w]
              rfl
            refine one_ (i := 2) (N := some 42) #[true, true, true, false, false] rfl rfl (by kernel_rfl) (by decide) (fun K hK => ?_)
            refine goes_ Try.func14 (by kernel_rfl) rfl #[.agg #[I q ab0, J Ab1 lb1.length cb1, J Ab2 lb2.length cb2]] (by rfl) rfl rfl (by (try simp only [List.map_toArray, List.map_cons, List.map_nil]); first | done | rfl | (simp only [List.length_drop, List.length_take]; rfl)) ?_
            with_reducible refine (laws_toConfig.calls k ab0 _ _ lb1 _ _ lb2 t256 t257 t260 _ ?side1 ?side2 ?side3 ?side4 A63.out).mono ?_
            (case side1 => repeat (first | exact (Kd.C_below HR1_1.out HB.out) | (with_reducible refine ca ?_ _) | (with_reducible refine cN ?_ _) | (with_reducible refine cd1 ?_)))
            (case side2 => exact HC1_1.out)
            (case side3 => repeat (first | exact (Kd.C_below HR1_2.out HB.out) | (with_reducible refine ca ?_ _) | (with_reducible refine cN ?_ _) | (with_reducible refine cd1 ?_)))
            (case side4 => exact HC1_2.out)
            rintro e w106 ⟨v258, v261, rfl, ho0, ho1, hb⟩
            refine ⟨_, rfl, ?_⟩
            have N0 := am (re (by (with_reducible repeat (first | apply ra | apply rN | apply rd1)); exact O219.out) (Kd.R_base ho0) hb)
            have N1 := am (Kd.S_elder' (by (with_reducible repeat (first | apply sa | apply sN | apply sd)); exact O222.out) (Kd.S_base ho1) hb)
            have N2 := am (re (by (with_reducible repeat (first | apply ra | apply rN | apply rd1)); exact O226.out) (Kd.R_base ho0) hb)
            have N3 := am (Kd.S_elder' (by (with_reducible repeat (first | apply sa | apply sN | apply sd)); exact O229.out) (Kd.S_base ho1) hb)
            have N4 := am (re (by (with_reducible repeat (first | apply ra | apply rN | apply rd1)); exact O234.out) (Kd.R_base ho0) hb)
            have N5 := am (Kd.S_elder' (by (with_reducible repeat (first | apply sa | apply sN | apply sd)); exact O237.out) (Kd.S_base ho1) hb)
            have N6 := am (re (by (with_reducible repeat (first | apply ra | apply rN | apply rd1)); exact O242.out) (Kd.R_base ho0) hb)
            have N7 := am (Kd.S_elder' (by (with_reducible repeat (first | apply sa | apply sN | apply sd)); exact O245.out) (Kd.S_base ho1) hb)
            have N8 := am (re (by (with_reducible repeat (first | apply ra | apply rN | apply rd1)); exact O251.out) (Kd.R_base ho0) hb)
            have N9 := am (Kd.S_elder' (by (with_reducible repeat (first | apply sa | apply sN | apply sd)); exact O254.out) (Kd.S_base ho1) hb)
            have N10 := am (rw1 (rn (rn (rn (rn (rn ho0 (rl (by (with_reducible repeat (first | apply ra | apply rN | apply rd1)); exact O219.out))) (rl (by (with_reducible repeat (first | apply ra | apply rN | apply rd1)); exact O226.out))) (rl (by (with_reducible repeat (first | apply ra | apply rN | apply rd1)); exact O234.out))) (rl (by (with_reducible repeat (first | apply ra | apply rN | apply rd1)); exact O242.out))) (rl (by (with_reducible repeat (first | apply ra | apply rN | apply rd1)); exact O251.out))) (bz (by repeat (first | (with_reducible first | exact HB.out | apply pa | apply pN | apply p1 | refine bs ?_ E212.out | refine bs ?_ E213.out | refine bs ?_ E238.out | refine bs ?_ E246.out) | exact HB.out))))
            have N11 := am (Kd.S_lower (Kd.S_new' (Kd.S_new' (Kd.S_new' (Kd.S_new' (Kd.S_new' ho1 (sl (by (with_reducible repeat (first | apply sa | apply sN | apply sd)); exact O222.out))) (sl (by (with_reducible repeat (first | apply sa | apply sN | apply sd)); exact O229.out))) (sl (by (with_reducible repeat (first | apply sa | apply sN | apply sd)); exact O237.out))) (sl (by (with_reducible repeat (first | apply sa | apply sN | apply sd)); exact O245.out))) (sl (by (with_reducible repeat (first | apply sa | apply sN | apply sd)); exact O254.out))) (bz (by repeat (first | (with_reducible first | exact HB.out | apply pa | apply pN | apply p1 | refine bs ?_ E212.out | refine bs ?_ E213.out | refine bs ?_ E238.out | refine bs ?_ E246.out) | exact HB.out))))
            have N12 := am (bb (g := g212) (by (with_reducible repeat (first | apply bN | apply bd | apply ba)); exact B212.out) hb)
            have N13 := am (bb (g := g213) (by (with_reducible repeat (first | apply bN | apply bd | apply ba)); exact B213.out) hb)
            have N14 := am (bb (g := g238) (by (with_reducible repeat (first | apply bN | apply bd | apply ba)); exact B238.out) hb)
            have N15 := am (bb (g := g246) (by (with_reducible repeat (first | apply bN | apply bd | apply ba)); exact B246.out) hb)
            have N16 := am (bp (by repeat (first | (with_reducible first | exact HB.out | apply pa | apply pN | apply p1 | refine bs ?_ E212.out | refine bs ?_ E213.out | refine bs ?_ E238.out | refine bs ?_ E246.out) | exact HB.out)) hb)
            clear O219
            clear O222
            clear O226
            clear O229
            clear O234
            clear O237
            clear O242
            clear O245
            clear O251
            clear O254
            clear B212
            clear B213
            clear B238
            clear B246
            clear HB
            have O219 := N0
            have O222 := N1
            have O226 := N2
            have O229 := N3
            have O234 := N4
            have O237 := N5
            have O242 := N6
            have O245 := N7
            have O251 := N8
            have O254 := N9
            have O259 := N10
            have O262 := N11
            have B212 := N12
            have B213 := N13
            have B238 := N14
            have B246 := N15
            have HB := N16
            clear N0 N1 N2 N3 N4 N5 N6 N7 N8 N9 N10 N11 N12 N13 N14 N15 N16
            (try clear hb)
            (try clear hb2)
            (try clear hk)
            (try clear hi)
            (try clear ho0)
            (try clear ho1)
            obtain ⟨Ao107, co107, eo107⟩ := Kd.R_slice O259.out
            (first | subst eo107 | (injection eo107 with f1_ f2_ f3_; have f4_ := f1_.symm; have f5_ := f3_.symm; clear f1_ f2_ f3_; subst f4_; subst f5_))
            obtain ⟨Ao108, co108, eo108⟩ := Kd.S_slice O262.out
            (first | subst eo108 | (injection eo108 with f1_ f2_ f3_; have f4_ := f1_.symm; have f5_ := f3_.symm; clear f1_ f2_ f3_; subst f4_; subst f5_))
            refine hK.out _ _ ⟨(bc B246.out 0).trans rfl, (bc B246.out 1).trans rfl, (bc B246.out 2).trans rfl, (bc B213.out 0).trans rfl, (bc B213.out 1).trans rfl, (bc B213.out 2).trans rfl⟩ (fun hHeld => ?_)
            clear hK K
            refine norm_ (a' := ?_) ?_ ?_
            rotate_left
            · show Act.put _ (some 42) _ = _
              simp only [Act.put, List.setIfInBounds_toArray, List.set_cons_zero, List.set_cons_succ, i64_w, i32_w]
              rfl
            refine one_ (i := 3) (N := some 43) #[true, true, true, true, false] rfl rfl (by kernel_rfl) (by decide) (fun K hK => ?_)
            refine goes_ Try.func16 (by kernel_rfl) rfl #[.agg #[I q t239, J Ao96 t240.length co96, J Ao97 t243.length co97], .agg #[I q t256, J Ao107 t257.length co107, J Ao108 t260.length co108]] (by rfl) rfl rfl (by (try simp only [List.map_toArray, List.map_cons, List.map_nil]); first | done | rfl | (simp only [List.length_drop, List.length_take]; rfl)) ?_
            with_reducible refine (laws_eqConfig.calls k t239 _ _ t240 _ _ t243 t256 _ _ t257 _ _ t260 true _ ?side1 ?side2 ?side3 ?side4 ?side5 ?side6 ?side7 ?side8 A64.out).mono ?_
            (case side1 => repeat (first | exact (Kd.R_reads' O242.out).2.2 | (with_reducible refine ca ?_ _) | (with_reducible refine cN ?_ _) | (with_reducible refine cd1 ?_)))
            (case side2 => exact (Kd.R_reads' O242.out).2.1)
            (case side3 => repeat (first | exact (Kd.S_reads' O245.out).2.2 | (with_reducible refine ca ?_ _) | (with_reducible refine cN ?_ _) | (with_reducible refine cd1 ?_)))
            (case side4 => exact (Kd.S_reads' O245.out).2.1)
            (case side5 => repeat (first | exact (Kd.R_reads' O259.out).2.2 | (with_reducible refine ca ?_ _) | (with_reducible refine cN ?_ _) | (with_reducible refine cd1 ?_)))
            (case side6 => exact (Kd.R_reads' O259.out).2.1)
            (case side7 => repeat (first | exact (Kd.S_reads' O262.out).2.2 | (with_reducible refine ca ?_ _) | (with_reducible refine cN ?_ _) | (with_reducible refine cd1 ?_)))
            (case side8 => exact (Kd.S_reads' O262.out).2.1)
            rintro e w109 ⟨rfl, hb⟩
            refine ⟨_, rfl, ?_⟩
            have N0 := am (rb (by (with_reducible repeat (first | apply ra | apply rN | apply rd1)); exact O219.out) hb)
            have N1 := am (Kd.S_below (by (with_reducible repeat (first | apply sa | apply sN | apply sd)); exact O222.out) hb)
            have N2 := am (rb (by (with_reducible repeat (first | apply ra | apply rN | apply rd1)); exact O226.out) hb)
            have N3 := am (Kd.S_below (by (with_reducible repeat (first | apply sa | apply sN | apply sd)); exact O229.out) hb)
            have N4 := am (rb (by (with_reducible repeat (first | apply ra | apply rN | apply rd1)); exact O234.out) hb)
            have N5 := am (Kd.S_below (by (with_reducible repeat (first | apply sa | apply sN | apply sd)); exact O237.out) hb)
            have N6 := am (rb (by (with_reducible repeat (first | apply ra | apply rN | apply rd1)); exact O242.out) hb)
            have N7 := am (Kd.S_below (by (with_reducible repeat (first | apply sa | apply sN | apply sd)); exact O245.out) hb)
            have N8 := am (rb (by (with_reducible repeat (first | apply ra | apply rN | apply rd1)); exact O251.out) hb)
            have N9 := am (Kd.S_below (by (with_reducible repeat (first | apply sa | apply sN | apply sd)); exact O254.out) hb)
            have N10 := am (rb (by (with_reducible repeat (first | apply ra | apply rN | apply rd1)); exact O259.out) hb)
            have N11 := am (Kd.S_below (by (with_reducible repeat (first | apply sa | apply sN | apply sd)); exact O262.out) hb)
            have N12 := am (bb (g := g212) (by (with_reducible repeat (first | apply bN | apply bd | apply ba)); exact B212.out) hb)
            have N13 := am (bb (g := g213) (by (with_reducible repeat (first | apply bN | apply bd | apply ba)); exact B213.out) hb)
            have N14 := am (bb (g := g238) (by (with_reducible repeat (first | apply bN | apply bd | apply ba)); exact B238.out) hb)
            have N15 := am (bb (g := g246) (by (with_reducible repeat (first | apply bN | apply bd | apply ba)); exact B246.out) hb)
            have N16 := am (bp (by repeat (first | (with_reducible first | exact HB.out | apply pa | apply pN | apply p1 | refine bs ?_ E212.out | refine bs ?_ E213.out | refine bs ?_ E238.out | refine bs ?_ E246.out) | exact HB.out)) hb)
            clear O219
            clear O222
            clear O226
            clear O229
            clear O234
            clear O237
            clear O242
            clear O245
            clear O251
            clear O254
            clear O259
            clear O262
            clear B212
            clear B213
            clear B238
            clear B246
            clear HB
            have O219 := N0
            have O222 := N1
            have O226 := N2
            have O229 := N3
            have O234 := N4
            have O237 := N5
            have O242 := N6
            have O245 := N7
            have O251 := N8
            have O254 := N9
            have O259 := N10
            have O262 := N11
            have B212 := N12
            have B213 := N13
            have B238 := N14
            have B246 := N15
            have HB := N16
            clear N0 N1 N2 N3 N4 N5 N6 N7 N8 N9 N10 N11 N12 N13 N14 N15 N16
            (try clear hb)
            (try clear hb2)
            (try clear hk)
            (try clear hi)
            refine hK.out _ _ ⟨(bc B246.out 0).trans rfl, (bc B246.out 1).trans rfl, (bc B246.out 2).trans rfl, (bc B213.out 0).trans rfl, (bc B213.out 1).trans rfl, (bc B213.out 2).trans rfl⟩ (fun hHeld => ?_)
            clear hK K
            refine norm_ (a' := ?_) ?_ ?_
            rotate_left
            · show Act.put _ (some 43) _ = _
              simp only [Act.put, List.setIfInBounds_toArray, List.set_cons_zero, List.set_cons_succ, i64_w, i32_w]
              rfl
            refine pure_ (i := 4) (N := some 44) (v := ?_) (a' := ?_) #[true, true, true, true, true] rfl rfl (by kernel_rfl) (fun _ _ _ h => h) (Or.inl ⟨by rfl, ?_⟩) ?_ ?_
            rotate_left
            · intro w'
              first | (go_simp; with_reducible rfl) | (go_simp; (try unfold Instr.field); go_simp; (try simp only [asAgg]); go_simp; with_reducible rfl)
            rotate_left
            · simp only [Act.put, List.setIfInBounds_toArray, List.set_cons_zero, List.set_cons_succ, i64_w, i32_w]
              rfl
            refine done_ (by kernel_rfl) ?_
            try go_wp2
            go_ret
            exact ⟨by first | rfl | (simp [errW_none, errW_some] <;> rfl) | (simp [*, errW_none, errW_some] <;> rfl), by repeat (first | (with_reducible first | exact HB.out | apply pa | apply pN | apply p1 | refine bs ?_ E212.out | refine bs ?_ E213.out | refine bs ?_ E238.out | refine bs ?_ E246.out) | exact HB.out)⟩
          · replace c65 := Bool.eq_false_iff.mpr c65
            subst c65
            have H1 : (some false) = some r := by rw [if_neg (show ¬ (false = true) by decide)] at H; exact H
            clear H
            have H := H1
            clear H1
            obtain rfl := Option.some.inj H
            go_enter Try.func8, Try.ntmps8
            try go_wp2_with (first | ((with_reducible refine gate_dst (N := 2) rfl ?_); refine box_event ?hg (N := 2) ?hd (cs := #[I q aa0, J Aa1 la1.length ca1, J Aa2 la2.length ca2]) (t := 25) ?hr ?_; (case hd => rfl); (case hg => rfl); (case hr => first | (go_simp; done) | (go_simp; rfl)); intro g212 hg w110 hbox hb; have N0 := am (bp (by repeat (first | (with_reducible first | exact HB.out | apply pa | apply pN | apply p1) | exact HB.out)) hb); have N1 := am (hbox); have N2 := am ((by rw [hg]; exact (bz (by repeat (first | (with_reducible first | exact HB.out | apply pa | apply pN | apply p1) | exact HB.out))) : w.heap.size ≤ g212)); have N3 := am ((by rw [hg]; exact (bz (by repeat (first | (with_reducible first | exact HB.out | apply pa | apply pN | apply p1) | exact HB.out))) : w.heap.size ≤ g212)); clear HB; have HB := N0; have B212 := N1; have GW212 := N2; have E212 := N3; clear N0 N1 N2 N3 hb hbox hg) | ((with_reducible refine gate_dst (N := 3) rfl ?_); refine box_event ?hg (N := 3) ?hd (cs := #[I q ab0, J Ab1 lb1.length cb1, J Ab2 lb2.length cb2]) (t := 25) ?hr ?_; (case hd => rfl); (case hg => rfl); (case hr => first | (go_simp; done) | (go_simp; rfl)); intro g213 hg w111 hbox hb; have N0 := am (bb (g := g212) (by (with_reducible repeat (first | apply bN | apply bd | apply ba)); exact B212.out) hb); have N1 := am (bp (by repeat (first | (with_reducible first | exact HB.out | apply pa | apply pN | apply p1 | refine bs ?_ E212.out) | exact HB.out)) hb); have N2 := am (hbox); have N3 := am ((by rw [hg]; exact (bz (by repeat (first | (with_reducible first | exact HB.out | apply pa | apply pN | apply p1 | refine bs ?_ E212.out) | exact HB.out))) : w.heap.size ≤ g213)); have N4 := am ((by rw [hg]; exact (bz (by repeat (first | (with_reducible first | exact HB.out | apply pa | apply pN | apply p1 | refine bs ?_ E212.out) | exact HB.out))) : w.heap.size ≤ g213)); have N5 := am ((by rw [hg]; exact Nat.ne_of_lt (bl (g := g212) (by (with_reducible repeat (first | apply bN | apply bd | apply ba)); exact B212.out)) : g212 ≠ g213)); have N6 := am ((by rw [hg]; exact Nat.ne_of_gt (bl (g := g212) (by (with_reducible repeat (first | apply bN | apply bd | apply ba)); exact B212.out)) : g213 ≠ g212)); clear B212 HB; have B212 := N0; have HB := N1; have B213 := N2; have GW213 := N3; have E213 := N4; have NB212_213 := N5; have NB213_212 := N6; clear N0 N1 N2 N3 N4 N5 N6 hb hbox hg; have hnb112 := NB212_213.out; have hnc112 := NB213_212.out; have hcz113_0 : w111.cell? ⟨g212, 0, none⟩ = some (I q aa0) := (bc B212.out 0).trans rfl; have hcz113_1 : w111.cell? ⟨g212, 1, none⟩ = some (J Aa1 la1.length ca1) := (bc B212.out 1).trans rfl; have hcz113_2 : w111.cell? ⟨g212, 2, none⟩ = some (J Aa2 la2.length ca2) := (bc B212.out 2).trans rfl; have hfz113_0 := bf B212.out 0; have hfz113_1 := bf B212.out 1; have hfz113_2 := bf B212.out 2) | ((with_reducible refine gate_callee (f := 12) rfl ?_); refine goesL_ (some 12) rfl rfl Try.func12 (by kernel_rfl) rfl #[.agg #[I q aa0, J Aa1 la1.length ca1, J Aa2 la2.length ca2], I q 1048576] rfl (by (try simp only [List.map_toArray, List.map_cons, List.map_nil]); first | done | rfl) ?_; (with_reducible refine (laws_szConfig.calls k aa0 _ _ la1 _ _ la2 1048576 t214 _ ?side1 ?side2 ?side3 ?side4 A3.out).mono ?_); (case side1 => repeat (first | exact (Kd.C_below HR0_1.out HB.out) | (with_reducible refine ca ?_ _) | (with_reducible refine cN ?_ _) | (with_reducible refine cd1 ?_))); (case side2 => exact HC0_1.out); (case side3 => repeat (first | exact (Kd.C_below HR0_2.out HB.out) | (with_reducible refine ca ?_ _) | (with_reducible refine cN ?_ _) | (with_reducible refine cd1 ?_))); (case side4 => exact HC0_2.out); rintro e w114 ⟨rfl, hb⟩; refine ⟨_, rfl, ?_⟩; have N0 := am (bb (g := g212) (by (with_reducible repeat (first | apply bN | apply bd | apply ba)); exact B212.out) hb); have N1 := am (bb (g := g213) (by (with_reducible repeat (first | apply bN | apply bd | apply ba)); exact B213.out) hb); have N2 := am (bp (by repeat (first | (with_reducible first | exact HB.out | apply pa | apply pN | apply p1 | refine bs ?_ E212.out | refine bs ?_ E213.out) | exact HB.out)) hb); clear B212 B213 HB; have B212 := N0; have B213 := N1; have HB := N2; clear N0 N1 N2; (try clear hb); (try clear hb2); (try clear hk); (try clear hi); have hcz115_0 : w114.cell? ⟨g213, 0, none⟩ = some (I q ab0) := (bc B213.out 0).trans rfl; have hcz115_1 : w114.cell? ⟨g213, 1, none⟩ = some (J Ab1 lb1.length cb1) := (bc B213.out 1).trans rfl; have hcz115_2 : w114.cell? ⟨g213, 2, none⟩ = some (J Ab2 lb2.length cb2) := (bc B213.out 2).trans rfl; have hfz115_0 := bf B213.out 0; have hfz115_1 := bf B213.out 1; have hfz115_2 := bf B213.out 2) | ((with_reducible refine gate_callee (f := 12) rfl ?_); refine goesL_ (some 17) rfl rfl Try.func12 (by kernel_rfl) rfl #[.agg #[I q ab0, J Ab1 lb1.length cb1, J Ab2 lb2.length cb2], I q t214] rfl (by (try simp only [List.map_toArray, List.map_cons, List.map_nil]); first | done | rfl) ?_; (with_reducible refine (laws_szConfig.calls k ab0 _ _ lb1 _ _ lb2 t214 t215 _ ?side1 ?side2 ?side3 ?side4 A10.out).mono ?_); (case side1 => repeat (first | exact (Kd.C_below HR1_1.out HB.out) | (with_reducible refine ca ?_ _) | (with_reducible refine cN ?_ _) | (with_reducible refine cd1 ?_))); (case side2 => exact HC1_1.out); (case side3 => repeat (first | exact (Kd.C_below HR1_2.out HB.out) | (with_reducible refine ca ?_ _) | (with_reducible refine cN ?_ _) | (with_reducible refine cd1 ?_))); (case side4 => exact HC1_2.out); rintro e w116 ⟨rfl, hb⟩; refine ⟨_, rfl, ?_⟩; have N0 := am (bb (g := g212) (by (with_reducible repeat (first | apply bN | apply bd | apply ba)); exact B212.out) hb); have N1 := am (bb (g := g213) (by (with_reducible repeat (first | apply bN | apply bd | apply ba)); exact B213.out) hb); have N2 := am (bp (by repeat (first | (with_reducible first | exact HB.out | apply pa | apply pN | apply p1 | refine bs ?_ E212.out | refine bs ?_ E213.out) | exact HB.out)) hb); clear B212 B213 HB; have B212 := N0; have B213 := N1; have HB := N2; clear N0 N1 N2; (try clear hb); (try clear hb2); (try clear hk); (try clear hi)))
            have N0 := am (bd B212.out)
            have N1 := am (bd B213.out)
            have N2 := am (p1 HB.out)
            clear B212
            clear B213
            clear HB
            have B212 := N0
            have B213 := N1
            have HB := N2
            clear N0 N1 N2
            refine start_ (n := 6) (S := fun w' => w'.cell? ⟨g212, 0, none⟩ = some (I q aa0) ∧ w'.cell? ⟨g212, 1, none⟩ = some (J Aa1 la1.length ca1) ∧ w'.cell? ⟨g212, 2, none⟩ = some (J Aa2 la2.length ca2) ∧ w'.cell? ⟨g213, 0, none⟩ = some (I q ab0) ∧ w'.cell? ⟨g213, 1, none⟩ = some (J Ab1 lb1.length cb1) ∧ w'.cell? ⟨g213, 2, none⟩ = some (J Ab2 lb2.length cb2)) (ds := []) #[false, false, false, false, false, false] (by kernel_rfl) rfl rfl ⟨(bc B212.out 0).trans rfl, (bc B212.out 1).trans rfl, (bc B212.out 2).trans rfl, (bc B213.out 0).trans rfl, (bc B213.out 1).trans rfl, (bc B213.out 2).trans rfl⟩ (fun hHeld => ?_)
            generalize w116.drew = w117 at B212 B213 HB hHeld ⊢
            refine take_ (i := 0) (N := some 20) (v := ?_) (a' := ?_) #[true, false, false, false, false, false] rfl rfl (by kernel_rfl) (fun _ _ _ h => h) (Or.inl ⟨by rfl, ?_⟩) hHeld ?_ ?_
            rotate_left
            · rintro w' ⟨s0, s1, s2, s3, s4, s5⟩
              go_simp
              with_reducible rfl
            rotate_left
            · simp only [Act.put, List.setIfInBounds_toArray, List.set_cons_zero, List.set_cons_succ, i64_w, i32_w]
              rfl
            refine take_ (i := 2) (N := some 22) (v := ?_) (a' := ?_) #[true, false, true, false, false, false] rfl rfl (by kernel_rfl) (fun _ _ _ h => h) (Or.inl ⟨by rfl, ?_⟩) hHeld ?_ ?_
            rotate_left
            · rintro w' ⟨s0, s1, s2, s3, s4, s5⟩
              go_simp
              with_reducible rfl
            rotate_left
            · simp only [Act.put, List.setIfInBounds_toArray, List.set_cons_zero, List.set_cons_succ, i64_w, i32_w]
              rfl
            refine one_ (i := 1) (N := some 21) #[true, true, true, false, false, false] rfl rfl (by kernel_rfl) (by decide) (fun K hK => ?_)
            refine goes_ Try.func14 (by kernel_rfl) rfl #[.agg #[I q aa0, J Aa1 la1.length ca1, J Aa2 la2.length ca2]] (by rfl) rfl rfl (by (try simp only [List.map_toArray, List.map_cons, List.map_nil]); first | done | rfl | (simp only [List.length_drop, List.length_take]; rfl)) ?_
            with_reducible refine (laws_toConfig.calls k aa0 _ _ la1 _ _ la2 t216 t217 t220 _ ?side1 ?side2 ?side3 ?side4 A19.out).mono ?_
            (case side1 => repeat (first | exact (Kd.C_below HR0_1.out HB.out) | (with_reducible refine ca ?_ _) | (with_reducible refine cN ?_ _) | (with_reducible refine cd1 ?_)))
            (case side2 => exact HC0_1.out)
            (case side3 => repeat (first | exact (Kd.C_below HR0_2.out HB.out) | (with_reducible refine ca ?_ _) | (with_reducible refine cN ?_ _) | (with_reducible refine cd1 ?_)))
            (case side4 => exact HC0_2.out)
            rintro e w118 ⟨v218, v221, rfl, ho0, ho1, hb⟩
            refine ⟨_, rfl, ?_⟩
            have N0 := am (rw1 ho0 (bz (by repeat (first | (with_reducible first | exact HB.out | apply pa | apply pN | apply p1 | refine bs ?_ E212.out | refine bs ?_ E213.out) | exact HB.out))))
            have N1 := am (Kd.S_lower ho1 (bz (by repeat (first | (with_reducible first | exact HB.out | apply pa | apply pN | apply p1 | refine bs ?_ E212.out | refine bs ?_ E213.out) | exact HB.out))))
            have N2 := am (bb (g := g212) (by (with_reducible repeat (first | apply bN | apply bd | apply ba)); exact B212.out) hb)
            have N3 := am (bb (g := g213) (by (with_reducible repeat (first | apply bN | apply bd | apply ba)); exact B213.out) hb)
            have N4 := am (bp (by repeat (first | (with_reducible first | exact HB.out | apply pa | apply pN | apply p1 | refine bs ?_ E212.out | refine bs ?_ E213.out) | exact HB.out)) hb)
            clear B212
            clear B213
            clear HB
            have O219 := N0
            have O222 := N1
            have B212 := N2
            have B213 := N3
            have HB := N4
            clear N0 N1 N2 N3 N4
            (try clear hb)
            (try clear hb2)
            (try clear hk)
            (try clear hi)
            (try clear ho0)
            (try clear ho1)
            refine hK.out _ _ ⟨(bc B212.out 0).trans rfl, (bc B212.out 1).trans rfl, (bc B212.out 2).trans rfl, (bc B213.out 0).trans rfl, (bc B213.out 1).trans rfl, (bc B213.out 2).trans rfl⟩ (fun hHeld => ?_)
            clear hK K
            refine norm_ (a' := ?_) ?_ ?_
            rotate_left
            · show Act.put _ (some 21) _ = _
              simp only [Act.put, List.setIfInBounds_toArray, List.set_cons_zero, List.set_cons_succ, i64_w, i32_w]
              rfl
            refine one_ (i := 3) (N := some 23) #[true, true, true, true, false, false] rfl rfl (by kernel_rfl) (by decide) (fun K hK => ?_)
            refine goes_ Try.func14 (by kernel_rfl) rfl #[.agg #[I q ab0, J Ab1 lb1.length cb1, J Ab2 lb2.length cb2]] (by rfl) rfl rfl (by (try simp only [List.map_toArray, List.map_cons, List.map_nil]); first | done | rfl | (simp only [List.length_drop, List.length_take]; rfl)) ?_
            with_reducible refine (laws_toConfig.calls k ab0 _ _ lb1 _ _ lb2 t223 t224 t227 _ ?side1 ?side2 ?side3 ?side4 A20.out).mono ?_
            (case side1 => repeat (first | exact (Kd.C_below HR1_1.out HB.out) | (with_reducible refine ca ?_ _) | (with_reducible refine cN ?_ _) | (with_reducible refine cd1 ?_)))
            (case side2 => exact HC1_1.out)
            (case side3 => repeat (first | exact (Kd.C_below HR1_2.out HB.out) | (with_reducible refine ca ?_ _) | (with_reducible refine cN ?_ _) | (with_reducible refine cd1 ?_)))
            (case side4 => exact HC1_2.out)
            rintro e w119 ⟨v225, v228, rfl, ho0, ho1, hb⟩
            refine ⟨_, rfl, ?_⟩
            have N0 := am (re (by (with_reducible repeat (first | apply ra | apply rN | apply rd1)); exact O219.out) (Kd.R_base ho0) hb)
            have N1 := am (Kd.S_elder' (by (with_reducible repeat (first | apply sa | apply sN | apply sd)); exact O222.out) (Kd.S_base ho1) hb)
            have N2 := am (rw1 (rn ho0 (rl (by (with_reducible repeat (first | apply ra | apply rN | apply rd1)); exact O219.out))) (bz (by repeat (first | (with_reducible first | exact HB.out | apply pa | apply pN | apply p1 | refine bs ?_ E212.out | refine bs ?_ E213.out) | exact HB.out))))
            have N3 := am (Kd.S_lower (Kd.S_new' ho1 (sl (by (with_reducible repeat (first | apply sa | apply sN | apply sd)); exact O222.out))) (bz (by repeat (first | (with_reducible first | exact HB.out | apply pa | apply pN | apply p1 | refine bs ?_ E212.out | refine bs ?_ E213.out) | exact HB.out))))
            have N4 := am (bb (g := g212) (by (with_reducible repeat (first | apply bN | apply bd | apply ba)); exact B212.out) hb)
            have N5 := am (bb (g := g213) (by (with_reducible repeat (first | apply bN | apply bd | apply ba)); exact B213.out) hb)
            have N6 := am (bp (by repeat (first | (with_reducible first | exact HB.out | apply pa | apply pN | apply p1 | refine bs ?_ E212.out | refine bs ?_ E213.out) | exact HB.out)) hb)
            clear O219
            clear O222
            clear B212
            clear B213
            clear HB
            have O219 := N0
            have O222 := N1
            have O226 := N2
            have O229 := N3
            have B212 := N4
            have B213 := N5
            have HB := N6
            clear N0 N1 N2 N3 N4 N5 N6
            (try clear hb)
            (try clear hb2)
            (try clear hk)
            (try clear hi)
            (try clear ho0)
            (try clear ho1)
            obtain ⟨Ao120, co120, eo120⟩ := Kd.R_slice O219.out
            (first | subst eo120 | (injection eo120 with f1_ f2_ f3_; have f4_ := f1_.symm; have f5_ := f3_.symm; clear f1_ f2_ f3_; subst f4_; subst f5_))
            obtain ⟨Ao121, co121, eo121⟩ := Kd.S_slice O222.out
            (first | subst eo121 | (injection eo121 with f1_ f2_ f3_; have f4_ := f1_.symm; have f5_ := f3_.symm; clear f1_ f2_ f3_; subst f4_; subst f5_))
            obtain ⟨Ao122, co122, eo122⟩ := Kd.R_slice O226.out
            (first | subst eo122 | (injection eo122 with f1_ f2_ f3_; have f4_ := f1_.symm; have f5_ := f3_.symm; clear f1_ f2_ f3_; subst f4_; subst f5_))
            obtain ⟨Ao123, co123, eo123⟩ := Kd.S_slice O229.out
            (first | subst eo123 | (injection eo123 with f1_ f2_ f3_; have f4_ := f1_.symm; have f5_ := f3_.symm; clear f1_ f2_ f3_; subst f4_; subst f5_))
            refine hK.out _ _ ⟨(bc B212.out 0).trans rfl, (bc B212.out 1).trans rfl, (bc B212.out 2).trans rfl, (bc B213.out 0).trans rfl, (bc B213.out 1).trans rfl, (bc B213.out 2).trans rfl⟩ (fun hHeld => ?_)
            clear hK K
            refine norm_ (a' := ?_) ?_ ?_
            rotate_left
            · show Act.put _ (some 23) _ = _
              simp only [Act.put, List.setIfInBounds_toArray, List.set_cons_zero, List.set_cons_succ, i64_w, i32_w]
              rfl
            refine one_ (i := 4) (N := some 24) #[true, true, true, true, true, false] rfl rfl (by kernel_rfl) (by decide) (fun K hK => ?_)
            refine goes_ Try.func34 (by kernel_rfl) rfl #[.agg #[I q t216, J Ao120 t217.length co120, J Ao121 t220.length co121], .agg #[I q t223, J Ao122 t224.length co122, J Ao123 t227.length co123]] (by rfl) rfl rfl (by (try simp only [List.map_toArray, List.map_cons, List.map_nil]); first | done | rfl | (simp only [List.length_drop, List.length_take]; rfl)) ?_
            with_reducible refine (spec_SameConfigs.calls k t216 _ _ t217 _ _ t220 t223 _ _ t224 _ _ t227 t230 _ ?side1 ?side2 ?side3 ?side4 ?side5 ?side6 ?side7 ?side8 A21.out).mono ?_
            (case side1 => repeat (first | exact (Kd.R_reads' O219.out).2.2 | (with_reducible refine ca ?_ _) | (with_reducible refine cN ?_ _) | (with_reducible refine cd1 ?_)))
            (case side2 => exact (Kd.R_reads' O219.out).2.1)
            (case side3 => repeat (first | exact (Kd.S_reads' O222.out).2.2 | (with_reducible refine ca ?_ _) | (with_reducible refine cN ?_ _) | (with_reducible refine cd1 ?_)))
            (case side4 => exact (Kd.S_reads' O222.out).2.1)
            (case side5 => repeat (first | exact (Kd.R_reads' O226.out).2.2 | (with_reducible refine ca ?_ _) | (with_reducible refine cN ?_ _) | (with_reducible refine cd1 ?_)))
            (case side6 => exact (Kd.R_reads' O226.out).2.1)
            (case side7 => repeat (first | exact (Kd.S_reads' O229.out).2.2 | (with_reducible refine ca ?_ _) | (with_reducible refine cN ?_ _) | (with_reducible refine cd1 ?_)))
            (case side8 => exact (Kd.S_reads' O229.out).2.1)
            rintro e w124 ⟨rfl, hb⟩
            refine ⟨_, rfl, ?_⟩
            have N0 := am (rb (by (with_reducible repeat (first | apply ra | apply rN | apply rd1)); exact O219.out) hb)
            have N1 := am (Kd.S_below (by (with_reducible repeat (first | apply sa | apply sN | apply sd)); exact O222.out) hb)
            have N2 := am (rb (by (with_reducible repeat (first | apply ra | apply rN | apply rd1)); exact O226.out) hb)
            have N3 := am (Kd.S_below (by (with_reducible repeat (first | apply sa | apply sN | apply sd)); exact O229.out) hb)
            have N4 := am (bb (g := g212) (by (with_reducible repeat (first | apply bN | apply bd | apply ba)); exact B212.out) hb)
            have N5 := am (bb (g := g213) (by (with_reducible repeat (first | apply bN | apply bd | apply ba)); exact B213.out) hb)
            have N6 := am (bp (by repeat (first | (with_reducible first | exact HB.out | apply pa | apply pN | apply p1 | refine bs ?_ E212.out | refine bs ?_ E213.out) | exact HB.out)) hb)
            clear O219
            clear O222
            clear O226
            clear O229
            clear B212
            clear B213
            clear HB
            have O219 := N0
            have O222 := N1
            have O226 := N2
            have O229 := N3
            have B212 := N4
            have B213 := N5
            have HB := N6
            clear N0 N1 N2 N3 N4 N5 N6
            (try clear hb)
            (try clear hb2)
            (try clear hk)
            (try clear hi)
            refine hK.out _ _ ⟨(bc B212.out 0).trans rfl, (bc B212.out 1).trans rfl, (bc B212.out 2).trans rfl, (bc B213.out 0).trans rfl, (bc B213.out 1).trans rfl, (bc B213.out 2).trans rfl⟩ (fun hHeld => ?_)
            clear hK K
            refine norm_ (a' := ?_) ?_ ?_
            rotate_left
            · show Act.put _ (some 24) _ = _
              simp only [Act.put, List.setIfInBounds_toArray, List.set_cons_zero, List.set_cons_succ, i64_w, i32_w]
              rfl
            refine pure_ (i := 5) (N := some 6) (v := ?_) (a' := ?_) #[true, true, true, true, true, true] rfl rfl (by kernel_rfl) (fun _ _ _ h => h) (Or.inl ⟨by rfl, ?_⟩) ?_ ?_
            rotate_left
            · intro w'
              first | (go_simp; with_reducible rfl) | (go_simp; (try unfold Instr.field); go_simp; (try simp only [asAgg]); go_simp; with_reducible rfl)
            rotate_left
            · simp only [Act.put, List.setIfInBounds_toArray, List.set_cons_zero, List.set_cons_succ, i64_w, i32_w]
              rfl
            refine done_ (by kernel_rfl) ?_
            have hcz125_0 : w124.cell? ⟨g212, 0, none⟩ = some (I q aa0) := (bc B212.out 0).trans rfl
            have hcz125_1 : w124.cell? ⟨g212, 1, none⟩ = some (J Aa1 la1.length ca1) := (bc B212.out 1).trans rfl
            have hcz125_2 : w124.cell? ⟨g212, 2, none⟩ = some (J Aa2 la2.length ca2) := (bc B212.out 2).trans rfl
            have hfz125_0 := bf B212.out 0
            have hfz125_1 := bf B212.out 1
            have hfz125_2 := bf B212.out 2
            try go_wp2_with (first | ((with_reducible refine gate_callee (f := 14) rfl ?_); refine goesL_ (some 26) rfl rfl Try.func14 (by kernel_rfl) rfl #[.agg #[I q aa0, J Aa1 la1.length ca1, J Aa2 la2.length ca2]] rfl (by (try simp only [List.map_toArray, List.map_cons, List.map_nil]); first | done | rfl) ?_; (with_reducible refine (laws_toConfig.calls k aa0 _ _ la1 _ _ la2 t231 t232 t235 _ ?side1 ?side2 ?side3 ?side4 A22.out).mono ?_); (case side1 => repeat (first | exact (Kd.C_below HR0_1.out HB.out) | (with_reducible refine ca ?_ _) | (with_reducible refine cN ?_ _) | (with_reducible refine cd1 ?_))); (case side2 => exact HC0_1.out); (case side3 => repeat (first | exact (Kd.C_below HR0_2.out HB.out) | (with_reducible refine ca ?_ _) | (with_reducible refine cN ?_ _) | (with_reducible refine cd1 ?_))); (case side4 => exact HC0_2.out); rintro e w126 ⟨v233, v236, rfl, ho0, ho1, hb⟩; refine ⟨_, rfl, ?_⟩; have N0 := am (re (by (with_reducible repeat (first | apply ra | apply rN | apply rd1)); exact O219.out) (Kd.R_base ho0) hb); have N1 := am (Kd.S_elder' (by (with_reducible repeat (first | apply sa | apply sN | apply sd)); exact O222.out) (Kd.S_base ho1) hb); have N2 := am (re (by (with_reducible repeat (first | apply ra | apply rN | apply rd1)); exact O226.out) (Kd.R_base ho0) hb); have N3 := am (Kd.S_elder' (by (with_reducible repeat (first | apply sa | apply sN | apply sd)); exact O229.out) (Kd.S_base ho1) hb); have N4 := am (rw1 (rn (rn ho0 (rl (by (with_reducible repeat (first | apply ra | apply rN | apply rd1)); exact O219.out))) (rl (by (with_reducible repeat (first | apply ra | apply rN | apply rd1)); exact O226.out))) (bz (by repeat (first | (with_reducible first | exact HB.out | apply pa | apply pN | apply p1 | refine bs ?_ E212.out | refine bs ?_ E213.out) | exact HB.out)))); have N5 := am (Kd.S_lower (Kd.S_new' (Kd.S_new' ho1 (sl (by (with_reducible repeat (first | apply sa | apply sN | apply sd)); exact O222.out))) (sl (by (with_reducible repeat (first | apply sa | apply sN | apply sd)); exact O229.out))) (bz (by repeat (first | (with_reducible first | exact HB.out | apply pa | apply pN | apply p1 | refine bs ?_ E212.out | refine bs ?_ E213.out) | exact HB.out)))); have N6 := am (bb (g := g212) (by (with_reducible repeat (first | apply bN | apply bd | apply ba)); exact B212.out) hb); have N7 := am (bb (g := g213) (by (with_reducible repeat (first | apply bN | apply bd | apply ba)); exact B213.out) hb); have N8 := am (bp (by repeat (first | (with_reducible first | exact HB.out | apply pa | apply pN | apply p1 | refine bs ?_ E212.out | refine bs ?_ E213.out) | exact HB.out)) hb); clear O219 O222 O226 O229 B212 B213 HB; have O219 := N0; have O222 := N1; have O226 := N2; have O229 := N3; have O234 := N4; have O237 := N5; have B212 := N6; have B213 := N7; have HB := N8; clear N0 N1 N2 N3 N4 N5 N6 N7 N8; (try clear hb); (try clear hb2); (try clear hk); (try clear hi); (try clear ho0); (try clear ho1)) | ((with_reducible refine gate_dst (N := 7) rfl ?_); refine box_event ?hg (N := 7) ?hd (cs := #[I q 0, .slice none 0 0, .slice none 0 0]) (t := 31) ?hr ?_; (case hd => rfl); (case hg => rfl); (case hr => first | (go_simp; done) | (go_simp; rfl)); intro g238 hg w127 hbox hb; have N0 := am (rb (by (with_reducible repeat (first | apply ra | apply rN | apply rd1)); exact O219.out) hb); have N1 := am (Kd.S_below (by (with_reducible repeat (first | apply sa | apply sN | apply sd)); exact O222.out) hb); have N2 := am (rb (by (with_reducible repeat (first | apply ra | apply rN | apply rd1)); exact O226.out) hb); have N3 := am (Kd.S_below (by (with_reducible repeat (first | apply sa | apply sN | apply sd)); exact O229.out) hb); have N4 := am (rb (by (with_reducible repeat (first | apply ra | apply rN | apply rd1)); exact O234.out) hb); have N5 := am (Kd.S_below (by (with_reducible repeat (first | apply sa | apply sN | apply sd)); exact O237.out) hb); have N6 := am (bb (g := g212) (by (with_reducible repeat (first | apply bN | apply bd | apply ba)); exact B212.out) hb); have N7 := am (bb (g := g213) (by (with_reducible repeat (first | apply bN | apply bd | apply ba)); exact B213.out) hb); have N8 := am (bp (by repeat (first | (with_reducible first | exact HB.out | apply pa | apply pN | apply p1 | refine bs ?_ E212.out | refine bs ?_ E213.out) | exact HB.out)) hb); have N9 := am (hbox); have N10 := am ((by rw [hg]; exact (bz (by repeat (first | (with_reducible first | exact HB.out | apply pa | apply pN | apply p1 | refine bs ?_ E212.out | refine bs ?_ E213.out) | exact HB.out))) : w.heap.size ≤ g238)); have N11 := am ((by rw [hg]; exact (bz (by repeat (first | (with_reducible first | exact HB.out | apply pa | apply pN | apply p1 | refine bs ?_ E212.out | refine bs ?_ E213.out) | exact HB.out))) : w.heap.size ≤ g238)); have N12 := am ((by rw [hg]; exact Nat.ne_of_lt (bl (g := g212) (by (with_reducible repeat (first | apply bN | apply bd | apply ba)); exact B212.out)) : g212 ≠ g238)); have N13 := am ((by rw [hg]; exact Nat.ne_of_gt (bl (g := g212) (by (with_reducible repeat (first | apply bN | apply bd | apply ba)); exact B212.out)) : g238 ≠ g212)); have N14 := am ((by rw [hg]; exact Nat.ne_of_lt (bl (g := g213) (by (with_reducible repeat (first | apply bN | apply bd | apply ba)); exact B213.out)) : g213 ≠ g238)); have N15 := am ((by rw [hg]; exact Nat.ne_of_gt (bl (g := g213) (by (with_reducible repeat (first | apply bN | apply bd | apply ba)); exact B213.out)) : g238 ≠ g213)); clear O219 O222 O226 O229 O234 O237 B212 B213 HB; have O219 := N0; have O222 := N1; have O226 := N2; have O229 := N3; have O234 := N4; have O237 := N5; have B212 := N6; have B213 := N7; have HB := N8; have B238 := N9; have GW238 := N10; have E238 := N11; have NB212_238 := N12; have NB238_212 := N13; have NB213_238 := N14; have NB238_213 := N15; clear N0 N1 N2 N3 N4 N5 N6 N7 N8 N9 N10 N11 N12 N13 N14 N15 hb hbox hg; have hnb128 := NB238_212.out; have hnc128 := NB212_238.out; have hnb129 := NB238_213.out; have hnc129 := NB213_238.out; have hcz130_0 : w127.cell? ⟨g238, 0, none⟩ = some (I q 0) := (bc B238.out 0).trans rfl; have hcz130_1 : w127.cell? ⟨g238, 1, none⟩ = some (.slice none 0 0) := (bc B238.out 1).trans rfl; have hcz130_2 : w127.cell? ⟨g238, 2, none⟩ = some (.slice none 0 0) := (bc B238.out 2).trans rfl; have hfz130_0 := bf B238.out 0; have hfz130_1 := bf B238.out 1; have hfz130_2 := bf B238.out 2; obtain ⟨Ao131, co131, eo131⟩ := Kd.R_slice O234.out; subst eo131; obtain ⟨Ao132, co132, eo132⟩ := Kd.S_slice O237.out; subst eo132; have hcz133_0 : w127.cell? ⟨g213, 0, none⟩ = some (I q ab0) := (bc B213.out 0).trans rfl; have hcz133_1 : w127.cell? ⟨g213, 1, none⟩ = some (J Ab1 lb1.length cb1) := (bc B213.out 1).trans rfl; have hcz133_2 : w127.cell? ⟨g213, 2, none⟩ = some (J Ab2 lb2.length cb2) := (bc B213.out 2).trans rfl; have hfz133_0 := bf B213.out 0; have hfz133_1 := bf B213.out 1; have hfz133_2 := bf B213.out 2) | ((with_reducible refine gate_callee (f := 14) rfl ?_); refine goesL_ (some 28) rfl rfl Try.func14 (by kernel_rfl) rfl #[.agg #[I q ab0, J Ab1 lb1.length cb1, J Ab2 lb2.length cb2]] rfl (by (try simp only [List.map_toArray, List.map_cons, List.map_nil]); first | done | rfl) ?_; (with_reducible refine (laws_toConfig.calls k ab0 _ _ lb1 _ _ lb2 t239 t240 t243 _ ?side1 ?side2 ?side3 ?side4 A23.out).mono ?_); (case side1 => exact Kd.C_below HR1_1.out (by repeat (first | (with_reducible first | exact HB.out | apply pa | apply pN | apply p1 | refine bs ?_ E212.out | refine bs ?_ E213.out | refine bs ?_ E238.out) | exact HB.out))); (case side2 => exact HC1_1.out); (case side3 => exact Kd.C_below HR1_2.out (by repeat (first | (with_reducible first | exact HB.out | apply pa | apply pN | apply p1 | refine bs ?_ E212.out | refine bs ?_ E213.out | refine bs ?_ E238.out) | exact HB.out))); (case side4 => exact HC1_2.out); rintro e w134 ⟨v241, v244, rfl, ho0, ho1, hb⟩; refine ⟨_, rfl, ?_⟩; have N0 := am (re (by (with_reducible repeat (first | apply ra | apply rN | apply rd1)); exact (Kd.R_mono (rf (p := ⟨g238, 2, none⟩) (rf (p := ⟨g238, 1, none⟩) (rf (p := ⟨g238, 0, none⟩) (Kd.R_types O219.out B238.out (by decide)) (fun _ hk => hk.2) (I q t231)) (fun _ hk => hk.2) (J Ao131 t232.length co131)) (fun _ hk => hk.2) (J Ao132 t235.length co132)) (fun _ h_ => h_.1))) (Kd.R_base ho0) hb); have N1 := am (Kd.S_elder' (by (with_reducible repeat (first | apply sa | apply sN | apply sd)); exact (sm (sf (p := ⟨g238, 2, none⟩) (sf (p := ⟨g238, 1, none⟩) (sf (p := ⟨g238, 0, none⟩) (st O222.out B238.out (by decide)) (fun _ hk => hk.2) (I q t231)) (fun _ hk => hk.2) (J Ao131 t232.length co131)) (fun _ hk => hk.2) (J Ao132 t235.length co132)) (fun _ h_ => h_.1))) (Kd.S_base ho1) hb); have N2 := am (re (by (with_reducible repeat (first | apply ra | apply rN | apply rd1)); exact (Kd.R_mono (rf (p := ⟨g238, 2, none⟩) (rf (p := ⟨g238, 1, none⟩) (rf (p := ⟨g238, 0, none⟩) (Kd.R_types O226.out B238.out (by decide)) (fun _ hk => hk.2) (I q t231)) (fun _ hk => hk.2) (J Ao131 t232.length co131)) (fun _ hk => hk.2) (J Ao132 t235.length co132)) (fun _ h_ => h_.1))) (Kd.R_base ho0) hb); have N3 := am (Kd.S_elder' (by (with_reducible repeat (first | apply sa | apply sN | apply sd)); exact (sm (sf (p := ⟨g238, 2, none⟩) (sf (p := ⟨g238, 1, none⟩) (sf (p := ⟨g238, 0, none⟩) (st O229.out B238.out (by decide)) (fun _ hk => hk.2) (I q t231)) (fun _ hk => hk.2) (J Ao131 t232.length co131)) (fun _ hk => hk.2) (J Ao132 t235.length co132)) (fun _ h_ => h_.1))) (Kd.S_base ho1) hb); have N4 := am (re (by (with_reducible repeat (first | apply ra | apply rN | apply rd1)); exact (Kd.R_mono (rf (p := ⟨g238, 2, none⟩) (rf (p := ⟨g238, 1, none⟩) (rf (p := ⟨g238, 0, none⟩) (Kd.R_types O234.out B238.out (by decide)) (fun _ hk => hk.2) (I q t231)) (fun _ hk => hk.2) (J Ao131 t232.length co131)) (fun _ hk => hk.2) (J Ao132 t235.length co132)) (fun _ h_ => h_.1))) (Kd.R_base ho0) hb); have N5 := am (Kd.S_elder' (by (with_reducible repeat (first | apply sa | apply sN | apply sd)); exact (sm (sf (p := ⟨g238, 2, none⟩) (sf (p := ⟨g238, 1, none⟩) (sf (p := ⟨g238, 0, none⟩) (st O237.out B238.out (by decide)) (fun _ hk => hk.2) (I q t231)) (fun _ hk => hk.2) (J Ao131 t232.length co131)) (fun _ hk => hk.2) (J Ao132 t235.length co132)) (fun _ h_ => h_.1))) (Kd.S_base ho1) hb); have N6 := am (rw1 (rn (rn (rn ho0 (rl (by (with_reducible repeat (first | apply ra | apply rN | apply rd1)); exact (Kd.R_mono (rf (p := ⟨g238, 2, none⟩) (rf (p := ⟨g238, 1, none⟩) (rf (p := ⟨g238, 0, none⟩) (Kd.R_types O219.out B238.out (by decide)) (fun _ hk => hk.2) (I q t231)) (fun _ hk => hk.2) (J Ao131 t232.length co131)) (fun _ hk => hk.2) (J Ao132 t235.length co132)) (fun _ h_ => h_.1))))) (rl (by (with_reducible repeat (first | apply ra | apply rN | apply rd1)); exact (Kd.R_mono (rf (p := ⟨g238, 2, none⟩) (rf (p := ⟨g238, 1, none⟩) (rf (p := ⟨g238, 0, none⟩) (Kd.R_types O226.out B238.out (by decide)) (fun _ hk => hk.2) (I q t231)) (fun _ hk => hk.2) (J Ao131 t232.length co131)) (fun _ hk => hk.2) (J Ao132 t235.length co132)) (fun _ h_ => h_.1))))) (rl (by (with_reducible repeat (first | apply ra | apply rN | apply rd1)); exact (Kd.R_mono (rf (p := ⟨g238, 2, none⟩) (rf (p := ⟨g238, 1, none⟩) (rf (p := ⟨g238, 0, none⟩) (Kd.R_types O234.out B238.out (by decide)) (fun _ hk => hk.2) (I q t231)) (fun _ hk => hk.2) (J Ao131 t232.length co131)) (fun _ hk => hk.2) (J Ao132 t235.length co132)) (fun _ h_ => h_.1))))) (bz (by repeat (first | (with_reducible first | exact HB.out | apply pa | apply pN | apply p1 | refine bs ?_ E212.out | refine bs ?_ E213.out | refine bs ?_ E238.out) | exact HB.out)))); have N7 := am (Kd.S_lower (Kd.S_new' (Kd.S_new' (Kd.S_new' ho1 (sl (by (with_reducible repeat (first | apply sa | apply sN | apply sd)); exact (sm (sf (p := ⟨g238, 2, none⟩) (sf (p := ⟨g238, 1, none⟩) (sf (p := ⟨g238, 0, none⟩) (st O222.out B238.out (by decide)) (fun _ hk => hk.2) (I q t231)) (fun _ hk => hk.2) (J Ao131 t232.length co131)) (fun _ hk => hk.2) (J Ao132 t235.length co132)) (fun _ h_ => h_.1))))) (sl (by (with_reducible repeat (first | apply sa | apply sN | apply sd)); exact (sm (sf (p := ⟨g238, 2, none⟩) (sf (p := ⟨g238, 1, none⟩) (sf (p := ⟨g238, 0, none⟩) (st O229.out B238.out (by decide)) (fun _ hk => hk.2) (I q t231)) (fun _ hk => hk.2) (J Ao131 t232.length co131)) (fun _ hk => hk.2) (J Ao132 t235.length co132)) (fun _ h_ => h_.1))))) (sl (by (with_reducible repeat (first | apply sa | apply sN | apply sd)); exact (sm (sf (p := ⟨g238, 2, none⟩) (sf (p := ⟨g238, 1, none⟩) (sf (p := ⟨g238, 0, none⟩) (st O237.out B238.out (by decide)) (fun _ hk => hk.2) (I q t231)) (fun _ hk => hk.2) (J Ao131 t232.length co131)) (fun _ hk => hk.2) (J Ao132 t235.length co132)) (fun _ h_ => h_.1))))) (bz (by repeat (first | (with_reducible first | exact HB.out | apply pa | apply pN | apply p1 | refine bs ?_ E212.out | refine bs ?_ E213.out | refine bs ?_ E238.out) | exact HB.out)))); have N8 := am (bb (g := g212) (o := .cells #[I q aa0, J Aa1 la1.length ca1, J Aa2 la2.length ca2] 25 (0, 0)) (by (iterate 3 ((with_reducible repeat (first | apply bN | apply bd | apply ba)); refine bq ?_ NB212_238.out _)); (with_reducible repeat (first | apply bN | apply bd | apply ba)); exact B212.out) hb); have N9 := am (bb (g := g213) (o := .cells #[I q ab0, J Ab1 lb1.length cb1, J Ab2 lb2.length cb2] 25 (0, 0)) (by (iterate 3 ((with_reducible repeat (first | apply bN | apply bd | apply ba)); refine bq ?_ NB213_238.out _)); (with_reducible repeat (first | apply bN | apply bd | apply ba)); exact B213.out) hb); have N10 := am (bb (g := g238) (o := .cells #[I q t231, J Ao131 t232.length co131, J Ao132 t235.length co132] 31 (0, 0)) (by (with_reducible repeat (first | apply bN | apply bd | apply ba)); exact pu3 B238.out) hb); have N11 := am (bp (by repeat (first | (with_reducible first | exact HB.out | apply pa | apply pN | apply p1 | refine bs ?_ E212.out | refine bs ?_ E213.out | refine bs ?_ E238.out) | exact HB.out)) hb); clear O219 O222 O226 O229 O234 O237 B212 B213 B238 HB; have O219 := N0; have O222 := N1; have O226 := N2; have O229 := N3; have O234 := N4; have O237 := N5; have O242 := N6; have O245 := N7; have B212 := N8; have B213 := N9; have B238 := N10; have HB := N11; clear N0 N1 N2 N3 N4 N5 N6 N7 N8 N9 N10 N11; (try clear hb); (try clear hb2); (try clear hk); (try clear hi); (try clear ho0); (try clear ho1)) | ((with_reducible refine gate_dst (N := 8) rfl ?_); refine box_event ?hg (N := 8) ?hd (cs := #[I q 0, .slice none 0 0, .slice none 0 0]) (t := 31) ?hr ?_; (case hd => rfl); (case hg => rfl); (case hr => first | (go_simp; done) | (go_simp; rfl)); intro g246 hg w135 hbox hb; have N0 := am (rb (by (with_reducible repeat (first | apply ra | apply rN | apply rd1)); exact O219.out) hb); have N1 := am (Kd.S_below (by (with_reducible repeat (first | apply sa | apply sN | apply sd)); exact O222.out) hb); have N2 := am (rb (by (with_reducible repeat (first | apply ra | apply rN | apply rd1)); exact O226.out) hb); have N3 := am (Kd.S_below (by (with_reducible repeat (first | apply sa | apply sN | apply sd)); exact O229.out) hb); have N4 := am (rb (by (with_reducible repeat (first | apply ra | apply rN | apply rd1)); exact O234.out) hb); have N5 := am (Kd.S_below (by (with_reducible repeat (first | apply sa | apply sN | apply sd)); exact O237.out) hb); have N6 := am (rb (by (with_reducible repeat (first | apply ra | apply rN | apply rd1)); exact O242.out) hb); have N7 := am (Kd.S_below (by (with_reducible repeat (first | apply sa | apply sN | apply sd)); exact O245.out) hb); have N8 := am (bb (g := g212) (by (with_reducible repeat (first | apply bN | apply bd | apply ba)); exact B212.out) hb); have N9 := am (bb (g := g213) (by (with_reducible repeat (first | apply bN | apply bd | apply ba)); exact B213.out) hb); have N10 := am (bb (g := g238) (by (with_reducible repeat (first | apply bN | apply bd | apply ba)); exact B238.out) hb); have N11 := am (bp (by repeat (first | (with_reducible first | exact HB.out | apply pa | apply pN | apply p1 | refine bs ?_ E212.out | refine bs ?_ E213.out | refine bs ?_ E238.out) | exact HB.out)) hb); have N12 := am (hbox); have N13 := am ((by rw [hg]; exact (bz (by repeat (first | (with_reducible first | exact HB.out | apply pa | apply pN | apply p1 | refine bs ?_ E212.out | refine bs ?_ E213.out | refine bs ?_ E238.out) | exact HB.out))) : w.heap.size ≤ g246)); have N14 := am ((by rw [hg]; exact (bz (by repeat (first | (with_reducible first | exact HB.out | apply pa | apply pN | apply p1 | refine bs ?_ E212.out | refine bs ?_ E213.out | refine bs ?_ E238.out) | exact HB.out))) : w.heap.size ≤ g246)); have N15 := am ((by rw [hg]; exact Nat.ne_of_lt (bl (g := g212) (by (with_reducible repeat (first | apply bN | apply bd | apply ba)); exact B212.out)) : g212 ≠ g246)); have N16 := am ((by rw [hg]; exact Nat.ne_of_gt (bl (g := g212) (by (with_reducible repeat (first | apply bN | apply bd | apply ba)); exact B212.out)) : g246 ≠ g212)); have N17 := am ((by rw [hg]; exact Nat.ne_of_lt (bl (g := g213) (by (with_reducible repeat (first | apply bN | apply bd | apply ba)); exact B213.out)) : g213 ≠ g246)); have N18 := am ((by rw [hg]; exact Nat.ne_of_gt (bl (g := g213) (by (with_reducible repeat (first | apply bN | apply bd | apply ba)); exact B213.out)) : g246 ≠ g213)); have N19 := am ((by rw [hg]; exact Nat.ne_of_lt (bl (g := g238) (by (with_reducible repeat (first | apply bN | apply bd | apply ba)); exact B238.out)) : g238 ≠ g246)); have N20 := am ((by rw [hg]; exact Nat.ne_of_gt (bl (g := g238) (by (with_reducible repeat (first | apply bN | apply bd | apply ba)); exact B238.out)) : g246 ≠ g238)); clear O219 O222 O226 O229 O234 O237 O242 O245 B212 B213 B238 HB; have O219 := N0; have O222 := N1; have O226 := N2; have O229 := N3; have O234 := N4; have O237 := N5; have O242 := N6; have O245 := N7; have B212 := N8; have B213 := N9; have B238 := N10; have HB := N11; have B246 := N12; have GW246 := N13; have E246 := N14; have NB212_246 := N15; have NB246_212 := N16; have NB213_246 := N17; have NB246_213 := N18; have NB238_246 := N19; have NB246_238 := N20; clear N0 N1 N2 N3 N4 N5 N6 N7 N8 N9 N10 N11 N12 N13 N14 N15 N16 N17 N18 N19 N20 hb hbox hg; have hnb136 := NB246_212.out; have hnc136 := NB212_246.out; have hnb137 := NB246_213.out; have hnc137 := NB213_246.out; have hnb138 := NB246_238.out; have hnc138 := NB238_246.out; have hcz139_0 : w135.cell? ⟨g246, 0, none⟩ = some (I q 0) := (bc B246.out 0).trans rfl; have hcz139_1 : w135.cell? ⟨g246, 1, none⟩ = some (.slice none 0 0) := (bc B246.out 1).trans rfl; have hcz139_2 : w135.cell? ⟨g246, 2, none⟩ = some (.slice none 0 0) := (bc B246.out 2).trans rfl; have hfz139_0 := bf B246.out 0; have hfz139_1 := bf B246.out 1; have hfz139_2 := bf B246.out 2; obtain ⟨Ao140, co140, eo140⟩ := Kd.R_slice O242.out; subst eo140; obtain ⟨Ao141, co141, eo141⟩ := Kd.S_slice O245.out; subst eo141; have hcz142_0 : w135.cell? ⟨g238, 0, none⟩ = some (I q t231) := (bc B238.out 0).trans rfl; have hcz142_1 : w135.cell? ⟨g238, 1, none⟩ = some (J Ao131 t232.length co131) := (bc B238.out 1).trans rfl; have hcz142_2 : w135.cell? ⟨g238, 2, none⟩ = some (J Ao132 t235.length co132) := (bc B238.out 2).trans rfl; have hfz142_0 := bf B238.out 0; have hfz142_1 := bf B238.out 1; have hfz142_2 := bf B238.out 2) | ((with_reducible refine gate_callee (f := 35) rfl ?_); refine goesL_ (some 31) rfl rfl Try.func35 (by kernel_rfl) rfl #[.agg #[I q t231, J Ao131 t232.length co131, J Ao132 t235.length co132], .agg #[I q t239, J Ao140 t240.length co140, J Ao141 t243.length co141]] rfl (by (try simp only [List.map_toArray, List.map_cons, List.map_nil]); first | done | rfl) ?_; (with_reducible refine (impl_SameConfigs.calls k t231 _ _ t232 _ _ t235 t239 _ _ t240 _ _ t243 t247 _ ?side1 ?side2 ?side3 ?side4 ?side5 ?side6 ?side7 ?side8 A24.out).mono ?_); (case side1 => refine (Kd.R_reads' (e := 36) (base := w.heap.size) (ok := fun k_ => (((True ∧ some k_ ≠ (J Ao120 t217.length co120 : Value).ownBlock) ∧ some k_ ≠ (J Ao122 t224.length co122 : Value).ownBlock) ∧ some k_ ≠ (J Ao140 t240.length co140 : Value).ownBlock)) (n := t232.length) (c := co131) ?_).2.2; exact (by (with_reducible repeat (first | apply ra | apply rN | apply rd1)); exact (Kd.R_mono (rf (p := ⟨g246, 2, none⟩) (rf (p := ⟨g246, 1, none⟩) (rf (p := ⟨g246, 0, none⟩) (Kd.R_types O234.out B246.out (by decide)) (fun _ hk => hk.2) (I q t239)) (fun _ hk => hk.2) (J Ao140 t240.length co140)) (fun _ hk => hk.2) (J Ao141 t243.length co141)) (fun _ h_ => h_.1)))); (case side2 => exact (Kd.R_reads' O234.out).2.1); (case side3 => refine (Kd.S_reads' (e := 64) (base := w.heap.size) (ok := fun k_ => (((True ∧ some k_ ≠ (J Ao121 t220.length co121 : Value).ownBlock) ∧ some k_ ≠ (J Ao123 t227.length co123 : Value).ownBlock) ∧ some k_ ≠ (J Ao141 t243.length co141 : Value).ownBlock)) (n := t235.length) (c := co132) ?_).2.2; exact (by (with_reducible repeat (first | apply sa | apply sN | apply sd)); exact (sm (sf (p := ⟨g246, 2, none⟩) (sf (p := ⟨g246, 1, none⟩) (sf (p := ⟨g246, 0, none⟩) (st O237.out B246.out (by decide)) (fun _ hk => hk.2) (I q t239)) (fun _ hk => hk.2) (J Ao140 t240.length co140)) (fun _ hk => hk.2) (J Ao141 t243.length co141)) (fun _ h_ => h_.1)))); (case side4 => exact (Kd.S_reads' O237.out).2.1); (case side5 => refine (Kd.R_reads' (e := 36) (base := w.heap.size) (ok := fun k_ => (((True ∧ some k_ ≠ (J Ao120 t217.length co120 : Value).ownBlock) ∧ some k_ ≠ (J Ao122 t224.length co122 : Value).ownBlock) ∧ some k_ ≠ (J Ao131 t232.length co131 : Value).ownBlock)) (n := t240.length) (c := co140) ?_).2.2; exact (by (with_reducible repeat (first | apply ra | apply rN | apply rd1)); exact (Kd.R_mono (rf (p := ⟨g246, 2, none⟩) (rf (p := ⟨g246, 1, none⟩) (rf (p := ⟨g246, 0, none⟩) (Kd.R_types O242.out B246.out (by decide)) (fun _ hk => hk.2) (I q t239)) (fun _ hk => hk.2) (J Ao140 t240.length co140)) (fun _ hk => hk.2) (J Ao141 t243.length co141)) (fun _ h_ => h_.1)))); (case side6 => exact (Kd.R_reads' O242.out).2.1); (case side7 => refine (Kd.S_reads' (e := 64) (base := w.heap.size) (ok := fun k_ => (((True ∧ some k_ ≠ (J Ao121 t220.length co121 : Value).ownBlock) ∧ some k_ ≠ (J Ao123 t227.length co123 : Value).ownBlock) ∧ some k_ ≠ (J Ao132 t235.length co132 : Value).ownBlock)) (n := t243.length) (c := co141) ?_).2.2; exact (by (with_reducible repeat (first | apply sa | apply sN | apply sd)); exact (sm (sf (p := ⟨g246, 2, none⟩) (sf (p := ⟨g246, 1, none⟩) (sf (p := ⟨g246, 0, none⟩) (st O245.out B246.out (by decide)) (fun _ hk => hk.2) (I q t239)) (fun _ hk => hk.2) (J Ao140 t240.length co140)) (fun _ hk => hk.2) (J Ao141 t243.length co141)) (fun _ h_ => h_.1)))); (case side8 => exact (Kd.S_reads' O245.out).2.1); rintro e w143 ⟨rfl, hb⟩; refine ⟨_, rfl, ?_⟩; have N0 := am (rb (by (with_reducible repeat (first | apply ra | apply rN | apply rd1)); exact (Kd.R_mono (rf (p := ⟨g246, 2, none⟩) (rf (p := ⟨g246, 1, none⟩) (rf (p := ⟨g246, 0, none⟩) (Kd.R_types O219.out B246.out (by decide)) (fun _ hk => hk.2) (I q t239)) (fun _ hk => hk.2) (J Ao140 t240.length co140)) (fun _ hk => hk.2) (J Ao141 t243.length co141)) (fun _ h_ => h_.1))) hb); have N1 := am (Kd.S_below (by (with_reducible repeat (first | apply sa | apply sN | apply sd)); exact (sm (sf (p := ⟨g246, 2, none⟩) (sf (p := ⟨g246, 1, none⟩) (sf (p := ⟨g246, 0, none⟩) (st O222.out B246.out (by decide)) (fun _ hk => hk.2) (I q t239)) (fun _ hk => hk.2) (J Ao140 t240.length co140)) (fun _ hk => hk.2) (J Ao141 t243.length co141)) (fun _ h_ => h_.1))) hb); have N2 := am (rb (by (with_reducible repeat (first | apply ra | apply rN | apply rd1)); exact (Kd.R_mono (rf (p := ⟨g246, 2, none⟩) (rf (p := ⟨g246, 1, none⟩) (rf (p := ⟨g246, 0, none⟩) (Kd.R_types O226.out B246.out (by decide)) (fun _ hk => hk.2) (I q t239)) (fun _ hk => hk.2) (J Ao140 t240.length co140)) (fun _ hk => hk.2) (J Ao141 t243.length co141)) (fun _ h_ => h_.1))) hb); have N3 := am (Kd.S_below (by (with_reducible repeat (first | apply sa | apply sN | apply sd)); exact (sm (sf (p := ⟨g246, 2, none⟩) (sf (p := ⟨g246, 1, none⟩) (sf (p := ⟨g246, 0, none⟩) (st O229.out B246.out (by decide)) (fun _ hk => hk.2) (I q t239)) (fun _ hk => hk.2) (J Ao140 t240.length co140)) (fun _ hk => hk.2) (J Ao141 t243.length co141)) (fun _ h_ => h_.1))) hb); have N4 := am (rb (by (with_reducible repeat (first | apply ra | apply rN | apply rd1)); exact (Kd.R_mono (rf (p := ⟨g246, 2, none⟩) (rf (p := ⟨g246, 1, none⟩) (rf (p := ⟨g246, 0, none⟩) (Kd.R_types O234.out B246.out (by decide)) (fun _ hk => hk.2) (I q t239)) (fun _ hk => hk.2) (J Ao140 t240.length co140)) (fun _ hk => hk.2) (J Ao141 t243.length co141)) (fun _ h_ => h_.1))) hb); have N5 := am (Kd.S_below (by (with_reducible repeat (first | apply sa | apply sN | apply sd)); exact (sm (sf (p := ⟨g246, 2, none⟩) (sf (p := ⟨g246, 1, none⟩) (sf (p := ⟨g246, 0, none⟩) (st O237.out B246.out (by decide)) (fun _ hk => hk.2) (I q t239)) (fun _ hk => hk.2) (J Ao140 t240.length co140)) (fun _ hk => hk.2) (J Ao141 t243.length co141)) (fun _ h_ => h_.1))) hb); have N6 := am (rb (by (with_reducible repeat (first | apply ra | apply rN | apply rd1)); exact (Kd.R_mono (rf (p := ⟨g246, 2, none⟩) (rf (p := ⟨g246, 1, none⟩) (rf (p := ⟨g246, 0, none⟩) (Kd.R_types O242.out B246.out (by decide)) (fun _ hk => hk.2) (I q t239)) (fun _ hk => hk.2) (J Ao140 t240.length co140)) (fun _ hk => hk.2) (J Ao141 t243.length co141)) (fun _ h_ => h_.1))) hb); have N7 := am (Kd.S_below (by (with_reducible repeat (first | apply sa | apply sN | apply sd)); exact (sm (sf (p := ⟨g246, 2, none⟩) (sf (p := ⟨g246, 1, none⟩) (sf (p := ⟨g246, 0, none⟩) (st O245.out B246.out (by decide)) (fun _ hk => hk.2) (I q t239)) (fun _ hk => hk.2) (J Ao140 t240.length co140)) (fun _ hk => hk.2) (J Ao141 t243.length co141)) (fun _ h_ => h_.1))) hb); have N8 := am (bb (g := g212) (o := .cells #[I q aa0, J Aa1 la1.length ca1, J Aa2 la2.length ca2] 25 (0, 0)) (by (iterate 3 ((with_reducible repeat (first | apply bN | apply bd | apply ba)); refine bq ?_ NB212_246.out _)); (with_reducible repeat (first | apply bN | apply bd | apply ba)); exact B212.out) hb); have N9 := am (bb (g := g213) (o := .cells #[I q ab0, J Ab1 lb1.length cb1, J Ab2 lb2.length cb2] 25 (0, 0)) (by (iterate 3 ((with_reducible repeat (first | apply bN | apply bd | apply ba)); refine bq ?_ NB213_246.out _)); (with_reducible repeat (first | apply bN | apply bd | apply ba)); exact B213.out) hb); have N10 := am (bb (g := g238) (o := .cells #[I q t231, J Ao131 t232.length co131, J Ao132 t235.length co132] 31 (0, 0)) (by (iterate 3 ((with_reducible repeat (first | apply bN | apply bd | apply ba)); refine bq ?_ NB238_246.out _)); (with_reducible repeat (first | apply bN | apply bd | apply ba)); exact B238.out) hb); have N11 := am (bb (g := g246) (o := .cells #[I q t239, J Ao140 t240.length co140, J Ao141 t243.length co141] 31 (0, 0)) (by (with_reducible repeat (first | apply bN | apply bd | apply ba)); exact pu3 B246.out) hb); have N12 := am (bp (by repeat (first | (with_reducible first | exact HB.out | apply pa | apply pN | apply p1 | refine bs ?_ E212.out | refine bs ?_ E213.out | refine bs ?_ E238.out | refine bs ?_ E246.out) | exact HB.out)) hb); clear O219 O222 O226 O229 O234 O237 O242 O245 B212 B213 B238 B246 HB; have O219 := N0; have O222 := N1; have O226 := N2; have O229 := N3; have O234 := N4; have O237 := N5; have O242 := N6; have O245 := N7; have B212 := N8; have B213 := N9; have B238 := N10; have B246 := N11; have HB := N12; clear N0 N1 N2 N3 N4 N5 N6 N7 N8 N9 N10 N11 N12; (try clear hb); (try clear hb2); (try clear hk); (try clear hi)))
            have N0 := am (rd1 O219.out)
            have N1 := am (sd O222.out)
            have N2 := am (rd1 O226.out)
            have N3 := am (sd O229.out)
            have N4 := am (rd1 O234.out)
            have N5 := am (sd O237.out)
            have N6 := am (rd1 O242.out)
            have N7 := am (sd O245.out)
            have N8 := am (bd B212.out)
            have N9 := am (bd B213.out)
            have N10 := am (bd B238.out)
            have N11 := am (bd B246.out)
            have N12 := am (p1 HB.out)
            clear O219
            clear O222
            clear O226
            clear O229
            clear O234
            clear O237
            clear O242
            clear O245
            clear B212
            clear B213
            clear B238
            clear B246
            clear HB
            have O219 := N0
            have O222 := N1
            have O226 := N2
            have O229 := N3
            have O234 := N4
            have O237 := N5
            have O242 := N6
            have O245 := N7
            have B212 := N8
            have B213 := N9
            have B238 := N10
            have B246 := N11
            have HB := N12
            clear N0 N1 N2 N3 N4 N5 N6 N7 N8 N9 N10 N11 N12
            refine start_ (n := 5) (S := fun w' => w'.cell? ⟨g238, 0, none⟩ = some (I q t231) ∧ w'.cell? ⟨g238, 1, none⟩ = some (J Ao131 t232.length co131) ∧ w'.cell? ⟨g238, 2, none⟩ = some (J Ao132 t235.length co132) ∧ w'.cell? ⟨g212, 0, none⟩ = some (I q aa0) ∧ w'.cell? ⟨g212, 1, none⟩ = some (J Aa1 la1.length ca1) ∧ w'.cell? ⟨g212, 2, none⟩ = some (J Aa2 la2.length ca2)) (ds := []) #[false, false, false, false, false] (by kernel_rfl) rfl rfl ⟨(bc B238.out 0).trans rfl, (bc B238.out 1).trans rfl, (bc B238.out 2).trans rfl, (bc B212.out 0).trans rfl, (bc B212.out 1).trans rfl, (bc B212.out 2).trans rfl⟩ (fun hHeld => ?_)
            generalize w143.drew = w144 at O219 O222 O226 O229 O234 O237 O242 O245 B212 B213 B238 B246 HB hHeld ⊢
            refine take_ (i := 0) (N := some 35) (v := ?_) (a' := ?_) #[true, false, false, false, false] rfl rfl (by kernel_rfl) (fun _ _ _ h => h) (Or.inl ⟨by rfl, ?_⟩) hHeld ?_ ?_
            rotate_left
            · rintro w' ⟨s0, s1, s2, s3, s4, s5⟩
              go_simp
              with_reducible rfl
            rotate_left
            · simp only [Act.put, List.setIfInBounds_toArray, List.set_cons_zero, List.set_cons_succ, i64_w, i32_w]
              rfl
            refine take_ (i := 1) (N := some 36) (v := ?_) (a' := ?_) #[true, true, false, false, false] rfl rfl (by kernel_rfl) (fun _ _ _ h => h) (Or.inl ⟨by rfl, ?_⟩) hHeld ?_ ?_
            rotate_left
            · rintro w' ⟨s0, s1, s2, s3, s4, s5⟩
              go_simp
              with_reducible rfl
            rotate_left
            · simp only [Act.put, List.setIfInBounds_toArray, List.set_cons_zero, List.set_cons_succ, i64_w, i32_w]
              rfl
            refine one_ (i := 2) (N := some 37) #[true, true, true, false, false] rfl rfl (by kernel_rfl) (by decide) (fun K hK => ?_)
            refine goes_ Try.func14 (by kernel_rfl) rfl #[.agg #[I q aa0, J Aa1 la1.length ca1, J Aa2 la2.length ca2]] (by rfl) rfl rfl (by (try simp only [List.map_toArray, List.map_cons, List.map_nil]); first | done | rfl | (simp only [List.length_drop, List.length_take]; rfl)) ?_
            with_reducible refine (laws_toConfig.calls k aa0 _ _ la1 _ _ la2 t248 t249 t252 _ ?side1 ?side2 ?side3 ?side4 A60.out).mono ?_
            (case side1 => repeat (first | exact (Kd.C_below HR0_1.out HB.out) | (with_reducible refine ca ?_ _) | (with_reducible refine cN ?_ _) | (with_reducible refine cd1 ?_)))
            (case side2 => exact HC0_1.out)
            (case side3 => repeat (first | exact (Kd.C_below HR0_2.out HB.out) | (with_reducible refine ca ?_ _) | (with_reducible refine cN ?_ _) | (with_reducible refine cd1 ?_)))
            (case side4 => exact HC0_2.out)
            rintro e w145 ⟨v250, v253, rfl, ho0, ho1, hb⟩
            refine ⟨_, rfl, ?_⟩
            have N0 := am (re (by (with_reducible repeat (first | apply ra | apply rN | apply rd1)); exact O219.out) (Kd.R_base ho0) hb)
            have N1 := am (Kd.S_elder' (by (with_reducible repeat (first | apply sa | apply sN | apply sd)); exact O222.out) (Kd.S_base ho1) hb)
            have N2 := am (re (by (with_reducible repeat (first | apply ra | apply rN | apply rd1)); exact O226.out) (Kd.R_base ho0) hb)
            have N3 := am (Kd.S_elder' (by (with_reducible repeat (first | apply sa | apply sN | apply sd)); exact O229.out) (Kd.S_base ho1) hb)
            have N4 := am (re (by (with_reducible repeat (first | apply ra | apply rN | apply rd1)); exact O234.out) (Kd.R_base ho0) hb)
            have N5 := am (Kd.S_elder' (by (with_reducible repeat (first | apply sa | apply sN | apply sd)); exact O237.out) (Kd.S_base ho1) hb)
            have N6 := am (re (by (with_reducible repeat (first | apply ra | apply rN | apply rd1)); exact O242.out) (Kd.R_base ho0) hb)
            have N7 := am (Kd.S_elder' (by (with_reducible repeat (first | apply sa | apply sN | apply sd)); exact O245.out) (Kd.S_base ho1) hb)
            have N8 := am (rw1 (rn (rn (rn (rn ho0 (rl (by (with_reducible repeat (first | apply ra | apply rN | apply rd1)); exact O219.out))) (rl (by (with_reducible repeat (first | apply ra | apply rN | apply rd1)); exact O226.out))) (rl (by (with_reducible repeat (first | apply ra | apply rN | apply rd1)); exact O234.out))) (rl (by (with_reducible repeat (first | apply ra | apply rN | apply rd1)); exact O242.out))) (bz (by repeat (first | (with_reducible first | exact HB.out | apply pa | apply pN | apply p1 | refine bs ?_ E212.out | refine bs ?_ E213.out | refine bs ?_ E238.out | refine bs ?_ E246.out) | exact HB.out))))
            have N9 := am (Kd.S_lower (Kd.S_new' (Kd.S_new' (Kd.S_new' (Kd.S_new' ho1 (sl (by (with_reducible repeat (first | apply sa | apply sN | apply sd)); exact O222.out))) (sl (by (with_reducible repeat (first | apply sa | apply sN | apply sd)); exact O229.out))) (sl (by (with_reducible repeat (first | apply sa | apply sN | apply sd)); exact O237.out))) (sl (by (with_reducible repeat (first | apply sa | apply sN | apply sd)); exact O245.out))) (bz (by repeat (first | (with_reducible first | exact HB.out | apply pa | apply pN | apply p1 | refine bs ?_ E212.out | refine bs ?_ E213.out | refine bs ?_ E238.out | refine bs ?_ E246.out) | exact HB.out))))
            have N10 := am (bb (g := g212) (by (with_reducible repeat (first | apply bN | apply bd | apply ba)); exact B212.out) hb)
            have N11 := am (bb (g := g213) (by (with_reducible repeat (first | apply bN | apply bd | apply ba)); exact B213.out) hb)
            have N12 := am (bb (g := g238) (by (with_reducible repeat (first | apply bN | apply bd | apply ba)); exact B238.out) hb)
            have N13 := am (bb (g := g246) (by (with_reducible repeat (first | apply bN | apply bd | apply ba)); exact B246.out) hb)
            have N14 := am (bp (by repeat (first | (with_reducible first | exact HB.out | apply pa | apply pN | apply p1 | refine bs ?_ E212.out | refine bs ?_ E213.out | refine bs ?_ E238.out | refine bs ?_ E246.out) | exact HB.out)) hb)
            clear O219
            clear O222
            clear O226
            clear O229
            clear O234
            clear O237
            clear O242
            clear O245
            clear B212
            clear B213
            clear B238
            clear B246
            clear HB
            have O219 := N0
            have O222 := N1
            have O226 := N2
            have O229 := N3
            have O234 := N4
            have O237 := N5
            have O242 := N6
            have O245 := N7
            have O251 := N8
            have O254 := N9
            have B212 := N10
            have B213 := N11
            have B238 := N12
            have B246 := N13
            have HB := N14
            clear N0 N1 N2 N3 N4 N5 N6 N7 N8 N9 N10 N11 N12 N13 N14
            (try clear hb)
            (try clear hb2)
            (try clear hk)
            (try clear hi)
            (try clear ho0)
            (try clear ho1)
            obtain ⟨Ao146, co146, eo146⟩ := Kd.R_slice O251.out
            (first | subst eo146 | (injection eo146 with f1_ f2_ f3_; have f4_ := f1_.symm; have f5_ := f3_.symm; clear f1_ f2_ f3_; subst f4_; subst f5_))
            obtain ⟨Ao147, co147, eo147⟩ := Kd.S_slice O254.out
            (first | subst eo147 | (injection eo147 with f1_ f2_ f3_; have f4_ := f1_.symm; have f5_ := f3_.symm; clear f1_ f2_ f3_; subst f4_; subst f5_))
            refine hK.out _ _ ⟨(bc B238.out 0).trans rfl, (bc B238.out 1).trans rfl, (bc B238.out 2).trans rfl, (bc B212.out 0).trans rfl, (bc B212.out 1).trans rfl, (bc B212.out 2).trans rfl⟩ (fun hHeld => ?_)
            clear hK K
            refine norm_ (a' := ?_) ?_ ?_
            rotate_left
            · show Act.put _ (some 37) _ = _
              simp only [Act.put, List.setIfInBounds_toArray, List.set_cons_zero, List.set_cons_succ, i64_w, i32_w]
              rfl
            refine one_ (i := 3) (N := some 38) #[true, true, true, true, false] rfl rfl (by kernel_rfl) (by decide) (fun K hK => ?_)
            refine goes_ Try.func16 (by kernel_rfl) rfl #[.agg #[I q t231, J Ao131 t232.length co131, J Ao132 t235.length co132], .agg #[I q t248, J Ao146 t249.length co146, J Ao147 t252.length co147]] (by rfl) rfl rfl (by (try simp only [List.map_toArray, List.map_cons, List.map_nil]); first | done | rfl | (simp only [List.length_drop, List.length_take]; rfl)) ?_
            with_reducible refine (laws_eqConfig.calls k t231 _ _ t232 _ _ t235 t248 _ _ t249 _ _ t252 true _ ?side1 ?side2 ?side3 ?side4 ?side5 ?side6 ?side7 ?side8 A61.out).mono ?_
            (case side1 => repeat (first | exact (Kd.R_reads' O234.out).2.2 | (with_reducible refine ca ?_ _) | (with_reducible refine cN ?_ _) | (with_reducible refine cd1 ?_)))
            (case side2 => exact (Kd.R_reads' O234.out).2.1)
            (case side3 => repeat (first | exact (Kd.S_reads' O237.out).2.2 | (with_reducible refine ca ?_ _) | (with_reducible refine cN ?_ _) | (with_reducible refine cd1 ?_)))
            (case side4 => exact (Kd.S_reads' O237.out).2.1)
            (case side5 => repeat (first | exact (Kd.R_reads' O251.out).2.2 | (with_reducible refine ca ?_ _) | (with_reducible refine cN ?_ _) | (with_reducible refine cd1 ?_)))
            (case side6 => exact (Kd.R_reads' O251.out).2.1)
            (case side7 => repeat (first | exact (Kd.S_reads' O254.out).2.2 | (with_reducible refine ca ?_ _) | (with_reducible refine cN ?_ _) | (with_reducible refine cd1 ?_)))
            (case side8 => exact (Kd.S_reads' O254.out).2.1)
            rintro e w148 ⟨rfl, hb⟩
            refine ⟨_, rfl, ?_⟩
            have N0 := am (rb (by (with_reducible repeat (first | apply ra | apply rN | apply rd1)); exact O219.out) hb)
            have N1 := am (Kd.S_below (by (with_reducible repeat (first | apply sa | apply sN | apply sd)); exact O222.out) hb)
            have N2 := am (rb (by (with_reducible repeat (first | apply ra | apply rN | apply rd1)); exact O226.out) hb)
            have N3 := am (Kd.S_below (by (with_reducible repeat (first | apply sa | apply sN | apply sd)); exact O229.out) hb)
            have N4 := am (rb (by (with_reducible repeat (first | apply ra | apply rN | apply rd1)); exact O234.out) hb)
            have N5 := am (Kd.S_below (by (with_reducible repeat (first | apply sa | apply sN | apply sd)); exact O237.out) hb)
            have N6 := am (rb (by (with_reducible repeat (first | apply ra | apply rN | apply rd1)); exact O242.out) hb)
            have N7 := am (Kd.S_below (by (with_reducible repeat (first | apply sa | apply sN | apply sd)); exact O245.out) hb)
            have N8 := am (rb (by (with_reducible repeat (first | apply ra | apply rN | apply rd1)); exact O251.out) hb)
            have N9 := am (Kd.S_below (by (with_reducible repeat (first | apply sa | apply sN | apply sd)); exact O254.out) hb)
            have N10 := am (bb (g := g212) (by (with_reducible repeat (first | apply bN | apply bd | apply ba)); exact B212.out) hb)
            have N11 := am (bb (g := g213) (by (with_reducible repeat (first | apply bN | apply bd | apply ba)); exact B213.out) hb)
            have N12 := am (bb (g := g238) (by (with_reducible repeat (first | apply bN | apply bd | apply ba)); exact B238.out) hb)
            have N13 := am (bb (g := g246) (by (with_reducible repeat (first | apply bN | apply bd | apply ba)); exact B246.out) hb)
            have N14 := am (bp (by repeat (first | (with_reducible first | exact HB.out | apply pa | apply pN | apply p1 | refine bs ?_ E212.out | refine bs ?_ E213.out | refine bs ?_ E238.out | refine bs ?_ E246.out) | exact HB.out)) hb)
            clear O219
            clear O222
            clear O226
            clear O229
            clear O234
            clear O237
            clear O242
            clear O245
            clear O251
            clear O254
            clear B212
            clear B213
            clear B238
            clear B246
            clear HB
            have O219 := N0
            have O222 := N1
            have O226 := N2
            have O229 := N3
            have O234 := N4
            have O237 := N5
            have O242 := N6
            have O245 := N7
            have O251 := N8
            have O254 := N9
            have B212 := N10
            have B213 := N11
            have B238 := N12
            have B246 := N13
            have HB := N14
            clear N0 N1 N2 N3 N4 N5 N6 N7 N8 N9 N10 N11 N12 N13 N14
            (try clear hb)
            (try clear hb2)
            (try clear hk)
            (try clear hi)
            refine hK.out _ _ ⟨(bc B238.out 0).trans rfl, (bc B238.out 1).trans rfl, (bc B238.out 2).trans rfl, (bc B212.out 0).trans rfl, (bc B212.out 1).trans rfl, (bc B212.out 2).trans rfl⟩ (fun hHeld => ?_)
            clear hK K
            refine norm_ (a' := ?_) ?_ ?_
            rotate_left
            · show Act.put _ (some 38) _ = _
              simp only [Act.put, List.setIfInBounds_toArray, List.set_cons_zero, List.set_cons_succ, i64_w, i32_w]
              rfl
            refine pure_ (i := 4) (N := some 39) (v := ?_) (a' := ?_) #[true, true, true, true, true] rfl rfl (by kernel_rfl) (fun _ _ _ h => h) (Or.inl ⟨by rfl, ?_⟩) ?_ ?_
            rotate_left
            · intro w'
              first | (go_simp; with_reducible rfl) | (go_simp; (try unfold Instr.field); go_simp; (try simp only [asAgg]); go_simp; with_reducible rfl)
            rotate_left
            · simp only [Act.put, List.setIfInBounds_toArray, List.set_cons_zero, List.set_cons_succ, i64_w, i32_w]
              rfl
            refine done_ (by kernel_rfl) ?_
            try go_wp2
            have N0 := am (rd1 O219.out)
            have N1 := am (sd O222.out)
            have N2 := am (rd1 O226.out)
            have N3 := am (sd O229.out)
            have N4 := am (rd1 O234.out)
            have N5 := am (sd O237.out)
            have N6 := am (rd1 O242.out)
            have N7 := am (sd O245.out)
            have N8 := am (rd1 O251.out)
            have N9 := am (sd O254.out)
            have N10 := am (bd B212.out)
            have N11 := am (bd B213.out)
            have N12 := am (bd B238.out)
            have N13 := am (bd B246.out)
            have N14 := am (p1 HB.out)
            clear O219
            clear O222
            clear O226
            clear O229
            clear O234
            clear O237
            clear O242
            clear O245
            clear O251
            clear O254
            clear B212
            clear B213
            clear B238
            clear B246
            clear HB
            have O219 := N0
            have O222 := N1
            have O226 := N2
            have O229 := N3
            have O234 := N4
            have O237 := N5
            have O242 := N6
            have O245 := N7
            have O251 := N8
            have O254 := N9
            have B212 := N10
            have B213 := N11
            have B238 := N12
            have B246 := N13
            have HB := N14
            clear N0 N1 N2 N3 N4 N5 N6 N7 N8 N9 N10 N11 N12 N13 N14
            refine start_ (n := 5) (S := fun w' => w'.cell? ⟨g246, 0, none⟩ = some (I q t239) ∧ w'.cell? ⟨g246, 1, none⟩ = some (J Ao140 t240.length co140) ∧ w'.cell? ⟨g246, 2, none⟩ = some (J Ao141 t243.length co141) ∧ w'.cell? ⟨g213, 0, none⟩ = some (I q ab0) ∧ w'.cell? ⟨g213, 1, none⟩ = some (J Ab1 lb1.length cb1) ∧ w'.cell? ⟨g213, 2, none⟩ = some (J Ab2 lb2.length cb2)) (ds := []) #[false, false, false, false, false] (by kernel_rfl) rfl rfl ⟨(bc B246.out 0).trans rfl, (bc B246.out 1).trans rfl, (bc B246.out 2).trans rfl, (bc B213.out 0).trans rfl, (bc B213.out 1).trans rfl, (bc B213.out 2).trans rfl⟩ (fun hHeld => ?_)
            generalize w148.drew = w149 at O219 O222 O226 O229 O234 O237 O242 O245 O251 O254 B212 B213 B238 B246 HB hHeld ⊢
            refine take_ (i := 0) (N := some 40) (v := ?_) (a' := ?_) #[true, false, false, false, false] rfl rfl (by kernel_rfl) (fun _ _ _ h => h) (Or.inl ⟨by rfl, ?_⟩) hHeld ?_ ?_
            rotate_left
            · rintro w' ⟨s0, s1, s2, s3, s4, s5⟩
              go_simp
              with_reducible rfl
            rotate_left
            · simp only [Act.put, List.setIfInBounds_toArray, List.set_cons_zero, List.set_cons_succ, i64_w, i32_w]
              rfl
            refine take_ (i := 1) (N := some 41) (v := ?_) (a' := ?_) #[true, true, false, false, false] rfl rfl (by kernel_rfl) (fun _ _ _ h => h) (Or.inl ⟨by rfl, ?_⟩) hHeld ?_ ?_
            rotate_left
            · rintro w' ⟨s0, s1, s2, s3, s4, s5⟩
              go_simp
              with_reducible rfl
            rotate_left
            · simp only [Act.put, List.setIfInBounds_toArray, List.set_cons_zero, List.set_cons_succ, i64_w, i32_w]
              rfl
            refine one_ (i := 2) (N := some 42) #[true, true, true, false, false] rfl rfl (by kernel_rfl) (by decide) (fun K hK => ?_)
            refine goes_ Try.func14 (by kernel_rfl) rfl #[.agg #[I q ab0, J Ab1 lb1.length cb1, J Ab2 lb2.length cb2]] (by rfl) rfl rfl (by (try simp only [List.map_toArray, List.map_cons, List.map_nil]); first | done | rfl | (simp only [List.length_drop, List.length_take]; rfl)) ?_
            with_reducible refine (laws_toConfig.calls k ab0 _ _ lb1 _ _ lb2 t256 t257 t260 _ ?side1 ?side2 ?side3 ?side4 A63.out).mono ?_
            (case side1 => repeat (first | exact (Kd.C_below HR1_1.out HB.out) | (with_reducible refine ca ?_ _) | (with_reducible refine cN ?_ _) | (with_reducible refine cd1 ?_)))
            (case side2 => exact HC1_1.out)
            (case side3 => repeat (first | exact (Kd.C_below HR1_2.out HB.out) | (with_reducible refine ca ?_ _) | (with_reducible refine cN ?_ _) | (with_reducible refine cd1 ?_)))
            (case side4 => exact HC1_2.out)
            rintro e w150 ⟨v258, v261, rfl, ho0, ho1, hb⟩
            refine ⟨_, rfl, ?_⟩
            have N0 := am (re (by (with_reducible repeat (first | apply ra | apply rN | apply rd1)); exact O219.out) (Kd.R_base ho0) hb)
            have N1 := am (Kd.S_elder' (by (with_reducible repeat (first | apply sa | apply sN | apply sd)); exact O222.out) (Kd.S_base ho1) hb)
            have N2 := am (re (by (with_reducible repeat (first | apply ra | apply rN | apply rd1)); exact O226.out) (Kd.R_base ho0) hb)
            have N3 := am (Kd.S_elder' (by (with_reducible repeat (first | apply sa | apply sN | apply sd)); exact O229.out) (Kd.S_base ho1) hb)
            have N4 := am (re (by (with_reducible repeat (first | apply ra | apply rN | apply rd1)); exact O234.out) (Kd.R_base ho0) hb)
            have N5 := am (Kd.S_elder' (by (with_reducible repeat (first | apply sa | apply sN | apply sd)); exact O237.out) (Kd.S_base ho1) hb)
            have N6 := am (re (by (with_reducible repeat (first | apply ra | apply rN | apply rd1)); exact O242.out) (Kd.R_base ho0) hb)
            have N7 := am (Kd.S_elder' (by (with_reducible repeat (first | apply sa | apply sN | apply sd)); exact O245.out) (Kd.S_base ho1) hb)
            have N8 := am (re (by (with_reducible repeat (first | apply ra | apply rN | apply rd1)); exact O251.out) (Kd.R_base ho0) hb)
            have N9 := am (Kd.S_elder' (by (with_reducible repeat (first | apply sa | apply sN | apply sd)); exact O254.out) (Kd.S_base ho1) hb)
            have N10 := am (rw1 (rn (rn (rn (rn (rn ho0 (rl (by (with_reducible repeat (first | apply ra | apply rN | apply rd1)); exact O219.out))) (rl (by (with_reducible repeat (first | apply ra | apply rN | apply rd1)); exact O226.out))) (rl (by (with_reducible repeat (first | apply ra | apply rN | apply rd1)); exact O234.out))) (rl (by (with_reducible repeat (first | apply ra | apply rN | apply rd1)); exact O242.out))) (rl (by (with_reducible repeat (first | apply ra | apply rN | apply rd1)); exact O251.out))) (bz (by repeat (first | (with_reducible first | exact HB.out | apply pa | apply pN | apply p1 | refine bs ?_ E212.out | refine bs ?_ E213.out | refine bs ?_ E238.out | refine bs ?_ E246.out) | exact HB.out))))
            have N11 := am (Kd.S_lower (Kd.S_new' (Kd.S_new' (Kd.S_new' (Kd.S_new' (Kd.S_new' ho1 (sl (by (with_reducible repeat (first | apply sa | apply sN | apply sd)); exact O222.out))) (sl (by (with_reducible repeat (first | apply sa | apply sN | apply sd)); exact O229.out))) (sl (by (with_reducible repeat (first | apply sa | apply sN | apply sd)); exact O237.out))) (sl (by (with_reducible repeat (first | apply sa | apply sN | apply sd)); exact O245.out))) (sl (by (with_reducible repeat (first | apply sa | apply sN | apply sd)); exact O254.out))) (bz (by repeat (first | (with_reducible first | exact HB.out | apply pa | apply pN | apply p1 | refine bs ?_ E212.out | refine bs ?_ E213.out | refine bs ?_ E238.out | refine bs ?_ E246.out) | exact HB.out))))
            have N12 := am (bb (g := g212) (by (with_reducible repeat (first | apply bN | apply bd | apply ba)); exact B212.out) hb)
            have N13 := am (bb (g := g213) (by (with_reducible repeat (first | apply bN | apply bd | apply ba)); exact B213.out) hb)
            have N14 := am (bb (g := g238) (by (with_reducible repeat (first | apply bN | apply bd | apply ba)); exact B238.out) hb)
            have N15 := am (bb (g := g246) (by (with_reducible repeat (first | apply bN | apply bd | apply ba)); exact B246.out) hb)
            have N16 := am (bp (by repeat (first | (with_reducible first | exact HB.out | apply pa | apply pN | apply p1 | refine bs ?_ E212.out | refine bs ?_ E213.out | refine bs ?_ E238.out | refine bs ?_ E246.out) | exact HB.out)) hb)
            clear O219
            clear O222
            clear O226
            clear O229
            clear O234
            clear O237
            clear O242
            clear O245
            clear O251
            clear O254
            clear B212
            clear B213
            clear B238
            clear B246
            clear HB
            have O219 := N0
            have O222 := N1
            have O226 := N2
            have O229 := N3
            have O234 := N4
            have O237 := N5
            have O242 := N6
            have O245 := N7
            have O251 := N8
            have O254 := N9
            have O259 := N10
            have O262 := N11
            have B212 := N12
            have B213 := N13
            have B238 := N14
            have B246 := N15
            have HB := N16
            clear N0 N1 N2 N3 N4 N5 N6 N7 N8 N9 N10 N11 N12 N13 N14 N15 N16
            (try clear hb)
            (try clear hb2)
            (try clear hk)
            (try clear hi)
            (try clear ho0)
            (try clear ho1)
            obtain ⟨Ao151, co151, eo151⟩ := Kd.R_slice O259.out
            (first | subst eo151 | (injection eo151 with f1_ f2_ f3_; have f4_ := f1_.symm; have f5_ := f3_.symm; clear f1_ f2_ f3_; subst f4_; subst f5_))
            obtain ⟨Ao152, co152, eo152⟩ := Kd.S_slice O262.out
            (first | subst eo152 | (injection eo152 with f1_ f2_ f3_; have f4_ := f1_.symm; have f5_ := f3_.symm; clear f1_ f2_ f3_; subst f4_; subst f5_))
            refine hK.out _ _ ⟨(bc B246.out 0).trans rfl, (bc B246.out 1).trans rfl, (bc B246.out 2).trans rfl, (bc B213.out 0).trans rfl, (bc B213.out 1).trans rfl, (bc B213.out 2).trans rfl⟩ (fun hHeld => ?_)
            clear hK K
            refine norm_ (a' := ?_) ?_ ?_
            rotate_left
            · show Act.put _ (some 42) _ = _
              simp only [Act.put, List.setIfInBounds_toArray, List.set_cons_zero, List.set_cons_succ, i64_w, i32_w]
              rfl
            refine one_ (i := 3) (N := some 43) #[true, true, true, true, false] rfl rfl (by kernel_rfl) (by decide) (fun K hK => ?_)
            refine goes_ Try.func16 (by kernel_rfl) rfl #[.agg #[I q t239, J Ao140 t240.length co140, J Ao141 t243.length co141], .agg #[I q t256, J Ao151 t257.length co151, J Ao152 t260.length co152]] (by rfl) rfl rfl (by (try simp only [List.map_toArray, List.map_cons, List.map_nil]); first | done | rfl | (simp only [List.length_drop, List.length_take]; rfl)) ?_
            with_reducible refine (laws_eqConfig.calls k t239 _ _ t240 _ _ t243 t256 _ _ t257 _ _ t260 false _ ?side1 ?side2 ?side3 ?side4 ?side5 ?side6 ?side7 ?side8 A64.out).mono ?_
            (case side1 => repeat (first | exact (Kd.R_reads' O242.out).2.2 | (with_reducible refine ca ?_ _) | (with_reducible refine cN ?_ _) | (with_reducible refine cd1 ?_)))
            (case side2 => exact (Kd.R_reads' O242.out).2.1)
            (case side3 => repeat (first | exact (Kd.S_reads' O245.out).2.2 | (with_reducible refine ca ?_ _) | (with_reducible refine cN ?_ _) | (with_reducible refine cd1 ?_)))
            (case side4 => exact (Kd.S_reads' O245.out).2.1)
            (case side5 => repeat (first | exact (Kd.R_reads' O259.out).2.2 | (with_reducible refine ca ?_ _) | (with_reducible refine cN ?_ _) | (with_reducible refine cd1 ?_)))
            (case side6 => exact (Kd.R_reads' O259.out).2.1)
            (case side7 => repeat (first | exact (Kd.S_reads' O262.out).2.2 | (with_reducible refine ca ?_ _) | (with_reducible refine cN ?_ _) | (with_reducible refine cd1 ?_)))
            (case side8 => exact (Kd.S_reads' O262.out).2.1)
            rintro e w153 ⟨rfl, hb⟩
            refine ⟨_, rfl, ?_⟩
            have N0 := am (rb (by (with_reducible repeat (first | apply ra | apply rN | apply rd1)); exact O219.out) hb)
            have N1 := am (Kd.S_below (by (with_reducible repeat (first | apply sa | apply sN | apply sd)); exact O222.out) hb)
            have N2 := am (rb (by (with_reducible repeat (first | apply ra | apply rN | apply rd1)); exact O226.out) hb)
            have N3 := am (Kd.S_below (by (with_reducible repeat (first | apply sa | apply sN | apply sd)); exact O229.out) hb)
            have N4 := am (rb (by (with_reducible repeat (first | apply ra | apply rN | apply rd1)); exact O234.out) hb)
            have N5 := am (Kd.S_below (by (with_reducible repeat (first | apply sa | apply sN | apply sd)); exact O237.out) hb)
            have N6 := am (rb (by (with_reducible repeat (first | apply ra | apply rN | apply rd1)); exact O242.out) hb)
            have N7 := am (Kd.S_below (by (with_reducible repeat (first | apply sa | apply sN | apply sd)); exact O245.out) hb)
            have N8 := am (rb (by (with_reducible repeat (first | apply ra | apply rN | apply rd1)); exact O251.out) hb)
            have N9 := am (Kd.S_below (by (with_reducible repeat (first | apply sa | apply sN | apply sd)); exact O254.out) hb)
            have N10 := am (rb (by (with_reducible repeat (first | apply ra | apply rN | apply rd1)); exact O259.out) hb)
            have N11 := am (Kd.S_below (by (with_reducible repeat (first | apply sa | apply sN | apply sd)); exact O262.out) hb)
            have N12 := am (bb (g := g212) (by (with_reducible repeat (first | apply bN | apply bd | apply ba)); exact B212.out) hb)
            have N13 := am (bb (g := g213) (by (with_reducible repeat (first | apply bN | apply bd | apply ba)); exact B213.out) hb)
            have N14 := am (bb (g := g238) (by (with_reducible repeat (first | apply bN | apply bd | apply ba)); exact B238.out) hb)
            have N15 := am (bb (g := g246) (by (with_reducible repeat (first | apply bN | apply bd | apply ba)); exact B246.out) hb)
            have N16 := am (bp (by repeat (first | (with_reducible first | exact HB.out | apply pa | apply pN | apply p1 | refine bs ?_ E212.out | refine bs ?_ E213.out | refine bs ?_ E238.out | refine bs ?_ E246.out) | exact HB.out)) hb)
            clear O219
            clear O222
            clear O226
            clear O229
            clear O234
            clear O237
            clear O242
            clear O245
            clear O251
            clear O254
            clear O259
            clear O262
            clear B212
            clear B213
            clear B238
            clear B246
            clear HB
            have O219 := N0
            have O222 := N1
            have O226 := N2
            have O229 := N3
            have O234 := N4
            have O237 := N5
            have O242 := N6
            have O245 := N7
            have O251 := N8
            have O254 := N9
            have O259 := N10
            have O262 := N11
            have B212 := N12
            have B213 := N13
            have B238 := N14
            have B246 := N15
            have HB := N16
            clear N0 N1 N2 N3 N4 N5 N6 N7 N8 N9 N10 N11 N12 N13 N14 N15 N16
            (try clear hb)
            (try clear hb2)
            (try clear hk)
            (try clear hi)
            refine hK.out _ _ ⟨(bc B246.out 0).trans rfl, (bc B246.out 1).trans rfl, (bc B246.out 2).trans rfl, (bc B213.out 0).trans rfl, (bc B213.out 1).trans rfl, (bc B213.out 2).trans rfl⟩ (fun hHeld => ?_)
            clear hK K
            refine norm_ (a' := ?_) ?_ ?_
            rotate_left
            · show Act.put _ (some 43) _ = _
              simp only [Act.put, List.setIfInBounds_toArray, List.set_cons_zero, List.set_cons_succ, i64_w, i32_w]
              rfl
            refine pure_ (i := 4) (N := some 44) (v := ?_) (a' := ?_) #[true, true, true, true, true] rfl rfl (by kernel_rfl) (fun _ _ _ h => h) (Or.inl ⟨by rfl, ?_⟩) ?_ ?_
            rotate_left
            · intro w'
              first | (go_simp; with_reducible rfl) | (go_simp; (try unfold Instr.field); go_simp; (try simp only [asAgg]); go_simp; with_reducible rfl)
            rotate_left
            · simp only [Act.put, List.setIfInBounds_toArray, List.set_cons_zero, List.set_cons_succ, i64_w, i32_w]
              rfl
            refine done_ (by kernel_rfl) ?_
            try go_wp2
            go_ret
            exact ⟨by first | rfl | (simp [errW_none, errW_some] <;> rfl) | (simp [*, errW_none, errW_some] <;> rfl), by repeat (first | (with_reducible first | exact HB.out | apply pa | apply pN | apply p1 | refine bs ?_ E212.out | refine bs ?_ E213.out | refine bs ?_ E238.out | refine bs ?_ E246.out) | exact HB.out)⟩
        · replace c62 := Bool.eq_false_iff.mpr c62
          subst c62
          have H1 : (some false) = some r := by rw [if_neg (show ¬ (false = true) by decide)] at H; exact H
          clear H
          have H := H1
          clear H1
          obtain rfl := Option.some.inj H
          go_enter Try.func8, Try.ntmps8
          try go_wp2_with (first | ((with_reducible refine gate_dst (N := 2) rfl ?_); refine box_event ?hg (N := 2) ?hd (cs := #[I q aa0, J Aa1 la1.length ca1, J Aa2 la2.length ca2]) (t := 25) ?hr ?_; (case hd => rfl); (case hg => rfl); (case hr => first | (go_simp; done) | (go_simp; rfl)); intro g212 hg w154 hbox hb; have N0 := am (bp (by repeat (first | (with_reducible first | exact HB.out | apply pa | apply pN | apply p1) | exact HB.out)) hb); have N1 := am (hbox); have N2 := am ((by rw [hg]; exact (bz (by repeat (first | (with_reducible first | exact HB.out | apply pa | apply pN | apply p1) | exact HB.out))) : w.heap.size ≤ g212)); have N3 := am ((by rw [hg]; exact (bz (by repeat (first | (with_reducible first | exact HB.out | apply pa | apply pN | apply p1) | exact HB.out))) : w.heap.size ≤ g212)); clear HB; have HB := N0; have B212 := N1; have GW212 := N2; have E212 := N3; clear N0 N1 N2 N3 hb hbox hg) | ((with_reducible refine gate_dst (N := 3) rfl ?_); refine box_event ?hg (N := 3) ?hd (cs := #[I q ab0, J Ab1 lb1.length cb1, J Ab2 lb2.length cb2]) (t := 25) ?hr ?_; (case hd => rfl); (case hg => rfl); (case hr => first | (go_simp; done) | (go_simp; rfl)); intro g213 hg w155 hbox hb; have N0 := am (bb (g := g212) (by (with_reducible repeat (first | apply bN | apply bd | apply ba)); exact B212.out) hb); have N1 := am (bp (by repeat (first | (with_reducible first | exact HB.out | apply pa | apply pN | apply p1 | refine bs ?_ E212.out) | exact HB.out)) hb); have N2 := am (hbox); have N3 := am ((by rw [hg]; exact (bz (by repeat (first | (with_reducible first | exact HB.out | apply pa | apply pN | apply p1 | refine bs ?_ E212.out) | exact HB.out))) : w.heap.size ≤ g213)); have N4 := am ((by rw [hg]; exact (bz (by repeat (first | (with_reducible first | exact HB.out | apply pa | apply pN | apply p1 | refine bs ?_ E212.out) | exact HB.out))) : w.heap.size ≤ g213)); have N5 := am ((by rw [hg]; exact Nat.ne_of_lt (bl (g := g212) (by (with_reducible repeat (first | apply bN | apply bd | apply ba)); exact B212.out)) : g212 ≠ g213)); have N6 := am ((by rw [hg]; exact Nat.ne_of_gt (bl (g := g212) (by (with_reducible repeat (first | apply bN | apply bd | apply ba)); exact B212.out)) : g213 ≠ g212)); clear B212 HB; have B212 := N0; have HB := N1; have B213 := N2; have GW213 := N3; have E213 := N4; have NB212_213 := N5; have NB213_212 := N6; clear N0 N1 N2 N3 N4 N5 N6 hb hbox hg; have hnb156 := NB212_213.out; have hnc156 := NB213_212.out; have hcz157_0 : w155.cell? ⟨g212, 0, none⟩ = some (I q aa0) := (bc B212.out 0).trans rfl; have hcz157_1 : w155.cell? ⟨g212, 1, none⟩ = some (J Aa1 la1.length ca1) := (bc B212.out 1).trans rfl; have hcz157_2 : w155.cell? ⟨g212, 2, none⟩ = some (J Aa2 la2.length ca2) := (bc B212.out 2).trans rfl; have hfz157_0 := bf B212.out 0; have hfz157_1 := bf B212.out 1; have hfz157_2 := bf B212.out 2) | ((with_reducible refine gate_callee (f := 12) rfl ?_); refine goesL_ (some 12) rfl rfl Try.func12 (by kernel_rfl) rfl #[.agg #[I q aa0, J Aa1 la1.length ca1, J Aa2 la2.length ca2], I q 1048576] rfl (by (try simp only [List.map_toArray, List.map_cons, List.map_nil]); first | done | rfl) ?_; (with_reducible refine (laws_szConfig.calls k aa0 _ _ la1 _ _ la2 1048576 t214 _ ?side1 ?side2 ?side3 ?side4 A3.out).mono ?_); (case side1 => repeat (first | exact (Kd.C_below HR0_1.out HB.out) | (with_reducible refine ca ?_ _) | (with_reducible refine cN ?_ _) | (with_reducible refine cd1 ?_))); (case side2 => exact HC0_1.out); (case side3 => repeat (first | exact (Kd.C_below HR0_2.out HB.out) | (with_reducible refine ca ?_ _) | (with_reducible refine cN ?_ _) | (with_reducible refine cd1 ?_))); (case side4 => exact HC0_2.out); rintro e w158 ⟨rfl, hb⟩; refine ⟨_, rfl, ?_⟩; have N0 := am (bb (g := g212) (by (with_reducible repeat (first | apply bN | apply bd | apply ba)); exact B212.out) hb); have N1 := am (bb (g := g213) (by (with_reducible repeat (first | apply bN | apply bd | apply ba)); exact B213.out) hb); have N2 := am (bp (by repeat (first | (with_reducible first | exact HB.out | apply pa | apply pN | apply p1 | refine bs ?_ E212.out | refine bs ?_ E213.out) | exact HB.out)) hb); clear B212 B213 HB; have B212 := N0; have B213 := N1; have HB := N2; clear N0 N1 N2; (try clear hb); (try clear hb2); (try clear hk); (try clear hi); have hcz159_0 : w158.cell? ⟨g213, 0, none⟩ = some (I q ab0) := (bc B213.out 0).trans rfl; have hcz159_1 : w158.cell? ⟨g213, 1, none⟩ = some (J Ab1 lb1.length cb1) := (bc B213.out 1).trans rfl; have hcz159_2 : w158.cell? ⟨g213, 2, none⟩ = some (J Ab2 lb2.length cb2) := (bc B213.out 2).trans rfl; have hfz159_0 := bf B213.out 0; have hfz159_1 := bf B213.out 1; have hfz159_2 := bf B213.out 2) | ((with_reducible refine gate_callee (f := 12) rfl ?_); refine goesL_ (some 17) rfl rfl Try.func12 (by kernel_rfl) rfl #[.agg #[I q ab0, J Ab1 lb1.length cb1, J Ab2 lb2.length cb2], I q t214] rfl (by (try simp only [List.map_toArray, List.map_cons, List.map_nil]); first | done | rfl) ?_; (with_reducible refine (laws_szConfig.calls k ab0 _ _ lb1 _ _ lb2 t214 t215 _ ?side1 ?side2 ?side3 ?side4 A10.out).mono ?_); (case side1 => repeat (first | exact (Kd.C_below HR1_1.out HB.out) | (with_reducible refine ca ?_ _) | (with_reducible refine cN ?_ _) | (with_reducible refine cd1 ?_))); (case side2 => exact HC1_1.out); (case side3 => repeat (first | exact (Kd.C_below HR1_2.out HB.out) | (with_reducible refine ca ?_ _) | (with_reducible refine cN ?_ _) | (with_reducible refine cd1 ?_))); (case side4 => exact HC1_2.out); rintro e w160 ⟨rfl, hb⟩; refine ⟨_, rfl, ?_⟩; have N0 := am (bb (g := g212) (by (with_reducible repeat (first | apply bN | apply bd | apply ba)); exact B212.out) hb); have N1 := am (bb (g := g213) (by (with_reducible repeat (first | apply bN | apply bd | apply ba)); exact B213.out) hb); have N2 := am (bp (by repeat (first | (with_reducible first | exact HB.out | apply pa | apply pN | apply p1 | refine bs ?_ E212.out | refine bs ?_ E213.out) | exact HB.out)) hb); clear B212 B213 HB; have B212 := N0; have B213 := N1; have HB := N2; clear N0 N1 N2; (try clear hb); (try clear hb2); (try clear hk); (try clear hi)))
          have N0 := am (bd B212.out)
          have N1 := am (bd B213.out)
          have N2 := am (p1 HB.out)
          clear B212
          clear B213
          clear HB
          have B212 := N0
          have B213 := N1
          have HB := N2
          clear N0 N1 N2
          refine start_ (n := 6) (S := fun w' => w'.cell? ⟨g212, 0, none⟩ = some (I q aa0) ∧ w'.cell? ⟨g212, 1, none⟩ = some (J Aa1 la1.length ca1) ∧ w'.cell? ⟨g212, 2, none⟩ = some (J Aa2 la2.length ca2) ∧ w'.cell? ⟨g213, 0, none⟩ = some (I q ab0) ∧ w'.cell? ⟨g213, 1, none⟩ = some (J Ab1 lb1.length cb1) ∧ w'.cell? ⟨g213, 2, none⟩ = some (J Ab2 lb2.length cb2)) (ds := []) #[false, false, false, false, false, false] (by kernel_rfl) rfl rfl ⟨(bc B212.out 0).trans rfl, (bc B212.out 1).trans rfl, (bc B212.out 2).trans rfl, (bc B213.out 0).trans rfl, (bc B213.out 1).trans rfl, (bc B213.out 2).trans rfl⟩ (fun hHeld => ?_)
          generalize w160.drew = w161 at B212 B213 HB hHeld ⊢
          refine take_ (i := 0) (N := some 20) (v := ?_) (a' := ?_) #[true, false, false, false, false, false] rfl rfl (by kernel_rfl) (fun _ _ _ h => h) (Or.inl ⟨by rfl, ?_⟩) hHeld ?_ ?_
          rotate_left
          · rintro w' ⟨s0, s1, s2, s3, s4, s5⟩
            go_simp
            with_reducible rfl
          rotate_left
          · simp only [Act.put, List.setIfInBounds_toArray, List.set_cons_zero, List.set_cons_succ, i64_w, i32_w]
            rfl
          refine take_ (i := 2) (N := some 22) (v := ?_) (a' := ?_) #[true, false, true, false, false, false] rfl rfl (by kernel_rfl) (fun _ _ _ h => h) (Or.inl ⟨by rfl, ?_⟩) hHeld ?_ ?_
          rotate_left
          · rintro w' ⟨s0, s1, s2, s3, s4, s5⟩
            go_simp
            with_reducible rfl
          rotate_left
          · simp only [Act.put, List.setIfInBounds_toArray, List.set_cons_zero, List.set_cons_succ, i64_w, i32_w]
            rfl
          refine one_ (i := 1) (N := some 21) #[true, true, true, false, false, false] rfl rfl (by kernel_rfl) (by decide) (fun K hK => ?_)
          refine goes_ Try.func14 (by kernel_rfl) rfl #[.agg #[I q aa0, J Aa1 la1.length ca1, J Aa2 la2.length ca2]] (by rfl) rfl rfl (by (try simp only [List.map_toArray, List.map_cons, List.map_nil]); first | done | rfl | (simp only [List.length_drop, List.length_take]; rfl)) ?_
          with_reducible refine (laws_toConfig.calls k aa0 _ _ la1 _ _ la2 t216 t217 t220 _ ?side1 ?side2 ?side3 ?side4 A19.out).mono ?_
          (case side1 => repeat (first | exact (Kd.C_below HR0_1.out HB.out) | (with_reducible refine ca ?_ _) | (with_reducible refine cN ?_ _) | (with_reducible refine cd1 ?_)))
          (case side2 => exact HC0_1.out)
          (case side3 => repeat (first | exact (Kd.C_below HR0_2.out HB.out) | (with_reducible refine ca ?_ _) | (with_reducible refine cN ?_ _) | (with_reducible refine cd1 ?_)))
          (case side4 => exact HC0_2.out)
          rintro e w162 ⟨v218, v221, rfl, ho0, ho1, hb⟩
          refine ⟨_, rfl, ?_⟩
          have N0 := am (rw1 ho0 (bz (by repeat (first | (with_reducible first | exact HB.out | apply pa | apply pN | apply p1 | refine bs ?_ E212.out | refine bs ?_ E213.out) | exact HB.out))))
          have N1 := am (Kd.S_lower ho1 (bz (by repeat (first | (with_reducible first | exact HB.out | apply pa | apply pN | apply p1 | refine bs ?_ E212.out | refine bs ?_ E213.out) | exact HB.out))))
          have N2 := am (bb (g := g212) (by (with_reducible repeat (first | apply bN | apply bd | apply ba)); exact B212.out) hb)
          have N3 := am (bb (g := g213) (by (with_reducible repeat (first | apply bN | apply bd | apply ba)); exact B213.out) hb)
          have N4 := am (bp (by repeat (first | (with_reducible first | exact HB.out | apply pa | apply pN | apply p1 | refine bs ?_ E212.out | refine bs ?_ E213.out) | exact HB.out)) hb)
          clear B212
          clear B213
          clear HB
          have O219 := N0
          have O222 := N1
          have B212 := N2
          have B213 := N3
          have HB := N4
          clear N0 N1 N2 N3 N4
          (try clear hb)
          (try clear hb2)
          (try clear hk)
          (try clear hi)
          (try clear ho0)
          (try clear ho1)
          refine hK.out _ _ ⟨(bc B212.out 0).trans rfl, (bc B212.out 1).trans rfl, (bc B212.out 2).trans rfl, (bc B213.out 0).trans rfl, (bc B213.out 1).trans rfl, (bc B213.out 2).trans rfl⟩ (fun hHeld => ?_)
          clear hK K
          refine norm_ (a' := ?_) ?_ ?_
          rotate_left
          · show Act.put _ (some 21) _ = _
            simp only [Act.put, List.setIfInBounds_toArray, List.set_cons_zero, List.set_cons_succ, i64_w, i32_w]
            rfl
          refine one_ (i := 3) (N := some 23) #[true, true, true, true, false, false] rfl rfl (by kernel_rfl) (by decide) (fun K hK => ?_)
          refine goes_ Try.func14 (by kernel_rfl) rfl #[.agg #[I q ab0, J Ab1 lb1.length cb1, J Ab2 lb2.length cb2]] (by rfl) rfl rfl (by (try simp only [List.map_toArray, List.map_cons, List.map_nil]); first | done | rfl | (simp only [List.length_drop, List.length_take]; rfl)) ?_
          with_reducible refine (laws_toConfig.calls k ab0 _ _ lb1 _ _ lb2 t223 t224 t227 _ ?side1 ?side2 ?side3 ?side4 A20.out).mono ?_
          (case side1 => repeat (first | exact (Kd.C_below HR1_1.out HB.out) | (with_reducible refine ca ?_ _) | (with_reducible refine cN ?_ _) | (with_reducible refine cd1 ?_)))
          (case side2 => exact HC1_1.out)
          (case side3 => repeat (first | exact (Kd.C_below HR1_2.out HB.out) | (with_reducible refine ca ?_ _) | (with_reducible refine cN ?_ _) | (with_reducible refine cd1 ?_)))
          (case side4 => exact HC1_2.out)
          rintro e w163 ⟨v225, v228, rfl, ho0, ho1, hb⟩
          refine ⟨_, rfl, ?_⟩
          have N0 := am (re (by (with_reducible repeat (first | apply ra | apply rN | apply rd1)); exact O219.out) (Kd.R_base ho0) hb)
          have N1 := am (Kd.S_elder' (by (with_reducible repeat (first | apply sa | apply sN | apply sd)); exact O222.out) (Kd.S_base ho1) hb)
          have N2 := am (rw1 (rn ho0 (rl (by (with_reducible repeat (first | apply ra | apply rN | apply rd1)); exact O219.out))) (bz (by repeat (first | (with_reducible first | exact HB.out | apply pa | apply pN | apply p1 | refine bs ?_ E212.out | refine bs ?_ E213.out) | exact HB.out))))
          have N3 := am (Kd.S_lower (Kd.S_new' ho1 (sl (by (with_reducible repeat (first | apply sa | apply sN | apply sd)); exact O222.out))) (bz (by repeat (first | (with_reducible first | exact HB.out | apply pa | apply pN | apply p1 | refine bs ?_ E212.out | refine bs ?_ E213.out) | exact HB.out))))
          have N4 := am (bb (g := g212) (by (with_reducible repeat (first | apply bN | apply bd | apply ba)); exact B212.out) hb)
          have N5 := am (bb (g := g213) (by (with_reducible repeat (first | apply bN | apply bd | apply ba)); exact B213.out) hb)
          have N6 := am (bp (by repeat (first | (with_reducible first | exact HB.out | apply pa | apply pN | apply p1 | refine bs ?_ E212.out | refine bs ?_ E213.out) | exact HB.out)) hb)
          clear O219
          clear O222
          clear B212
          clear B213
          clear HB
          have O219 := N0
          have O222 := N1
          have O226 := N2
          have O229 := N3
          have B212 := N4
          have B213 := N5
          have HB := N6
          clear N0 N1 N2 N3 N4 N5 N6
          (try clear hb)
          (try clear hb2)
          (try clear hk)
          (try clear hi)
          (try clear ho0)
          (try clear ho1)
          obtain ⟨Ao164, co164, eo164⟩ := Kd.R_slice O219.out
          (first | subst eo164 | (injection eo164 with f1_ f2_ f3_; have f4_ := f1_.symm; have f5_ := f3_.symm; clear f1_ f2_ f3_; subst f4_; subst f5_))
          obtain ⟨Ao165, co165, eo165⟩ := Kd.S_slice O222.out
          (first | subst eo165 | (injection eo165 with f1_ f2_ f3_; have f4_ := f1_.symm; have f5_ := f3_.symm; clear f1_ f2_ f3_; subst f4_; subst f5_))
          obtain ⟨Ao166, co166, eo166⟩ := Kd.R_slice O226.out
          (first | subst eo166 | (injection eo166 with f1_ f2_ f3_; have f4_ := f1_.symm; have f5_ := f3_.symm; clear f1_ f2_ f3_; subst f4_; subst f5_))
          obtain ⟨Ao167, co167, eo167⟩ := Kd.S_slice O229.out
          (first | subst eo167 | (injection eo167 with f1_ f2_ f3_; have f4_ := f1_.symm; have f5_ := f3_.symm; clear f1_ f2_ f3_; subst f4_; subst f5_))
          refine hK.out _ _ ⟨(bc B212.out 0).trans rfl, (bc B212.out 1).trans rfl, (bc B212.out 2).trans rfl, (bc B213.out 0).trans rfl, (bc B213.out 1).trans rfl, (bc B213.out 2).trans rfl⟩ (fun hHeld => ?_)
          clear hK K
          refine norm_ (a' := ?_) ?_ ?_
          rotate_left
          · show Act.put _ (some 23) _ = _
            simp only [Act.put, List.setIfInBounds_toArray, List.set_cons_zero, List.set_cons_succ, i64_w, i32_w]
            rfl
          refine one_ (i := 4) (N := some 24) #[true, true, true, true, true, false] rfl rfl (by kernel_rfl) (by decide) (fun K hK => ?_)
          refine goes_ Try.func34 (by kernel_rfl) rfl #[.agg #[I q t216, J Ao164 t217.length co164, J Ao165 t220.length co165], .agg #[I q t223, J Ao166 t224.length co166, J Ao167 t227.length co167]] (by rfl) rfl rfl (by (try simp only [List.map_toArray, List.map_cons, List.map_nil]); first | done | rfl | (simp only [List.length_drop, List.length_take]; rfl)) ?_
          with_reducible refine (spec_SameConfigs.calls k t216 _ _ t217 _ _ t220 t223 _ _ t224 _ _ t227 t230 _ ?side1 ?side2 ?side3 ?side4 ?side5 ?side6 ?side7 ?side8 A21.out).mono ?_
          (case side1 => repeat (first | exact (Kd.R_reads' O219.out).2.2 | (with_reducible refine ca ?_ _) | (with_reducible refine cN ?_ _) | (with_reducible refine cd1 ?_)))
          (case side2 => exact (Kd.R_reads' O219.out).2.1)
          (case side3 => repeat (first | exact (Kd.S_reads' O222.out).2.2 | (with_reducible refine ca ?_ _) | (with_reducible refine cN ?_ _) | (with_reducible refine cd1 ?_)))
          (case side4 => exact (Kd.S_reads' O222.out).2.1)
          (case side5 => repeat (first | exact (Kd.R_reads' O226.out).2.2 | (with_reducible refine ca ?_ _) | (with_reducible refine cN ?_ _) | (with_reducible refine cd1 ?_)))
          (case side6 => exact (Kd.R_reads' O226.out).2.1)
          (case side7 => repeat (first | exact (Kd.S_reads' O229.out).2.2 | (with_reducible refine ca ?_ _) | (with_reducible refine cN ?_ _) | (with_reducible refine cd1 ?_)))
          (case side8 => exact (Kd.S_reads' O229.out).2.1)
          rintro e w168 ⟨rfl, hb⟩
          refine ⟨_, rfl, ?_⟩
          have N0 := am (rb (by (with_reducible repeat (first | apply ra | apply rN | apply rd1)); exact O219.out) hb)
          have N1 := am (Kd.S_below (by (with_reducible repeat (first | apply sa | apply sN | apply sd)); exact O222.out) hb)
          have N2 := am (rb (by (with_reducible repeat (first | apply ra | apply rN | apply rd1)); exact O226.out) hb)
          have N3 := am (Kd.S_below (by (with_reducible repeat (first | apply sa | apply sN | apply sd)); exact O229.out) hb)
          have N4 := am (bb (g := g212) (by (with_reducible repeat (first | apply bN | apply bd | apply ba)); exact B212.out) hb)
          have N5 := am (bb (g := g213) (by (with_reducible repeat (first | apply bN | apply bd | apply ba)); exact B213.out) hb)
          have N6 := am (bp (by repeat (first | (with_reducible first | exact HB.out | apply pa | apply pN | apply p1 | refine bs ?_ E212.out | refine bs ?_ E213.out) | exact HB.out)) hb)
          clear O219
          clear O222
          clear O226
          clear O229
          clear B212
          clear B213
          clear HB
          have O219 := N0
          have O222 := N1
          have O226 := N2
          have O229 := N3
          have B212 := N4
          have B213 := N5
          have HB := N6
          clear N0 N1 N2 N3 N4 N5 N6
          (try clear hb)
          (try clear hb2)
          (try clear hk)
          (try clear hi)
          refine hK.out _ _ ⟨(bc B212.out 0).trans rfl, (bc B212.out 1).trans rfl, (bc B212.out 2).trans rfl, (bc B213.out 0).trans rfl, (bc B213.out 1).trans rfl, (bc B213.out 2).trans rfl⟩ (fun hHeld => ?_)
          clear hK K
          refine norm_ (a' := ?_) ?_ ?_
          rotate_left
          · show Act.put _ (some 24) _ = _
            simp only [Act.put, List.setIfInBounds_toArray, List.set_cons_zero, List.set_cons_succ, i64_w, i32_w]
            rfl
          refine pure_ (i := 5) (N := some 6) (v := ?_) (a' := ?_) #[true, true, true, true, true, true] rfl rfl (by kernel_rfl) (fun _ _ _ h => h) (Or.inl ⟨by rfl, ?_⟩) ?_ ?_
          rotate_left
          · intro w'
            first | (go_simp; with_reducible rfl) | (go_simp; (try unfold Instr.field); go_simp; (try simp only [asAgg]); go_simp; with_reducible rfl)
          rotate_left
          · simp only [Act.put, List.setIfInBounds_toArray, List.set_cons_zero, List.set_cons_succ, i64_w, i32_w]
            rfl
          refine done_ (by kernel_rfl) ?_
          have hcz169_0 : w168.cell? ⟨g212, 0, none⟩ = some (I q aa0) := (bc B212.out 0).trans rfl
          have hcz169_1 : w168.cell? ⟨g212, 1, none⟩ = some (J Aa1 la1.length ca1) := (bc B212.out 1).trans rfl
          have hcz169_2 : w168.cell? ⟨g212, 2, none⟩ = some (J Aa2 la2.length ca2) := (bc B212.out 2).trans rfl
          have hfz169_0 := bf B212.out 0
          have hfz169_1 := bf B212.out 1
          have hfz169_2 := bf B212.out 2
          try go_wp2_with (first | ((with_reducible refine gate_callee (f := 14) rfl ?_); refine goesL_ (some 26) rfl rfl Try.func14 (by kernel_rfl) rfl #[.agg #[I q aa0, J Aa1 la1.length ca1, J Aa2 la2.length ca2]] rfl (by (try simp only [List.map_toArray, List.map_cons, List.map_nil]); first | done | rfl) ?_; (with_reducible refine (laws_toConfig.calls k aa0 _ _ la1 _ _ la2 t231 t232 t235 _ ?side1 ?side2 ?side3 ?side4 A22.out).mono ?_); (case side1 => repeat (first | exact (Kd.C_below HR0_1.out HB.out) | (with_reducible refine ca ?_ _) | (with_reducible refine cN ?_ _) | (with_reducible refine cd1 ?_))); (case side2 => exact HC0_1.out); (case side3 => repeat (first | exact (Kd.C_below HR0_2.out HB.out) | (with_reducible refine ca ?_ _) | (with_reducible refine cN ?_ _) | (with_reducible refine cd1 ?_))); (case side4 => exact HC0_2.out); rintro e w170 ⟨v233, v236, rfl, ho0, ho1, hb⟩; refine ⟨_, rfl, ?_⟩; have N0 := am (re (by (with_reducible repeat (first | apply ra | apply rN | apply rd1)); exact O219.out) (Kd.R_base ho0) hb); have N1 := am (Kd.S_elder' (by (with_reducible repeat (first | apply sa | apply sN | apply sd)); exact O222.out) (Kd.S_base ho1) hb); have N2 := am (re (by (with_reducible repeat (first | apply ra | apply rN | apply rd1)); exact O226.out) (Kd.R_base ho0) hb); have N3 := am (Kd.S_elder' (by (with_reducible repeat (first | apply sa | apply sN | apply sd)); exact O229.out) (Kd.S_base ho1) hb); have N4 := am (rw1 (rn (rn ho0 (rl (by (with_reducible repeat (first | apply ra | apply rN | apply rd1)); exact O219.out))) (rl (by (with_reducible repeat (first | apply ra | apply rN | apply rd1)); exact O226.out))) (bz (by repeat (first | (with_reducible first | exact HB.out | apply pa | apply pN | apply p1 | refine bs ?_ E212.out | refine bs ?_ E213.out) | exact HB.out)))); have N5 := am (Kd.S_lower (Kd.S_new' (Kd.S_new' ho1 (sl (by (with_reducible repeat (first | apply sa | apply sN | apply sd)); exact O222.out))) (sl (by (with_reducible repeat (first | apply sa | apply sN | apply sd)); exact O229.out))) (bz (by repeat (first | (with_reducible first | exact HB.out | apply pa | apply pN | apply p1 | refine bs ?_ E212.out | refine bs ?_ E213.out) | exact HB.out)))); have N6 := am (bb (g := g212) (by (with_reducible repeat (first | apply bN | apply bd | apply ba)); exact B212.out) hb); have N7 := am (bb (g := g213) (by (with_reducible repeat (first | apply bN | apply bd | apply ba)); exact B213.out) hb); have N8 := am (bp (by repeat (first | (with_reducible first | exact HB.out | apply pa | apply pN | apply p1 | refine bs ?_ E212.out | refine bs ?_ E213.out) | exact HB.out)) hb); clear O219 O222 O226 O229 B212 B213 HB; have O219 := N0; have O222 := N1; have O226 := N2; have O229 := N3; have O234 := N4; have O237 := N5; have B212 := N6; have B213 := N7; have HB := N8; clear N0 N1 N2 N3 N4 N5 N6 N7 N8; (try clear hb); (try clear hb2); (try clear hk); (try clear hi); (try clear ho0); (try clear ho1)) | ((with_reducible refine gate_dst (N := 7) rfl ?_); refine box_event ?hg (N := 7) ?hd (cs := #[I q 0, .slice none 0 0, .slice none 0 0]) (t := 31) ?hr ?_; (case hd => rfl); (case hg => rfl); (case hr => first | (go_simp; done) | (go_simp; rfl)); intro g238 hg w171 hbox hb; have N0 := am (rb (by (with_reducible repeat (first | apply ra | apply rN | apply rd1)); exact O219.out) hb); have N1 := am (Kd.S_below (by (with_reducible repeat (first | apply sa | apply sN | apply sd)); exact O222.out) hb); have N2 := am (rb (by (with_reducible repeat (first | apply ra | apply rN | apply rd1)); exact O226.out) hb); have N3 := am (Kd.S_below (by (with_reducible repeat (first | apply sa | apply sN | apply sd)); exact O229.out) hb); have N4 := am (rb (by (with_reducible repeat (first | apply ra | apply rN | apply rd1)); exact O234.out) hb); have N5 := am (Kd.S_below (by (with_reducible repeat (first | apply sa | apply sN | apply sd)); exact O237.out) hb); have N6 := am (bb (g := g212) (by (with_reducible repeat (first | apply bN | apply bd | apply ba)); exact B212.out) hb); have N7 := am (bb (g := g213) (by (with_reducible repeat (first | apply bN | apply bd | apply ba)); exact B213.out) hb); have N8 := am (bp (by repeat (first | (with_reducible first | exact HB.out | apply pa | apply pN | apply p1 | refine bs ?_ E212.out | refine bs ?_ E213.out) | exact HB.out)) hb); have N9 := am (hbox); have N10 := am ((by rw [hg]; exact (bz (by repeat (first | (with_reducible first | exact HB.out | apply pa | apply pN | apply p1 | refine bs ?_ E212.out | refine bs ?_ E213.out) | exact HB.out))) : w.heap.size ≤ g238)); have N11 := am ((by rw [hg]; exact (bz (by repeat (first | (with_reducible first | exact HB.out | apply pa | apply pN | apply p1 | refine bs ?_ E212.out | refine bs ?_ E213.out) | exact HB.out))) : w.heap.size ≤ g238)); have N12 := am ((by rw [hg]; exact Nat.ne_of_lt (bl (g := g212) (by (with_reducible repeat (first | apply bN | apply bd | apply ba)); exact B212.out)) : g212 ≠ g238)); have N13 := am ((by rw [hg]; exact Nat.ne_of_gt (bl (g := g212) (by (with_reducible repeat (first | apply bN | apply bd | apply ba)); exact B212.out)) : g238 ≠ g212)); have N14 := am ((by rw [hg]; exact Nat.ne_of_lt (bl (g := g213) (by (with_reducible repeat (first | apply bN | apply bd | apply ba)); exact B213.out)) : g213 ≠ g238)); have N15 := am ((by rw [hg]; exact Nat.ne_of_gt (bl (g := g213) (by (with_reducible repeat (first | apply bN | apply bd | apply ba)); exact B213.out)) : g238 ≠ g213)); clear O219 O222 O226 O229 O234 O237 B212 B213 HB; have O219 := N0; have O222 := N1; have O226 := N2; have O229 := N3; have O234 := N4; have O237 := N5; have B212 := N6; have B213 := N7; have HB := N8; have B238 := N9; have GW238 := N10; have E238 := N11; have NB212_238 := N12; have NB238_212 := N13; have NB213_238 := N14; have NB238_213 := N15; clear N0 N1 N2 N3 N4 N5 N6 N7 N8 N9 N10 N11 N12 N13 N14 N15 hb hbox hg; have hnb172 := NB238_212.out; have hnc172 := NB212_238.out; have hnb173 := NB238_213.out; have hnc173 := NB213_238.out; have hcz174_0 : w171.cell? ⟨g238, 0, none⟩ = some (I q 0) := (bc B238.out 0).trans rfl; have hcz174_1 : w171.cell? ⟨g238, 1, none⟩ = some (.slice none 0 0) := (bc B238.out 1).trans rfl; have hcz174_2 : w171.cell? ⟨g238, 2, none⟩ = some (.slice none 0 0) := (bc B238.out 2).trans rfl; have hfz174_0 := bf B238.out 0; have hfz174_1 := bf B238.out 1; have hfz174_2 := bf B238.out 2; obtain ⟨Ao175, co175, eo175⟩ := Kd.R_slice O234.out; subst eo175; obtain ⟨Ao176, co176, eo176⟩ := Kd.S_slice O237.out; subst eo176; have hcz177_0 : w171.cell? ⟨g213, 0, none⟩ = some (I q ab0) := (bc B213.out 0).trans rfl; have hcz177_1 : w171.cell? ⟨g213, 1, none⟩ = some (J Ab1 lb1.length cb1) := (bc B213.out 1).trans rfl; have hcz177_2 : w171.cell? ⟨g213, 2, none⟩ = some (J Ab2 lb2.length cb2) := (bc B213.out 2).trans rfl; have hfz177_0 := bf B213.out 0; have hfz177_1 := bf B213.out 1; have hfz177_2 := bf B213.out 2) | ((with_reducible refine gate_callee (f := 14) rfl ?_); refine goesL_ (some 28) rfl rfl Try.func14 (by kernel_rfl) rfl #[.agg #[I q ab0, J Ab1 lb1.length cb1, J Ab2 lb2.length cb2]] rfl (by (try simp only [List.map_toArray, List.map_cons, List.map_nil]); first | done | rfl) ?_; (with_reducible refine (laws_toConfig.calls k ab0 _ _ lb1 _ _ lb2 t239 t240 t243 _ ?side1 ?side2 ?side3 ?side4 A23.out).mono ?_); (case side1 => exact Kd.C_below HR1_1.out (by repeat (first | (with_reducible first | exact HB.out | apply pa | apply pN | apply p1 | refine bs ?_ E212.out | refine bs ?_ E213.out | refine bs ?_ E238.out) | exact HB.out))); (case side2 => exact HC1_1.out); (case side3 => exact Kd.C_below HR1_2.out (by repeat (first | (with_reducible first | exact HB.out | apply pa | apply pN | apply p1 | refine bs ?_ E212.out | refine bs ?_ E213.out | refine bs ?_ E238.out) | exact HB.out))); (case side4 => exact HC1_2.out); rintro e w178 ⟨v241, v244, rfl, ho0, ho1, hb⟩; refine ⟨_, rfl, ?_⟩; have N0 := am (re (by (with_reducible repeat (first | apply ra | apply rN | apply rd1)); exact (Kd.R_mono (rf (p := ⟨g238, 2, none⟩) (rf (p := ⟨g238, 1, none⟩) (rf (p := ⟨g238, 0, none⟩) (Kd.R_types O219.out B238.out (by decide)) (fun _ hk => hk.2) (I q t231)) (fun _ hk => hk.2) (J Ao175 t232.length co175)) (fun _ hk => hk.2) (J Ao176 t235.length co176)) (fun _ h_ => h_.1))) (Kd.R_base ho0) hb); have N1 := am (Kd.S_elder' (by (with_reducible repeat (first | apply sa | apply sN | apply sd)); exact (sm (sf (p := ⟨g238, 2, none⟩) (sf (p := ⟨g238, 1, none⟩) (sf (p := ⟨g238, 0, none⟩) (st O222.out B238.out (by decide)) (fun _ hk => hk.2) (I q t231)) (fun _ hk => hk.2) (J Ao175 t232.length co175)) (fun _ hk => hk.2) (J Ao176 t235.length co176)) (fun _ h_ => h_.1))) (Kd.S_base ho1) hb); have N2 := am (re (by (with_reducible repeat (first | apply ra | apply rN | apply rd1)); exact (Kd.R_mono (rf (p := ⟨g238, 2, none⟩) (rf (p := ⟨g238, 1, none⟩) (rf (p := ⟨g238, 0, none⟩) (Kd.R_types O226.out B238.out (by decide)) (fun _ hk => hk.2) (I q t231)) (fun _ hk => hk.2) (J Ao175 t232.length co175)) (fun _ hk => hk.2) (J Ao176 t235.length co176)) (fun _ h_ => h_.1))) (Kd.R_base ho0) hb); have N3 := am (Kd.S_elder' (by (with_reducible repeat (first | apply sa | apply sN | apply sd)); exact (sm (sf (p := ⟨g238, 2, none⟩) (sf (p := ⟨g238, 1, none⟩) (sf (p := ⟨g238, 0, none⟩) (st O229.out B238.out (by decide)) (fun _ hk => hk.2) (I q t231)) (fun _ hk => hk.2) (J Ao175 t232.length co175)) (fun _ hk => hk.2) (J Ao176 t235.length co176)) (fun _ h_ => h_.1))) (Kd.S_base ho1) hb); have N4 := am (re (by (with_reducible repeat (first | apply ra | apply rN | apply rd1)); exact (Kd.R_mono (rf (p := ⟨g238, 2, none⟩) (rf (p := ⟨g238, 1, none⟩) (rf (p := ⟨g238, 0, none⟩) (Kd.R_types O234.out B238.out (by decide)) (fun _ hk => hk.2) (I q t231)) (fun _ hk => hk.2) (J Ao175 t232.length co175)) (fun _ hk => hk.2) (J Ao176 t235.length co176)) (fun _ h_ => h_.1))) (Kd.R_base ho0) hb); have N5 := am (Kd.S_elder' (by (with_reducible repeat (first | apply sa | apply sN | apply sd)); exact (sm (sf (p := ⟨g238, 2, none⟩) (sf (p := ⟨g238, 1, none⟩) (sf (p := ⟨g238, 0, none⟩) (st O237.out B238.out (by decide)) (fun _ hk => hk.2) (I q t231)) (fun _ hk => hk.2) (J Ao175 t232.length co175)) (fun _ hk => hk.2) (J Ao176 t235.length co176)) (fun _ h_ => h_.1))) (Kd.S_base ho1) hb); have N6 := am (rw1 (rn (rn (rn ho0 (rl (by (with_reducible repeat (first | apply ra | apply rN | apply rd1)); exact (Kd.R_mono (rf (p := ⟨g238, 2, none⟩) (rf (p := ⟨g238, 1, none⟩) (rf (p := ⟨g238, 0, none⟩) (Kd.R_types O219.out B238.out (by decide)) (fun _ hk => hk.2) (I q t231)) (fun _ hk => hk.2) (J Ao175 t232.length co175)) (fun _ hk => hk.2) (J Ao176 t235.length co176)) (fun _ h_ => h_.1))))) (rl (by (with_reducible repeat (first | apply ra | apply rN | apply rd1)); exact (Kd.R_mono (rf (p := ⟨g238, 2, none⟩) (rf (p := ⟨g238, 1, none⟩) (rf (p := ⟨g238, 0, none⟩) (Kd.R_types O226.out B238.out (by decide)) (fun _ hk => hk.2) (I q t231)) (fun _ hk => hk.2) (J Ao175 t232.length co175)) (fun _ hk => hk.2) (J Ao176 t235.length co176)) (fun _ h_ => h_.1))))) (rl (by (with_reducible repeat (first | apply ra | apply rN | apply rd1)); exact (Kd.R_mono (rf (p := ⟨g238, 2, none⟩) (rf (p := ⟨g238, 1, none⟩) (rf (p := ⟨g238, 0, none⟩) (Kd.R_types O234.out B238.out (by decide)) (fun _ hk => hk.2) (I q t231)) (fun _ hk => hk.2) (J Ao175 t232.length co175)) (fun _ hk => hk.2) (J Ao176 t235.length co176)) (fun _ h_ => h_.1))))) (bz (by repeat (first | (with_reducible first | exact HB.out | apply pa | apply pN | apply p1 | refine bs ?_ E212.out | refine bs ?_ E213.out | refine bs ?_ E238.out) | exact HB.out)))); have N7 := am (Kd.S_lower (Kd.S_new' (Kd.S_new' (Kd.S_new' ho1 (sl (by (with_reducible repeat (first | apply sa | apply sN | apply sd)); exact (sm (sf (p := ⟨g238, 2, none⟩) (sf (p := ⟨g238, 1, none⟩) (sf (p := ⟨g238, 0, none⟩) (st O222.out B238.out (by decide)) (fun _ hk => hk.2) (I q t231)) (fun _ hk => hk.2) (J Ao175 t232.length co175)) (fun _ hk => hk.2) (J Ao176 t235.length co176)) (fun _ h_ => h_.1))))) (sl (by (with_reducible repeat (first | apply sa | apply sN | apply sd)); exact (sm (sf (p := ⟨g238, 2, none⟩) (sf (p := ⟨g238, 1, none⟩) (sf (p := ⟨g238, 0, none⟩) (st O229.out B238.out (by decide)) (fun _ hk => hk.2) (I q t231)) (fun _ hk => hk.2) (J Ao175 t232.length co175)) (fun _ hk => hk.2) (J Ao176 t235.length co176)) (fun _ h_ => h_.1))))) (sl (by (with_reducible repeat (first | apply sa | apply sN | apply sd)); exact (sm (sf (p := ⟨g238, 2, none⟩) (sf (p := ⟨g238, 1, none⟩) (sf (p := ⟨g238, 0, none⟩) (st O237.out B238.out (by decide)) (fun _ hk => hk.2) (I q t231)) (fun _ hk => hk.2) (J Ao175 t232.length co175)) (fun _ hk => hk.2) (J Ao176 t235.length co176)) (fun _ h_ => h_.1))))) (bz (by repeat (first | (with_reducible first | exact HB.out | apply pa | apply pN | apply p1 | refine bs ?_ E212.out | refine bs ?_ E213.out | refine bs ?_ E238.out) | exact HB.out)))); have N8 := am (bb (g := g212) (o := .cells #[I q aa0, J Aa1 la1.length ca1, J Aa2 la2.length ca2] 25 (0, 0)) (by (iterate 3 ((with_reducible repeat (first | apply bN | apply bd | apply ba)); refine bq ?_ NB212_238.out _)); (with_reducible repeat (first | apply bN | apply bd | apply ba)); exact B212.out) hb); have N9 := am (bb (g := g213) (o := .cells #[I q ab0, J Ab1 lb1.length cb1, J Ab2 lb2.length cb2] 25 (0, 0)) (by (iterate 3 ((with_reducible repeat (first | apply bN | apply bd | apply ba)); refine bq ?_ NB213_238.out _)); (with_reducible repeat (first | apply bN | apply bd | apply ba)); exact B213.out) hb); have N10 := am (bb (g := g238) (o := .cells #[I q t231, J Ao175 t232.length co175, J Ao176 t235.length co176] 31 (0, 0)) (by (with_reducible repeat (first | apply bN | apply bd | apply ba)); exact pu3 B238.out) hb); have N11 := am (bp (by repeat (first | (with_reducible first | exact HB.out | apply pa | apply pN | apply p1 | refine bs ?_ E212.out | refine bs ?_ E213.out | refine bs ?_ E238.out) | exact HB.out)) hb); clear O219 O222 O226 O229 O234 O237 B212 B213 B238 HB; have O219 := N0; have O222 := N1; have O226 := N2; have O229 := N3; have O234 := N4; have O237 := N5; have O242 := N6; have O245 := N7; have B212 := N8; have B213 := N9; have B238 := N10; have HB := N11; clear N0 N1 N2 N3 N4 N5 N6 N7 N8 N9 N10 N11; (try clear hb); (try clear hb2); (try clear hk); (try clear hi); (try clear ho0); (try clear ho1)) | ((with_reducible refine gate_dst (N := 8) rfl ?_); refine box_event ?hg (N := 8) ?hd (cs := #[I q 0, .slice none 0 0, .slice none 0 0]) (t := 31) ?hr ?_; (case hd => rfl); (case hg => rfl); (case hr => first | (go_simp; done) | (go_simp; rfl)); intro g246 hg w179 hbox hb; have N0 := am (rb (by (with_reducible repeat (first | apply ra | apply rN | apply rd1)); exact O219.out) hb); have N1 := am (Kd.S_below (by (with_reducible repeat (first | apply sa | apply sN | apply sd)); exact O222.out) hb); have N2 := am (rb (by (with_reducible repeat (first | apply ra | apply rN | apply rd1)); exact O226.out) hb); have N3 := am (Kd.S_below (by (with_reducible repeat (first | apply sa | apply sN | apply sd)); exact O229.out) hb); have N4 := am (rb (by (with_reducible repeat (first | apply ra | apply rN | apply rd1)); exact O234.out) hb); have N5 := am (Kd.S_below (by (with_reducible repeat (first | apply sa | apply sN | apply sd)); exact O237.out) hb); have N6 := am (rb (by (with_reducible repeat (first | apply ra | apply rN | apply rd1)); exact O242.out) hb); have N7 := am (Kd.S_below (by (with_reducible repeat (first | apply sa | apply sN | apply sd)); exact O245.out) hb); have N8 := am (bb (g := g212) (by (with_reducible repeat (first | apply bN | apply bd | apply ba)); exact B212.out) hb); have N9 := am (bb (g := g213) (by (with_reducible repeat (first | apply bN | apply bd | apply ba)); exact B213.out) hb); have N10 := am (bb (g := g238) (by (with_reducible repeat (first | apply bN | apply bd | apply ba)); exact B238.out) hb); have N11 := am (bp (by repeat (first | (with_reducible first | exact HB.out | apply pa | apply pN | apply p1 | refine bs ?_ E212.out | refine bs ?_ E213.out | refine bs ?_ E238.out) | exact HB.out)) hb); have N12 := am (hbox); have N13 := am ((by rw [hg]; exact (bz (by repeat (first | (with_reducible first | exact HB.out | apply pa | apply pN | apply p1 | refine bs ?_ E212.out | refine bs ?_ E213.out | refine bs ?_ E238.out) | exact HB.out))) : w.heap.size ≤ g246)); have N14 := am ((by rw [hg]; exact (bz (by repeat (first | (with_reducible first | exact HB.out | apply pa | apply pN | apply p1 | refine bs ?_ E212.out | refine bs ?_ E213.out | refine bs ?_ E238.out) | exact HB.out))) : w.heap.size ≤ g246)); have N15 := am ((by rw [hg]; exact Nat.ne_of_lt (bl (g := g212) (by (with_reducible repeat (first | apply bN | apply bd | apply ba)); exact B212.out)) : g212 ≠ g246)); have N16 := am ((by rw [hg]; exact Nat.ne_of_gt (bl (g := g212) (by (with_reducible repeat (first | apply bN | apply bd | apply ba)); exact B212.out)) : g246 ≠ g212)); have N17 := am ((by rw [hg]; exact Nat.ne_of_lt (bl (g := g213) (by (with_reducible repeat (first | apply bN | apply bd | apply ba)); exact B213.out)) : g213 ≠ g246)); have N18 := am ((by rw [hg]; exact Nat.ne_of_gt (bl (g := g213) (by (with_reducible repeat (first | apply bN | apply bd | apply ba)); exact B213.out)) : g246 ≠ g213)); have N19 := am ((by rw [hg]; exact Nat.ne_of_lt (bl (g := g238) (by (with_reducible repeat (first | apply bN | apply bd | apply ba)); exact B238.out)) : g238 ≠ g246)); have N20 := am ((by rw [hg]; exact Nat.ne_of_gt (bl (g := g238) (by (with_reducible repeat (first | apply bN | apply bd | apply ba)); exact B238.out)) : g246 ≠ g238)); clear O219 O222 O226 O229 O234 O237 O242 O245 B212 B213 B238 HB; have O219 := N0; have O222 := N1; have O226 := N2; have O229 := N3; have O234 := N4; have O237 := N5; have O242 := N6; have O245 := N7; have B212 := N8; have B213 := N9; have B238 := N10; have HB := N11; have B246 := N12; have GW246 := N13; have E246 := N14; have NB212_246 := N15; have NB246_212 := N16; have NB213_246 := N17; have NB246_213 := N18; have NB238_246 := N19; have NB246_238 := N20; clear N0 N1 N2 N3 N4 N5 N6 N7 N8 N9 N10 N11 N12 N13 N14 N15 N16 N17 N18 N19 N20 hb hbox hg; have hnb180 := NB246_212.out; have hnc180 := NB212_246.out; have hnb181 := NB246_213.out; have hnc181 := NB213_246.out; have hnb182 := NB246_238.out; have hnc182 := NB238_246.out; have hcz183_0 : w179.cell? ⟨g246, 0, none⟩ = some (I q 0) := (bc B246.out 0).trans rfl; have hcz183_1 : w179.cell? ⟨g246, 1, none⟩ = some (.slice none 0 0) := (bc B246.out 1).trans rfl; have hcz183_2 : w179.cell? ⟨g246, 2, none⟩ = some (.slice none 0 0) := (bc B246.out 2).trans rfl; have hfz183_0 := bf B246.out 0; have hfz183_1 := bf B246.out 1; have hfz183_2 := bf B246.out 2; obtain ⟨Ao184, co184, eo184⟩ := Kd.R_slice O242.out; subst eo184; obtain ⟨Ao185, co185, eo185⟩ := Kd.S_slice O245.out; subst eo185; have hcz186_0 : w179.cell? ⟨g238, 0, none⟩ = some (I q t231) := (bc B238.out 0).trans rfl; have hcz186_1 : w179.cell? ⟨g238, 1, none⟩ = some (J Ao175 t232.length co175) := (bc B238.out 1).trans rfl; have hcz186_2 : w179.cell? ⟨g238, 2, none⟩ = some (J Ao176 t235.length co176) := (bc B238.out 2).trans rfl; have hfz186_0 := bf B238.out 0; have hfz186_1 := bf B238.out 1; have hfz186_2 := bf B238.out 2) | ((with_reducible refine gate_callee (f := 35) rfl ?_); refine goesL_ (some 31) rfl rfl Try.func35 (by kernel_rfl) rfl #[.agg #[I q t231, J Ao175 t232.length co175, J Ao176 t235.length co176], .agg #[I q t239, J Ao184 t240.length co184, J Ao185 t243.length co185]] rfl (by (try simp only [List.map_toArray, List.map_cons, List.map_nil]); first | done | rfl) ?_; (with_reducible refine (impl_SameConfigs.calls k t231 _ _ t232 _ _ t235 t239 _ _ t240 _ _ t243 t247 _ ?side1 ?side2 ?side3 ?side4 ?side5 ?side6 ?side7 ?side8 A24.out).mono ?_); (case side1 => refine (Kd.R_reads' (e := 36) (base := w.heap.size) (ok := fun k_ => (((True ∧ some k_ ≠ (J Ao164 t217.length co164 : Value).ownBlock) ∧ some k_ ≠ (J Ao166 t224.length co166 : Value).ownBlock) ∧ some k_ ≠ (J Ao184 t240.length co184 : Value).ownBlock)) (n := t232.length) (c := co175) ?_).2.2; exact (by (with_reducible repeat (first | apply ra | apply rN | apply rd1)); exact (Kd.R_mono (rf (p := ⟨g246, 2, none⟩) (rf (p := ⟨g246, 1, none⟩) (rf (p := ⟨g246, 0, none⟩) (Kd.R_types O234.out B246.out (by decide)) (fun _ hk => hk.2) (I q t239)) (fun _ hk => hk.2) (J Ao184 t240.length co184)) (fun _ hk => hk.2) (J Ao185 t243.length co185)) (fun _ h_ => h_.1)))); (case side2 => exact (Kd.R_reads' O234.out).2.1); (case side3 => refine (Kd.S_reads' (e := 64) (base := w.heap.size) (ok := fun k_ => (((True ∧ some k_ ≠ (J Ao165 t220.length co165 : Value).ownBlock) ∧ some k_ ≠ (J Ao167 t227.length co167 : Value).ownBlock) ∧ some k_ ≠ (J Ao185 t243.length co185 : Value).ownBlock)) (n := t235.length) (c := co176) ?_).2.2; exact (by (with_reducible repeat (first | apply sa | apply sN | apply sd)); exact (sm (sf (p := ⟨g246, 2, none⟩) (sf (p := ⟨g246, 1, none⟩) (sf (p := ⟨g246, 0, none⟩) (st O237.out B246.out (by decide)) (fun _ hk => hk.2) (I q t239)) (fun _ hk => hk.2) (J Ao184 t240.length co184)) (fun _ hk => hk.2) (J Ao185 t243.length co185)) (fun _ h_ => h_.1)))); (case side4 => exact (Kd.S_reads' O237.out).2.1); (case side5 => refine (Kd.R_reads' (e := 36) (base := w.heap.size) (ok := fun k_ => (((True ∧ some k_ ≠ (J Ao164 t217.length co164 : Value).ownBlock) ∧ some k_ ≠ (J Ao166 t224.length co166 : Value).ownBlock) ∧ some k_ ≠ (J Ao175 t232.length co175 : Value).ownBlock)) (n := t240.length) (c := co184) ?_).2.2; exact (by (with_reducible repeat (first | apply ra | apply rN | apply rd1)); exact (Kd.R_mono (rf (p := ⟨g246, 2, none⟩) (rf (p := ⟨g246, 1, none⟩) (rf (p := ⟨g246, 0, none⟩) (Kd.R_types O242.out B246.out (by decide)) (fun _ hk => hk.2) (I q t239)) (fun _ hk => hk.2) (J Ao184 t240.length co184)) (fun _ hk => hk.2) (J Ao185 t243.length co185)) (fun _ h_ => h_.1)))); (case side6 => exact (Kd.R_reads' O242.out).2.1); (case side7 => refine (Kd.S_reads' (e := 64) (base := w.heap.size) (ok := fun k_ => (((True ∧ some k_ ≠ (J Ao165 t220.length co165 : Value).ownBlock) ∧ some k_ ≠ (J Ao167 t227.length co167 : Value).ownBlock) ∧ some k_ ≠ (J Ao176 t235.length co176 : Value).ownBlock)) (n := t243.length) (c := co185) ?_).2.2; exact (by (with_reducible repeat (first | apply sa | apply sN | apply sd)); exact (sm (sf (p := ⟨g246, 2, none⟩) (sf (p := ⟨g246, 1, none⟩) (sf (p := ⟨g246, 0, none⟩) (st O245.out B246.out (by decide)) (fun _ hk => hk.2) (I q t239)) (fun _ hk => hk.2) (J Ao184 t240.length co184)) (fun _ hk => hk.2) (J Ao185 t243.length co185)) (fun _ h_ => h_.1)))); (case side8 => exact (Kd.S_reads' O245.out).2.1); rintro e w187 ⟨rfl, hb⟩; refine ⟨_, rfl, ?_⟩; have N0 := am (rb (by (with_reducible repeat (first | apply ra | apply rN | apply rd1)); exact (Kd.R_mono (rf (p := ⟨g246, 2, none⟩) (rf (p := ⟨g246, 1, none⟩) (rf (p := ⟨g246, 0, none⟩) (Kd.R_types O219.out B246.out (by decide)) (fun _ hk => hk.2) (I q t239)) (fun _ hk => hk.2) (J Ao184 t240.length co184)) (fun _ hk => hk.2) (J Ao185 t243.length co185)) (fun _ h_ => h_.1))) hb); have N1 := am (Kd.S_below (by (with_reducible repeat (first | apply sa | apply sN | apply sd)); exact (sm (sf (p := ⟨g246, 2, none⟩) (sf (p := ⟨g246, 1, none⟩) (sf (p := ⟨g246, 0, none⟩) (st O222.out B246.out (by decide)) (fun _ hk => hk.2) (I q t239)) (fun _ hk => hk.2) (J Ao184 t240.length co184)) (fun _ hk => hk.2) (J Ao185 t243.length co185)) (fun _ h_ => h_.1))) hb); have N2 := am (rb (by (with_reducible repeat (first | apply ra | apply rN | apply rd1)); exact (Kd.R_mono (rf (p := ⟨g246, 2, none⟩) (rf (p := ⟨g246, 1, none⟩) (rf (p := ⟨g246, 0, none⟩) (Kd.R_types O226.out B246.out (by decide)) (fun _ hk => hk.2) (I q t239)) (fun _ hk => hk.2) (J Ao184 t240.length co184)) (fun _ hk => hk.2) (J Ao185 t243.length co185)) (fun _ h_ => h_.1))) hb); have N3 := am (Kd.S_below (by (with_reducible repeat (first | apply sa | apply sN | apply sd)); exact (sm (sf (p := ⟨g246, 2, none⟩) (sf (p := ⟨g246, 1, none⟩) (sf (p := ⟨g246, 0, none⟩) (st O229.out B246.out (by decide)) (fun _ hk => hk.2) (I q t239)) (fun _ hk => hk.2) (J Ao184 t240.length co184)) (fun _ hk => hk.2) (J Ao185 t243.length co185)) (fun _ h_ => h_.1))) hb); have N4 := am (rb (by (with_reducible repeat (first | apply ra | apply rN | apply rd1)); exact (Kd.R_mono (rf (p := ⟨g246, 2, none⟩) (rf (p := ⟨g246, 1, none⟩) (rf (p := ⟨g246, 0, none⟩) (Kd.R_types O234.out B246.out (by decide)) (fun _ hk => hk.2) (I q t239)) (fun _ hk => hk.2) (J Ao184 t240.length co184)) (fun _ hk => hk.2) (J Ao185 t243.length co185)) (fun _ h_ => h_.1))) hb); have N5 := am (Kd.S_below (by (with_reducible repeat (first | apply sa | apply sN | apply sd)); exact (sm (sf (p := ⟨g246, 2, none⟩) (sf (p := ⟨g246, 1, none⟩) (sf (p := ⟨g246, 0, none⟩) (st O237.out B246.out (by decide)) (fun _ hk => hk.2) (I q t239)) (fun _ hk => hk.2) (J Ao184 t240.length co184)) (fun _ hk => hk.2) (J Ao185 t243.length co185)) (fun _ h_ => h_.1))) hb); have N6 := am (rb (by (with_reducible repeat (first | apply ra | apply rN | apply rd1)); exact (Kd.R_mono (rf (p := ⟨g246, 2, none⟩) (rf (p := ⟨g246, 1, none⟩) (rf (p := ⟨g246, 0, none⟩) (Kd.R_types O242.out B246.out (by decide)) (fun _ hk => hk.2) (I q t239)) (fun _ hk => hk.2) (J Ao184 t240.length co184)) (fun _ hk => hk.2) (J Ao185 t243.length co185)) (fun _ h_ => h_.1))) hb); have N7 := am (Kd.S_below (by (with_reducible repeat (first | apply sa | apply sN | apply sd)); exact (sm (sf (p := ⟨g246, 2, none⟩) (sf (p := ⟨g246, 1, none⟩) (sf (p := ⟨g246, 0, none⟩) (st O245.out B246.out (by decide)) (fun _ hk => hk.2) (I q t239)) (fun _ hk => hk.2) (J Ao184 t240.length co184)) (fun _ hk => hk.2) (J Ao185 t243.length co185)) (fun _ h_ => h_.1))) hb); have N8 := am (bb (g := g212) (o := .cells #[I q aa0, J Aa1 la1.length ca1, J Aa2 la2.length ca2] 25 (0, 0)) (by (iterate 3 ((with_reducible repeat (first | apply bN | apply bd | apply ba)); refine bq ?_ NB212_246.out _)); (with_reducible repeat (first | apply bN | apply bd | apply ba)); exact B212.out) hb); have N9 := am (bb (g := g213) (o := .cells #[I q ab0, J Ab1 lb1.length cb1, J Ab2 lb2.length cb2] 25 (0, 0)) (by (iterate 3 ((with_reducible repeat (first | apply bN | apply bd | apply ba)); refine bq ?_ NB213_246.out _)); (with_reducible repeat (first | apply bN | apply bd | apply ba)); exact B213.out) hb); have N10 := am (bb (g := g238) (o := .cells #[I q t231, J Ao175 t232.length co175, J Ao176 t235.length co176] 31 (0, 0)) (by (iterate 3 ((with_reducible repeat (first | apply bN | apply bd | apply ba)); refine bq ?_ NB238_246.out _)); (with_reducible repeat (first | apply bN | apply bd | apply ba)); exact B238.out) hb); have N11 := am (bb (g := g246) (o := .cells #[I q t239, J Ao184 t240.length co184, J Ao185 t243.length co185] 31 (0, 0)) (by (with_reducible repeat (first | apply bN | apply bd | apply ba)); exact pu3 B246.out) hb); have N12 := am (bp (by repeat (first | (with_reducible first | exact HB.out | apply pa | apply pN | apply p1 | refine bs ?_ E212.out | refine bs ?_ E213.out | refine bs ?_ E238.out | refine bs ?_ E246.out) | exact HB.out)) hb); clear O219 O222 O226 O229 O234 O237 O242 O245 B212 B213 B238 B246 HB; have O219 := N0; have O222 := N1; have O226 := N2; have O229 := N3; have O234 := N4; have O237 := N5; have O242 := N6; have O245 := N7; have B212 := N8; have B213 := N9; have B238 := N10; have B246 := N11; have HB := N12; clear N0 N1 N2 N3 N4 N5 N6 N7 N8 N9 N10 N11 N12; (try clear hb); (try clear hb2); (try clear hk); (try clear hi)))
          have N0 := am (rd1 O219.out)
          have N1 := am (sd O222.out)
          have N2 := am (rd1 O226.out)
          have N3 := am (sd O229.out)
          have N4 := am (rd1 O234.out)
          have N5 := am (sd O237.out)
          have N6 := am (rd1 O242.out)
          have N7 := am (sd O245.out)
          have N8 := am (bd B212.out)
          have N9 := am (bd B213.out)
          have N10 := am (bd B238.out)
          have N11 := am (bd B246.out)
          have N12 := am (p1 HB.out)
          clear O219
          clear O222
          clear O226
          clear O229
          clear O234
          clear O237
          clear O242
          clear O245
          clear B212
          clear B213
          clear B238
          clear B246
          clear HB
          have O219 := N0
          have O222 := N1
          have O226 := N2
          have O229 := N3
          have O234 := N4
          have O237 := N5
          have O242 := N6
          have O245 := N7
          have B212 := N8
          have B213 := N9
          have B238 := N10
          have B246 := N11
          have HB := N12
          clear N0 N1 N2 N3 N4 N5 N6 N7 N8 N9 N10 N11 N12
          refine start_ (n := 5) (S := fun w' => w'.cell? ⟨g238, 0, none⟩ = some (I q t231) ∧ w'.cell? ⟨g238, 1, none⟩ = some (J Ao175 t232.length co175) ∧ w'.cell? ⟨g238, 2, none⟩ = some (J Ao176 t235.length co176) ∧ w'.cell? ⟨g212, 0, none⟩ = some (I q aa0) ∧ w'.cell? ⟨g212, 1, none⟩ = some (J Aa1 la1.length ca1) ∧ w'.cell? ⟨g212, 2, none⟩ = some (J Aa2 la2.length ca2)) (ds := []) #[false, false, false, false, false] (by kernel_rfl) rfl rfl ⟨(bc B238.out 0).trans rfl, (bc B238.out 1).trans rfl, (bc B238.out 2).trans rfl, (bc B212.out 0).trans rfl, (bc B212.out 1).trans rfl, (bc B212.out 2).trans rfl⟩ (fun hHeld => ?_)
          generalize w187.drew = w188 at O219 O222 O226 O229 O234 O237 O242 O245 B212 B213 B238 B246 HB hHeld ⊢
          refine take_ (i := 0) (N := some 35) (v := ?_) (a' := ?_) #[true, false, false, false, false] rfl rfl (by kernel_rfl) (fun _ _ _ h => h) (Or.inl ⟨by rfl, ?_⟩) hHeld ?_ ?_
          rotate_left
          · rintro w' ⟨s0, s1, s2, s3, s4, s5⟩
            go_simp
            with_reducible rfl
          rotate_left
          · simp only [Act.put, List.setIfInBounds_toArray, List.set_cons_zero, List.set_cons_succ, i64_w, i32_w]
            rfl
          refine take_ (i := 1) (N := some 36) (v := ?_) (a' := ?_) #[true, true, false, false, false] rfl rfl (by kernel_rfl) (fun _ _ _ h => h) (Or.inl ⟨by rfl, ?_⟩) hHeld ?_ ?_
          rotate_left
          · rintro w' ⟨s0, s1, s2, s3, s4, s5⟩
            go_simp
            with_reducible rfl
          rotate_left
          · simp only [Act.put, List.setIfInBounds_toArray, List.set_cons_zero, List.set_cons_succ, i64_w, i32_w]
            rfl
          refine one_ (i := 2) (N := some 37) #[true, true, true, false, false] rfl rfl (by kernel_rfl) (by decide) (fun K hK => ?_)
          refine goes_ Try.func14 (by kernel_rfl) rfl #[.agg #[I q aa0, J Aa1 la1.length ca1, J Aa2 la2.length ca2]] (by rfl) rfl rfl (by (try simp only [List.map_toArray, List.map_cons, List.map_nil]); first | done | rfl | (simp only [List.length_drop, List.length_take]; rfl)) ?_
          with_reducible refine (laws_toConfig.calls k aa0 _ _ la1 _ _ la2 t248 t249 t252 _ ?side1 ?side2 ?side3 ?side4 A60.out).mono ?_
          (case side1 => repeat (first | exact (Kd.C_below HR0_1.out HB.out) | (with_reducible refine ca ?_ _) | (with_reducible refine cN ?_ _) | (with_reducible refine cd1 ?_)))
          (case side2 => exact HC0_1.out)
          (case side3 => repeat (first | exact (Kd.C_below HR0_2.out HB.out) | (with_reducible refine ca ?_ _) | (with_reducible refine cN ?_ _) | (with_reducible refine cd1 ?_)))
          (case side4 => exact HC0_2.out)
          rintro e w189 ⟨v250, v253, rfl, ho0, ho1, hb⟩
          refine ⟨_, rfl, ?_⟩
          have N0 := am (re (by (with_reducible repeat (first | apply ra | apply rN | apply rd1)); exact O219.out) (Kd.R_base ho0) hb)
          have N1 := am (Kd.S_elder' (by (with_reducible repeat (first | apply sa | apply sN | apply sd)); exact O222.out) (Kd.S_base ho1) hb)
          have N2 := am (re (by (with_reducible repeat (first | apply ra | apply rN | apply rd1)); exact O226.out) (Kd.R_base ho0) hb)
          have N3 := am (Kd.S_elder' (by (with_reducible repeat (first | apply sa | apply sN | apply sd)); exact O229.out) (Kd.S_base ho1) hb)
          have N4 := am (re (by (with_reducible repeat (first | apply ra | apply rN | apply rd1)); exact O234.out) (Kd.R_base ho0) hb)
          have N5 := am (Kd.S_elder' (by (with_reducible repeat (first | apply sa | apply sN | apply sd)); exact O237.out) (Kd.S_base ho1) hb)
          have N6 := am (re (by (with_reducible repeat (first | apply ra | apply rN | apply rd1)); exact O242.out) (Kd.R_base ho0) hb)
          have N7 := am (Kd.S_elder' (by (with_reducible repeat (first | apply sa | apply sN | apply sd)); exact O245.out) (Kd.S_base ho1) hb)
          have N8 := am (rw1 (rn (rn (rn (rn ho0 (rl (by (with_reducible repeat (first | apply ra | apply rN | apply rd1)); exact O219.out))) (rl (by (with_reducible repeat (first | apply ra | apply rN | apply rd1)); exact O226.out))) (rl (by (with_reducible repeat (first | apply ra | apply rN | apply rd1)); exact O234.out))) (rl (by (with_reducible repeat (first | apply ra | apply rN | apply rd1)); exact O242.out))) (bz (by repeat (first | (with_reducible first | exact HB.out | apply pa | apply pN | apply p1 | refine bs ?_ E212.out | refine bs ?_ E213.out | refine bs ?_ E238.out | refine bs ?_ E246.out) | exact HB.out))))
          have N9 := am (Kd.S_lower (Kd.S_new' (Kd.S_new' (Kd.S_new' (Kd.S_new' ho1 (sl (by (with_reducible repeat (first | apply sa | apply sN | apply sd)); exact O222.out))) (sl (by (with_reducible repeat (first | apply sa | apply sN | apply sd)); exact O229.out))) (sl (by (with_reducible repeat (first | apply sa | apply sN | apply sd)); exact O237.out))) (sl (by (with_reducible repeat (first | apply sa | apply sN | apply sd)); exact O245.out))) (bz (by repeat (first | (with_reducible first | exact HB.out | apply pa | apply pN | apply p1 | refine bs ?_ E212.out | refine bs ?_ E213.out | refine bs ?_ E238.out | refine bs ?_ E246.out) | exact HB.out))))
          have N10 := am (bb (g := g212) (by (with_reducible repeat (first | apply bN | apply bd | apply ba)); exact B212.out) hb)
          have N11 := am (bb (g := g213) (by (with_reducible repeat (first | apply bN | apply bd | apply ba)); exact B213.out) hb)
          have N12 := am (bb (g := g238) (by (with_reducible repeat (first | apply bN | apply bd | apply ba)); exact B238.out) hb)
          have N13 := am (bb (g := g246) (by (with_reducible repeat (first | apply bN | apply bd | apply ba)); exact B246.out) hb)
          have N14 := am (bp (by repeat (first | (with_reducible first | exact HB.out | apply pa | apply pN | apply p1 | refine bs ?_ E212.out | refine bs ?_ E213.out | refine bs ?_ E238.out | refine bs ?_ E246.out) | exact HB.out)) hb)
          clear O219
          clear O222
          clear O226
          clear O229
          clear O234
          clear O237
          clear O242
          clear O245
          clear B212
          clear B213
          clear B238
          clear B246
          clear HB
          have O219 := N0
          have O222 := N1
          have O226 := N2
          have O229 := N3
          have O234 := N4
          have O237 := N5
          have O242 := N6
          have O245 := N7
          have O251 := N8
          have O254 := N9
          have B212 := N10
          have B213 := N11
          have B238 := N12
          have B246 := N13
          have HB := N14
          clear N0 N1 N2 N3 N4 N5 N6 N7 N8 N9 N10 N11 N12 N13 N14
          (try clear hb)
          (try clear hb2)
          (try clear hk)
          (try clear hi)
          (try clear ho0)
          (try clear ho1)
          obtain ⟨Ao190, co190, eo190⟩ := Kd.R_slice O251.out
          (first | subst eo190 | (injection eo190 with f1_ f2_ f3_; have f4_ := f1_.symm; have f5_ := f3_.symm; clear f1_ f2_ f3_; subst f4_; subst f5_))
          obtain ⟨Ao191, co191, eo191⟩ := Kd.S_slice O254.out
          (first | subst eo191 | (injection eo191 with f1_ f2_ f3_; have f4_ := f1_.symm; have f5_ := f3_.symm; clear f1_ f2_ f3_; subst f4_; subst f5_))
          refine hK.out _ _ ⟨(bc B238.out 0).trans rfl, (bc B238.out 1).trans rfl, (bc B238.out 2).trans rfl, (bc B212.out 0).trans rfl, (bc B212.out 1).trans rfl, (bc B212.out 2).trans rfl⟩ (fun hHeld => ?_)
          clear hK K
          refine norm_ (a' := ?_) ?_ ?_
          rotate_left
          · show Act.put _ (some 37) _ = _
            simp only [Act.put, List.setIfInBounds_toArray, List.set_cons_zero, List.set_cons_succ, i64_w, i32_w]
            rfl
          refine one_ (i := 3) (N := some 38) #[true, true, true, true, false] rfl rfl (by kernel_rfl) (by decide) (fun K hK => ?_)
          refine goes_ Try.func16 (by kernel_rfl) rfl #[.agg #[I q t231, J Ao175 t232.length co175, J Ao176 t235.length co176], .agg #[I q t248, J Ao190 t249.length co190, J Ao191 t252.length co191]] (by rfl) rfl rfl (by (try simp only [List.map_toArray, List.map_cons, List.map_nil]); first | done | rfl | (simp only [List.length_drop, List.length_take]; rfl)) ?_
          with_reducible refine (laws_eqConfig.calls k t231 _ _ t232 _ _ t235 t248 _ _ t249 _ _ t252 false _ ?side1 ?side2 ?side3 ?side4 ?side5 ?side6 ?side7 ?side8 A61.out).mono ?_
          (case side1 => repeat (first | exact (Kd.R_reads' O234.out).2.2 | (with_reducible refine ca ?_ _) | (with_reducible refine cN ?_ _) | (with_reducible refine cd1 ?_)))
          (case side2 => exact (Kd.R_reads' O234.out).2.1)
          (case side3 => repeat (first | exact (Kd.S_reads' O237.out).2.2 | (with_reducible refine ca ?_ _) | (with_reducible refine cN ?_ _) | (with_reducible refine cd1 ?_)))
          (case side4 => exact (Kd.S_reads' O237.out).2.1)
          (case side5 => repeat (first | exact (Kd.R_reads' O251.out).2.2 | (with_reducible refine ca ?_ _) | (with_reducible refine cN ?_ _) | (with_reducible refine cd1 ?_)))
          (case side6 => exact (Kd.R_reads' O251.out).2.1)
          (case side7 => repeat (first | exact (Kd.S_reads' O254.out).2.2 | (with_reducible refine ca ?_ _) | (with_reducible refine cN ?_ _) | (with_reducible refine cd1 ?_)))
          (case side8 => exact (Kd.S_reads' O254.out).2.1)
          rintro e w192 ⟨rfl, hb⟩
          refine ⟨_, rfl, ?_⟩
          have N0 := am (rb (by (with_reducible repeat (first | apply ra | apply rN | apply rd1)); exact O219.out) hb)
          have N1 := am (Kd.S_below (by (with_reducible repeat (first | apply sa | apply sN | apply sd)); exact O222.out) hb)
          have N2 := am (rb (by (with_reducible repeat (first | apply ra | apply rN | apply rd1)); exact O226.out) hb)
          have N3 := am (Kd.S_below (by (with_reducible repeat (first | apply sa | apply sN | apply sd)); exact O229.out) hb)
          have N4 := am (rb (by (with_reducible repeat (first | apply ra | apply rN | apply rd1)); exact O234.out) hb)
          have N5 := am (Kd.S_below (by (with_reducible repeat (first | apply sa | apply sN | apply sd)); exact O237.out) hb)
          have N6 := am (rb (by (with_reducible repeat (first | apply ra | apply rN | apply rd1)); exact O242.out) hb)
          have N7 := am (Kd.S_below (by (with_reducible repeat (first | apply sa | apply sN | apply sd)); exact O245.out) hb)
          have N8 := am (rb (by (with_reducible repeat (first | apply ra | apply rN | apply rd1)); exact O251.out) hb)
          have N9 := am (Kd.S_below (by (with_reducible repeat (first | apply sa | apply sN | apply sd)); exact O254.out) hb)
          have N10 := am (bb (g := g212) (by (with_reducible repeat (first | apply bN | apply bd | apply ba)); exact B212.out) hb)
          have N11 := am (bb (g := g213) (by (with_reducible repeat (first | apply bN | apply bd | apply ba)); exact B213.out) hb)
          have N12 := am (bb (g := g238) (by (with_reducible repeat (first | apply bN | apply bd | apply ba)); exact B238.out) hb)
          have N13 := am (bb (g := g246) (by (with_reducible repeat (first | apply bN | apply bd | apply ba)); exact B246.out) hb)
          have N14 := am (bp (by repeat (first | (with_reducible first | exact HB.out | apply pa | apply pN | apply p1 | refine bs ?_ E212.out | refine bs ?_ E213.out | refine bs ?_ E238.out | refine bs ?_ E246.out) | exact HB.out)) hb)
          clear O219
          clear O222
          clear O226
          clear O229
          clear O234
          clear O237
          clear O242
          clear O245
          clear O251
          clear O254
          clear B212
          clear B213
          clear B238
          clear B246
          clear HB
          have O219 := N0
          have O222 := N1
          have O226 := N2
          have O229 := N3
          have O234 := N4
          have O237 := N5
          have O242 := N6
          have O245 := N7
          have O251 := N8
          have O254 := N9
          have B212 := N10
          have B213 := N11
          have B238 := N12
          have B246 := N13
          have HB := N14
          clear N0 N1 N2 N3 N4 N5 N6 N7 N8 N9 N10 N11 N12 N13 N14
          (try clear hb)
          (try clear hb2)
          (try clear hk)
          (try clear hi)
          refine hK.out _ _ ⟨(bc B238.out 0).trans rfl, (bc B238.out 1).trans rfl, (bc B238.out 2).trans rfl, (bc B212.out 0).trans rfl, (bc B212.out 1).trans rfl, (bc B212.out 2).trans rfl⟩ (fun hHeld => ?_)
          clear hK K
          refine norm_ (a' := ?_) ?_ ?_
          rotate_left
          · show Act.put _ (some 38) _ = _
            simp only [Act.put, List.setIfInBounds_toArray, List.set_cons_zero, List.set_cons_succ, i64_w, i32_w]
            rfl
          refine pure_ (i := 4) (N := some 39) (v := ?_) (a' := ?_) #[true, true, true, true, true] rfl rfl (by kernel_rfl) (fun _ _ _ h => h) (Or.inl ⟨by rfl, ?_⟩) ?_ ?_
          rotate_left
          · intro w'
            first | (go_simp; with_reducible rfl) | (go_simp; (try unfold Instr.field); go_simp; (try simp only [asAgg]); go_simp; with_reducible rfl)
          rotate_left
          · simp only [Act.put, List.setIfInBounds_toArray, List.set_cons_zero, List.set_cons_succ, i64_w, i32_w]
            rfl
          refine done_ (by kernel_rfl) ?_
          try go_wp2
          go_ret
          exact ⟨by first | rfl | (simp [errW_none, errW_some] <;> rfl) | (simp [*, errW_none, errW_some] <;> rfl), by repeat (first | (with_reducible first | exact HB.out | apply pa | apply pN | apply p1 | refine bs ?_ E212.out | refine bs ?_ E213.out | refine bs ?_ E238.out | refine bs ?_ E246.out) | exact HB.out)⟩

end Go.Proofs.Ytfmlhpoaipeoeaa.QFnExactSameConfigs
