-- MADE BY PROGRAM (qprint.py): walks of the functions that the law FnExactPackConfig reaches. Lean checks it.
import Derived.Test.YtfmlhpoaipeoeaaQFnExactPackConfigx0
import Derived.Test.YtfmlhpoaipeoeaaQFnExactPackConfigx1
import Derived.Test.YtfmlhpoaipeoeaaQFnExactPackConfigx3
import Derived.Test.YtfmlhpoaipeoeaaQFnExactPackConfigx7
import Derived.Test.YtfmlhpoaipeoeaaQFnExactPackConfigx9
namespace Go.Proofs.Ytfmlhpoaipeoeaa.QFnExactPackConfig
open Go.RowKit Go.Proofs.YtfmlhpoaipeoeaaW.PrintWords Go.Proofs.YtfmlhpoaipeoeaaW.PrintLast Go.Proofs.YtfmlhpoaipeoeaaW.PrintMore
open Go.Proofs.YtfmlhpoaipeoeaaW.PrintWords renaming blk_drewN → bN, blk_drew → bd, blk_alloc → ba, blk_cell → bc, blk_frozen → bf, below_set → bs, pw_below_drewN → pN, below_drew1 → p1, below_alloc → pa, blk_below → bb, below_size → bz, below_step → bp, blk_lt → bl, blk_far → bq, add_block → ab
open Go.Proofs.YtfmlhpoaipeoeaaW.PrintWords.Kd renaming R_drewN → rN, R_drew → rd1, R_alloc → ra, R_far → rf, R_below → rb, R_new' → rn, R_lt → rl, R_elder' → re, R_lower → rw1, C_alloc → ca, C_drewN → cN, C_drew → cd1, S_alloc → sa, S_drewN → sN, S_drew → sd, S_far → sf, S_mono → sm, S_types → st, S_lt → sl
open Go.Proofs.YtfmlhpoaipeoeaaW.PrintWords.Aside0 renaming mk → am
open Go.Value renaming int → I, slice → J
open Go.IntKind renaming i64 → q
attribute [local go_sem] max2_int min2_int max_two min_two max_three min_three max_four min_four   -- for this text's walks alone
set_option linter.unusedVariables false
set_option linter.unusedSimpArgs false
theorem pu2k {W : World} {g t : Nat} {u0 u1 v0 v1 : Value} (h : W.heap[g]? = some (.cells #[u0, u1] t (0, 0))) : ((W.setCell ⟨g, 0, none⟩ v0).setCell ⟨g, 1, none⟩ v1).heap[g]? = some (.cells #[v0, v1] t (0, 0)) := by
 refine blk_put (cs := #[v0, u1]) ?_ 1 _ rfl
 exact blk_put (cs := #[u0, u1]) h 0 _ rfl
theorem pu3k {W : World} {g t : Nat} {u0 u1 u2 v0 v1 v2 : Value} (h : W.heap[g]? = some (.cells #[u0, u1, u2] t (0, 0))) : (((W.setCell ⟨g, 0, none⟩ v0).setCell ⟨g, 1, none⟩ v1).setCell ⟨g, 2, none⟩ v2).heap[g]? = some (.cells #[v0, v1, v2] t (0, 0)) := by
 refine blk_put (cs := #[v0, v1, u2]) ?_ 2 _ rfl
 refine blk_put (cs := #[v0, u1, u2]) ?_ 1 _ rfl
 exact blk_put (cs := #[u0, u1, u2]) h 0 _ rfl

/-! ### laws_FnExactPackConfig: function 9 -/
def laws_FnExactPackConfig.j0 : Nat → Bool → Int → List (S134) → List (S131) → Int → List Int → Int → List Int → Option (Bool)
 | 0, _, _, _, _, _, _, _, _ => none
 | k + 1, x42, x383000, x383001, x383002, x396000, x396001, x409000, x409001 => if x42 = true then none else ((laws_markBytesResult.f k x409000 x409001 1).bind fun bt420 => ((laws_heldBytesResult.f k x409000 bt420.2 1).bind fun t422 => (if t422 < 0 then none else (if t422 = bt420.1 then ((laws_toConfig.f k x383000 x383001 x383002).bind fun bt423 => ((impl_PackConfig.f k bt423.1 bt423.2.1 bt423.2.2).bind fun bt430 => ((laws_eqBytesResult.f k bt430.1 bt430.2 x396000 x396001).bind fun t435 => (if t435 = true then ((laws_heldBytesResult.f k x409000 bt420.2 1).bind fun t436 => (if t436 < 0 then none else (if t436 = bt420.1 then (some true) else none))) else none)))) else none))))
def laws_FnExactPackConfig.f (k : Nat) (aa0 : Int) (la1 : List (S134)) (la2 : List (S131)) : Option (Bool) := (laws_szConfig.f k aa0 la1 la2 1048576).bind fun t383 => (if t383 < 0 then (some true) else ((laws_toConfig.f k aa0 la1 la2).bind fun bt384 => ((spec_PackConfig.f k bt384.1 bt384.2.1 bt384.2.2).bind fun bt391 => ((laws_toConfig.f k aa0 la1 la2).bind fun bt396 => ((impl_PackConfig.f k bt396.1 bt396.2.1 bt396.2.2).bind fun bt404 => ((laws_eqBytesResult.f k bt404.1 bt404.2 bt391.1 bt391.2).bind fun t409 => (if t409 = true then ((laws_toConfig.f k aa0 la1 la2).bind fun bt410 => ((laws_eqConfig.f k bt396.1 bt396.2.1 bt396.2.2 bt410.1 bt410.2.1 bt410.2.2).bind fun t417 => (if t417 = true then ((laws_markConfig.f bt396.1 bt396.2.1 bt396.2.2 1).bind fun t418 => (if t418 < 0 then (laws_FnExactPackConfig.j0 k true aa0 la1 la2 bt391.1 bt391.2 bt404.1 bt404.2) else ((laws_eqBytesResult.f k bt404.1 bt404.2 bt391.1 bt391.2).bind fun t419 => (laws_FnExactPackConfig.j0 k (!t419) aa0 la1 la2 bt391.1 bt391.2 bt404.1 bt404.2)))) else none))) else none)))))))
theorem laws_FnExactPackConfig.mono_l : ∀ k, (∀ y0 y1 y2 y3 y4 y5 y6 y7, LeO (laws_FnExactPackConfig.j0 k y0 y1 y2 y3 y4 y5 y6 y7) (laws_FnExactPackConfig.j0 (k + 1) y0 y1 y2 y3 y4 y5 y6 y7))
 | 0 => fun _ _ _ _ _ _ _ _ r h => by simp [laws_FnExactPackConfig.j0] at h
 | k + 1 => by
  have ih0 := laws_FnExactPackConfig.mono_l k
  ·intro y0 y1 y2 y3 y4 y5 y6 y7
   unfold laws_FnExactPackConfig.j0
   repeat' first
   | (with_reducible exact ih0 _ _ _ _ _ _ _ _)
   | (with_reducible exact impl_PackConfig.mono _ _ _ _)
   | (with_reducible exact laws_eqBytesResult.mono _ _ _ _ _)
   | (with_reducible exact laws_eqConfig.mono _ _ _ _ _ _ _)
   | (with_reducible exact laws_heldBytesResult.mono _ _ _ _)
   | (with_reducible exact laws_markBytesResult.mono _ _ _ _)
   | (with_reducible exact laws_szConfig.mono _ _ _ _ _)
   | (with_reducible exact laws_toConfig.mono _ _ _ _)
   | (with_reducible exact spec_PackConfig.mono _ _ _ _)
   | (with_reducible exact LeO.refl _)
   | (with_reducible exact LeO.none _)
   | (with_reducible refine LeO.ite ?_ ?_)
   | (with_reducible refine LeO.bind ?_ (fun _ => ?_))
   | exact ih0 _ _ _ _ _ _ _ _
   | exact impl_PackConfig.mono _ _ _ _
   | exact laws_eqBytesResult.mono _ _ _ _ _
   | exact laws_eqConfig.mono _ _ _ _ _ _ _
   | exact laws_heldBytesResult.mono _ _ _ _
   | exact laws_markBytesResult.mono _ _ _ _
   | exact laws_szConfig.mono _ _ _ _ _
   | exact laws_toConfig.mono _ _ _ _
   | exact spec_PackConfig.mono _ _ _ _
   | exact LeO.none _
   | refine LeO.ite ?_ ?_
   | refine LeO.bind ?_ (fun _ => ?_)
theorem laws_FnExactPackConfig.mono : ∀ a0 a1 a2 k, LeO (laws_FnExactPackConfig.f k a0 a1 a2) (laws_FnExactPackConfig.f (k + 1) a0 a1 a2) := by
 intro a0 a1 a2 k
 have ih0 := laws_FnExactPackConfig.mono_l k
 unfold laws_FnExactPackConfig.f
 repeat' first
   | (with_reducible exact ih0 _ _ _ _ _ _ _ _)
   | (with_reducible exact impl_PackConfig.mono _ _ _ _)
   | (with_reducible exact laws_eqBytesResult.mono _ _ _ _ _)
   | (with_reducible exact laws_eqConfig.mono _ _ _ _ _ _ _)
   | (with_reducible exact laws_heldBytesResult.mono _ _ _ _)
   | (with_reducible exact laws_markBytesResult.mono _ _ _ _)
   | (with_reducible exact laws_szConfig.mono _ _ _ _ _)
   | (with_reducible exact laws_toConfig.mono _ _ _ _)
   | (with_reducible exact spec_PackConfig.mono _ _ _ _)
   | (with_reducible exact LeO.refl _)
   | (with_reducible exact LeO.none _)
   | (with_reducible refine LeO.ite ?_ ?_)
   | (with_reducible refine LeO.bind ?_ (fun _ => ?_))
   | exact ih0 _ _ _ _ _ _ _ _
   | exact impl_PackConfig.mono _ _ _ _
   | exact laws_eqBytesResult.mono _ _ _ _ _
   | exact laws_eqConfig.mono _ _ _ _ _ _ _
   | exact laws_heldBytesResult.mono _ _ _ _
   | exact laws_markBytesResult.mono _ _ _ _
   | exact laws_szConfig.mono _ _ _ _ _
   | exact laws_toConfig.mono _ _ _ _
   | exact spec_PackConfig.mono _ _ _ _
   | exact LeO.none _
   | refine LeO.ite ?_ ?_
   | refine LeO.bind ?_ (fun _ => ?_)
set_option maxHeartbeats 8000000 in
set_option maxRecDepth 100000 in
theorem laws_FnExactPackConfig.calls (k : Nat) (aa0 : Int) (Aa1 : Option Addr) (ca1 : Nat) (la1 : List (S134)) (Aa2 : Option Addr) (ca2 : Nat) (la2 : List (S131)) (r : Bool) (w : World) (hr0_1 : Kd.C k134 w Aa1 la1.length la1) (hc0_1 : la1.length ≤ ca1) (hr0_2 : Kd.C k131 w Aa2 la2.length la2) (hc0_2 : la2.length ≤ ca2) (h : laws_FnExactPackConfig.f k aa0 la1 la2 = some r) :
  Calls Try.prog 9 #[.agg #[I q aa0, J Aa1 la1.length ca1, J Aa2 la2.length ca2]] w fun e w' => e = .returned (.bool r) ∧ Below w.heap.size w w' := by
 have hu25 := Try.underlying25
 have hu71 := Try.underlying71
 have hu31 := Try.underlying31
 have HR0_1 := am hr0_1
 have HC0_1 := am hc0_1
 clear hr0_1 hc0_1
 have HR0_2 := am hr0_2
 have HC0_2 := am hc0_2
 clear hr0_2 hc0_2
 have HB := am (Below.refl w.heap.size w)
 have H : ((laws_szConfig.f k aa0 la1 la2 1048576).bind fun t383 => (if t383 < 0 then (some true) else ((laws_toConfig.f k aa0 la1 la2).bind fun bt384 => ((spec_PackConfig.f k bt384.1 bt384.2.1 bt384.2.2).bind fun bt391 => ((laws_toConfig.f k aa0 la1 la2).bind fun bt396 => ((impl_PackConfig.f k bt396.1 bt396.2.1 bt396.2.2).bind fun bt404 => ((laws_eqBytesResult.f k bt404.1 bt404.2 bt391.1 bt391.2).bind fun t409 => (if t409 = true then ((laws_toConfig.f k aa0 la1 la2).bind fun bt410 => ((laws_eqConfig.f k bt396.1 bt396.2.1 bt396.2.2 bt410.1 bt410.2.1 bt410.2.2).bind fun t417 => (if t417 = true then ((laws_markConfig.f bt396.1 bt396.2.1 bt396.2.2 1).bind fun t418 => (if t418 < 0 then (laws_FnExactPackConfig.j0 k true aa0 la1 la2 bt391.1 bt391.2 bt404.1 bt404.2) else ((laws_eqBytesResult.f k bt404.1 bt404.2 bt391.1 bt391.2).bind fun t419 => (laws_FnExactPackConfig.j0 k (!t419) aa0 la1 la2 bt391.1 bt391.2 bt404.1 bt404.2)))) else none))) else none)))))))) = some r := h
 clear h
 replace H := Option.bind_eq_some_iff.mp H
 obtain ⟨t383, A20, H⟩ := H
 replace H : (if t383 < 0 then (some true) else ((laws_toConfig.f k aa0 la1 la2).bind fun bt384 => ((spec_PackConfig.f k bt384.1 bt384.2.1 bt384.2.2).bind fun bt391 => ((laws_toConfig.f k aa0 la1 la2).bind fun bt396 => ((impl_PackConfig.f k bt396.1 bt396.2.1 bt396.2.2).bind fun bt404 => ((laws_eqBytesResult.f k bt404.1 bt404.2 bt391.1 bt391.2).bind fun t409 => (if t409 = true then ((laws_toConfig.f k aa0 la1 la2).bind fun bt410 => ((laws_eqConfig.f k bt396.1 bt396.2.1 bt396.2.2 bt410.1 bt410.2.1 bt410.2.2).bind fun t417 => (if t417 = true then ((laws_markConfig.f bt396.1 bt396.2.1 bt396.2.2 1).bind fun t418 => (if t418 < 0 then (laws_FnExactPackConfig.j0 k true aa0 la1 la2 bt391.1 bt391.2 bt404.1 bt404.2) else ((laws_eqBytesResult.f k bt404.1 bt404.2 bt391.1 bt391.2).bind fun t419 => (laws_FnExactPackConfig.j0 k (!t419) aa0 la1 la2 bt391.1 bt391.2 bt404.1 bt404.2)))) else none))) else none))))))) = some r := H
 have A2 := am A20
 clear A20
 by_cases c3 : t383 < 0
 ·rw [if_pos c3] at H
  have c3b0 : decide (t383 < 0) = true := decide_eq_true c3
  clear c3
  obtain rfl := Option.some.inj H
  go_enter Try.func9, Try.ntmps9
  go_wp2_with (first | ((with_reducible refine gate_dst (N := 1) rfl ?_); refine box_event ?hg (N := 1) ?hd (cs := #[I q aa0, J Aa1 la1.length ca1, J Aa2 la2.length ca2]) (t := 25) ?hr ?_; (case hd => rfl); (case hg => rfl); (case hr => first | (go_simp; done) | (go_simp; rfl)); intro g382 hg w4 hbox hb; have N0 := am (bp (by repeat (first | (with_reducible first | exact HB.out | apply pa | apply pN | apply p1) | exact HB.out)) hb); have N1 := am (hbox); have N2 := am ((by rw [hg]; exact (bz (by repeat (first | (with_reducible first | exact HB.out | apply pa | apply pN | apply p1) | exact HB.out))) : w.heap.size ≤ g382)); have N3 := am ((by rw [hg]; exact (bz (by repeat (first | (with_reducible first | exact HB.out | apply pa | apply pN | apply p1) | exact HB.out))) : w.heap.size ≤ g382)); clear HB; have HB := N0; have B382 := N1; have GW382 := N2; have E382 := N3; clear N0 N1 N2 N3 hb hbox hg; have hcz5_0 : w4.cell? ⟨g382, 0, none⟩ = some (I q aa0) := (bc B382.out 0).trans rfl; have hcz5_1 : w4.cell? ⟨g382, 1, none⟩ = some (J Aa1 la1.length ca1) := (bc B382.out 1).trans rfl; have hcz5_2 : w4.cell? ⟨g382, 2, none⟩ = some (J Aa2 la2.length ca2) := (bc B382.out 2).trans rfl; have hfz5_0 := bf B382.out 0; have hfz5_1 := bf B382.out 1; have hfz5_2 := bf B382.out 2) | ((with_reducible refine gate_callee (f := 12) rfl ?_); refine goesL_ (some 13) rfl rfl Try.func12 (by kernel_rfl) rfl #[.agg #[I q aa0, J Aa1 la1.length ca1, J Aa2 la2.length ca2], I q 1048576] rfl (by (try simp only [List.map_toArray, List.map_cons, List.map_nil]); first | done | rfl) ?_; (with_reducible refine (laws_szConfig.calls k aa0 _ _ la1 _ _ la2 1048576 t383 _ ?side1 ?side2 ?side3 ?side4 A2.out).mono ?_); (case side1 => repeat (first | exact (Kd.C_below HR0_1.out HB.out) | (with_reducible refine ca ?_ _) | (with_reducible refine cN ?_ _) | (with_reducible refine cd1 ?_))); (case side2 => exact HC0_1.out); (case side3 => repeat (first | exact (Kd.C_below HR0_2.out HB.out) | (with_reducible refine ca ?_ _) | (with_reducible refine cN ?_ _) | (with_reducible refine cd1 ?_))); (case side4 => exact HC0_2.out); rintro e w6 ⟨rfl, hb⟩; refine ⟨_, rfl, ?_⟩; have N0 := am (bb (g := g382) (by (with_reducible repeat (first | apply bN | apply bd | apply ba)); exact B382.out) hb); have N1 := am (bp (by repeat (first | (with_reducible first | exact HB.out | apply pa | apply pN | apply p1 | refine bs ?_ E382.out) | exact HB.out)) hb); clear B382 HB; have B382 := N0; have HB := N1; clear N0 N1; (try clear hb); (try clear hb2); (try clear hk); (try clear hi)))
  go_ret
  exact ⟨by first | rfl | (simp [errW_none, errW_some] <;> rfl) | (simp [*, errW_none, errW_some] <;> rfl), by repeat (first | (with_reducible first | exact HB.out | apply pa | apply pN | apply p1 | refine bs ?_ E382.out) | exact HB.out)⟩
 ·rw [if_neg c3] at H
  have c3b0 : decide (t383 < 0) = false := decide_eq_false c3
  clear c3
  replace H := Option.bind_eq_some_iff.mp H
  obtain ⟨⟨t384, t385, t388⟩, A70, H⟩ := H
  replace H : ((spec_PackConfig.f k t384 t385 t388).bind fun bt391 => ((laws_toConfig.f k aa0 la1 la2).bind fun bt396 => ((impl_PackConfig.f k bt396.1 bt396.2.1 bt396.2.2).bind fun bt404 => ((laws_eqBytesResult.f k bt404.1 bt404.2 bt391.1 bt391.2).bind fun t409 => (if t409 = true then ((laws_toConfig.f k aa0 la1 la2).bind fun bt410 => ((laws_eqConfig.f k bt396.1 bt396.2.1 bt396.2.2 bt410.1 bt410.2.1 bt410.2.2).bind fun t417 => (if t417 = true then ((laws_markConfig.f bt396.1 bt396.2.1 bt396.2.2 1).bind fun t418 => (if t418 < 0 then (laws_FnExactPackConfig.j0 k true aa0 la1 la2 bt391.1 bt391.2 bt404.1 bt404.2) else ((laws_eqBytesResult.f k bt404.1 bt404.2 bt391.1 bt391.2).bind fun t419 => (laws_FnExactPackConfig.j0 k (!t419) aa0 la1 la2 bt391.1 bt391.2 bt404.1 bt404.2)))) else none))) else none))))) = some r := H
  have A7 := am A70
  clear A70
  replace H := Option.bind_eq_some_iff.mp H
  obtain ⟨⟨t391, t392⟩, A80, H⟩ := H
  replace H : ((laws_toConfig.f k aa0 la1 la2).bind fun bt396 => ((impl_PackConfig.f k bt396.1 bt396.2.1 bt396.2.2).bind fun bt404 => ((laws_eqBytesResult.f k bt404.1 bt404.2 t391 t392).bind fun t409 => (if t409 = true then ((laws_toConfig.f k aa0 la1 la2).bind fun bt410 => ((laws_eqConfig.f k bt396.1 bt396.2.1 bt396.2.2 bt410.1 bt410.2.1 bt410.2.2).bind fun t417 => (if t417 = true then ((laws_markConfig.f bt396.1 bt396.2.1 bt396.2.2 1).bind fun t418 => (if t418 < 0 then (laws_FnExactPackConfig.j0 k true aa0 la1 la2 t391 t392 bt404.1 bt404.2) else ((laws_eqBytesResult.f k bt404.1 bt404.2 t391 t392).bind fun t419 => (laws_FnExactPackConfig.j0 k (!t419) aa0 la1 la2 t391 t392 bt404.1 bt404.2)))) else none))) else none)))) = some r := H
  have A8 := am A80
  clear A80
  replace H := Option.bind_eq_some_iff.mp H
  obtain ⟨⟨t396, t397, t400⟩, A90, H⟩ := H
  replace H : ((impl_PackConfig.f k t396 t397 t400).bind fun bt404 => ((laws_eqBytesResult.f k bt404.1 bt404.2 t391 t392).bind fun t409 => (if t409 = true then ((laws_toConfig.f k aa0 la1 la2).bind fun bt410 => ((laws_eqConfig.f k t396 t397 t400 bt410.1 bt410.2.1 bt410.2.2).bind fun t417 => (if t417 = true then ((laws_markConfig.f t396 t397 t400 1).bind fun t418 => (if t418 < 0 then (laws_FnExactPackConfig.j0 k true aa0 la1 la2 t391 t392 bt404.1 bt404.2) else ((laws_eqBytesResult.f k bt404.1 bt404.2 t391 t392).bind fun t419 => (laws_FnExactPackConfig.j0 k (!t419) aa0 la1 la2 t391 t392 bt404.1 bt404.2)))) else none))) else none))) = some r := H
  have A9 := am A90
  clear A90
  replace H := Option.bind_eq_some_iff.mp H
  obtain ⟨⟨t404, t405⟩, A100, H⟩ := H
  replace H : ((laws_eqBytesResult.f k t404 t405 t391 t392).bind fun t409 => (if t409 = true then ((laws_toConfig.f k aa0 la1 la2).bind fun bt410 => ((laws_eqConfig.f k t396 t397 t400 bt410.1 bt410.2.1 bt410.2.2).bind fun t417 => (if t417 = true then ((laws_markConfig.f t396 t397 t400 1).bind fun t418 => (if t418 < 0 then (laws_FnExactPackConfig.j0 k true aa0 la1 la2 t391 t392 t404 t405) else ((laws_eqBytesResult.f k t404 t405 t391 t392).bind fun t419 => (laws_FnExactPackConfig.j0 k (!t419) aa0 la1 la2 t391 t392 t404 t405)))) else none))) else none)) = some r := H
  have A10 := am A100
  clear A100
  replace H := Option.bind_eq_some_iff.mp H
  obtain ⟨t409, A110, H⟩ := H
  replace H : (if t409 = true then ((laws_toConfig.f k aa0 la1 la2).bind fun bt410 => ((laws_eqConfig.f k t396 t397 t400 bt410.1 bt410.2.1 bt410.2.2).bind fun t417 => (if t417 = true then ((laws_markConfig.f t396 t397 t400 1).bind fun t418 => (if t418 < 0 then (laws_FnExactPackConfig.j0 k true aa0 la1 la2 t391 t392 t404 t405) else ((laws_eqBytesResult.f k t404 t405 t391 t392).bind fun t419 => (laws_FnExactPackConfig.j0 k (!t419) aa0 la1 la2 t391 t392 t404 t405)))) else none))) else none) = some r := H
  have A11 := am A110
  clear A110
  by_cases c12 : t409 = true
  ·subst c12
   have H1 : ((laws_toConfig.f k aa0 la1 la2).bind fun bt410 => ((laws_eqConfig.f k t396 t397 t400 bt410.1 bt410.2.1 bt410.2.2).bind fun t417 => (if t417 = true then ((laws_markConfig.f t396 t397 t400 1).bind fun t418 => (if t418 < 0 then (laws_FnExactPackConfig.j0 k true aa0 la1 la2 t391 t392 t404 t405) else ((laws_eqBytesResult.f k t404 t405 t391 t392).bind fun t419 => (laws_FnExactPackConfig.j0 k (!t419) aa0 la1 la2 t391 t392 t404 t405)))) else none))) = some r := by rw [if_pos rfl] at H; exact H
   clear H
   have H := H1
   clear H1
   replace H := Option.bind_eq_some_iff.mp H
   obtain ⟨⟨t410, t411, t414⟩, A130, H⟩ := H
   replace H : ((laws_eqConfig.f k t396 t397 t400 t410 t411 t414).bind fun t417 => (if t417 = true then ((laws_markConfig.f t396 t397 t400 1).bind fun t418 => (if t418 < 0 then (laws_FnExactPackConfig.j0 k true aa0 la1 la2 t391 t392 t404 t405) else ((laws_eqBytesResult.f k t404 t405 t391 t392).bind fun t419 => (laws_FnExactPackConfig.j0 k (!t419) aa0 la1 la2 t391 t392 t404 t405)))) else none)) = some r := H
   have A13 := am A130
   clear A130
   replace H := Option.bind_eq_some_iff.mp H
   obtain ⟨t417, A140, H⟩ := H
   replace H : (if t417 = true then ((laws_markConfig.f t396 t397 t400 1).bind fun t418 => (if t418 < 0 then (laws_FnExactPackConfig.j0 k true aa0 la1 la2 t391 t392 t404 t405) else ((laws_eqBytesResult.f k t404 t405 t391 t392).bind fun t419 => (laws_FnExactPackConfig.j0 k (!t419) aa0 la1 la2 t391 t392 t404 t405)))) else none) = some r := H
   have A14 := am A140
   clear A140
   by_cases c15 : t417 = true
   ·subst c15
    have H1 : ((laws_markConfig.f t396 t397 t400 1).bind fun t418 => (if t418 < 0 then (laws_FnExactPackConfig.j0 k true aa0 la1 la2 t391 t392 t404 t405) else ((laws_eqBytesResult.f k t404 t405 t391 t392).bind fun t419 => (laws_FnExactPackConfig.j0 k (!t419) aa0 la1 la2 t391 t392 t404 t405)))) = some r := by rw [if_pos rfl] at H; exact H
    clear H
    have H := H1
    clear H1
    replace H := Option.bind_eq_some_iff.mp H
    obtain ⟨t418, A160, H⟩ := H
    replace H : (if t418 < 0 then (laws_FnExactPackConfig.j0 k true aa0 la1 la2 t391 t392 t404 t405) else ((laws_eqBytesResult.f k t404 t405 t391 t392).bind fun t419 => (laws_FnExactPackConfig.j0 k (!t419) aa0 la1 la2 t391 t392 t404 t405))) = some r := H
    have A16 := am A160
    clear A160
    have HC17 := am H
    clear H
    go_enter Try.func9, Try.ntmps9
    try go_wp2_with (first | ((with_reducible refine gate_dst (N := 1) rfl ?_); refine box_event ?hg (N := 1) ?hd (cs := #[I q aa0, J Aa1 la1.length ca1, J Aa2 la2.length ca2]) (t := 25) ?hr ?_; (case hd => rfl); (case hg => rfl); (case hr => first | (go_simp; done) | (go_simp; rfl)); intro g382 hg w18 hbox hb; have N0 := am (bp (by repeat (first | (with_reducible first | exact HB.out | apply pa | apply pN | apply p1) | exact HB.out)) hb); have N1 := am (hbox); have N2 := am ((by rw [hg]; exact (bz (by repeat (first | (with_reducible first | exact HB.out | apply pa | apply pN | apply p1) | exact HB.out))) : w.heap.size ≤ g382)); have N3 := am ((by rw [hg]; exact (bz (by repeat (first | (with_reducible first | exact HB.out | apply pa | apply pN | apply p1) | exact HB.out))) : w.heap.size ≤ g382)); clear HB; have HB := N0; have B382 := N1; have GW382 := N2; have E382 := N3; clear N0 N1 N2 N3 hb hbox hg; have hcz19_0 : w18.cell? ⟨g382, 0, none⟩ = some (I q aa0) := (bc B382.out 0).trans rfl; have hcz19_1 : w18.cell? ⟨g382, 1, none⟩ = some (J Aa1 la1.length ca1) := (bc B382.out 1).trans rfl; have hcz19_2 : w18.cell? ⟨g382, 2, none⟩ = some (J Aa2 la2.length ca2) := (bc B382.out 2).trans rfl; have hfz19_0 := bf B382.out 0; have hfz19_1 := bf B382.out 1; have hfz19_2 := bf B382.out 2) | ((with_reducible refine gate_callee (f := 12) rfl ?_); refine goesL_ (some 13) rfl rfl Try.func12 (by kernel_rfl) rfl #[.agg #[I q aa0, J Aa1 la1.length ca1, J Aa2 la2.length ca2], I q 1048576] rfl (by (try simp only [List.map_toArray, List.map_cons, List.map_nil]); first | done | rfl) ?_; (with_reducible refine (laws_szConfig.calls k aa0 _ _ la1 _ _ la2 1048576 t383 _ ?side1 ?side2 ?side3 ?side4 A2.out).mono ?_); (case side1 => repeat (first | exact (Kd.C_below HR0_1.out HB.out) | (with_reducible refine ca ?_ _) | (with_reducible refine cN ?_ _) | (with_reducible refine cd1 ?_))); (case side2 => exact HC0_1.out); (case side3 => repeat (first | exact (Kd.C_below HR0_2.out HB.out) | (with_reducible refine ca ?_ _) | (with_reducible refine cN ?_ _) | (with_reducible refine cd1 ?_))); (case side4 => exact HC0_2.out); rintro e w20 ⟨rfl, hb⟩; refine ⟨_, rfl, ?_⟩; have N0 := am (bb (g := g382) (by (with_reducible repeat (first | apply bN | apply bd | apply ba)); exact B382.out) hb); have N1 := am (bp (by repeat (first | (with_reducible first | exact HB.out | apply pa | apply pN | apply p1 | refine bs ?_ E382.out) | exact HB.out)) hb); clear B382 HB; have B382 := N0; have HB := N1; clear N0 N1; (try clear hb); (try clear hb2); (try clear hk); (try clear hi); have hcz21_0 : w20.cell? ⟨g382, 0, none⟩ = some (I q aa0) := (bc B382.out 0).trans rfl; have hcz21_1 : w20.cell? ⟨g382, 1, none⟩ = some (J Aa1 la1.length ca1) := (bc B382.out 1).trans rfl; have hcz21_2 : w20.cell? ⟨g382, 2, none⟩ = some (J Aa2 la2.length ca2) := (bc B382.out 2).trans rfl; have hfz21_0 := bf B382.out 0; have hfz21_1 := bf B382.out 1; have hfz21_2 := bf B382.out 2) | ((with_reducible refine gate_callee (f := 14) rfl ?_); refine goesL_ (some 17) rfl rfl Try.func14 (by kernel_rfl) rfl #[.agg #[I q aa0, J Aa1 la1.length ca1, J Aa2 la2.length ca2]] rfl (by (try simp only [List.map_toArray, List.map_cons, List.map_nil]); first | done | rfl) ?_; (with_reducible refine (laws_toConfig.calls k aa0 _ _ la1 _ _ la2 t384 t385 t388 _ ?side1 ?side2 ?side3 ?side4 A7.out).mono ?_); (case side1 => repeat (first | exact (Kd.C_below HR0_1.out HB.out) | (with_reducible refine ca ?_ _) | (with_reducible refine cN ?_ _) | (with_reducible refine cd1 ?_))); (case side2 => exact HC0_1.out); (case side3 => repeat (first | exact (Kd.C_below HR0_2.out HB.out) | (with_reducible refine ca ?_ _) | (with_reducible refine cN ?_ _) | (with_reducible refine cd1 ?_))); (case side4 => exact HC0_2.out); rintro e w22 ⟨v386, v389, rfl, ho0, ho1, hb⟩; refine ⟨_, rfl, ?_⟩; have N0 := am (rw1 ho0 (bz (by repeat (first | (with_reducible first | exact HB.out | apply pa | apply pN | apply p1 | refine bs ?_ E382.out) | exact HB.out)))); have N1 := am (Kd.S_lower ho1 (bz (by repeat (first | (with_reducible first | exact HB.out | apply pa | apply pN | apply p1 | refine bs ?_ E382.out) | exact HB.out)))); have N2 := am (bb (g := g382) (by (with_reducible repeat (first | apply bN | apply bd | apply ba)); exact B382.out) hb); have N3 := am (bp (by repeat (first | (with_reducible first | exact HB.out | apply pa | apply pN | apply p1 | refine bs ?_ E382.out) | exact HB.out)) hb); clear B382 HB; have O387 := N0; have O390 := N1; have B382 := N2; have HB := N3; clear N0 N1 N2 N3; (try clear hb); (try clear hb2); (try clear hk); (try clear hi); (try clear ho0); (try clear ho1); obtain ⟨Ao23, co23, eo23⟩ := Kd.R_slice O387.out; subst eo23; obtain ⟨Ao24, co24, eo24⟩ := Kd.S_slice O390.out; subst eo24) | ((with_reducible refine gate_callee (f := 36) rfl ?_); refine goesL_ (some 18) rfl rfl Try.func36 (by kernel_rfl) rfl #[.agg #[I q t384, J Ao23 t385.length co23, J Ao24 t388.length co24]] rfl (by (try simp only [List.map_toArray, List.map_cons, List.map_nil]); first | done | rfl) ?_; (with_reducible refine (spec_PackConfig.calls k t384 _ _ t385 _ _ t388 t391 t392 _ ?side1 ?side2 ?side3 ?side4 A8.out).mono ?_); (case side1 => repeat (first | exact (Kd.R_reads' O387.out).2.2 | (with_reducible refine ca ?_ _) | (with_reducible refine cN ?_ _) | (with_reducible refine cd1 ?_))); (case side2 => exact (Kd.R_reads' O387.out).2.1); (case side3 => repeat (first | exact (Kd.S_reads' O390.out).2.2 | (with_reducible refine ca ?_ _) | (with_reducible refine cN ?_ _) | (with_reducible refine cd1 ?_))); (case side4 => exact (Kd.S_reads' O390.out).2.1); rintro e w25 ⟨v393, rfl, ho0, hb⟩; refine ⟨_, rfl, ?_⟩; have N0 := am (rb (by (with_reducible repeat (first | apply ra | apply rN | apply rd1)); exact O387.out) hb); have N1 := am (Kd.S_below (by (with_reducible repeat (first | apply sa | apply sN | apply sd)); exact O390.out) hb); have N2 := am (rw1 ho0 (bz (by repeat (first | (with_reducible first | exact HB.out | apply pa | apply pN | apply p1 | refine bs ?_ E382.out) | exact HB.out)))); have N3 := am (bb (g := g382) (by (with_reducible repeat (first | apply bN | apply bd | apply ba)); exact B382.out) hb); have N4 := am (bp (by repeat (first | (with_reducible first | exact HB.out | apply pa | apply pN | apply p1 | refine bs ?_ E382.out) | exact HB.out)) hb); clear O387 O390 B382 HB; have O387 := N0; have O390 := N1; have O394 := N2; have B382 := N3; have HB := N4; clear N0 N1 N2 N3 N4; (try clear hb); (try clear hb2); (try clear hk); (try clear hi); (try clear ho0)) | ((with_reducible refine gate_dst (N := 4) rfl ?_); refine box_event ?hg (N := 4) ?hd (cs := #[I q 0, .slice none 0 0]) (t := 71) ?hr ?_; (case hd => rfl); (case hg => rfl); (case hr => first | (go_simp; done) | (go_simp; rfl)); intro g395 hg w26 hbox hb; have N0 := am (rb (by (with_reducible repeat (first | apply ra | apply rN | apply rd1)); exact O387.out) hb); have N1 := am (Kd.S_below (by (with_reducible repeat (first | apply sa | apply sN | apply sd)); exact O390.out) hb); have N2 := am (rb (by (with_reducible repeat (first | apply ra | apply rN | apply rd1)); exact O394.out) hb); have N3 := am (bb (g := g382) (by (with_reducible repeat (first | apply bN | apply bd | apply ba)); exact B382.out) hb); have N4 := am (bp (by repeat (first | (with_reducible first | exact HB.out | apply pa | apply pN | apply p1 | refine bs ?_ E382.out) | exact HB.out)) hb); have N5 := am (hbox); have N6 := am ((by rw [hg]; exact (bz (by repeat (first | (with_reducible first | exact HB.out | apply pa | apply pN | apply p1 | refine bs ?_ E382.out) | exact HB.out))) : w.heap.size ≤ g395)); have N7 := am ((by rw [hg]; exact (bz (by repeat (first | (with_reducible first | exact HB.out | apply pa | apply pN | apply p1 | refine bs ?_ E382.out) | exact HB.out))) : w.heap.size ≤ g395)); have N8 := am ((by rw [hg]; exact Nat.ne_of_lt (bl (g := g382) (by (with_reducible repeat (first | apply bN | apply bd | apply ba)); exact B382.out)) : g382 ≠ g395)); have N9 := am ((by rw [hg]; exact Nat.ne_of_gt (bl (g := g382) (by (with_reducible repeat (first | apply bN | apply bd | apply ba)); exact B382.out)) : g395 ≠ g382)); clear O387 O390 O394 B382 HB; have O387 := N0; have O390 := N1; have O394 := N2; have B382 := N3; have HB := N4; have B395 := N5; have GW395 := N6; have E395 := N7; have NB382_395 := N8; have NB395_382 := N9; clear N0 N1 N2 N3 N4 N5 N6 N7 N8 N9 hb hbox hg; have hnb27 := NB395_382.out; have hnc27 := NB382_395.out; have hcz28_0 : w26.cell? ⟨g395, 0, none⟩ = some (I q 0) := (bc B395.out 0).trans rfl; have hcz28_1 : w26.cell? ⟨g395, 1, none⟩ = some (.slice none 0 0) := (bc B395.out 1).trans rfl; have hfz28_0 := bf B395.out 0; have hfz28_1 := bf B395.out 1; obtain ⟨Ao29, co29, eo29⟩ := Kd.R_slice O394.out; subst eo29; have hcz30_0 : w26.cell? ⟨g382, 0, none⟩ = some (I q aa0) := (bc B382.out 0).trans rfl; have hcz30_1 : w26.cell? ⟨g382, 1, none⟩ = some (J Aa1 la1.length ca1) := (bc B382.out 1).trans rfl; have hcz30_2 : w26.cell? ⟨g382, 2, none⟩ = some (J Aa2 la2.length ca2) := (bc B382.out 2).trans rfl; have hfz30_0 := bf B382.out 0; have hfz30_1 := bf B382.out 1; have hfz30_2 := bf B382.out 2) | ((with_reducible refine gate_callee (f := 14) rfl ?_); refine goesL_ (some 20) rfl rfl Try.func14 (by kernel_rfl) rfl #[.agg #[I q aa0, J Aa1 la1.length ca1, J Aa2 la2.length ca2]] rfl (by (try simp only [List.map_toArray, List.map_cons, List.map_nil]); first | done | rfl) ?_; (with_reducible refine (laws_toConfig.calls k aa0 _ _ la1 _ _ la2 t396 t397 t400 _ ?side1 ?side2 ?side3 ?side4 A9.out).mono ?_); (case side1 => exact Kd.C_below HR0_1.out (by repeat (first | (with_reducible first | exact HB.out | apply pa | apply pN | apply p1 | refine bs ?_ E382.out | refine bs ?_ E395.out) | exact HB.out))); (case side2 => exact HC0_1.out); (case side3 => exact Kd.C_below HR0_2.out (by repeat (first | (with_reducible first | exact HB.out | apply pa | apply pN | apply p1 | refine bs ?_ E382.out | refine bs ?_ E395.out) | exact HB.out))); (case side4 => exact HC0_2.out); rintro e w31 ⟨v398, v401, rfl, ho0, ho1, hb⟩; refine ⟨_, rfl, ?_⟩; have N0 := am (re (by (with_reducible repeat (first | apply ra | apply rN | apply rd1)); exact (Kd.R_mono (rf (p := ⟨g395, 1, none⟩) (rf (p := ⟨g395, 0, none⟩) (Kd.R_types O387.out B395.out (by decide)) (fun _ hk => hk.2) (I q t391)) (fun _ hk => hk.2) (J Ao29 t392.length co29)) (fun _ h_ => h_.1))) (Kd.R_base ho0) hb); have N1 := am (Kd.S_elder' (by (with_reducible repeat (first | apply sa | apply sN | apply sd)); exact (sm (sf (p := ⟨g395, 1, none⟩) (sf (p := ⟨g395, 0, none⟩) (st O390.out B395.out (by decide)) (fun _ hk => hk.2) (I q t391)) (fun _ hk => hk.2) (J Ao29 t392.length co29)) (fun _ h_ => h_.1))) (Kd.S_base ho1) hb); have N2 := am (rb (by (with_reducible repeat (first | apply ra | apply rN | apply rd1)); exact (Kd.R_mono (rf (p := ⟨g395, 1, none⟩) (rf (p := ⟨g395, 0, none⟩) (Kd.R_types O394.out B395.out (by decide)) (fun _ hk => hk.2) (I q t391)) (fun _ hk => hk.2) (J Ao29 t392.length co29)) (fun _ h_ => h_.1))) hb); have N3 := am (rw1 (rn ho0 (rl (by (with_reducible repeat (first | apply ra | apply rN | apply rd1)); exact (Kd.R_mono (rf (p := ⟨g395, 1, none⟩) (rf (p := ⟨g395, 0, none⟩) (Kd.R_types O387.out B395.out (by decide)) (fun _ hk => hk.2) (I q t391)) (fun _ hk => hk.2) (J Ao29 t392.length co29)) (fun _ h_ => h_.1))))) (bz (by repeat (first | (with_reducible first | exact HB.out | apply pa | apply pN | apply p1 | refine bs ?_ E382.out | refine bs ?_ E395.out) | exact HB.out)))); have N4 := am (Kd.S_lower (Kd.S_new' ho1 (sl (by (with_reducible repeat (first | apply sa | apply sN | apply sd)); exact (sm (sf (p := ⟨g395, 1, none⟩) (sf (p := ⟨g395, 0, none⟩) (st O390.out B395.out (by decide)) (fun _ hk => hk.2) (I q t391)) (fun _ hk => hk.2) (J Ao29 t392.length co29)) (fun _ h_ => h_.1))))) (bz (by repeat (first | (with_reducible first | exact HB.out | apply pa | apply pN | apply p1 | refine bs ?_ E382.out | refine bs ?_ E395.out) | exact HB.out)))); have N5 := am (bb (g := g382) (o := .cells #[I q aa0, J Aa1 la1.length ca1, J Aa2 la2.length ca2] 25 (0, 0)) (by (iterate 2 ((with_reducible repeat (first | apply bN | apply bd | apply ba)); refine bq ?_ NB382_395.out _)); (with_reducible repeat (first | apply bN | apply bd | apply ba)); exact B382.out) hb); have N6 := am (bb (g := g395) (o := .cells #[I q t391, J Ao29 t392.length co29] 71 (0, 0)) (by (with_reducible repeat (first | apply bN | apply bd | apply ba)); exact pu2k B395.out) hb); have N7 := am (bp (by repeat (first | (with_reducible first | exact HB.out | apply pa | apply pN | apply p1 | refine bs ?_ E382.out | refine bs ?_ E395.out) | exact HB.out)) hb); clear O387 O390 O394 B382 B395 HB; have O387 := N0; have O390 := N1; have O394 := N2; have O399 := N3; have O402 := N4; have B382 := N5; have B395 := N6; have HB := N7; clear N0 N1 N2 N3 N4 N5 N6 N7; (try clear hb); (try clear hb2); (try clear hk); (try clear hi); (try clear ho0); (try clear ho1)) | ((with_reducible refine gate_dst (N := 5) rfl ?_); refine box_event ?hg (N := 5) ?hd (cs := #[I q 0, .slice none 0 0, .slice none 0 0]) (t := 31) ?hr ?_; (case hd => rfl); (case hg => rfl); (case hr => first | (go_simp; done) | (go_simp; rfl)); intro g403 hg w32 hbox hb; have N0 := am (rb (by (with_reducible repeat (first | apply ra | apply rN | apply rd1)); exact O387.out) hb); have N1 := am (Kd.S_below (by (with_reducible repeat (first | apply sa | apply sN | apply sd)); exact O390.out) hb); have N2 := am (rb (by (with_reducible repeat (first | apply ra | apply rN | apply rd1)); exact O394.out) hb); have N3 := am (rb (by (with_reducible repeat (first | apply ra | apply rN | apply rd1)); exact O399.out) hb); have N4 := am (Kd.S_below (by (with_reducible repeat (first | apply sa | apply sN | apply sd)); exact O402.out) hb); have N5 := am (bb (g := g382) (by (with_reducible repeat (first | apply bN | apply bd | apply ba)); exact B382.out) hb); have N6 := am (bb (g := g395) (by (with_reducible repeat (first | apply bN | apply bd | apply ba)); exact B395.out) hb); have N7 := am (bp (by repeat (first | (with_reducible first | exact HB.out | apply pa | apply pN | apply p1 | refine bs ?_ E382.out | refine bs ?_ E395.out) | exact HB.out)) hb); have N8 := am (hbox); have N9 := am ((by rw [hg]; exact (bz (by repeat (first | (with_reducible first | exact HB.out | apply pa | apply pN | apply p1 | refine bs ?_ E382.out | refine bs ?_ E395.out) | exact HB.out))) : w.heap.size ≤ g403)); have N10 := am ((by rw [hg]; exact (bz (by repeat (first | (with_reducible first | exact HB.out | apply pa | apply pN | apply p1 | refine bs ?_ E382.out | refine bs ?_ E395.out) | exact HB.out))) : w.heap.size ≤ g403)); have N11 := am ((by rw [hg]; exact Nat.ne_of_lt (bl (g := g382) (by (with_reducible repeat (first | apply bN | apply bd | apply ba)); exact B382.out)) : g382 ≠ g403)); have N12 := am ((by rw [hg]; exact Nat.ne_of_gt (bl (g := g382) (by (with_reducible repeat (first | apply bN | apply bd | apply ba)); exact B382.out)) : g403 ≠ g382)); have N13 := am ((by rw [hg]; exact Nat.ne_of_lt (bl (g := g395) (by (with_reducible repeat (first | apply bN | apply bd | apply ba)); exact B395.out)) : g395 ≠ g403)); have N14 := am ((by rw [hg]; exact Nat.ne_of_gt (bl (g := g395) (by (with_reducible repeat (first | apply bN | apply bd | apply ba)); exact B395.out)) : g403 ≠ g395)); clear O387 O390 O394 O399 O402 B382 B395 HB; have O387 := N0; have O390 := N1; have O394 := N2; have O399 := N3; have O402 := N4; have B382 := N5; have B395 := N6; have HB := N7; have B403 := N8; have GW403 := N9; have E403 := N10; have NB382_403 := N11; have NB403_382 := N12; have NB395_403 := N13; have NB403_395 := N14; clear N0 N1 N2 N3 N4 N5 N6 N7 N8 N9 N10 N11 N12 N13 N14 hb hbox hg; have hnb33 := NB403_382.out; have hnc33 := NB382_403.out; have hnb34 := NB403_395.out; have hnc34 := NB395_403.out; have hcz35_0 : w32.cell? ⟨g403, 0, none⟩ = some (I q 0) := (bc B403.out 0).trans rfl; have hcz35_1 : w32.cell? ⟨g403, 1, none⟩ = some (.slice none 0 0) := (bc B403.out 1).trans rfl; have hcz35_2 : w32.cell? ⟨g403, 2, none⟩ = some (.slice none 0 0) := (bc B403.out 2).trans rfl; have hfz35_0 := bf B403.out 0; have hfz35_1 := bf B403.out 1; have hfz35_2 := bf B403.out 2; obtain ⟨Ao36, co36, eo36⟩ := Kd.R_slice O399.out; subst eo36; obtain ⟨Ao37, co37, eo37⟩ := Kd.S_slice O402.out; subst eo37) | ((with_reducible refine gate_callee (f := 37) rfl ?_); refine goesL_ (some 22) rfl rfl Try.func37 (by kernel_rfl) rfl #[.agg #[I q t396, J Ao36 t397.length co36, J Ao37 t400.length co37]] rfl (by (try simp only [List.map_toArray, List.map_cons, List.map_nil]); first | done | rfl) ?_; (with_reducible refine (impl_PackConfig.calls k t396 _ _ t397 _ _ t400 t404 t405 _ ?side1 ?side2 ?side3 ?side4 A10.out).mono ?_); (case side1 => refine (Kd.R_reads' (e := 36) (base := w.heap.size) (ok := fun k_ => (True ∧ some k_ ≠ (J Ao23 t385.length co23 : Value).ownBlock)) (n := t397.length) (c := co36) ?_).2.2; exact (by (with_reducible repeat (first | apply ra | apply rN | apply rd1)); exact (Kd.R_mono (rf (p := ⟨g403, 2, none⟩) (rf (p := ⟨g403, 1, none⟩) (rf (p := ⟨g403, 0, none⟩) (Kd.R_types O399.out B403.out (by decide)) (fun _ hk => hk.2) (I q t396)) (fun _ hk => hk.2) (J Ao36 t397.length co36)) (fun _ hk => hk.2) (J Ao37 t400.length co37)) (fun _ h_ => h_.1)))); (case side2 => exact (Kd.R_reads' O399.out).2.1); (case side3 => refine (Kd.S_reads' (e := 64) (base := w.heap.size) (ok := fun k_ => (True ∧ some k_ ≠ (J Ao24 t388.length co24 : Value).ownBlock)) (n := t400.length) (c := co37) ?_).2.2; exact (by (with_reducible repeat (first | apply sa | apply sN | apply sd)); exact (sm (sf (p := ⟨g403, 2, none⟩) (sf (p := ⟨g403, 1, none⟩) (sf (p := ⟨g403, 0, none⟩) (st O402.out B403.out (by decide)) (fun _ hk => hk.2) (I q t396)) (fun _ hk => hk.2) (J Ao36 t397.length co36)) (fun _ hk => hk.2) (J Ao37 t400.length co37)) (fun _ h_ => h_.1)))); (case side4 => exact (Kd.S_reads' O402.out).2.1); rintro e w38 ⟨v406, rfl, ho0, hb⟩; refine ⟨_, rfl, ?_⟩; have N0 := am (rb (by (with_reducible repeat (first | apply ra | apply rN | apply rd1)); exact (Kd.R_mono (rf (p := ⟨g403, 2, none⟩) (rf (p := ⟨g403, 1, none⟩) (rf (p := ⟨g403, 0, none⟩) (Kd.R_types O387.out B403.out (by decide)) (fun _ hk => hk.2) (I q t396)) (fun _ hk => hk.2) (J Ao36 t397.length co36)) (fun _ hk => hk.2) (J Ao37 t400.length co37)) (fun _ h_ => h_.1))) hb); have N1 := am (Kd.S_below (by (with_reducible repeat (first | apply sa | apply sN | apply sd)); exact (sm (sf (p := ⟨g403, 2, none⟩) (sf (p := ⟨g403, 1, none⟩) (sf (p := ⟨g403, 0, none⟩) (st O390.out B403.out (by decide)) (fun _ hk => hk.2) (I q t396)) (fun _ hk => hk.2) (J Ao36 t397.length co36)) (fun _ hk => hk.2) (J Ao37 t400.length co37)) (fun _ h_ => h_.1))) hb); have N2 := am (re (by (with_reducible repeat (first | apply ra | apply rN | apply rd1)); exact (Kd.R_mono (rf (p := ⟨g403, 2, none⟩) (rf (p := ⟨g403, 1, none⟩) (rf (p := ⟨g403, 0, none⟩) (Kd.R_types O394.out B403.out (by decide)) (fun _ hk => hk.2) (I q t396)) (fun _ hk => hk.2) (J Ao36 t397.length co36)) (fun _ hk => hk.2) (J Ao37 t400.length co37)) (fun _ h_ => h_.1))) (Kd.R_base ho0) hb); have N3 := am (rb (by (with_reducible repeat (first | apply ra | apply rN | apply rd1)); exact (Kd.R_mono (rf (p := ⟨g403, 2, none⟩) (rf (p := ⟨g403, 1, none⟩) (rf (p := ⟨g403, 0, none⟩) (Kd.R_types O399.out B403.out (by decide)) (fun _ hk => hk.2) (I q t396)) (fun _ hk => hk.2) (J Ao36 t397.length co36)) (fun _ hk => hk.2) (J Ao37 t400.length co37)) (fun _ h_ => h_.1))) hb); have N4 := am (Kd.S_below (by (with_reducible repeat (first | apply sa | apply sN | apply sd)); exact (sm (sf (p := ⟨g403, 2, none⟩) (sf (p := ⟨g403, 1, none⟩) (sf (p := ⟨g403, 0, none⟩) (st O402.out B403.out (by decide)) (fun _ hk => hk.2) (I q t396)) (fun _ hk => hk.2) (J Ao36 t397.length co36)) (fun _ hk => hk.2) (J Ao37 t400.length co37)) (fun _ h_ => h_.1))) hb); have N5 := am (rw1 (rn ho0 (rl (by (with_reducible repeat (first | apply ra | apply rN | apply rd1)); exact (Kd.R_mono (rf (p := ⟨g403, 2, none⟩) (rf (p := ⟨g403, 1, none⟩) (rf (p := ⟨g403, 0, none⟩) (Kd.R_types O394.out B403.out (by decide)) (fun _ hk => hk.2) (I q t396)) (fun _ hk => hk.2) (J Ao36 t397.length co36)) (fun _ hk => hk.2) (J Ao37 t400.length co37)) (fun _ h_ => h_.1))))) (bz (by repeat (first | (with_reducible first | exact HB.out | apply pa | apply pN | apply p1 | refine bs ?_ E382.out | refine bs ?_ E395.out | refine bs ?_ E403.out) | exact HB.out)))); have N6 := am (bb (g := g382) (o := .cells #[I q aa0, J Aa1 la1.length ca1, J Aa2 la2.length ca2] 25 (0, 0)) (by (iterate 3 ((with_reducible repeat (first | apply bN | apply bd | apply ba)); refine bq ?_ NB382_403.out _)); (with_reducible repeat (first | apply bN | apply bd | apply ba)); exact B382.out) hb); have N7 := am (bb (g := g395) (o := .cells #[I q t391, J Ao29 t392.length co29] 71 (0, 0)) (by (iterate 3 ((with_reducible repeat (first | apply bN | apply bd | apply ba)); refine bq ?_ NB395_403.out _)); (with_reducible repeat (first | apply bN | apply bd | apply ba)); exact B395.out) hb); have N8 := am (bb (g := g403) (o := .cells #[I q t396, J Ao36 t397.length co36, J Ao37 t400.length co37] 31 (0, 0)) (by (with_reducible repeat (first | apply bN | apply bd | apply ba)); exact pu3k B403.out) hb); have N9 := am (bp (by repeat (first | (with_reducible first | exact HB.out | apply pa | apply pN | apply p1 | refine bs ?_ E382.out | refine bs ?_ E395.out | refine bs ?_ E403.out) | exact HB.out)) hb); clear O387 O390 O394 O399 O402 B382 B395 B403 HB; have O387 := N0; have O390 := N1; have O394 := N2; have O399 := N3; have O402 := N4; have O407 := N5; have B382 := N6; have B395 := N7; have B403 := N8; have HB := N9; clear N0 N1 N2 N3 N4 N5 N6 N7 N8 N9; (try clear hb); (try clear hb2); (try clear hk); (try clear hi); (try clear ho0)) | ((with_reducible refine gate_dst (N := 6) rfl ?_); refine box_event ?hg (N := 6) ?hd (cs := #[I q 0, .slice none 0 0]) (t := 71) ?hr ?_; (case hd => rfl); (case hg => rfl); (case hr => first | (go_simp; done) | (go_simp; rfl)); intro g408 hg w39 hbox hb; have N0 := am (rb (by (with_reducible repeat (first | apply ra | apply rN | apply rd1)); exact O387.out) hb); have N1 := am (Kd.S_below (by (with_reducible repeat (first | apply sa | apply sN | apply sd)); exact O390.out) hb); have N2 := am (rb (by (with_reducible repeat (first | apply ra | apply rN | apply rd1)); exact O394.out) hb); have N3 := am (rb (by (with_reducible repeat (first | apply ra | apply rN | apply rd1)); exact O399.out) hb); have N4 := am (Kd.S_below (by (with_reducible repeat (first | apply sa | apply sN | apply sd)); exact O402.out) hb); have N5 := am (rb (by (with_reducible repeat (first | apply ra | apply rN | apply rd1)); exact O407.out) hb); have N6 := am (bb (g := g382) (by (with_reducible repeat (first | apply bN | apply bd | apply ba)); exact B382.out) hb); have N7 := am (bb (g := g395) (by (with_reducible repeat (first | apply bN | apply bd | apply ba)); exact B395.out) hb); have N8 := am (bb (g := g403) (by (with_reducible repeat (first | apply bN | apply bd | apply ba)); exact B403.out) hb); have N9 := am (bp (by repeat (first | (with_reducible first | exact HB.out | apply pa | apply pN | apply p1 | refine bs ?_ E382.out | refine bs ?_ E395.out | refine bs ?_ E403.out) | exact HB.out)) hb); have N10 := am (hbox); have N11 := am ((by rw [hg]; exact (bz (by repeat (first | (with_reducible first | exact HB.out | apply pa | apply pN | apply p1 | refine bs ?_ E382.out | refine bs ?_ E395.out | refine bs ?_ E403.out) | exact HB.out))) : w.heap.size ≤ g408)); have N12 := am ((by rw [hg]; exact (bz (by repeat (first | (with_reducible first | exact HB.out | apply pa | apply pN | apply p1 | refine bs ?_ E382.out | refine bs ?_ E395.out | refine bs ?_ E403.out) | exact HB.out))) : w.heap.size ≤ g408)); have N13 := am ((by rw [hg]; exact Nat.ne_of_lt (bl (g := g382) (by (with_reducible repeat (first | apply bN | apply bd | apply ba)); exact B382.out)) : g382 ≠ g408)); have N14 := am ((by rw [hg]; exact Nat.ne_of_gt (bl (g := g382) (by (with_reducible repeat (first | apply bN | apply bd | apply ba)); exact B382.out)) : g408 ≠ g382)); have N15 := am ((by rw [hg]; exact Nat.ne_of_lt (bl (g := g395) (by (with_reducible repeat (first | apply bN | apply bd | apply ba)); exact B395.out)) : g395 ≠ g408)); have N16 := am ((by rw [hg]; exact Nat.ne_of_gt (bl (g := g395) (by (with_reducible repeat (first | apply bN | apply bd | apply ba)); exact B395.out)) : g408 ≠ g395)); have N17 := am ((by rw [hg]; exact Nat.ne_of_lt (bl (g := g403) (by (with_reducible repeat (first | apply bN | apply bd | apply ba)); exact B403.out)) : g403 ≠ g408)); have N18 := am ((by rw [hg]; exact Nat.ne_of_gt (bl (g := g403) (by (with_reducible repeat (first | apply bN | apply bd | apply ba)); exact B403.out)) : g408 ≠ g403)); clear O387 O390 O394 O399 O402 O407 B382 B395 B403 HB; have O387 := N0; have O390 := N1; have O394 := N2; have O399 := N3; have O402 := N4; have O407 := N5; have B382 := N6; have B395 := N7; have B403 := N8; have HB := N9; have B408 := N10; have GW408 := N11; have E408 := N12; have NB382_408 := N13; have NB408_382 := N14; have NB395_408 := N15; have NB408_395 := N16; have NB403_408 := N17; have NB408_403 := N18; clear N0 N1 N2 N3 N4 N5 N6 N7 N8 N9 N10 N11 N12 N13 N14 N15 N16 N17 N18 hb hbox hg; have hnb40 := NB408_382.out; have hnc40 := NB382_408.out; have hnb41 := NB408_395.out; have hnc41 := NB395_408.out; have hnb42 := NB408_403.out; have hnc42 := NB403_408.out; have hcz43_0 : w39.cell? ⟨g408, 0, none⟩ = some (I q 0) := (bc B408.out 0).trans rfl; have hcz43_1 : w39.cell? ⟨g408, 1, none⟩ = some (.slice none 0 0) := (bc B408.out 1).trans rfl; have hfz43_0 := bf B408.out 0; have hfz43_1 := bf B408.out 1; obtain ⟨Ao44, co44, eo44⟩ := Kd.R_slice O407.out; subst eo44; have hcz45_0 : w39.cell? ⟨g395, 0, none⟩ = some (I q t391) := (bc B395.out 0).trans rfl; have hcz45_1 : w39.cell? ⟨g395, 1, none⟩ = some (J Ao29 t392.length co29) := (bc B395.out 1).trans rfl; have hfz45_0 := bf B395.out 0; have hfz45_1 := bf B395.out 1) | ((with_reducible refine gate_callee (f := 38) rfl ?_); refine goesL_ (some 25) rfl rfl Try.func38 (by kernel_rfl) rfl #[.agg #[I q t404, J Ao44 t405.length co44], .agg #[I q t391, J Ao29 t392.length co29]] rfl (by (try simp only [List.map_toArray, List.map_cons, List.map_nil]); first | done | rfl) ?_; (with_reducible refine (laws_eqBytesResult.calls k t404 _ _ t405 t391 _ _ t392 true _ ?side1 ?side2 ?side3 ?side4 A11.out).mono ?_); (case side1 => refine (Kd.R_reads' (e := 5) (base := w.heap.size) (ok := fun k_ => (True ∧ some k_ ≠ (J Ao29 t392.length co29 : Value).ownBlock)) (n := t405.length) (c := co44) ?_).2.2; exact (by (with_reducible repeat (first | apply ra | apply rN | apply rd1)); exact (Kd.R_mono (rf (p := ⟨g408, 1, none⟩) (rf (p := ⟨g408, 0, none⟩) (Kd.R_types O407.out B408.out (by decide)) (fun _ hk => hk.2) (I q t404)) (fun _ hk => hk.2) (J Ao44 t405.length co44)) (fun _ h_ => h_.1)))); (case side2 => exact (Kd.R_reads' O407.out).2.1); (case side3 => refine (Kd.R_reads' (e := 5) (base := w.heap.size) (ok := fun k_ => (True ∧ some k_ ≠ (J Ao44 t405.length co44 : Value).ownBlock)) (n := t392.length) (c := co29) ?_).2.2; exact (by (with_reducible repeat (first | apply ra | apply rN | apply rd1)); exact (Kd.R_mono (rf (p := ⟨g408, 1, none⟩) (rf (p := ⟨g408, 0, none⟩) (Kd.R_types O394.out B408.out (by decide)) (fun _ hk => hk.2) (I q t404)) (fun _ hk => hk.2) (J Ao44 t405.length co44)) (fun _ h_ => h_.1)))); (case side4 => exact (Kd.R_reads' O394.out).2.1); rintro e w46 ⟨rfl, hb⟩; refine ⟨_, rfl, ?_⟩; have N0 := am (rb (by (with_reducible repeat (first | apply ra | apply rN | apply rd1)); exact (Kd.R_mono (rf (p := ⟨g408, 1, none⟩) (rf (p := ⟨g408, 0, none⟩) (Kd.R_types O387.out B408.out (by decide)) (fun _ hk => hk.2) (I q t404)) (fun _ hk => hk.2) (J Ao44 t405.length co44)) (fun _ h_ => h_.1))) hb); have N1 := am (Kd.S_below (by (with_reducible repeat (first | apply sa | apply sN | apply sd)); exact (sm (sf (p := ⟨g408, 1, none⟩) (sf (p := ⟨g408, 0, none⟩) (st O390.out B408.out (by decide)) (fun _ hk => hk.2) (I q t404)) (fun _ hk => hk.2) (J Ao44 t405.length co44)) (fun _ h_ => h_.1))) hb); have N2 := am (rb (by (with_reducible repeat (first | apply ra | apply rN | apply rd1)); exact (Kd.R_mono (rf (p := ⟨g408, 1, none⟩) (rf (p := ⟨g408, 0, none⟩) (Kd.R_types O394.out B408.out (by decide)) (fun _ hk => hk.2) (I q t404)) (fun _ hk => hk.2) (J Ao44 t405.length co44)) (fun _ h_ => h_.1))) hb); have N3 := am (rb (by (with_reducible repeat (first | apply ra | apply rN | apply rd1)); exact (Kd.R_mono (rf (p := ⟨g408, 1, none⟩) (rf (p := ⟨g408, 0, none⟩) (Kd.R_types O399.out B408.out (by decide)) (fun _ hk => hk.2) (I q t404)) (fun _ hk => hk.2) (J Ao44 t405.length co44)) (fun _ h_ => h_.1))) hb); have N4 := am (Kd.S_below (by (with_reducible repeat (first | apply sa | apply sN | apply sd)); exact (sm (sf (p := ⟨g408, 1, none⟩) (sf (p := ⟨g408, 0, none⟩) (st O402.out B408.out (by decide)) (fun _ hk => hk.2) (I q t404)) (fun _ hk => hk.2) (J Ao44 t405.length co44)) (fun _ h_ => h_.1))) hb); have N5 := am (rb (by (with_reducible repeat (first | apply ra | apply rN | apply rd1)); exact (Kd.R_mono (rf (p := ⟨g408, 1, none⟩) (rf (p := ⟨g408, 0, none⟩) (Kd.R_types O407.out B408.out (by decide)) (fun _ hk => hk.2) (I q t404)) (fun _ hk => hk.2) (J Ao44 t405.length co44)) (fun _ h_ => h_.1))) hb); have N6 := am (bb (g := g382) (o := .cells #[I q aa0, J Aa1 la1.length ca1, J Aa2 la2.length ca2] 25 (0, 0)) (by (iterate 2 ((with_reducible repeat (first | apply bN | apply bd | apply ba)); refine bq ?_ NB382_408.out _)); (with_reducible repeat (first | apply bN | apply bd | apply ba)); exact B382.out) hb); have N7 := am (bb (g := g395) (o := .cells #[I q t391, J Ao29 t392.length co29] 71 (0, 0)) (by (iterate 2 ((with_reducible repeat (first | apply bN | apply bd | apply ba)); refine bq ?_ NB395_408.out _)); (with_reducible repeat (first | apply bN | apply bd | apply ba)); exact B395.out) hb); have N8 := am (bb (g := g403) (o := .cells #[I q t396, J Ao36 t397.length co36, J Ao37 t400.length co37] 31 (0, 0)) (by (iterate 2 ((with_reducible repeat (first | apply bN | apply bd | apply ba)); refine bq ?_ NB403_408.out _)); (with_reducible repeat (first | apply bN | apply bd | apply ba)); exact B403.out) hb); have N9 := am (bb (g := g408) (o := .cells #[I q t404, J Ao44 t405.length co44] 71 (0, 0)) (by (with_reducible repeat (first | apply bN | apply bd | apply ba)); exact pu2k B408.out) hb); have N10 := am (bp (by repeat (first | (with_reducible first | exact HB.out | apply pa | apply pN | apply p1 | refine bs ?_ E382.out | refine bs ?_ E395.out | refine bs ?_ E403.out | refine bs ?_ E408.out) | exact HB.out)) hb); clear O387 O390 O394 O399 O402 O407 B382 B395 B403 B408 HB; have O387 := N0; have O390 := N1; have O394 := N2; have O399 := N3; have O402 := N4; have O407 := N5; have B382 := N6; have B395 := N7; have B403 := N8; have B408 := N9; have HB := N10; clear N0 N1 N2 N3 N4 N5 N6 N7 N8 N9 N10; (try clear hb); (try clear hb2); (try clear hk); (try clear hi)))
    have N0 := am (rd1 O387.out)
    have N1 := am (sd O390.out)
    have N2 := am (rd1 O394.out)
    have N3 := am (rd1 O399.out)
    have N4 := am (sd O402.out)
    have N5 := am (rd1 O407.out)
    have N6 := am (bd B382.out)
    have N7 := am (bd B395.out)
    have N8 := am (bd B403.out)
    have N9 := am (bd B408.out)
    have N10 := am (p1 HB.out)
    clear O387
    clear O390
    clear O394
    clear O399
    clear O402
    clear O407
    clear B382
    clear B395
    clear B403
    clear B408
    clear HB
    have O387 := N0
    have O390 := N1
    have O394 := N2
    have O399 := N3
    have O402 := N4
    have O407 := N5
    have B382 := N6
    have B395 := N7
    have B403 := N8
    have B408 := N9
    have HB := N10
    clear N0 N1 N2 N3 N4 N5 N6 N7 N8 N9 N10
    refine start_ (n := 5) (S := fun w' => w'.cell? ⟨g403, 0, none⟩ = some (I q t396) ∧ w'.cell? ⟨g403, 1, none⟩ = some (J Ao36 t397.length co36) ∧ w'.cell? ⟨g403, 2, none⟩ = some (J Ao37 t400.length co37) ∧ w'.cell? ⟨g382, 0, none⟩ = some (I q aa0) ∧ w'.cell? ⟨g382, 1, none⟩ = some (J Aa1 la1.length ca1) ∧ w'.cell? ⟨g382, 2, none⟩ = some (J Aa2 la2.length ca2)) (ds := []) #[false, false, false, false, false] (by kernel_rfl) rfl rfl ⟨(bc B403.out 0).trans rfl, (bc B403.out 1).trans rfl, (bc B403.out 2).trans rfl, (bc B382.out 0).trans rfl, (bc B382.out 1).trans rfl, (bc B382.out 2).trans rfl⟩ (fun hHeld => ?_)
    generalize w46.drew = w47 at O387 O390 O394 O399 O402 O407 B382 B395 B403 B408 HB hHeld ⊢
    refine take_ (i := 0) (N := some 27) (v := ?_) (a' := ?_) #[true, false, false, false, false] rfl rfl (by kernel_rfl) (fun _ _ _ h => h) (Or.inl ⟨by rfl, ?_⟩) hHeld ?_ ?_
    rotate_left
    ·rintro w' ⟨s0, s1, s2, s3, s4, s5⟩
     go_simp
     with_reducible rfl
    rotate_left
    ·simp only [Act.put, List.setIfInBounds_toArray, List.set_cons_zero, List.set_cons_succ, i64_w, i32_w]
     rfl
    refine take_ (i := 1) (N := some 28) (v := ?_) (a' := ?_) #[true, true, false, false, false] rfl rfl (by kernel_rfl) (fun _ _ _ h => h) (Or.inl ⟨by rfl, ?_⟩) hHeld ?_ ?_
    rotate_left
    ·rintro w' ⟨s0, s1, s2, s3, s4, s5⟩
     go_simp
     with_reducible rfl
    rotate_left
    ·simp only [Act.put, List.setIfInBounds_toArray, List.set_cons_zero, List.set_cons_succ, i64_w, i32_w]
     rfl
    refine one_ (i := 2) (N := some 29) #[true, true, true, false, false] rfl rfl (by kernel_rfl) (by decide) (fun K hK => ?_)
    refine goes_ Try.func14 (by kernel_rfl) rfl #[.agg #[I q aa0, J Aa1 la1.length ca1, J Aa2 la2.length ca2]] (by rfl) rfl rfl (by (try simp only [List.map_toArray, List.map_cons, List.map_nil]); first | done | rfl | (simp only [List.length_drop, List.length_take]; rfl)) ?_
    with_reducible refine (laws_toConfig.calls k aa0 _ _ la1 _ _ la2 t410 t411 t414 _ ?side1 ?side2 ?side3 ?side4 A13.out).mono ?_
    (case side1 => repeat (first | exact (Kd.C_below HR0_1.out HB.out) | (with_reducible refine ca ?_ _) | (with_reducible refine cN ?_ _) | (with_reducible refine cd1 ?_)))
    (case side2 => exact HC0_1.out)
    (case side3 => repeat (first | exact (Kd.C_below HR0_2.out HB.out) | (with_reducible refine ca ?_ _) | (with_reducible refine cN ?_ _) | (with_reducible refine cd1 ?_)))
    (case side4 => exact HC0_2.out)
    rintro e w48 ⟨v412, v415, rfl, ho0, ho1, hb⟩
    refine ⟨_, rfl, ?_⟩
    have N0 := am (re (by (with_reducible repeat (first | apply ra | apply rN | apply rd1)); exact O387.out) (Kd.R_base ho0) hb)
    have N1 := am (Kd.S_elder' (by (with_reducible repeat (first | apply sa | apply sN | apply sd)); exact O390.out) (Kd.S_base ho1) hb)
    have N2 := am (rb (by (with_reducible repeat (first | apply ra | apply rN | apply rd1)); exact O394.out) hb)
    have N3 := am (re (by (with_reducible repeat (first | apply ra | apply rN | apply rd1)); exact O399.out) (Kd.R_base ho0) hb)
    have N4 := am (Kd.S_elder' (by (with_reducible repeat (first | apply sa | apply sN | apply sd)); exact O402.out) (Kd.S_base ho1) hb)
    have N5 := am (rb (by (with_reducible repeat (first | apply ra | apply rN | apply rd1)); exact O407.out) hb)
    have N6 := am (rw1 (rn (rn ho0 (rl (by (with_reducible repeat (first | apply ra | apply rN | apply rd1)); exact O387.out))) (rl (by (with_reducible repeat (first | apply ra | apply rN | apply rd1)); exact O399.out))) (bz (by repeat (first | (with_reducible first | exact HB.out | apply pa | apply pN | apply p1 | refine bs ?_ E382.out | refine bs ?_ E395.out | refine bs ?_ E403.out | refine bs ?_ E408.out) | exact HB.out))))
    have N7 := am (Kd.S_lower (Kd.S_new' (Kd.S_new' ho1 (sl (by (with_reducible repeat (first | apply sa | apply sN | apply sd)); exact O390.out))) (sl (by (with_reducible repeat (first | apply sa | apply sN | apply sd)); exact O402.out))) (bz (by repeat (first | (with_reducible first | exact HB.out | apply pa | apply pN | apply p1 | refine bs ?_ E382.out | refine bs ?_ E395.out | refine bs ?_ E403.out | refine bs ?_ E408.out) | exact HB.out))))
    have N8 := am (bb (g := g382) (by (with_reducible repeat (first | apply bN | apply bd | apply ba)); exact B382.out) hb)
    have N9 := am (bb (g := g395) (by (with_reducible repeat (first | apply bN | apply bd | apply ba)); exact B395.out) hb)
    have N10 := am (bb (g := g403) (by (with_reducible repeat (first | apply bN | apply bd | apply ba)); exact B403.out) hb)
    have N11 := am (bb (g := g408) (by (with_reducible repeat (first | apply bN | apply bd | apply ba)); exact B408.out) hb)
    have N12 := am (bp (by repeat (first | (with_reducible first | exact HB.out | apply pa | apply pN | apply p1 | refine bs ?_ E382.out | refine bs ?_ E395.out | refine bs ?_ E403.out | refine bs ?_ E408.out) | exact HB.out)) hb)
    clear O387
    clear O390
    clear O394
    clear O399
    clear O402
    clear O407
    clear B382
    clear B395
    clear B403
    clear B408
    clear HB
    have O387 := N0
    have O390 := N1
    have O394 := N2
    have O399 := N3
    have O402 := N4
    have O407 := N5
    have O413 := N6
    have O416 := N7
    have B382 := N8
    have B395 := N9
    have B403 := N10
    have B408 := N11
    have HB := N12
    clear N0 N1 N2 N3 N4 N5 N6 N7 N8 N9 N10 N11 N12
    (try clear hb)
    (try clear hb2)
    (try clear hk)
    (try clear hi)
    (try clear ho0)
    (try clear ho1)
    obtain ⟨Ao49, co49, eo49⟩ := Kd.R_slice O413.out
    (first | subst eo49 | (injection eo49 with f1_ f2_ f3_; have f4_ := f1_.symm; have f5_ := f3_.symm; clear f1_ f2_ f3_; subst f4_; subst f5_))
    obtain ⟨Ao50, co50, eo50⟩ := Kd.S_slice O416.out
    (first | subst eo50 | (injection eo50 with f1_ f2_ f3_; have f4_ := f1_.symm; have f5_ := f3_.symm; clear f1_ f2_ f3_; subst f4_; subst f5_))
    refine hK.out _ _ ⟨(bc B403.out 0).trans rfl, (bc B403.out 1).trans rfl, (bc B403.out 2).trans rfl, (bc B382.out 0).trans rfl, (bc B382.out 1).trans rfl, (bc B382.out 2).trans rfl⟩ (fun hHeld => ?_)
    clear hK K
    refine norm_ (a' := ?_) ?_ ?_
    rotate_left
    ·show Act.put _ (some 29) _ = _
     simp only [Act.put, List.setIfInBounds_toArray, List.set_cons_zero, List.set_cons_succ, i64_w, i32_w]
     rfl
    refine one_ (i := 3) (N := some 30) #[true, true, true, true, false] rfl rfl (by kernel_rfl) (by decide) (fun K hK => ?_)
    refine goes_ Try.func16 (by kernel_rfl) rfl #[.agg #[I q t396, J Ao36 t397.length co36, J Ao37 t400.length co37], .agg #[I q t410, J Ao49 t411.length co49, J Ao50 t414.length co50]] (by rfl) rfl rfl (by (try simp only [List.map_toArray, List.map_cons, List.map_nil]); first | done | rfl | (simp only [List.length_drop, List.length_take]; rfl)) ?_
    with_reducible refine (laws_eqConfig.calls k t396 _ _ t397 _ _ t400 t410 _ _ t411 _ _ t414 true _ ?side1 ?side2 ?side3 ?side4 ?side5 ?side6 ?side7 ?side8 A14.out).mono ?_
    (case side1 => repeat (first | exact (Kd.R_reads' O399.out).2.2 | (with_reducible refine ca ?_ _) | (with_reducible refine cN ?_ _) | (with_reducible refine cd1 ?_)))
    (case side2 => exact (Kd.R_reads' O399.out).2.1)
    (case side3 => repeat (first | exact (Kd.S_reads' O402.out).2.2 | (with_reducible refine ca ?_ _) | (with_reducible refine cN ?_ _) | (with_reducible refine cd1 ?_)))
    (case side4 => exact (Kd.S_reads' O402.out).2.1)
    (case side5 => repeat (first | exact (Kd.R_reads' O413.out).2.2 | (with_reducible refine ca ?_ _) | (with_reducible refine cN ?_ _) | (with_reducible refine cd1 ?_)))
    (case side6 => exact (Kd.R_reads' O413.out).2.1)
    (case side7 => repeat (first | exact (Kd.S_reads' O416.out).2.2 | (with_reducible refine ca ?_ _) | (with_reducible refine cN ?_ _) | (with_reducible refine cd1 ?_)))
    (case side8 => exact (Kd.S_reads' O416.out).2.1)
    rintro e w51 ⟨rfl, hb⟩
    refine ⟨_, rfl, ?_⟩
    have N0 := am (rb (by (with_reducible repeat (first | apply ra | apply rN | apply rd1)); exact O387.out) hb)
    have N1 := am (Kd.S_below (by (with_reducible repeat (first | apply sa | apply sN | apply sd)); exact O390.out) hb)
    have N2 := am (rb (by (with_reducible repeat (first | apply ra | apply rN | apply rd1)); exact O394.out) hb)
    have N3 := am (rb (by (with_reducible repeat (first | apply ra | apply rN | apply rd1)); exact O399.out) hb)
    have N4 := am (Kd.S_below (by (with_reducible repeat (first | apply sa | apply sN | apply sd)); exact O402.out) hb)
    have N5 := am (rb (by (with_reducible repeat (first | apply ra | apply rN | apply rd1)); exact O407.out) hb)
    have N6 := am (rb (by (with_reducible repeat (first | apply ra | apply rN | apply rd1)); exact O413.out) hb)
    have N7 := am (Kd.S_below (by (with_reducible repeat (first | apply sa | apply sN | apply sd)); exact O416.out) hb)
    have N8 := am (bb (g := g382) (by (with_reducible repeat (first | apply bN | apply bd | apply ba)); exact B382.out) hb)
    have N9 := am (bb (g := g395) (by (with_reducible repeat (first | apply bN | apply bd | apply ba)); exact B395.out) hb)
    have N10 := am (bb (g := g403) (by (with_reducible repeat (first | apply bN | apply bd | apply ba)); exact B403.out) hb)
    have N11 := am (bb (g := g408) (by (with_reducible repeat (first | apply bN | apply bd | apply ba)); exact B408.out) hb)
    have N12 := am (bp (by repeat (first | (with_reducible first | exact HB.out | apply pa | apply pN | apply p1 | refine bs ?_ E382.out | refine bs ?_ E395.out | refine bs ?_ E403.out | refine bs ?_ E408.out) | exact HB.out)) hb)
    clear O387
    clear O390
    clear O394
    clear O399
    clear O402
    clear O407
    clear O413
    clear O416
    clear B382
    clear B395
    clear B403
    clear B408
    clear HB
    have O387 := N0
    have O390 := N1
    have O394 := N2
    have O399 := N3
    have O402 := N4
    have O407 := N5
    have O413 := N6
    have O416 := N7
    have B382 := N8
    have B395 := N9
    have B403 := N10
    have B408 := N11
    have HB := N12
    clear N0 N1 N2 N3 N4 N5 N6 N7 N8 N9 N10 N11 N12
    (try clear hb)
    (try clear hb2)
    (try clear hk)
    (try clear hi)
    refine hK.out _ _ ⟨(bc B403.out 0).trans rfl, (bc B403.out 1).trans rfl, (bc B403.out 2).trans rfl, (bc B382.out 0).trans rfl, (bc B382.out 1).trans rfl, (bc B382.out 2).trans rfl⟩ (fun hHeld => ?_)
    clear hK K
    refine norm_ (a' := ?_) ?_ ?_
    rotate_left
    ·show Act.put _ (some 30) _ = _
     simp only [Act.put, List.setIfInBounds_toArray, List.set_cons_zero, List.set_cons_succ, i64_w, i32_w]
     rfl
    refine pure_ (i := 4) (N := some 31) (v := ?_) (a' := ?_) #[true, true, true, true, true] rfl rfl (by kernel_rfl) (fun _ _ _ h => h) (Or.inl ⟨by rfl, ?_⟩) ?_ ?_
    rotate_left
    ·intro w'
     first | (go_simp; with_reducible rfl) | (go_simp; (try unfold Instr.field); go_simp; (try simp only [asAgg]); go_simp; with_reducible rfl)
    rotate_left
    ·simp only [Act.put, List.setIfInBounds_toArray, List.set_cons_zero, List.set_cons_succ, i64_w, i32_w]
     rfl
    refine done_ (by kernel_rfl) ?_
    have hcz52_0 : w51.cell? ⟨g403, 0, none⟩ = some (I q t396) := (bc B403.out 0).trans rfl
    have hcz52_1 : w51.cell? ⟨g403, 1, none⟩ = some (J Ao36 t397.length co36) := (bc B403.out 1).trans rfl
    have hcz52_2 : w51.cell? ⟨g403, 2, none⟩ = some (J Ao37 t400.length co37) := (bc B403.out 2).trans rfl
    have hfz52_0 := bf B403.out 0
    have hfz52_1 := bf B403.out 1
    have hfz52_2 := bf B403.out 2
    go_upto_region 14 with (first | ((with_reducible refine gate_callee (f := 27) rfl ?_); refine goesL_ (some 34) rfl rfl Try.func27 (by kernel_rfl) rfl #[.agg #[I q t396, J Ao36 t397.length co36, J Ao37 t400.length co37], I q 1] rfl (by (try simp only [List.map_toArray, List.map_cons, List.map_nil]); first | done | rfl) ?_; refine (laws_markConfig.cf _ _ _ _ _ _ _ _ _ w _ (by repeat (first | (with_reducible first | exact HB.out | apply pa | apply pN | apply p1) | exact HB.out)) O399.out O402.out A16.out).mono ?_; rintro e w53 ⟨rfl, ⟨y1_, hy1⟩, ⟨y2_, hy2⟩, hb, hkT⟩; refine ⟨_, rfl, ?_⟩; have N0 := am (True.intro); have N1 := am (True.intro); have N2 := am (Cf.R_keptT rfl (by unfold Cf.p3; decide) O394.out hkT); have N3 := am (hy1); have N4 := am (hy2); have N5 := am (Cf.R_keptT rfl (by unfold Cf.p3; decide) O407.out hkT); have N6 := am (True.intro); have N7 := am (True.intro); have N8 := am (Cf.blk_keptT B382.out (by unfold Cf.p3; decide) hkT); have N9 := am (Cf.blk_keptT B395.out (by unfold Cf.p3; decide) hkT); have N10 := am (Cf.blk_keptT B403.out (by unfold Cf.p3; decide) hkT); have N11 := am (Cf.blk_keptT B408.out (by unfold Cf.p3; decide) hkT); have N12 := am (hb); clear O387 O390 O394 O399 O402 O407 O413 O416 B382 B395 B403 B408 HB; have O387 := N0; have O390 := N1; have O394 := N2; have O399 := N3; have O402 := N4; have O407 := N5; have O413 := N6; have O416 := N7; have B382 := N8; have B395 := N9; have B403 := N10; have B408 := N11; have HB := N12; clear N0 N1 N2 N3 N4 N5 N6 N7 N8 N9 N10 N11 N12; (try clear hy1 hy2 hkT); (try clear hb); (try clear hb2); (try clear hk); (try clear hi)))
    (try simp only [Act.put, List.setIfInBounds_toArray, List.set_cons_zero, List.set_cons_succ])
    go_cut [42] (fun v42 wc => ∃ (kq : Nat) (x42_16 : Bool) (y1_ : List (S36)) (y2_ : List (S64)), v42 = .bool x42_16 ∧ Aside0 (laws_FnExactPackConfig.j0 kq x42_16 aa0 la1 la2 t391 t392 t404 t405 = some r) ∧ Aside0 (kq ≤ k) ∧ Aside0 (Kd.R (Kd.int .u8) 5 wc w.heap.size (fun k_ => some k_ ≠ ((J Ao44 t405.length co44) : Value).ownBlock) (J Ao29 t392.length co29) t392) ∧ Aside0 (Kd.R k36 36 wc w.heap.size (fun _ => True) (J Ao36 t397.length co36) y1_) ∧ Aside0 (Kd.S k64 64 wc w.heap.size (fun _ => True) (J Ao37 t400.length co37) y2_) ∧ Aside0 (Kd.R (Kd.int .u8) 5 wc w.heap.size (fun k_ => some k_ ≠ ((J Ao29 t392.length co29) : Value).ownBlock) (J Ao44 t405.length co44) t405) ∧ Aside0 (wc.heap[g382]? = some (.cells #[I q aa0, (J Aa1 la1.length ca1), (J Aa2 la2.length ca2)] 25 (0, 0))) ∧ Aside0 (wc.heap[g395]? = some (.cells #[I q t391, (J Ao29 t392.length co29)] 71 (0, 0))) ∧ Aside0 (wc.heap[g403]? = some (.cells #[I q t396, (J Ao36 t397.length co36), (J Ao37 t400.length co37)] 31 (0, 0))) ∧ Aside0 (wc.heap[g408]? = some (.cells #[I q t404, (J Ao44 t405.length co44)] 71 (0, 0))) ∧ Aside0 (Below w.heap.size w wc))
    case first =>
     have H := HC17.out
     clear HC17
     by_cases c54 : t418 < 0
     ·rw [if_pos c54] at H
      have c54b0 : decide (t418 < 0) = true := decide_eq_true c54
      clear c54
      (first | rw [c54b0] | (simp only [i64_w, i32_w]; rw [c54b0]) | skip)
      have H' := am H
      clear H
      go_wp2
      go_meet
      case rel => exact ⟨_, (true), _, _, (by first | rfl | (simp; done) | (simp [*]; done)), H', ⟨by first | omega | exact Nat.le_refl _⟩, ⟨by (with_reducible repeat (first | apply ra | apply rN | apply rd1)); exact Kd.R_mono O394.out (fun _ hk => hk.2)⟩, ⟨by (with_reducible repeat (first | apply ra | apply rN | apply rd1)); exact Kd.R_mono O399.out (fun _ hk => trivial)⟩, ⟨by (with_reducible repeat (first | apply sa | apply sN | apply sd)); exact sm O402.out (fun _ hk => trivial)⟩, ⟨by (with_reducible repeat (first | apply ra | apply rN | apply rd1)); exact Kd.R_mono O407.out (fun _ hk => hk.2)⟩, ⟨by (with_reducible repeat (first | apply bN | apply bd | apply ba)); exact B382.out⟩, ⟨by (with_reducible repeat (first | apply bN | apply bd | apply ba)); exact B395.out⟩, ⟨by (with_reducible repeat (first | apply bN | apply bd | apply ba)); exact B403.out⟩, ⟨by (with_reducible repeat (first | apply bN | apply bd | apply ba)); exact B408.out⟩, ⟨by repeat (first | (with_reducible first | exact HB.out | apply pa | apply pN | apply p1 | refine bs ?_ E382.out | refine bs ?_ E395.out | refine bs ?_ E403.out | refine bs ?_ E408.out) | exact HB.out)⟩⟩
     ·rw [if_neg c54] at H
      have c54b0 : decide (t418 < 0) = false := decide_eq_false c54
      clear c54
      (first | rw [c54b0] | (simp only [i64_w, i32_w]; rw [c54b0]) | skip)
      replace H := Option.bind_eq_some_iff.mp H
      obtain ⟨t419, A550, H⟩ := H
      replace H : (laws_FnExactPackConfig.j0 k (!t419) aa0 la1 la2 t391 t392 t404 t405) = some r := H
      have A55 := am A550
      clear A550
      have H' := am H
      clear H
      have hnb56 := NB408_382.out
      have hnc56 := NB382_408.out
      have hnb57 := NB408_395.out
      have hnc57 := NB395_408.out
      have hnb58 := NB408_403.out
      have hnc58 := NB403_408.out
      have hcz59_0 : w53.cell? ⟨g408, 0, none⟩ = some (I q t404) := (bc B408.out 0).trans rfl
      have hcz59_1 : w53.cell? ⟨g408, 1, none⟩ = some (J Ao44 t405.length co44) := (bc B408.out 1).trans rfl
      have hfz59_0 := bf B408.out 0
      have hfz59_1 := bf B408.out 1
      have hnb60 := NB395_382.out
      have hnc60 := NB382_395.out
      have hnb61 := NB395_403.out
      have hnc61 := NB403_395.out
      have hcz62_0 : w53.cell? ⟨g395, 0, none⟩ = some (I q t391) := (bc B395.out 0).trans rfl
      have hcz62_1 : w53.cell? ⟨g395, 1, none⟩ = some (J Ao29 t392.length co29) := (bc B395.out 1).trans rfl
      have hfz62_0 := bf B395.out 0
      have hfz62_1 := bf B395.out 1
      go_wp2_with (first | (go_at_call 38; (with_reducible refine (laws_eqBytesResult.calls k t404 _ _ t405 t391 _ _ t392 t419 _ ?side1 ?side2 ?side3 ?side4 A55.out).mono ?_); (case side1 => repeat (first | exact (Kd.R_reads' O407.out).2.2 | (with_reducible refine ca ?_ _) | (with_reducible refine cN ?_ _) | (with_reducible refine cd1 ?_))); (case side2 => exact (Kd.R_reads' O407.out).2.1); (case side3 => repeat (first | exact (Kd.R_reads' O394.out).2.2 | (with_reducible refine ca ?_ _) | (with_reducible refine cN ?_ _) | (with_reducible refine cd1 ?_))); (case side4 => exact (Kd.R_reads' O394.out).2.1); rintro e w63 ⟨rfl, hb⟩; have N0 := am True.intro; have N1 := am True.intro; have N2 := am (rb (by (with_reducible repeat (first | apply ra | apply rN | apply rd1)); exact O394.out) hb); have N3 := am (rb (by (with_reducible repeat (first | apply ra | apply rN | apply rd1)); exact O399.out) hb); have N4 := am (Kd.S_below (by (with_reducible repeat (first | apply sa | apply sN | apply sd)); exact O402.out) hb); have N5 := am (rb (by (with_reducible repeat (first | apply ra | apply rN | apply rd1)); exact O407.out) hb); have N6 := am True.intro; have N7 := am True.intro; have N8 := am (bb (g := g382) (by (with_reducible repeat (first | apply bN | apply bd | apply ba)); exact B382.out) hb); have N9 := am (bb (g := g395) (by (with_reducible repeat (first | apply bN | apply bd | apply ba)); exact B395.out) hb); have N10 := am (bb (g := g403) (by (with_reducible repeat (first | apply bN | apply bd | apply ba)); exact B403.out) hb); have N11 := am (bb (g := g408) (by (with_reducible repeat (first | apply bN | apply bd | apply ba)); exact B408.out) hb); have N12 := am (bp (by repeat (first | (with_reducible first | exact HB.out | apply pa | apply pN | apply p1 | refine bs ?_ E382.out | refine bs ?_ E395.out | refine bs ?_ E403.out | refine bs ?_ E408.out) | exact HB.out)) hb); clear O387 O390 O394 O399 O402 O407 O413 O416 B382 B395 B403 B408 HB; have O387 := N0; have O390 := N1; have O394 := N2; have O399 := N3; have O402 := N4; have O407 := N5; have O413 := N6; have O416 := N7; have B382 := N8; have B395 := N9; have B403 := N10; have B408 := N11; have HB := N12; clear N0 N1 N2 N3 N4 N5 N6 N7 N8 N9 N10 N11 N12; (try clear hb); (try clear hb2); (try clear hk); (try clear hi)))
      go_meet
      case rel => exact ⟨_, (!t419), _, _, (by first | rfl | (simp; done) | (simp [*]; done)), H', ⟨by first | omega | exact Nat.le_refl _⟩, ⟨by (with_reducible repeat (first | apply ra | apply rN | apply rd1)); exact Kd.R_mono O394.out (fun _ hk => hk.2)⟩, ⟨by (with_reducible repeat (first | apply ra | apply rN | apply rd1)); exact Kd.R_mono O399.out (fun _ hk => trivial)⟩, ⟨by (with_reducible repeat (first | apply sa | apply sN | apply sd)); exact sm O402.out (fun _ hk => trivial)⟩, ⟨by (with_reducible repeat (first | apply ra | apply rN | apply rd1)); exact Kd.R_mono O407.out (fun _ hk => hk.2)⟩, ⟨by (with_reducible repeat (first | apply bN | apply bd | apply ba)); exact B382.out⟩, ⟨by (with_reducible repeat (first | apply bN | apply bd | apply ba)); exact B395.out⟩, ⟨by (with_reducible repeat (first | apply bN | apply bd | apply ba)); exact B403.out⟩, ⟨by (with_reducible repeat (first | apply bN | apply bd | apply ba)); exact B408.out⟩, ⟨by repeat (first | (with_reducible first | exact HB.out | apply pa | apply pN | apply p1 | refine bs ?_ E382.out | refine bs ?_ E395.out | refine bs ?_ E403.out | refine bs ?_ E408.out) | exact HB.out)⟩⟩
    case rest =>
     clear HC17
     try clear c1
     try clear c2
     try clear p2
     try clear c3
     try clear c3b0
     try clear c4
     try clear c5
     try clear c6
     try clear c9
     try clear c12
     try clear c14
     try clear c15
     try clear c16
     try clear c27
     try clear c33
     try clear c34
     try clear c36
     try clear c37
     try clear c38
     try clear c40
     try clear c41
     try clear c42
     try clear c54
     try clear c54b0
     try clear c56
     try clear c57
     try clear c58
     try clear c60
     try clear c61
     try clear hcz19_0
     try clear hcz19_1
     try clear hcz19_2
     try clear hcz21_0
     try clear hcz21_1
     try clear hcz21_2
     try clear hcz28_0
     try clear hcz28_1
     try clear hcz30_0
     try clear hcz30_1
     try clear hcz30_2
     try clear hcz35_0
     try clear hcz35_1
     try clear hcz35_2
     try clear hcz43_0
     try clear hcz43_1
     try clear hcz45_0
     try clear hcz45_1
     try clear hcz52_0
     try clear hcz52_1
     try clear hcz52_2
     try clear hcz59_0
     try clear hcz59_1
     try clear hcz5_0
     try clear hcz5_1
     try clear hcz5_2
     try clear hcz62_0
     try clear hcz62_1
     try clear hfz19_0
     try clear hfz19_1
     try clear hfz19_2
     try clear hfz21_0
     try clear hfz21_1
     try clear hfz21_2
     try clear hfz28_0
     try clear hfz28_1
     try clear hfz30_0
     try clear hfz30_1
     try clear hfz30_2
     try clear hfz35_0
     try clear hfz35_1
     try clear hfz35_2
     try clear hfz43_0
     try clear hfz43_1
     try clear hfz45_0
     try clear hfz45_1
     try clear hfz52_0
     try clear hfz52_1
     try clear hfz52_2
     try clear hfz59_0
     try clear hfz59_1
     try clear hfz5_0
     try clear hfz5_1
     try clear hfz5_2
     try clear hfz62_0
     try clear hfz62_1
     obtain ⟨kq, x42_16, y1_, y2_, rfl, HA, HJ16, o0, o1, o2, o3, B382, B395, B403, B408, HB⟩ := hcut
     cases kq with
     | zero => exact absurd HA.out (by simp [laws_FnExactPackConfig.j0])
     | succ kj16 =>
      have H := HA.out
      clear HA
      simp only [laws_FnExactPackConfig.j0] at H
      by_cases c64 : x42_16 = true
      ·subst c64
       have H1 : none = some r := by rw [if_pos rfl] at H; exact H
       clear H
       have H := H1
       clear H1
       cases H
      ·replace c64 := Bool.eq_false_iff.mpr c64
       subst c64
       have H1 : ((laws_markBytesResult.f kj16 t404 t405 1).bind fun bt420 => ((laws_heldBytesResult.f kj16 t404 bt420.2 1).bind fun t422 => (if t422 < 0 then none else (if t422 = bt420.1 then ((laws_toConfig.f kj16 aa0 la1 la2).bind fun bt423 => ((impl_PackConfig.f kj16 bt423.1 bt423.2.1 bt423.2.2).bind fun bt430 => ((laws_eqBytesResult.f kj16 bt430.1 bt430.2 t391 t392).bind fun t435 => (if t435 = true then ((laws_heldBytesResult.f kj16 t404 bt420.2 1).bind fun t436 => (if t436 < 0 then none else (if t436 = bt420.1 then (some true) else none))) else none)))) else none)))) = some r := by rw [if_neg (show ¬ (false = true) by decide)] at H; exact H
       clear H
       have H := H1
       clear H1
       replace H := Option.bind_eq_some_iff.mp H
       obtain ⟨⟨t420, t421⟩, A650, H⟩ := H
       replace H : ((laws_heldBytesResult.f kj16 t404 t421 1).bind fun t422 => (if t422 < 0 then none else (if t422 = t420 then ((laws_toConfig.f kj16 aa0 la1 la2).bind fun bt423 => ((impl_PackConfig.f kj16 bt423.1 bt423.2.1 bt423.2.2).bind fun bt430 => ((laws_eqBytesResult.f kj16 bt430.1 bt430.2 t391 t392).bind fun t435 => (if t435 = true then ((laws_heldBytesResult.f kj16 t404 t421 1).bind fun t436 => (if t436 < 0 then none else (if t436 = t420 then (some true) else none))) else none)))) else none))) = some r := H
       have A65 := am A650
       clear A650
       replace H := Option.bind_eq_some_iff.mp H
       obtain ⟨t422, A660, H⟩ := H
       replace H : (if t422 < 0 then none else (if t422 = t420 then ((laws_toConfig.f kj16 aa0 la1 la2).bind fun bt423 => ((impl_PackConfig.f kj16 bt423.1 bt423.2.1 bt423.2.2).bind fun bt430 => ((laws_eqBytesResult.f kj16 bt430.1 bt430.2 t391 t392).bind fun t435 => (if t435 = true then ((laws_heldBytesResult.f kj16 t404 t421 1).bind fun t436 => (if t436 < 0 then none else (if t436 = t420 then (some true) else none))) else none)))) else none)) = some r := H
       have A66 := am A660
       clear A660
       by_cases c67 : t422 < 0
       ·rw [if_pos c67] at H
        have c67b0 : decide (t422 < 0) = true := decide_eq_true c67
        clear c67
        cases H
       ·rw [if_neg c67] at H
        have c67b0 : decide (t422 < 0) = false := decide_eq_false c67
        clear c67
        by_cases c75 : t422 = t420
        ·rw [if_pos c75] at H
         have c75b0 : (t422 == t420) = true := beq_iff_eq.mpr c75
         have c75b1 : (t422 != t420) = false := bne_eq_false_iff_eq.mpr c75
         clear c75
         replace H := Option.bind_eq_some_iff.mp H
         obtain ⟨⟨t423, t424, t427⟩, A760, H⟩ := H
         replace H : ((impl_PackConfig.f kj16 t423 t424 t427).bind fun bt430 => ((laws_eqBytesResult.f kj16 bt430.1 bt430.2 t391 t392).bind fun t435 => (if t435 = true then ((laws_heldBytesResult.f kj16 t404 t421 1).bind fun t436 => (if t436 < 0 then none else (if t436 = t420 then (some true) else none))) else none))) = some r := H
         have A76 := am A760
         clear A760
         replace H := Option.bind_eq_some_iff.mp H
         obtain ⟨⟨t430, t431⟩, A770, H⟩ := H
         replace H : ((laws_eqBytesResult.f kj16 t430 t431 t391 t392).bind fun t435 => (if t435 = true then ((laws_heldBytesResult.f kj16 t404 t421 1).bind fun t436 => (if t436 < 0 then none else (if t436 = t420 then (some true) else none))) else none)) = some r := H
         have A77 := am A770
         clear A770
         replace H := Option.bind_eq_some_iff.mp H
         obtain ⟨t435, A780, H⟩ := H
         replace H : (if t435 = true then ((laws_heldBytesResult.f kj16 t404 t421 1).bind fun t436 => (if t436 < 0 then none else (if t436 = t420 then (some true) else none))) else none) = some r := H
         have A78 := am A780
         clear A780
         by_cases c79 : t435 = true
         ·subst c79
          have H1 : ((laws_heldBytesResult.f kj16 t404 t421 1).bind fun t436 => (if t436 < 0 then none else (if t436 = t420 then (some true) else none))) = some r := by rw [if_pos rfl] at H; exact H
          clear H
          have H := H1
          clear H1
          replace H := Option.bind_eq_some_iff.mp H
          obtain ⟨t436, A800, H⟩ := H
          replace H : (if t436 < 0 then none else (if t436 = t420 then (some true) else none)) = some r := H
          have A80 := am A800
          clear A800
          by_cases c81 : t436 < 0
          ·rw [if_pos c81] at H
           have c81b0 : decide (t436 < 0) = true := decide_eq_true c81
           clear c81
           cases H
          ·rw [if_neg c81] at H
           have c81b0 : decide (t436 < 0) = false := decide_eq_false c81
           clear c81
           by_cases c108 : t436 = t420
           ·rw [if_pos c108] at H
            have c108b0 : (t436 == t420) = true := beq_iff_eq.mpr c108
            have c108b1 : (t436 != t420) = false := bne_eq_false_iff_eq.mpr c108
            clear c108
            obtain rfl := Option.some.inj H
            have hnb109 := NB408_382.out
            have hnc109 := NB382_408.out
            have hnb110 := NB408_395.out
            have hnc110 := NB395_408.out
            have hnb111 := NB408_403.out
            have hnc111 := NB403_408.out
            have hcz112_0 : wc.cell? ⟨g408, 0, none⟩ = some (I q t404) := (bc B408.out 0).trans rfl
            have hcz112_1 : wc.cell? ⟨g408, 1, none⟩ = some (J Ao44 t405.length co44) := (bc B408.out 1).trans rfl
            have hfz112_0 := bf B408.out 0
            have hfz112_1 := bf B408.out 1
            go_wp2_with (first | ((with_reducible refine gate_callee (f := 39) rfl ?_); refine goesL_ (some 45) rfl rfl Try.func39 (by kernel_rfl) rfl #[.agg #[I q t404, J Ao44 t405.length co44], I q 1] rfl (by (try simp only [List.map_toArray, List.map_cons, List.map_nil]); first | done | rfl) ?_; (with_reducible refine (laws_markBytesResult.calls kj16 t404 (fun k_ => some k_ = (J Ao44 t405.length co44 : Value).ownBlock) (J Ao44 t405.length co44) t405 1 t420 t421 w _ ?side1 ?side2 A65.out).mono ?_); (case side1 => repeat (first | (with_reducible first | exact HB.out | apply pa | apply pN | apply p1 | refine bs ?_ E382.out | refine bs ?_ E395.out | refine bs ?_ E403.out | refine bs ?_ E408.out) | exact HB.out)); (case side2 => exact Kd.R_tight rfl o3.out); rintro e w113 ⟨rfl, hy0, hb, hkp⟩; refine ⟨_, rfl, ?_⟩; have N0 := am (Kd.R_mono (ok' := fun k_ => some k_ ≠ (J Ao44 t405.length co44 : Value).ownBlock) (Kd.R_keptB (o0.out) hkp (fun k_ hk_ hs_ => (hk_) hs_)) (fun k_ hk_ => hk_.1)); have N1 := am (Kd.R_mono (ok' := fun k_ => True) (Kd.R_keptB ((Kd.R_apart' o1.out (Kd.R_typed o3.out) (by decide))) hkp (fun k_ hk_ hs_ => (hk_.2) hs_)) (fun k_ hk_ => trivial)); have N2 := am (sm (ok' := fun k_ => True) (Kd.S_keptB ((Kd.S_apart' o2.out (Kd.R_typed o3.out) (by decide))) hkp (fun k_ hk_ hs_ => (hk_.2) hs_)) (fun k_ hk_ => trivial)); have N3 := am (Kd.R_reok rfl hy0 (fun k_ e_ => o3.out.1 k_ e_)); have N4 := am (blk_kept (by (with_reducible repeat (first | apply bN | apply bd | apply ba)); exact B382.out) hkp (fun hs_ => (fun e_ => (Kd.R_ne o3.out B382.out (by decide)) e_) hs_)); have N5 := am (blk_kept (by (with_reducible repeat (first | apply bN | apply bd | apply ba)); exact B395.out) hkp (fun hs_ => (fun e_ => (Kd.R_ne o3.out B395.out (by decide)) e_) hs_)); have N6 := am (blk_kept (by (with_reducible repeat (first | apply bN | apply bd | apply ba)); exact B403.out) hkp (fun hs_ => (fun e_ => (Kd.R_ne o3.out B403.out (by decide)) e_) hs_)); have N7 := am (blk_kept (by (with_reducible repeat (first | apply bN | apply bd | apply ba)); exact B408.out) hkp (fun hs_ => (fun e_ => (Kd.R_ne o3.out B408.out (by decide)) e_) hs_)); have N8 := am (hb); clear o0 o1 o2 o3 B382 B395 B403 B408 HB; have o0 := N0; have o1 := N1; have o2 := N2; have o3 := N3; have B382 := N4; have B395 := N5; have B403 := N6; have B408 := N7; have HB := N8; clear N0 N1 N2 N3 N4 N5 N6 N7 N8; (try clear hb); (try clear hkp); (try clear hy0); have hcz114_0 : w113.cell? ⟨g408, 0, none⟩ = some (I q t404) := (bc B408.out 0).trans rfl; have hcz114_1 : w113.cell? ⟨g408, 1, none⟩ = some (J Ao44 t405.length co44) := (bc B408.out 1).trans rfl; have hfz114_0 := bf B408.out 0; have hfz114_1 := bf B408.out 1) | ((with_reducible refine gate_callee (f := 40) rfl ?_); refine goesL_ (some 48) rfl rfl Try.func40 (by kernel_rfl) rfl #[.agg #[I q t404, J Ao44 t421.length co44], I q 1] rfl (by (try simp only [List.map_toArray, List.map_cons, List.map_nil]); first | done | (rw [show t421.length = t405.length from (Kd.R_reads' o3.out).1.symm] <;> rfl) | rfl | (simp only [List.length_drop, List.length_take]; rfl)) ?_; (with_reducible refine (laws_heldBytesResult.calls kj16 t404 _ _ t421 1 t422 _ ?side1 ?side2 A66.out).mono ?_); (case side1 => repeat (first | exact (Kd.R_reads' o3.out).2.2 | (with_reducible refine ca ?_ _) | (with_reducible refine cN ?_ _) | (with_reducible refine cd1 ?_))); (case side2 => rw [show t421.length = t405.length from (Kd.R_reads' o3.out).1.symm]; exact (Kd.R_reads' o3.out).2.1); rintro e w115 ⟨rfl, hb⟩; refine ⟨_, rfl, ?_⟩; have N0 := am (rb (by (with_reducible repeat (first | apply ra | apply rN | apply rd1)); exact o0.out) hb); have N1 := am (rb (by (with_reducible repeat (first | apply ra | apply rN | apply rd1)); exact o1.out) hb); have N2 := am (Kd.S_below (by (with_reducible repeat (first | apply sa | apply sN | apply sd)); exact o2.out) hb); have N3 := am (rb (by (with_reducible repeat (first | apply ra | apply rN | apply rd1)); exact o3.out) hb); have N4 := am (bb (g := g382) (by (with_reducible repeat (first | apply bN | apply bd | apply ba)); exact B382.out) hb); have N5 := am (bb (g := g395) (by (with_reducible repeat (first | apply bN | apply bd | apply ba)); exact B395.out) hb); have N6 := am (bb (g := g403) (by (with_reducible repeat (first | apply bN | apply bd | apply ba)); exact B403.out) hb); have N7 := am (bb (g := g408) (by (with_reducible repeat (first | apply bN | apply bd | apply ba)); exact B408.out) hb); have N8 := am (bp (by repeat (first | (with_reducible first | exact HB.out | apply pa | apply pN | apply p1 | refine bs ?_ E382.out | refine bs ?_ E395.out | refine bs ?_ E403.out | refine bs ?_ E408.out) | exact HB.out)) hb); clear o0 o1 o2 o3 B382 B395 B403 B408 HB; have o0 := N0; have o1 := N1; have o2 := N2; have o3 := N3; have B382 := N4; have B395 := N5; have B403 := N6; have B408 := N7; have HB := N8; clear N0 N1 N2 N3 N4 N5 N6 N7 N8; (try clear hb); (try clear hb2); (try clear hk); (try clear hi); have hnb116 := NB382_395.out; have hnc116 := NB395_382.out; have hnb117 := NB382_403.out; have hnc117 := NB403_382.out; have hcz118_0 : w115.cell? ⟨g382, 0, none⟩ = some (I q aa0) := (bc B382.out 0).trans rfl; have hcz118_1 : w115.cell? ⟨g382, 1, none⟩ = some (J Aa1 la1.length ca1) := (bc B382.out 1).trans rfl; have hcz118_2 : w115.cell? ⟨g382, 2, none⟩ = some (J Aa2 la2.length ca2) := (bc B382.out 2).trans rfl; have hfz118_0 := bf B382.out 0; have hfz118_1 := bf B382.out 1; have hfz118_2 := bf B382.out 2) | ((with_reducible refine gate_callee (f := 14) rfl ?_); refine goesL_ (some 55) rfl rfl Try.func14 (by kernel_rfl) rfl #[.agg #[I q aa0, J Aa1 la1.length ca1, J Aa2 la2.length ca2]] rfl (by (try simp only [List.map_toArray, List.map_cons, List.map_nil]); first | done | rfl) ?_; (with_reducible refine (laws_toConfig.calls kj16 aa0 _ _ la1 _ _ la2 t423 t424 t427 _ ?side1 ?side2 ?side3 ?side4 A76.out).mono ?_); (case side1 => repeat (first | exact (Kd.C_below HR0_1.out HB.out) | (with_reducible refine ca ?_ _) | (with_reducible refine cN ?_ _) | (with_reducible refine cd1 ?_))); (case side2 => exact HC0_1.out); (case side3 => repeat (first | exact (Kd.C_below HR0_2.out HB.out) | (with_reducible refine ca ?_ _) | (with_reducible refine cN ?_ _) | (with_reducible refine cd1 ?_))); (case side4 => exact HC0_2.out); rintro e w119 ⟨v425, v428, rfl, ho0, ho1, hb⟩; refine ⟨_, rfl, ?_⟩; have N0 := am (rb (by (with_reducible repeat (first | apply ra | apply rN | apply rd1)); exact o0.out) hb); have N1 := am (re (by (with_reducible repeat (first | apply ra | apply rN | apply rd1)); exact o1.out) (Kd.R_base ho0) hb); have N2 := am (Kd.S_elder' (by (with_reducible repeat (first | apply sa | apply sN | apply sd)); exact o2.out) (Kd.S_base ho1) hb); have N3 := am (rb (by (with_reducible repeat (first | apply ra | apply rN | apply rd1)); exact o3.out) hb); have N4 := am (rw1 (rn ho0 (rl (by (with_reducible repeat (first | apply ra | apply rN | apply rd1)); exact o1.out))) (bz (by repeat (first | (with_reducible first | exact HB.out | apply pa | apply pN | apply p1 | refine bs ?_ E382.out | refine bs ?_ E395.out | refine bs ?_ E403.out | refine bs ?_ E408.out) | exact HB.out)))); have N5 := am (Kd.S_lower (Kd.S_new' ho1 (sl (by (with_reducible repeat (first | apply sa | apply sN | apply sd)); exact o2.out))) (bz (by repeat (first | (with_reducible first | exact HB.out | apply pa | apply pN | apply p1 | refine bs ?_ E382.out | refine bs ?_ E395.out | refine bs ?_ E403.out | refine bs ?_ E408.out) | exact HB.out)))); have N6 := am (bb (g := g382) (by (with_reducible repeat (first | apply bN | apply bd | apply ba)); exact B382.out) hb); have N7 := am (bb (g := g395) (by (with_reducible repeat (first | apply bN | apply bd | apply ba)); exact B395.out) hb); have N8 := am (bb (g := g403) (by (with_reducible repeat (first | apply bN | apply bd | apply ba)); exact B403.out) hb); have N9 := am (bb (g := g408) (by (with_reducible repeat (first | apply bN | apply bd | apply ba)); exact B408.out) hb); have N10 := am (bp (by repeat (first | (with_reducible first | exact HB.out | apply pa | apply pN | apply p1 | refine bs ?_ E382.out | refine bs ?_ E395.out | refine bs ?_ E403.out | refine bs ?_ E408.out) | exact HB.out)) hb); clear o0 o1 o2 o3 B382 B395 B403 B408 HB; have o0 := N0; have o1 := N1; have o2 := N2; have o3 := N3; have O426 := N4; have O429 := N5; have B382 := N6; have B395 := N7; have B403 := N8; have B408 := N9; have HB := N10; clear N0 N1 N2 N3 N4 N5 N6 N7 N8 N9 N10; (try clear hb); (try clear hb2); (try clear hk); (try clear hi); (try clear ho0); (try clear ho1); obtain ⟨Ao120, co120, eo120⟩ := Kd.R_slice O426.out; subst eo120; obtain ⟨Ao121, co121, eo121⟩ := Kd.S_slice O429.out; subst eo121) | ((with_reducible refine gate_callee (f := 37) rfl ?_); refine goesL_ (some 56) rfl rfl Try.func37 (by kernel_rfl) rfl #[.agg #[I q t423, J Ao120 t424.length co120, J Ao121 t427.length co121]] rfl (by (try simp only [List.map_toArray, List.map_cons, List.map_nil]); first | done | rfl) ?_; (with_reducible refine (impl_PackConfig.calls kj16 t423 _ _ t424 _ _ t427 t430 t431 _ ?side1 ?side2 ?side3 ?side4 A77.out).mono ?_); (case side1 => repeat (first | exact (Kd.R_reads' O426.out).2.2 | (with_reducible refine ca ?_ _) | (with_reducible refine cN ?_ _) | (with_reducible refine cd1 ?_))); (case side2 => exact (Kd.R_reads' O426.out).2.1); (case side3 => repeat (first | exact (Kd.S_reads' O429.out).2.2 | (with_reducible refine ca ?_ _) | (with_reducible refine cN ?_ _) | (with_reducible refine cd1 ?_))); (case side4 => exact (Kd.S_reads' O429.out).2.1); rintro e w122 ⟨v432, rfl, ho0, hb⟩; refine ⟨_, rfl, ?_⟩; have N0 := am (re (by (with_reducible repeat (first | apply ra | apply rN | apply rd1)); exact o0.out) (Kd.R_base ho0) hb); have N1 := am (rb (by (with_reducible repeat (first | apply ra | apply rN | apply rd1)); exact o1.out) hb); have N2 := am (Kd.S_below (by (with_reducible repeat (first | apply sa | apply sN | apply sd)); exact o2.out) hb); have N3 := am (re (by (with_reducible repeat (first | apply ra | apply rN | apply rd1)); exact o3.out) (Kd.R_base ho0) hb); have N4 := am (rb (by (with_reducible repeat (first | apply ra | apply rN | apply rd1)); exact O426.out) hb); have N5 := am (Kd.S_below (by (with_reducible repeat (first | apply sa | apply sN | apply sd)); exact O429.out) hb); have N6 := am (rw1 (rn (rn ho0 (rl (by (with_reducible repeat (first | apply ra | apply rN | apply rd1)); exact o0.out))) (rl (by (with_reducible repeat (first | apply ra | apply rN | apply rd1)); exact o3.out))) (bz (by repeat (first | (with_reducible first | exact HB.out | apply pa | apply pN | apply p1 | refine bs ?_ E382.out | refine bs ?_ E395.out | refine bs ?_ E403.out | refine bs ?_ E408.out) | exact HB.out)))); have N7 := am (bb (g := g382) (by (with_reducible repeat (first | apply bN | apply bd | apply ba)); exact B382.out) hb); have N8 := am (bb (g := g395) (by (with_reducible repeat (first | apply bN | apply bd | apply ba)); exact B395.out) hb); have N9 := am (bb (g := g403) (by (with_reducible repeat (first | apply bN | apply bd | apply ba)); exact B403.out) hb); have N10 := am (bb (g := g408) (by (with_reducible repeat (first | apply bN | apply bd | apply ba)); exact B408.out) hb); have N11 := am (bp (by repeat (first | (with_reducible first | exact HB.out | apply pa | apply pN | apply p1 | refine bs ?_ E382.out | refine bs ?_ E395.out | refine bs ?_ E403.out | refine bs ?_ E408.out) | exact HB.out)) hb); clear o0 o1 o2 o3 O426 O429 B382 B395 B403 B408 HB; have o0 := N0; have o1 := N1; have o2 := N2; have o3 := N3; have O426 := N4; have O429 := N5; have O433 := N6; have B382 := N7; have B395 := N8; have B403 := N9; have B408 := N10; have HB := N11; clear N0 N1 N2 N3 N4 N5 N6 N7 N8 N9 N10 N11; (try clear hb); (try clear hb2); (try clear hk); (try clear hi); (try clear ho0)) | ((with_reducible refine gate_dst (N := 10) rfl ?_); refine box_event ?hg (N := 10) ?hd (cs := #[I q 0, .slice none 0 0]) (t := 71) ?hr ?_; (case hd => rfl); (case hg => rfl); (case hr => first | (go_simp; done) | (go_simp; rfl)); intro g434 hg w123 hbox hb; have N0 := am (rb (by (with_reducible repeat (first | apply ra | apply rN | apply rd1)); exact o0.out) hb); have N1 := am (rb (by (with_reducible repeat (first | apply ra | apply rN | apply rd1)); exact o1.out) hb); have N2 := am (Kd.S_below (by (with_reducible repeat (first | apply sa | apply sN | apply sd)); exact o2.out) hb); have N3 := am (rb (by (with_reducible repeat (first | apply ra | apply rN | apply rd1)); exact o3.out) hb); have N4 := am (rb (by (with_reducible repeat (first | apply ra | apply rN | apply rd1)); exact O426.out) hb); have N5 := am (Kd.S_below (by (with_reducible repeat (first | apply sa | apply sN | apply sd)); exact O429.out) hb); have N6 := am (rb (by (with_reducible repeat (first | apply ra | apply rN | apply rd1)); exact O433.out) hb); have N7 := am (bb (g := g382) (by (with_reducible repeat (first | apply bN | apply bd | apply ba)); exact B382.out) hb); have N8 := am (bb (g := g395) (by (with_reducible repeat (first | apply bN | apply bd | apply ba)); exact B395.out) hb); have N9 := am (bb (g := g403) (by (with_reducible repeat (first | apply bN | apply bd | apply ba)); exact B403.out) hb); have N10 := am (bb (g := g408) (by (with_reducible repeat (first | apply bN | apply bd | apply ba)); exact B408.out) hb); have N11 := am (bp (by repeat (first | (with_reducible first | exact HB.out | apply pa | apply pN | apply p1 | refine bs ?_ E382.out | refine bs ?_ E395.out | refine bs ?_ E403.out | refine bs ?_ E408.out) | exact HB.out)) hb); have N12 := am (hbox); have N13 := am ((by rw [hg]; exact (bz (by repeat (first | (with_reducible first | exact HB.out | apply pa | apply pN | apply p1 | refine bs ?_ E382.out | refine bs ?_ E395.out | refine bs ?_ E403.out | refine bs ?_ E408.out) | exact HB.out))) : w.heap.size ≤ g434)); have N14 := am ((by rw [hg]; exact (bz (by repeat (first | (with_reducible first | exact HB.out | apply pa | apply pN | apply p1 | refine bs ?_ E382.out | refine bs ?_ E395.out | refine bs ?_ E403.out | refine bs ?_ E408.out) | exact HB.out))) : w.heap.size ≤ g434)); have N15 := am ((by rw [hg]; exact Nat.ne_of_lt (bl (g := g382) (by (with_reducible repeat (first | apply bN | apply bd | apply ba)); exact B382.out)) : g382 ≠ g434)); have N16 := am ((by rw [hg]; exact Nat.ne_of_gt (bl (g := g382) (by (with_reducible repeat (first | apply bN | apply bd | apply ba)); exact B382.out)) : g434 ≠ g382)); have N17 := am ((by rw [hg]; exact Nat.ne_of_lt (bl (g := g395) (by (with_reducible repeat (first | apply bN | apply bd | apply ba)); exact B395.out)) : g395 ≠ g434)); have N18 := am ((by rw [hg]; exact Nat.ne_of_gt (bl (g := g395) (by (with_reducible repeat (first | apply bN | apply bd | apply ba)); exact B395.out)) : g434 ≠ g395)); have N19 := am ((by rw [hg]; exact Nat.ne_of_lt (bl (g := g403) (by (with_reducible repeat (first | apply bN | apply bd | apply ba)); exact B403.out)) : g403 ≠ g434)); have N20 := am ((by rw [hg]; exact Nat.ne_of_gt (bl (g := g403) (by (with_reducible repeat (first | apply bN | apply bd | apply ba)); exact B403.out)) : g434 ≠ g403)); have N21 := am ((by rw [hg]; exact Nat.ne_of_lt (bl (g := g408) (by (with_reducible repeat (first | apply bN | apply bd | apply ba)); exact B408.out)) : g408 ≠ g434)); have N22 := am ((by rw [hg]; exact Nat.ne_of_gt (bl (g := g408) (by (with_reducible repeat (first | apply bN | apply bd | apply ba)); exact B408.out)) : g434 ≠ g408)); clear o0 o1 o2 o3 O426 O429 O433 B382 B395 B403 B408 HB; have o0 := N0; have o1 := N1; have o2 := N2; have o3 := N3; have O426 := N4; have O429 := N5; have O433 := N6; have B382 := N7; have B395 := N8; have B403 := N9; have B408 := N10; have HB := N11; have B434 := N12; have GW434 := N13; have E434 := N14; have NB382_434 := N15; have NB434_382 := N16; have NB395_434 := N17; have NB434_395 := N18; have NB403_434 := N19; have NB434_403 := N20; have NB408_434 := N21; have NB434_408 := N22; clear N0 N1 N2 N3 N4 N5 N6 N7 N8 N9 N10 N11 N12 N13 N14 N15 N16 N17 N18 N19 N20 N21 N22 hb hbox hg; have hnb124 := NB434_382.out; have hnc124 := NB382_434.out; have hnb125 := NB434_395.out; have hnc125 := NB395_434.out; have hnb126 := NB434_403.out; have hnc126 := NB403_434.out; have hnb127 := NB434_408.out; have hnc127 := NB408_434.out; have hcz128_0 : w123.cell? ⟨g434, 0, none⟩ = some (I q 0) := (bc B434.out 0).trans rfl; have hcz128_1 : w123.cell? ⟨g434, 1, none⟩ = some (.slice none 0 0) := (bc B434.out 1).trans rfl; have hfz128_0 := bf B434.out 0; have hfz128_1 := bf B434.out 1; obtain ⟨Ao129, co129, eo129⟩ := Kd.R_slice O433.out; subst eo129; have hnb130 := NB395_403.out; have hnc130 := NB403_395.out; have hcz131_0 : w123.cell? ⟨g395, 0, none⟩ = some (I q t391) := (bc B395.out 0).trans rfl; have hcz131_1 : w123.cell? ⟨g395, 1, none⟩ = some (J Ao29 t392.length co29) := (bc B395.out 1).trans rfl; have hfz131_0 := bf B395.out 0; have hfz131_1 := bf B395.out 1) | ((with_reducible refine gate_callee (f := 38) rfl ?_); refine goesL_ (some 59) rfl rfl Try.func38 (by kernel_rfl) rfl #[.agg #[I q t430, J Ao129 t431.length co129], .agg #[I q t391, J Ao29 t392.length co29]] rfl (by (try simp only [List.map_toArray, List.map_cons, List.map_nil]); first | done | rfl) ?_; (with_reducible refine (laws_eqBytesResult.calls kj16 t430 _ _ t431 t391 _ _ t392 true _ ?side1 ?side2 ?side3 ?side4 A78.out).mono ?_); (case side1 => refine (Kd.R_reads' (e := 5) (base := w.heap.size) (ok := fun k_ => ((True ∧ some k_ ≠ (J Ao29 t392.length co29 : Value).ownBlock) ∧ some k_ ≠ (J Ao44 t405.length co44 : Value).ownBlock)) (n := t431.length) (c := co129) ?_).2.2; exact (by (with_reducible repeat (first | apply ra | apply rN | apply rd1)); exact (Kd.R_mono (rf (p := ⟨g434, 1, none⟩) (rf (p := ⟨g434, 0, none⟩) (Kd.R_types O433.out B434.out (by decide)) (fun _ hk => hk.2) (I q t430)) (fun _ hk => hk.2) (J Ao129 t431.length co129)) (fun _ h_ => h_.1)))); (case side2 => exact (Kd.R_reads' O433.out).2.1); (case side3 => refine (Kd.R_reads' (e := 5) (base := w.heap.size) (ok := fun k_ => (some k_ ≠ (J Ao44 t405.length co44 : Value).ownBlock ∧ some k_ ≠ (J Ao129 t431.length co129 : Value).ownBlock)) (n := t392.length) (c := co29) ?_).2.2; exact (by (with_reducible repeat (first | apply ra | apply rN | apply rd1)); exact (Kd.R_mono (rf (p := ⟨g434, 1, none⟩) (rf (p := ⟨g434, 0, none⟩) (Kd.R_types o0.out B434.out (by decide)) (fun _ hk => hk.2) (I q t430)) (fun _ hk => hk.2) (J Ao129 t431.length co129)) (fun _ h_ => h_.1)))); (case side4 => exact (Kd.R_reads' o0.out).2.1); rintro e w132 ⟨rfl, hb⟩; refine ⟨_, rfl, ?_⟩; have N0 := am (rb (by (with_reducible repeat (first | apply ra | apply rN | apply rd1)); exact (Kd.R_mono (rf (p := ⟨g434, 1, none⟩) (rf (p := ⟨g434, 0, none⟩) (Kd.R_types o0.out B434.out (by decide)) (fun _ hk => hk.2) (I q t430)) (fun _ hk => hk.2) (J Ao129 t431.length co129)) (fun _ h_ => h_.1))) hb); have N1 := am (rb (by (with_reducible repeat (first | apply ra | apply rN | apply rd1)); exact (Kd.R_mono (rf (p := ⟨g434, 1, none⟩) (rf (p := ⟨g434, 0, none⟩) (Kd.R_types o1.out B434.out (by decide)) (fun _ hk => hk.2) (I q t430)) (fun _ hk => hk.2) (J Ao129 t431.length co129)) (fun _ h_ => h_.1))) hb); have N2 := am (Kd.S_below (by (with_reducible repeat (first | apply sa | apply sN | apply sd)); exact (sm (sf (p := ⟨g434, 1, none⟩) (sf (p := ⟨g434, 0, none⟩) (st o2.out B434.out (by decide)) (fun _ hk => hk.2) (I q t430)) (fun _ hk => hk.2) (J Ao129 t431.length co129)) (fun _ h_ => h_.1))) hb); have N3 := am (rb (by (with_reducible repeat (first | apply ra | apply rN | apply rd1)); exact (Kd.R_mono (rf (p := ⟨g434, 1, none⟩) (rf (p := ⟨g434, 0, none⟩) (Kd.R_types o3.out B434.out (by decide)) (fun _ hk => hk.2) (I q t430)) (fun _ hk => hk.2) (J Ao129 t431.length co129)) (fun _ h_ => h_.1))) hb); have N4 := am (rb (by (with_reducible repeat (first | apply ra | apply rN | apply rd1)); exact (Kd.R_mono (rf (p := ⟨g434, 1, none⟩) (rf (p := ⟨g434, 0, none⟩) (Kd.R_types O426.out B434.out (by decide)) (fun _ hk => hk.2) (I q t430)) (fun _ hk => hk.2) (J Ao129 t431.length co129)) (fun _ h_ => h_.1))) hb); have N5 := am (Kd.S_below (by (with_reducible repeat (first | apply sa | apply sN | apply sd)); exact (sm (sf (p := ⟨g434, 1, none⟩) (sf (p := ⟨g434, 0, none⟩) (st O429.out B434.out (by decide)) (fun _ hk => hk.2) (I q t430)) (fun _ hk => hk.2) (J Ao129 t431.length co129)) (fun _ h_ => h_.1))) hb); have N6 := am (rb (by (with_reducible repeat (first | apply ra | apply rN | apply rd1)); exact (Kd.R_mono (rf (p := ⟨g434, 1, none⟩) (rf (p := ⟨g434, 0, none⟩) (Kd.R_types O433.out B434.out (by decide)) (fun _ hk => hk.2) (I q t430)) (fun _ hk => hk.2) (J Ao129 t431.length co129)) (fun _ h_ => h_.1))) hb); have N7 := am (bb (g := g382) (o := .cells #[I q aa0, J Aa1 la1.length ca1, J Aa2 la2.length ca2] 25 (0, 0)) (by (iterate 2 ((with_reducible repeat (first | apply bN | apply bd | apply ba)); refine bq ?_ NB382_434.out _)); (with_reducible repeat (first | apply bN | apply bd | apply ba)); exact B382.out) hb); have N8 := am (bb (g := g395) (o := .cells #[I q t391, J Ao29 t392.length co29] 71 (0, 0)) (by (iterate 2 ((with_reducible repeat (first | apply bN | apply bd | apply ba)); refine bq ?_ NB395_434.out _)); (with_reducible repeat (first | apply bN | apply bd | apply ba)); exact B395.out) hb); have N9 := am (bb (g := g403) (o := .cells #[I q t396, J Ao36 t397.length co36, J Ao37 t400.length co37] 31 (0, 0)) (by (iterate 2 ((with_reducible repeat (first | apply bN | apply bd | apply ba)); refine bq ?_ NB403_434.out _)); (with_reducible repeat (first | apply bN | apply bd | apply ba)); exact B403.out) hb); have N10 := am (bb (g := g408) (o := .cells #[I q t404, J Ao44 t405.length co44] 71 (0, 0)) (by (iterate 2 ((with_reducible repeat (first | apply bN | apply bd | apply ba)); refine bq ?_ NB408_434.out _)); (with_reducible repeat (first | apply bN | apply bd | apply ba)); exact B408.out) hb); have N11 := am (bb (g := g434) (o := .cells #[I q t430, J Ao129 t431.length co129] 71 (0, 0)) (by (with_reducible repeat (first | apply bN | apply bd | apply ba)); exact pu2k B434.out) hb); have N12 := am (bp (by repeat (first | (with_reducible first | exact HB.out | apply pa | apply pN | apply p1 | refine bs ?_ E382.out | refine bs ?_ E395.out | refine bs ?_ E403.out | refine bs ?_ E408.out | refine bs ?_ E434.out) | exact HB.out)) hb); clear o0 o1 o2 o3 O426 O429 O433 B382 B395 B403 B408 B434 HB; have o0 := N0; have o1 := N1; have o2 := N2; have o3 := N3; have O426 := N4; have O429 := N5; have O433 := N6; have B382 := N7; have B395 := N8; have B403 := N9; have B408 := N10; have B434 := N11; have HB := N12; clear N0 N1 N2 N3 N4 N5 N6 N7 N8 N9 N10 N11 N12; (try clear hb); (try clear hb2); (try clear hk); (try clear hi); have hcz133_0 : w132.cell? ⟨g408, 0, none⟩ = some (I q t404) := (bc B408.out 0).trans rfl; have hcz133_1 : w132.cell? ⟨g408, 1, none⟩ = some (J Ao44 t405.length co44) := (bc B408.out 1).trans rfl; have hfz133_0 := bf B408.out 0; have hfz133_1 := bf B408.out 1) | ((with_reducible refine gate_callee (f := 40) rfl ?_); refine goesL_ (some 63) rfl rfl Try.func40 (by kernel_rfl) rfl #[.agg #[I q t404, J Ao44 t421.length co44], I q 1] rfl (by (try simp only [List.map_toArray, List.map_cons, List.map_nil]); first | done | (rw [show t421.length = t405.length from (Kd.R_reads' o3.out).1.symm] <;> rfl) | rfl | (simp only [List.length_drop, List.length_take]; rfl)) ?_; (with_reducible refine (laws_heldBytesResult.calls kj16 t404 _ _ t421 1 t436 _ ?side1 ?side2 A80.out).mono ?_); (case side1 => repeat (first | exact (Kd.R_reads' o3.out).2.2 | (with_reducible refine ca ?_ _) | (with_reducible refine cN ?_ _) | (with_reducible refine cd1 ?_))); (case side2 => rw [show t421.length = t405.length from (Kd.R_reads' o3.out).1.symm]; exact (Kd.R_reads' o3.out).2.1); rintro e w134 ⟨rfl, hb⟩; refine ⟨_, rfl, ?_⟩; have N0 := am (rb (by (with_reducible repeat (first | apply ra | apply rN | apply rd1)); exact o0.out) hb); have N1 := am (rb (by (with_reducible repeat (first | apply ra | apply rN | apply rd1)); exact o1.out) hb); have N2 := am (Kd.S_below (by (with_reducible repeat (first | apply sa | apply sN | apply sd)); exact o2.out) hb); have N3 := am (rb (by (with_reducible repeat (first | apply ra | apply rN | apply rd1)); exact o3.out) hb); have N4 := am (rb (by (with_reducible repeat (first | apply ra | apply rN | apply rd1)); exact O426.out) hb); have N5 := am (Kd.S_below (by (with_reducible repeat (first | apply sa | apply sN | apply sd)); exact O429.out) hb); have N6 := am (rb (by (with_reducible repeat (first | apply ra | apply rN | apply rd1)); exact O433.out) hb); have N7 := am (bb (g := g382) (by (with_reducible repeat (first | apply bN | apply bd | apply ba)); exact B382.out) hb); have N8 := am (bb (g := g395) (by (with_reducible repeat (first | apply bN | apply bd | apply ba)); exact B395.out) hb); have N9 := am (bb (g := g403) (by (with_reducible repeat (first | apply bN | apply bd | apply ba)); exact B403.out) hb); have N10 := am (bb (g := g408) (by (with_reducible repeat (first | apply bN | apply bd | apply ba)); exact B408.out) hb); have N11 := am (bb (g := g434) (by (with_reducible repeat (first | apply bN | apply bd | apply ba)); exact B434.out) hb); have N12 := am (bp (by repeat (first | (with_reducible first | exact HB.out | apply pa | apply pN | apply p1 | refine bs ?_ E382.out | refine bs ?_ E395.out | refine bs ?_ E403.out | refine bs ?_ E408.out | refine bs ?_ E434.out) | exact HB.out)) hb); clear o0 o1 o2 o3 O426 O429 O433 B382 B395 B403 B408 B434 HB; have o0 := N0; have o1 := N1; have o2 := N2; have o3 := N3; have O426 := N4; have O429 := N5; have O433 := N6; have B382 := N7; have B395 := N8; have B403 := N9; have B408 := N10; have B434 := N11; have HB := N12; clear N0 N1 N2 N3 N4 N5 N6 N7 N8 N9 N10 N11 N12; (try clear hb); (try clear hb2); (try clear hk); (try clear hi)))
            go_ret
            exact ⟨by first | rfl | (simp [errW_none, errW_some] <;> rfl) | (simp [*, errW_none, errW_some] <;> rfl), by repeat (first | (with_reducible first | exact HB.out | apply pa | apply pN | apply p1 | refine bs ?_ E382.out | refine bs ?_ E395.out | refine bs ?_ E403.out | refine bs ?_ E408.out | refine bs ?_ E434.out) | exact HB.out)⟩
           ·rw [if_neg c108] at H
            have c108b0 : (t436 == t420) = false := beq_eq_false_iff_ne.mpr c108
            have c108b1 : (t436 != t420) = true := bne_iff_ne.mpr c108
            cases H
         ·replace c79 := Bool.eq_false_iff.mpr c79
          subst c79
          have H1 : none = some r := by rw [if_neg (show ¬ (false = true) by decide)] at H; exact H
          clear H
          have H := H1
          clear H1
          cases H
        ·rw [if_neg c75] at H
         have c75b0 : (t422 == t420) = false := beq_eq_false_iff_ne.mpr c75
         have c75b1 : (t422 != t420) = true := bne_iff_ne.mpr c75
         cases H
   ·replace c15 := Bool.eq_false_iff.mpr c15
    subst c15
    have H1 : none = some r := by rw [if_neg (show ¬ (false = true) by decide)] at H; exact H
    clear H
    have H := H1
    clear H1
    cases H
  ·replace c12 := Bool.eq_false_iff.mpr c12
   subst c12
   have H1 : none = some r := by rw [if_neg (show ¬ (false = true) by decide)] at H; exact H
   clear H
   have H := H1
   clear H1
   cases H
end Go.Proofs.Ytfmlhpoaipeoeaa.QFnExactPackConfig
