-- MADE BY PROGRAM (qprint.py): walks of the functions that the law FnHashes reaches. Lean checks it.
import Derived.Test.YtaellhlkjjooiaaQFnHashesx0
import Derived.Test.YtaellhlkjjooiaaQFnHashesx1
import Derived.Test.YtaellhlkjjooiaaQFnHashesx2
import Derived.Test.YtaellhlkjjooiaaQFnHashesx3
import Derived.Test.YtaellhlkjjooiaaQFnHashesx4
import Derived.Test.YtaellhlkjjooiaaQFnHashesx5
namespace Go.Proofs.Ytaellhlkjjooiaa.QFnHashes
open Go.RowKit Go.Proofs.YtaellhlkjjooiaaW.PrintWords Go.Proofs.YtaellhlkjjooiaaW.PrintLast Go.Proofs.YtaellhlkjjooiaaW.PrintMore
open Go.Proofs.YtaellhlkjjooiaaW.PrintWords renaming blk_drewN → bN, blk_drew → bd, blk_alloc → ba, blk_cell → bc, blk_frozen → bf, below_set → bs, pw_below_drewN → pN, below_drew1 → p1, below_alloc → pa, blk_below → bb, below_size → bz, below_step → bp, blk_lt → bl, blk_far → bq
open Go.Proofs.YtaellhlkjjooiaaW.PrintWords.Kd renaming R_drewN → rN, R_drew → rd1, R_alloc → ra, R_far → rf, R_below → rb, R_new' → rn, R_lt → rl, R_elder' → re, R_lower → rw1, C_alloc → ca, C_drewN → cN, C_drew → cd1
open Go.Proofs.YtaellhlkjjooiaaW.PrintWords.Aside0 renaming mk → am
open Go.Value renaming int → I, slice → J
open Go.IntKind renaming i64 → q
attribute [local go_sem] max2_int min2_int max_two min_two max_three min_three max_four min_four   -- for this text's walks alone
set_option linter.unusedVariables false
set_option linter.unusedSimpArgs false

attribute [local go_sem high] eqA37 eqA69
/-! ### laws_FnHashes: function 11 -/
def laws_FnHashes.f (k : Nat) (l0 : List Int) : Option (Bool) := (laws_lwBig.f l0).bind fun t254 => (if t254 = true then (some true) else ((spec_DrawFlowOf.f k l0).bind fun bt255 => ((impl_FlowOf.f k bt255.1 bt255.2.1 bt255.2.2.1 bt255.2.2.2.1 bt255.2.2.2.2.1 bt255.2.2.2.2.2).bind fun bt264 => (if bt264.1 = 0 then ((some (([1, 2] : List Int) : List Int)).bind fun y278 => ((impl_HashFlow.f k bt264.2.1 bt264.2.2.1 bt264.2.2.2.1 bt264.2.2.2.2.1 bt264.2.2.2.2.2).bind fun bt281 => ((impl_FlowOf.f k bt255.1 bt255.2.1 bt255.2.2.1 bt255.2.2.2.1 bt255.2.2.2.2.1 y278).bind fun bt284 => (if (bt284.1 == bt264.1 && ((bt284.2.1 == bt264.2.1 && (bt284.2.2.1 == bt264.2.2.1 && (bt284.2.2.2.1 == bt264.2.2.2.1 && (bt284.2.2.2.2.1 == bt264.2.2.2.2.1 && (bt284.2.2.2.2.2 == bt264.2.2.2.2.2))))))) = true then (if bt281.1 = 0 then (if bt281.2 ≥ 0 then (if bt281.2 < 1000003 then ((impl_FlowOf.f k bt255.1 bt255.2.1 bt255.2.2.1 bt255.2.2.2.1 bt255.2.2.2.2.1 y278).bind fun bt290 => ((impl_HashFlow.f k bt290.2.1 bt290.2.2.1 bt290.2.2.2.1 bt290.2.2.2.2.1 bt290.2.2.2.2.2).bind fun bt296 => (if (bt296.1 == bt281.1 && (bt296.2 == bt281.2)) = true then (some (bt264.2.2.1 == bt255.2.1)) else (some false)))) else (some false)) else (some false)) else (some false)) else (some false))))) else ((spec_FlowOf.f k bt255.1 bt255.2.1 bt255.2.2.1 bt255.2.2.2.1 bt255.2.2.2.2.1 bt255.2.2.2.2.2).bind fun bt271 => (some (bt271.1 == bt264.1)))))))
theorem laws_FnHashes.mono : ∀ a0 k, LeO (laws_FnHashes.f k a0) (laws_FnHashes.f (k + 1) a0) := by
  intro a0 k
  unfold laws_FnHashes.f
  repeat' first
      | (with_reducible exact impl_FlowOf.mono _ _ _ _ _ _ _)
      | (with_reducible exact impl_HashFlow.mono _ _ _ _ _ _)
      | (with_reducible exact spec_DrawFlowOf.mono _ _)
      | (with_reducible exact spec_FlowOf.mono _ _ _ _ _ _ _)
      | (with_reducible exact LeO.refl _)
      | (with_reducible exact LeO.none _)
      | (with_reducible refine LeO.ite ?_ ?_)
      | (with_reducible refine LeO.bind ?_ (fun _ => ?_))
      | exact impl_FlowOf.mono _ _ _ _ _ _ _
      | exact impl_HashFlow.mono _ _ _ _ _ _
      | exact spec_DrawFlowOf.mono _ _
      | exact spec_FlowOf.mono _ _ _ _ _ _ _
      | exact LeO.none _
      | refine LeO.ite ?_ ?_
      | refine LeO.bind ?_ (fun _ => ?_)
def laws_FnHashes.T10 : Bool × List (List Nat × List Nat) := (true, [([], []), ([0], [0]), ([], []), ([1, 2], [1, 2]), ([3, 1], [3]), ([4], [4]), ([5, 4], [4, 5]), ([6, 4], [4, 6]), ([4, 7], [4, 7]), ([8, 4], [8]), ([9], [9]), ([10, 9], [9, 10]), ([11, 9], [9, 11]), ([9, 12], [9, 12]), ([13, 9], [13]), ([14], [14]), ([15, 14], [14, 15]), ([16, 14], [14, 16]), ([14, 17], [14, 17]), ([18, 14], [18]), ([19], [19]), ([20, 19, 19], [19, 20]), ([21, 19], [19, 21]), ([22, 21, 19], [19, 22]), ([19], [19]), ([23, 24, 19], [19, 23, 24]), ([19, 25], [19, 25]), ([26, 23], [26]), ([27], [27]), ([28, 27], [27, 28]), ([29, 27], [27, 29]), ([27], [27]), ([31, 27], [27, 31]), ([30, 32, 27], [27, 30, 32]), ([27, 33], [27, 33]), ([34, 27, 0, 1, 2, 3, 4, 5, 6, 7, 8, 9, 10, 11, 12, 13, 14, 15, 16, 17, 18, 19, 20, 21, 22, 23, 24, 25, 26, 27, 28, 29, 30, 31, 32, 33, 34], [34])])
def laws_FnHashes.B10 : List Nat := [0, 1, 0, 7, 15, 31, 63, 127, 255, 511, 1023, 2047, 4095, 8191, 16383, 32767, 65535, 131071, 262143, 524287, 1048575, 2097151, 4194303, 8388607, 1048575, 33554431, 67108863, 134217727, 268435455, 536870911, 1073741823, 268435455, 2415919103, 8589934591, 17179869183, 34359738367]
theorem laws_FnHashes.tab10 : rtab .any (opsOf Try.f11 10) = laws_FnHashes.T10 := by kernel_rfl
theorem laws_FnHashes.bits10 : waitsOk laws_FnHashes.T10.2 laws_FnHashes.B10 = true := by kernel_rfl
set_option maxHeartbeats 8000000 in
set_option maxRecDepth 100000 in
theorem laws_FnHashes.part (k : Nat) (A0 : Option Addr) (c0 : Nat) (l0 : List Int) (r : Bool) (w : World) (HR0 : Aside0 ((Kd.int .u8).C w A0 l0.length l0)) (HC0 : Aside0 (l0.length ≤ c0)) (A2 : Aside0 (laws_lwBig.f l0 = some false)) (t255 t256 t257 t258 t259 : Int) (t260 : List Int) (A4 : Aside0 (spec_DrawFlowOf.f k l0 = some (t255, t256, t257, t258, t259, t260))) (t264 t265 t266 t267 t268 t269 : Int) (A5 : Aside0 (impl_FlowOf.f k t255 t256 t257 t258 t259 t260 = some (t264, t265, t266, t267, t268, t269))) (c6b0 : (t264 == 0) = true) (c6b1 : (t264 != 0) = false) (y278 : List Int) (Ny278 : Aside0 (y278 = [1, 2])) (t281 t282 : Int) (A7 : Aside0 (impl_HashFlow.f k t265 t266 t267 t268 t269 = some (t281, t282))) (t284 t285 t286 t287 t288 t289 : Int) (H : (if t282 < 1000003 then ((impl_FlowOf.f k t255 t256 t257 t258 t259 y278).bind fun bt290 => ((impl_HashFlow.f k bt290.2.1 bt290.2.2.1 bt290.2.2.2.1 bt290.2.2.2.2.1 bt290.2.2.2.2.2).bind fun bt296 => (if (bt296.1 == t281 && (bt296.2 == t282)) = true then (some (t266 == t256)) else (some false)))) else (some false)) = some r) (A8 : Aside0 (impl_FlowOf.f k t255 t256 t257 t258 t259 y278 = some (t284, t285, t286, t287, t288, t289))) (c9b0 : (t284 == t264 && ((t285 == t265 && (t286 == t266 && (t287 == t267 && (t288 == t268 && (t289 == t269))))))) = true) (c10b0 : (t281 == 0) = true) (c10b1 : (t281 != 0) = false) (c11b0 : decide (0 ≤ t282) = true) :
    Calls Try.prog 11 #[J A0 l0.length c0] w fun e w' => e = .returned (.bool r) ∧ Below w.heap.size w w' := by
  have hu27 := Try.underlying27
  have hu69 := Try.underlying69
  have hu53 := Try.underlying53
  have hu37 := Try.underlying37
  have HB := am (Below.refl w.heap.size w)
  (try (have c9b1 : decide (t284 = t264 && ((t285 == t265 && (t286 == t266 && (t287 == t267 && (t288 == t268 && (t289 == t269))))))) = true := by simpa using c9b0))
  (try (have c9b2 : (t284 == t264 && ((t285 == t265 && (t286 == t266 && (t287 == t267 && (t288 == t268 && (t289 == t269))))))) = true := by simpa using c9b0))
  by_cases c12 : t282 < 1000003
  · rw [if_pos c12] at H
    have c12b0 : decide (t282 < 1000003) = true := decide_eq_true c12
    clear c12
    replace H := Option.bind_eq_some_iff.mp H
    obtain ⟨⟨t290, t291, t292, t293, t294, t295⟩, A130, H⟩ := H
    replace H : ((impl_HashFlow.f k t291 t292 t293 t294 t295).bind fun bt296 => (if (bt296.1 == t281 && (bt296.2 == t282)) = true then (some (t266 == t256)) else (some false))) = some r := H
    have A13 := am A130
    clear A130
    replace H := Option.bind_eq_some_iff.mp H
    obtain ⟨⟨t296, t297⟩, A140, H⟩ := H
    replace H : (if (t296 == t281 && (t297 == t282)) = true then (some (t266 == t256)) else (some false)) = some r := H
    have A14 := am A140
    clear A140
    by_cases c15 : (t296 == t281 && (t297 == t282)) = true
    · rw [if_pos c15] at H
      have c15b0 : (t296 == t281 && (t297 == t282)) = true := c15
      (try (have c15b1 : decide (t296 = t281 && (t297 == t282)) = true := by simpa using c15))
      (try (have c15b2 : (t296 == t281 && (t297 == t282)) = true := by simpa using c15))
      clear c15
      obtain rfl := Option.some.inj H
      go_enter Try.func11, Try.ntmps11
      try go_wp2_with (first | ((with_reducible refine gate_callee (f := 20) rfl ?_); refine goesL_ (some 8) rfl rfl Try.func20 (by kernel_rfl) rfl #[J A0 l0.length c0] rfl (by (try simp only [List.map_toArray, List.map_cons, List.map_nil]); first | done | rfl) ?_; (with_reducible refine (laws_lwBig.calls _ _ l0 false _ ?side1 ?side2 A2.out).mono ?_); (case side1 => repeat (first | exact HR0.out | (with_reducible refine ca ?_ _) | (with_reducible refine cN ?_ _) | (with_reducible refine cd1 ?_))); (case side2 => exact HC0.out); rintro e w' ⟨rfl, ⟨nd, rfl⟩⟩; refine ⟨_, rfl, ?_⟩) | ((with_reducible refine gate_callee (f := 46) rfl ?_); refine goesL_ (some 10) rfl rfl Try.func46 (by kernel_rfl) rfl #[J A0 l0.length c0] rfl (by (try simp only [List.map_toArray, List.map_cons, List.map_nil]); first | done | rfl) ?_; (with_reducible refine (spec_DrawFlowOf.calls k _ _ l0 t255 t256 t257 t258 t259 t260 _ ?side1 ?side2 A4.out).mono ?_); (case side1 => repeat (first | exact HR0.out | (with_reducible refine ca ?_ _) | (with_reducible refine cN ?_ _) | (with_reducible refine cd1 ?_))); (case side2 => exact HC0.out); rintro e w16 ⟨v261, rfl, ho0, hb⟩; refine ⟨_, rfl, ?_⟩; have N0 := am (rw1 ho0 (bz (by repeat (first | (with_reducible first | exact HB.out | apply pa | apply pN | apply p1) | exact HB.out)))); have N1 := am (bp (by repeat (first | (with_reducible first | exact HB.out | apply pa | apply pN | apply p1) | exact HB.out)) hb); clear HB; have O262 := N0; have HB := N1; clear N0 N1; (try clear hb); (try clear hb2); (try clear hk); (try clear hi); (try clear ho0)) | ((with_reducible refine gate_dst (N := 3) rfl ?_); refine box_event ?hg (N := 3) ?hd (cs := #[I q 0, I q 0, I q 0, I q 0, I q 0, .slice none 0 0]) (t := 27) ?hr ?_; (case hd => rfl); (case hg => rfl); (case hr => first | (go_simp; done) | (go_simp; rfl)); intro g263 hg w17 hbox hb; have N0 := am (rb (by (with_reducible repeat (first | apply ra | apply rN | apply rd1)); exact O262.out) hb); have N1 := am (bp (by repeat (first | (with_reducible first | exact HB.out | apply pa | apply pN | apply p1) | exact HB.out)) hb); have N2 := am (hbox); have N3 := am ((by rw [hg]; exact (bz (by repeat (first | (with_reducible first | exact HB.out | apply pa | apply pN | apply p1) | exact HB.out))) : w.heap.size ≤ g263)); have N4 := am ((by rw [hg]; exact (bz (by repeat (first | (with_reducible first | exact HB.out | apply pa | apply pN | apply p1) | exact HB.out))) : w.heap.size ≤ g263)); clear O262 HB; have O262 := N0; have HB := N1; have B263 := N2; have GW263 := N3; have E263 := N4; clear N0 N1 N2 N3 N4 hb hbox hg; have hcz18_0 : w17.cell? ⟨g263, 0, none⟩ = some (I q 0) := (bc B263.out 0).trans rfl; have hcz18_1 : w17.cell? ⟨g263, 1, none⟩ = some (I q 0) := (bc B263.out 1).trans rfl; have hcz18_2 : w17.cell? ⟨g263, 2, none⟩ = some (I q 0) := (bc B263.out 2).trans rfl; have hcz18_3 : w17.cell? ⟨g263, 3, none⟩ = some (I q 0) := (bc B263.out 3).trans rfl; have hcz18_4 : w17.cell? ⟨g263, 4, none⟩ = some (I q 0) := (bc B263.out 4).trans rfl; have hcz18_5 : w17.cell? ⟨g263, 5, none⟩ = some (.slice none 0 0) := (bc B263.out 5).trans rfl; have hfz18_0 := bf B263.out 0; have hfz18_1 := bf B263.out 1; have hfz18_2 := bf B263.out 2; have hfz18_3 := bf B263.out 3; have hfz18_4 := bf B263.out 4; have hfz18_5 := bf B263.out 5; obtain ⟨Ao19, co19, eo19⟩ := Kd.R_slice O262.out; subst eo19) | ((with_reducible refine gate_callee (f := 47) rfl ?_); refine goesL_ (some 12) rfl rfl Try.func47 (by kernel_rfl) rfl #[.agg #[I q t255, I q t256, I q t257, I q t258, I q t259, J Ao19 t260.length co19]] rfl (by (try simp only [List.map_toArray, List.map_cons, List.map_nil]); first | done | rfl) ?_; (with_reducible refine (impl_FlowOf.calls k t255 t256 t257 t258 t259 _ _ t260 t264 t265 t266 t267 t268 t269 _ ?side1 ?side2 A5.out).mono ?_); (case side1 => refine (Kd.R_reads' (e := 5) (base := w.heap.size) (ok := fun k_ => True) (n := t260.length) (c := co19) ?_).2.2; exact (by (with_reducible repeat (first | apply ra | apply rN | apply rd1)); exact (Kd.R_mono (rf (p := ⟨g263, 5, none⟩) (rf (p := ⟨g263, 4, none⟩) (rf (p := ⟨g263, 3, none⟩) (rf (p := ⟨g263, 2, none⟩) (rf (p := ⟨g263, 1, none⟩) (rf (p := ⟨g263, 0, none⟩) (Kd.R_types O262.out B263.out (by decide)) (fun _ hk => hk.2) (I q t255)) (fun _ hk => hk.2) (I q t256)) (fun _ hk => hk.2) (I q t257)) (fun _ hk => hk.2) (I q t258)) (fun _ hk => hk.2) (I q t259)) (fun _ hk => hk.2) (J Ao19 t260.length co19)) (fun _ h_ => h_.1)))); (case side2 => exact (Kd.R_reads' O262.out).2.1); rintro e w20 ⟨rfl, hb⟩; refine ⟨_, rfl, ?_⟩; have N0 := am (rb (by (with_reducible repeat (first | apply ra | apply rN | apply rd1)); exact (Kd.R_mono (rf (p := ⟨g263, 5, none⟩) (rf (p := ⟨g263, 4, none⟩) (rf (p := ⟨g263, 3, none⟩) (rf (p := ⟨g263, 2, none⟩) (rf (p := ⟨g263, 1, none⟩) (rf (p := ⟨g263, 0, none⟩) (Kd.R_types O262.out B263.out (by decide)) (fun _ hk => hk.2) (I q t255)) (fun _ hk => hk.2) (I q t256)) (fun _ hk => hk.2) (I q t257)) (fun _ hk => hk.2) (I q t258)) (fun _ hk => hk.2) (I q t259)) (fun _ hk => hk.2) (J Ao19 t260.length co19)) (fun _ h_ => h_.1))) hb); have N1 := am (bb (g := g263) (o := .cells #[I q t255, I q t256, I q t257, I q t258, I q t259, J Ao19 t260.length co19] 27 (0, 0)) (by (with_reducible repeat (first | apply bN | apply bd | apply ba)); refine blk_put (cs := #[I q t255, I q t256, I q t257, I q t258, I q t259, .slice none 0 0]) ?_ 5 _ rfl; (with_reducible repeat (first | apply bN | apply bd | apply ba)); refine blk_put (cs := #[I q t255, I q t256, I q t257, I q t258, I q 0, .slice none 0 0]) ?_ 4 _ rfl; (with_reducible repeat (first | apply bN | apply bd | apply ba)); refine blk_put (cs := #[I q t255, I q t256, I q t257, I q 0, I q 0, .slice none 0 0]) ?_ 3 _ rfl; (with_reducible repeat (first | apply bN | apply bd | apply ba)); refine blk_put (cs := #[I q t255, I q t256, I q 0, I q 0, I q 0, .slice none 0 0]) ?_ 2 _ rfl; (with_reducible repeat (first | apply bN | apply bd | apply ba)); refine blk_put (cs := #[I q t255, I q 0, I q 0, I q 0, I q 0, .slice none 0 0]) ?_ 1 _ rfl; (with_reducible repeat (first | apply bN | apply bd | apply ba)); refine blk_put (cs := #[I q 0, I q 0, I q 0, I q 0, I q 0, .slice none 0 0]) ?_ 0 _ rfl; (with_reducible repeat (first | apply bN | apply bd | apply ba)); exact B263.out) hb); have N2 := am (bp (by repeat (first | (with_reducible first | exact HB.out | apply pa | apply pN | apply p1 | refine bs ?_ E263.out) | exact HB.out)) hb); clear O262 B263 HB; have O262 := N0; have B263 := N1; have HB := N2; clear N0 N1 N2; (try clear hb); (try clear hb2); (try clear hk); (try clear hi)) | ((with_reducible refine gate_dst (N := 4) rfl ?_); refine box_event ?hg (N := 4) ?hd (cs := #[I q 0, I q 0, I q 0, I q 0, I q 0, I q 0]) (t := 69) ?hr ?_; (case hd => rfl); (case hg => rfl); (case hr => first | (go_simp; done) | (go_simp; rfl)); intro g270 hg w21 hbox hb; have N0 := am (rb (by (with_reducible repeat (first | apply ra | apply rN | apply rd1)); exact O262.out) hb); have N1 := am (bb (g := g263) (by (with_reducible repeat (first | apply bN | apply bd | apply ba)); exact B263.out) hb); have N2 := am (bp (by repeat (first | (with_reducible first | exact HB.out | apply pa | apply pN | apply p1 | refine bs ?_ E263.out) | exact HB.out)) hb); have N3 := am (hbox); have N4 := am ((by rw [hg]; exact (bz (by repeat (first | (with_reducible first | exact HB.out | apply pa | apply pN | apply p1 | refine bs ?_ E263.out) | exact HB.out))) : w.heap.size ≤ g270)); have N5 := am ((by rw [hg]; exact (bz (by repeat (first | (with_reducible first | exact HB.out | apply pa | apply pN | apply p1 | refine bs ?_ E263.out) | exact HB.out))) : w.heap.size ≤ g270)); have N6 := am ((by rw [hg]; exact Nat.ne_of_lt (bl (g := g263) (by (with_reducible repeat (first | apply bN | apply bd | apply ba)); exact B263.out)) : g263 ≠ g270)); have N7 := am ((by rw [hg]; exact Nat.ne_of_gt (bl (g := g263) (by (with_reducible repeat (first | apply bN | apply bd | apply ba)); exact B263.out)) : g270 ≠ g263)); clear O262 B263 HB; have O262 := N0; have B263 := N1; have HB := N2; have B270 := N3; have GW270 := N4; have E270 := N5; have NB263_270 := N6; have NB270_263 := N7; clear N0 N1 N2 N3 N4 N5 N6 N7 hb hbox hg; have hnb22 := NB270_263.out; have hnc22 := NB263_270.out; have hcz23_0 : w21.cell? ⟨g270, 0, none⟩ = some (I q 0) := (bc B270.out 0).trans rfl; have hcz23_1 : w21.cell? ⟨g270, 1, none⟩ = some (I q 0) := (bc B270.out 1).trans rfl; have hcz23_2 : w21.cell? ⟨g270, 2, none⟩ = some (I q 0) := (bc B270.out 2).trans rfl; have hcz23_3 : w21.cell? ⟨g270, 3, none⟩ = some (I q 0) := (bc B270.out 3).trans rfl; have hcz23_4 : w21.cell? ⟨g270, 4, none⟩ = some (I q 0) := (bc B270.out 4).trans rfl; have hcz23_5 : w21.cell? ⟨g270, 5, none⟩ = some (I q 0) := (bc B270.out 5).trans rfl; have hfz23_0 := bf B270.out 0; have hfz23_1 := bf B270.out 1; have hfz23_2 := bf B270.out 2; have hfz23_3 := bf B270.out 3; have hfz23_4 := bf B270.out 4; have hfz23_5 := bf B270.out 5; have hcz24_0 : w21.cell? ⟨g263, 0, none⟩ = some (I q t255) := (bc B263.out 0).trans rfl; have hcz24_1 : w21.cell? ⟨g263, 1, none⟩ = some (I q t256) := (bc B263.out 1).trans rfl; have hcz24_2 : w21.cell? ⟨g263, 2, none⟩ = some (I q t257) := (bc B263.out 2).trans rfl; have hcz24_3 : w21.cell? ⟨g263, 3, none⟩ = some (I q t258) := (bc B263.out 3).trans rfl; have hcz24_4 : w21.cell? ⟨g263, 4, none⟩ = some (I q t259) := (bc B263.out 4).trans rfl; have hcz24_5 : w21.cell? ⟨g263, 5, none⟩ = some (J Ao19 t260.length co19) := (bc B263.out 5).trans rfl; have hfz24_0 := bf B263.out 0; have hfz24_1 := bf B263.out 1; have hfz24_2 := bf B263.out 2; have hfz24_3 := bf B263.out 3; have hfz24_4 := bf B263.out 4; have hfz24_5 := bf B263.out 5) | ((with_reducible refine gate_dst (N := 5) rfl ?_); refine box_event ?hg (N := 5) ?hd (cs := #[I q 0, I q 0, I q 0, I q 0, I q 0, .slice none 0 0]) (t := 27) ?hr ?_; (case hd => rfl); (case hg => rfl); (case hr => first | (go_simp; done) | (go_simp; rfl)); intro g277 hg w25 hbox hb; have N0 := am (rb (by (with_reducible repeat (first | apply ra | apply rN | apply rd1)); exact (Kd.R_mono (rf (p := ⟨g270, 5, none⟩) (rf (p := ⟨g270, 4, none⟩) (rf (p := ⟨g270, 3, none⟩) (rf (p := ⟨g270, 2, none⟩) (rf (p := ⟨g270, 1, none⟩) (rf (p := ⟨g270, 0, none⟩) (Kd.R_types O262.out B270.out (by decide)) (fun _ hk => hk.2) (I q t264)) (fun _ hk => hk.2) (I q t265)) (fun _ hk => hk.2) (I q t266)) (fun _ hk => hk.2) (I q t267)) (fun _ hk => hk.2) (I q t268)) (fun _ hk => hk.2) (I q t269)) (fun _ h_ => h_.1))) hb); have N1 := am (bb (g := g263) (o := .cells #[I q t255, I q t256, I q t257, I q t258, I q t259, J Ao19 t260.length co19] 27 (0, 0)) (by (with_reducible repeat (first | apply bN | apply bd | apply ba)); refine bq ?_ NB263_270.out _; (with_reducible repeat (first | apply bN | apply bd | apply ba)); refine bq ?_ NB263_270.out _; (with_reducible repeat (first | apply bN | apply bd | apply ba)); refine bq ?_ NB263_270.out _; (with_reducible repeat (first | apply bN | apply bd | apply ba)); refine bq ?_ NB263_270.out _; (with_reducible repeat (first | apply bN | apply bd | apply ba)); refine bq ?_ NB263_270.out _; (with_reducible repeat (first | apply bN | apply bd | apply ba)); refine bq ?_ NB263_270.out _; (with_reducible repeat (first | apply bN | apply bd | apply ba)); exact B263.out) hb); have N2 := am (bb (g := g270) (o := .cells #[I q t264, I q t265, I q t266, I q t267, I q t268, I q t269] 69 (0, 0)) (by (with_reducible repeat (first | apply bN | apply bd | apply ba)); refine blk_put (cs := #[I q t264, I q t265, I q t266, I q t267, I q t268, I q 0]) ?_ 5 _ rfl; (with_reducible repeat (first | apply bN | apply bd | apply ba)); refine blk_put (cs := #[I q t264, I q t265, I q t266, I q t267, I q 0, I q 0]) ?_ 4 _ rfl; (with_reducible repeat (first | apply bN | apply bd | apply ba)); refine blk_put (cs := #[I q t264, I q t265, I q t266, I q 0, I q 0, I q 0]) ?_ 3 _ rfl; (with_reducible repeat (first | apply bN | apply bd | apply ba)); refine blk_put (cs := #[I q t264, I q t265, I q 0, I q 0, I q 0, I q 0]) ?_ 2 _ rfl; (with_reducible repeat (first | apply bN | apply bd | apply ba)); refine blk_put (cs := #[I q t264, I q 0, I q 0, I q 0, I q 0, I q 0]) ?_ 1 _ rfl; (with_reducible repeat (first | apply bN | apply bd | apply ba)); refine blk_put (cs := #[I q 0, I q 0, I q 0, I q 0, I q 0, I q 0]) ?_ 0 _ rfl; (with_reducible repeat (first | apply bN | apply bd | apply ba)); exact B270.out) hb); have N3 := am (bp (by repeat (first | (with_reducible first | exact HB.out | apply pa | apply pN | apply p1 | refine bs ?_ E263.out | refine bs ?_ E270.out) | exact HB.out)) hb); have N4 := am (hbox); have N5 := am ((by rw [hg]; exact (bz (by repeat (first | (with_reducible first | exact HB.out | apply pa | apply pN | apply p1 | refine bs ?_ E263.out | refine bs ?_ E270.out) | exact HB.out))) : w.heap.size ≤ g277)); have N6 := am ((by rw [hg]; exact (bz (by repeat (first | (with_reducible first | exact HB.out | apply pa | apply pN | apply p1 | refine bs ?_ E263.out | refine bs ?_ E270.out) | exact HB.out))) : w.heap.size ≤ g277)); have N7 := am ((by rw [hg]; exact Nat.ne_of_lt (bl (g := g263) (o := .cells #[I q t255, I q t256, I q t257, I q t258, I q t259, J Ao19 t260.length co19] 27 (0, 0)) (by (with_reducible repeat (first | apply bN | apply bd | apply ba)); refine bq ?_ NB263_270.out _; (with_reducible repeat (first | apply bN | apply bd | apply ba)); refine bq ?_ NB263_270.out _; (with_reducible repeat (first | apply bN | apply bd | apply ba)); refine bq ?_ NB263_270.out _; (with_reducible repeat (first | apply bN | apply bd | apply ba)); refine bq ?_ NB263_270.out _; (with_reducible repeat (first | apply bN | apply bd | apply ba)); refine bq ?_ NB263_270.out _; (with_reducible repeat (first | apply bN | apply bd | apply ba)); refine bq ?_ NB263_270.out _; (with_reducible repeat (first | apply bN | apply bd | apply ba)); exact B263.out)) : g263 ≠ g277)); have N8 := am ((by rw [hg]; exact Nat.ne_of_gt (bl (g := g263) (o := .cells #[I q t255, I q t256, I q t257, I q t258, I q t259, J Ao19 t260.length co19] 27 (0, 0)) (by (with_reducible repeat (first | apply bN | apply bd | apply ba)); refine bq ?_ NB263_270.out _; (with_reducible repeat (first | apply bN | apply bd | apply ba)); refine bq ?_ NB263_270.out _; (with_reducible repeat (first | apply bN | apply bd | apply ba)); refine bq ?_ NB263_270.out _; (with_reducible repeat (first | apply bN | apply bd | apply ba)); refine bq ?_ NB263_270.out _; (with_reducible repeat (first | apply bN | apply bd | apply ba)); refine bq ?_ NB263_270.out _; (with_reducible repeat (first | apply bN | apply bd | apply ba)); refine bq ?_ NB263_270.out _; (with_reducible repeat (first | apply bN | apply bd | apply ba)); exact B263.out)) : g277 ≠ g263)); have N9 := am ((by rw [hg]; exact Nat.ne_of_lt (bl (g := g270) (o := .cells #[I q t264, I q t265, I q t266, I q t267, I q t268, I q t269] 69 (0, 0)) (by (with_reducible repeat (first | apply bN | apply bd | apply ba)); refine blk_put (cs := #[I q t264, I q t265, I q t266, I q t267, I q t268, I q 0]) ?_ 5 _ rfl; (with_reducible repeat (first | apply bN | apply bd | apply ba)); refine blk_put (cs := #[I q t264, I q t265, I q t266, I q t267, I q 0, I q 0]) ?_ 4 _ rfl; (with_reducible repeat (first | apply bN | apply bd | apply ba)); refine blk_put (cs := #[I q t264, I q t265, I q t266, I q 0, I q 0, I q 0]) ?_ 3 _ rfl; (with_reducible repeat (first | apply bN | apply bd | apply ba)); refine blk_put (cs := #[I q t264, I q t265, I q 0, I q 0, I q 0, I q 0]) ?_ 2 _ rfl; (with_reducible repeat (first | apply bN | apply bd | apply ba)); refine blk_put (cs := #[I q t264, I q 0, I q 0, I q 0, I q 0, I q 0]) ?_ 1 _ rfl; (with_reducible repeat (first | apply bN | apply bd | apply ba)); refine blk_put (cs := #[I q 0, I q 0, I q 0, I q 0, I q 0, I q 0]) ?_ 0 _ rfl; (with_reducible repeat (first | apply bN | apply bd | apply ba)); exact B270.out)) : g270 ≠ g277)); have N10 := am ((by rw [hg]; exact Nat.ne_of_gt (bl (g := g270) (o := .cells #[I q t264, I q t265, I q t266, I q t267, I q t268, I q t269] 69 (0, 0)) (by (with_reducible repeat (first | apply bN | apply bd | apply ba)); refine blk_put (cs := #[I q t264, I q t265, I q t266, I q t267, I q t268, I q 0]) ?_ 5 _ rfl; (with_reducible repeat (first | apply bN | apply bd | apply ba)); refine blk_put (cs := #[I q t264, I q t265, I q t266, I q t267, I q 0, I q 0]) ?_ 4 _ rfl; (with_reducible repeat (first | apply bN | apply bd | apply ba)); refine blk_put (cs := #[I q t264, I q t265, I q t266, I q 0, I q 0, I q 0]) ?_ 3 _ rfl; (with_reducible repeat (first | apply bN | apply bd | apply ba)); refine blk_put (cs := #[I q t264, I q t265, I q 0, I q 0, I q 0, I q 0]) ?_ 2 _ rfl; (with_reducible repeat (first | apply bN | apply bd | apply ba)); refine blk_put (cs := #[I q t264, I q 0, I q 0, I q 0, I q 0, I q 0]) ?_ 1 _ rfl; (with_reducible repeat (first | apply bN | apply bd | apply ba)); refine blk_put (cs := #[I q 0, I q 0, I q 0, I q 0, I q 0, I q 0]) ?_ 0 _ rfl; (with_reducible repeat (first | apply bN | apply bd | apply ba)); exact B270.out)) : g277 ≠ g270)); clear O262 B263 B270 HB; have O262 := N0; have B263 := N1; have B270 := N2; have HB := N3; have B277 := N4; have GW277 := N5; have E277 := N6; have NB263_277 := N7; have NB277_263 := N8; have NB270_277 := N9; have NB277_270 := N10; clear N0 N1 N2 N3 N4 N5 N6 N7 N8 N9 N10 hb hbox hg; have hnb26 := NB277_263.out; have hnc26 := NB263_277.out; have hnb27 := NB277_270.out; have hnc27 := NB270_277.out; have hcz28_0 : w25.cell? ⟨g277, 0, none⟩ = some (I q 0) := (bc B277.out 0).trans rfl; have hcz28_1 : w25.cell? ⟨g277, 1, none⟩ = some (I q 0) := (bc B277.out 1).trans rfl; have hcz28_2 : w25.cell? ⟨g277, 2, none⟩ = some (I q 0) := (bc B277.out 2).trans rfl; have hcz28_3 : w25.cell? ⟨g277, 3, none⟩ = some (I q 0) := (bc B277.out 3).trans rfl; have hcz28_4 : w25.cell? ⟨g277, 4, none⟩ = some (I q 0) := (bc B277.out 4).trans rfl; have hcz28_5 : w25.cell? ⟨g277, 5, none⟩ = some (.slice none 0 0) := (bc B277.out 5).trans rfl; have hfz28_0 := bf B277.out 0; have hfz28_1 := bf B277.out 1; have hfz28_2 := bf B277.out 2; have hfz28_3 := bf B277.out 3; have hfz28_4 := bf B277.out 4; have hfz28_5 := bf B277.out 5) | ((with_reducible refine gate_dst (N := 23) rfl ?_); refine Kd.R_lit (Kd.int .u8) _ 5 ?hg (N := 23) ?hd (xs := ([1, 2] : List Int)) (inner := [.int .u8 1, .int .u8 2]) (ok := fun _ => True) (okp := fun _ => True) ?hr ?hp (fun _ hk => hk) trivial (Below.refl _ _) (Nat.le_refl _) (by simp) ?_; (case hd => rfl); (case hg => rfl); (case hr => first | (go_simp; done) | (go_simp; rfl)); (case hp => exact (Reps.one (show Kd.M (Kd.int .u8) _ _ _ 1 [.int .u8 1] from rfl) (Reps.one (show Kd.M (Kd.int .u8) _ _ _ 2 [.int .u8 2] from rfl) (Reps.none _ _)))); intro v279 w29 ho30 hb hg_ hnew_; clear hg_ hnew_; (first | rw [← Ny278.out] at ho30 | (simp only [Int.reduceToNat] at ho30; rw [← Ny278.out] at ho30)); have N0 := am (re (by (with_reducible repeat (first | apply ra | apply rN | apply rd1)); exact (Kd.R_mono (rf (p := ⟨g277, 5, none⟩) (rf (p := ⟨g277, 4, none⟩) (rf (p := ⟨g277, 3, none⟩) (rf (p := ⟨g277, 2, none⟩) (rf (p := ⟨g277, 1, none⟩) (rf (p := ⟨g277, 0, none⟩) (Kd.R_types O262.out B277.out (by decide)) (fun _ hk => hk.2) (I q t255)) (fun _ hk => hk.2) (I q t256)) (fun _ hk => hk.2) (I q t257)) (fun _ hk => hk.2) (I q t258)) (fun _ hk => hk.2) (I q t259)) (fun _ hk => hk.2) (J Ao19 t260.length co19)) (fun _ h_ => h_.1))) (Kd.R_base ho30) hb); have N1 := am (rw1 (rn ho30 (rl (by (with_reducible repeat (first | apply ra | apply rN | apply rd1)); exact (Kd.R_mono (rf (p := ⟨g277, 5, none⟩) (rf (p := ⟨g277, 4, none⟩) (rf (p := ⟨g277, 3, none⟩) (rf (p := ⟨g277, 2, none⟩) (rf (p := ⟨g277, 1, none⟩) (rf (p := ⟨g277, 0, none⟩) (Kd.R_types O262.out B277.out (by decide)) (fun _ hk => hk.2) (I q t255)) (fun _ hk => hk.2) (I q t256)) (fun _ hk => hk.2) (I q t257)) (fun _ hk => hk.2) (I q t258)) (fun _ hk => hk.2) (I q t259)) (fun _ hk => hk.2) (J Ao19 t260.length co19)) (fun _ h_ => h_.1))))) (bz (by repeat (first | (with_reducible first | exact HB.out | apply pa | apply pN | apply p1 | refine bs ?_ E263.out | refine bs ?_ E270.out | refine bs ?_ E277.out) | exact HB.out)))); have N2 := am (bb (g := g263) (o := .cells #[I q t255, I q t256, I q t257, I q t258, I q t259, J Ao19 t260.length co19] 27 (0, 0)) (by (with_reducible repeat (first | apply bN | apply bd | apply ba)); refine bq ?_ NB263_277.out _; (with_reducible repeat (first | apply bN | apply bd | apply ba)); refine bq ?_ NB263_277.out _; (with_reducible repeat (first | apply bN | apply bd | apply ba)); refine bq ?_ NB263_277.out _; (with_reducible repeat (first | apply bN | apply bd | apply ba)); refine bq ?_ NB263_277.out _; (with_reducible repeat (first | apply bN | apply bd | apply ba)); refine bq ?_ NB263_277.out _; (with_reducible repeat (first | apply bN | apply bd | apply ba)); refine bq ?_ NB263_277.out _; (with_reducible repeat (first | apply bN | apply bd | apply ba)); exact B263.out) hb); have N3 := am (bb (g := g270) (o := .cells #[I q t264, I q t265, I q t266, I q t267, I q t268, I q t269] 69 (0, 0)) (by (with_reducible repeat (first | apply bN | apply bd | apply ba)); refine bq ?_ NB270_277.out _; (with_reducible repeat (first | apply bN | apply bd | apply ba)); refine bq ?_ NB270_277.out _; (with_reducible repeat (first | apply bN | apply bd | apply ba)); refine bq ?_ NB270_277.out _; (with_reducible repeat (first | apply bN | apply bd | apply ba)); refine bq ?_ NB270_277.out _; (with_reducible repeat (first | apply bN | apply bd | apply ba)); refine bq ?_ NB270_277.out _; (with_reducible repeat (first | apply bN | apply bd | apply ba)); refine bq ?_ NB270_277.out _; (with_reducible repeat (first | apply bN | apply bd | apply ba)); exact B270.out) hb); have N4 := am (bb (g := g277) (o := .cells #[I q t255, I q t256, I q t257, I q t258, I q t259, J Ao19 t260.length co19] 27 (0, 0)) (by (with_reducible repeat (first | apply bN | apply bd | apply ba)); refine blk_put (cs := #[I q t255, I q t256, I q t257, I q t258, I q t259, .slice none 0 0]) ?_ 5 _ rfl; (with_reducible repeat (first | apply bN | apply bd | apply ba)); refine blk_put (cs := #[I q t255, I q t256, I q t257, I q t258, I q 0, .slice none 0 0]) ?_ 4 _ rfl; (with_reducible repeat (first | apply bN | apply bd | apply ba)); refine blk_put (cs := #[I q t255, I q t256, I q t257, I q 0, I q 0, .slice none 0 0]) ?_ 3 _ rfl; (with_reducible repeat (first | apply bN | apply bd | apply ba)); refine blk_put (cs := #[I q t255, I q t256, I q 0, I q 0, I q 0, .slice none 0 0]) ?_ 2 _ rfl; (with_reducible repeat (first | apply bN | apply bd | apply ba)); refine blk_put (cs := #[I q t255, I q 0, I q 0, I q 0, I q 0, .slice none 0 0]) ?_ 1 _ rfl; (with_reducible repeat (first | apply bN | apply bd | apply ba)); refine blk_put (cs := #[I q 0, I q 0, I q 0, I q 0, I q 0, .slice none 0 0]) ?_ 0 _ rfl; (with_reducible repeat (first | apply bN | apply bd | apply ba)); exact B277.out) hb); have N5 := am (bp (by repeat (first | (with_reducible first | exact HB.out | apply pa | apply pN | apply p1 | refine bs ?_ E263.out | refine bs ?_ E270.out | refine bs ?_ E277.out) | exact HB.out)) hb); clear O262 B263 B270 B277 HB; have O262 := N0; have O280 := N1; have B263 := N2; have B270 := N3; have B277 := N4; have HB := N5; clear N0 N1 N2 N3 N4 N5 hb ho30; obtain ⟨Ao31, co31, eo31⟩ := Kd.R_slice O280.out; subst eo31; have hcz32_0 : w29.cell? ⟨g277, 0, none⟩ = some (I q t255) := (bc B277.out 0).trans rfl; have hcz32_1 : w29.cell? ⟨g277, 1, none⟩ = some (I q t256) := (bc B277.out 1).trans rfl; have hcz32_2 : w29.cell? ⟨g277, 2, none⟩ = some (I q t257) := (bc B277.out 2).trans rfl; have hcz32_3 : w29.cell? ⟨g277, 3, none⟩ = some (I q t258) := (bc B277.out 3).trans rfl; have hcz32_4 : w29.cell? ⟨g277, 4, none⟩ = some (I q t259) := (bc B277.out 4).trans rfl; have hcz32_5 : w29.cell? ⟨g277, 5, none⟩ = some (J Ao19 t260.length co19) := (bc B277.out 5).trans rfl; have hfz32_0 := bf B277.out 0; have hfz32_1 := bf B277.out 1; have hfz32_2 := bf B277.out 2; have hfz32_3 := bf B277.out 3; have hfz32_4 := bf B277.out 4; have hfz32_5 := bf B277.out 5; have hcz33_0 : w29.cell? ⟨g270, 0, none⟩ = some (I q t264) := (bc B270.out 0).trans rfl; have hcz33_1 : w29.cell? ⟨g270, 1, none⟩ = some (I q t265) := (bc B270.out 1).trans rfl; have hcz33_2 : w29.cell? ⟨g270, 2, none⟩ = some (I q t266) := (bc B270.out 2).trans rfl; have hcz33_3 : w29.cell? ⟨g270, 3, none⟩ = some (I q t267) := (bc B270.out 3).trans rfl; have hcz33_4 : w29.cell? ⟨g270, 4, none⟩ = some (I q t268) := (bc B270.out 4).trans rfl; have hcz33_5 : w29.cell? ⟨g270, 5, none⟩ = some (I q t269) := (bc B270.out 5).trans rfl; have hfz33_0 := bf B270.out 0; have hfz33_1 := bf B270.out 1; have hfz33_2 := bf B270.out 2; have hfz33_3 := bf B270.out 3; have hfz33_4 := bf B270.out 4; have hfz33_5 := bf B270.out 5) | ((with_reducible refine gate_callee (f := 35) rfl ?_); refine goesL_ (some 27) rfl rfl Try.func35 (by kernel_rfl) rfl #[.agg #[I q t265, I q t266, I q t267, I q t268, I q t269]] rfl (by (try simp only [List.map_toArray, List.map_cons, List.map_nil]); first | done | rfl) ?_; (with_reducible refine (impl_HashFlow.calls k t265 t266 t267 t268 t269 t281 t282 _ A7.out).mono ?_); rintro e w34 ⟨rfl, hb⟩; refine ⟨_, rfl, ?_⟩; have N0 := am (rb (by (with_reducible repeat (first | apply ra | apply rN | apply rd1)); exact (Kd.R_mono (rf (p := ⟨g277, 5, none⟩) (Kd.R_types O262.out B277.out (by decide)) (fun _ hk => hk.2) (J Ao31 y278.length co31)) (fun _ h_ => h_.1))) hb); have N1 := am (rb (by (with_reducible repeat (first | apply ra | apply rN | apply rd1)); exact (Kd.R_mono (rf (p := ⟨g277, 5, none⟩) (Kd.R_types O280.out B277.out (by decide)) (fun _ hk => hk.2) (J Ao31 y278.length co31)) (fun _ h_ => h_.1))) hb); have N2 := am (bb (g := g263) (o := .cells #[I q t255, I q t256, I q t257, I q t258, I q t259, J Ao19 t260.length co19] 27 (0, 0)) (by (with_reducible repeat (first | apply bN | apply bd | apply ba)); refine bq ?_ NB263_277.out _; (with_reducible repeat (first | apply bN | apply bd | apply ba)); exact B263.out) hb); have N3 := am (bb (g := g270) (o := .cells #[I q t264, I q t265, I q t266, I q t267, I q t268, I q t269] 69 (0, 0)) (by (with_reducible repeat (first | apply bN | apply bd | apply ba)); refine bq ?_ NB270_277.out _; (with_reducible repeat (first | apply bN | apply bd | apply ba)); exact B270.out) hb); have N4 := am (bb (g := g277) (o := .cells #[I q t255, I q t256, I q t257, I q t258, I q t259, J Ao31 y278.length co31] 27 (0, 0)) (by (with_reducible repeat (first | apply bN | apply bd | apply ba)); refine blk_put (cs := #[I q t255, I q t256, I q t257, I q t258, I q t259, J Ao19 t260.length co19]) ?_ 5 _ rfl; (with_reducible repeat (first | apply bN | apply bd | apply ba)); exact B277.out) hb); have N5 := am (bp (by repeat (first | (with_reducible first | exact HB.out | apply pa | apply pN | apply p1 | refine bs ?_ E263.out | refine bs ?_ E270.out | refine bs ?_ E277.out) | exact HB.out)) hb); clear O262 O280 B263 B270 B277 HB; have O262 := N0; have O280 := N1; have B263 := N2; have B270 := N3; have B277 := N4; have HB := N5; clear N0 N1 N2 N3 N4 N5; (try clear hb); (try clear hb2); (try clear hk); (try clear hi)) | ((with_reducible refine gate_dst (N := 6) rfl ?_); refine box_event ?hg (N := 6) ?hd (cs := #[I q 0, I q 0]) (t := 37) ?hr ?_; (case hd => rfl); (case hg => rfl); (case hr => first | (go_simp; done) | (go_simp; rfl)); intro g283 hg w35 hbox hb; have N0 := am (rb (by (with_reducible repeat (first | apply ra | apply rN | apply rd1)); exact O262.out) hb); have N1 := am (rb (by (with_reducible repeat (first | apply ra | apply rN | apply rd1)); exact O280.out) hb); have N2 := am (bb (g := g263) (by (with_reducible repeat (first | apply bN | apply bd | apply ba)); exact B263.out) hb); have N3 := am (bb (g := g270) (by (with_reducible repeat (first | apply bN | apply bd | apply ba)); exact B270.out) hb); have N4 := am (bb (g := g277) (by (with_reducible repeat (first | apply bN | apply bd | apply ba)); exact B277.out) hb); have N5 := am (bp (by repeat (first | (with_reducible first | exact HB.out | apply pa | apply pN | apply p1 | refine bs ?_ E263.out | refine bs ?_ E270.out | refine bs ?_ E277.out) | exact HB.out)) hb); have N6 := am (hbox); have N7 := am ((by rw [hg]; exact (bz (by repeat (first | (with_reducible first | exact HB.out | apply pa | apply pN | apply p1 | refine bs ?_ E263.out | refine bs ?_ E270.out | refine bs ?_ E277.out) | exact HB.out))) : w.heap.size ≤ g283)); have N8 := am ((by rw [hg]; exact (bz (by repeat (first | (with_reducible first | exact HB.out | apply pa | apply pN | apply p1 | refine bs ?_ E263.out | refine bs ?_ E270.out | refine bs ?_ E277.out) | exact HB.out))) : w.heap.size ≤ g283)); have N9 := am ((by rw [hg]; exact Nat.ne_of_lt (bl (g := g263) (by (with_reducible repeat (first | apply bN | apply bd | apply ba)); exact B263.out)) : g263 ≠ g283)); have N10 := am ((by rw [hg]; exact Nat.ne_of_gt (bl (g := g263) (by (with_reducible repeat (first | apply bN | apply bd | apply ba)); exact B263.out)) : g283 ≠ g263)); have N11 := am ((by rw [hg]; exact Nat.ne_of_lt (bl (g := g270) (by (with_reducible repeat (first | apply bN | apply bd | apply ba)); exact B270.out)) : g270 ≠ g283)); have N12 := am ((by rw [hg]; exact Nat.ne_of_gt (bl (g := g270) (by (with_reducible repeat (first | apply bN | apply bd | apply ba)); exact B270.out)) : g283 ≠ g270)); have N13 := am ((by rw [hg]; exact Nat.ne_of_lt (bl (g := g277) (by (with_reducible repeat (first | apply bN | apply bd | apply ba)); exact B277.out)) : g277 ≠ g283)); have N14 := am ((by rw [hg]; exact Nat.ne_of_gt (bl (g := g277) (by (with_reducible repeat (first | apply bN | apply bd | apply ba)); exact B277.out)) : g283 ≠ g277)); clear O262 O280 B263 B270 B277 HB; have O262 := N0; have O280 := N1; have B263 := N2; have B270 := N3; have B277 := N4; have HB := N5; have B283 := N6; have GW283 := N7; have E283 := N8; have NB263_283 := N9; have NB283_263 := N10; have NB270_283 := N11; have NB283_270 := N12; have NB277_283 := N13; have NB283_277 := N14; clear N0 N1 N2 N3 N4 N5 N6 N7 N8 N9 N10 N11 N12 N13 N14 hb hbox hg; have hnb36 := NB283_263.out; have hnc36 := NB263_283.out; have hnb37 := NB283_270.out; have hnc37 := NB270_283.out; have hnb38 := NB283_277.out; have hnc38 := NB277_283.out; have hcz39_0 : w35.cell? ⟨g283, 0, none⟩ = some (I q 0) := (bc B283.out 0).trans rfl; have hcz39_1 : w35.cell? ⟨g283, 1, none⟩ = some (I q 0) := (bc B283.out 1).trans rfl; have hfz39_0 := bf B283.out 0; have hfz39_1 := bf B283.out 1))
      have N0 : Aside0 (Kd.R (Kd.int .u8) 5 ((w35.setCell ⟨g283, 0, none⟩ (I q t281)).setCell ⟨g283, 1, none⟩ (I q t282)) w.heap.size (fun k_ => some k_ ≠ (J Ao31 y278.length co31 : Value).ownBlock) (J Ao19 t260.length co19) t260) := ⟨by (with_reducible repeat (first | apply ra | apply rN | apply rd1)); exact Kd.R_mono (rf (p := ⟨g283, 1, none⟩) (rf (p := ⟨g283, 0, none⟩) (Kd.R_types O262.out B283.out (by decide)) (fun _ hk => hk.2) (I q t281)) (fun _ hk => hk.2) (I q t282)) (fun _ hk => hk.1.2)⟩
      have N1 : Aside0 (Kd.R (Kd.int .u8) 5 ((w35.setCell ⟨g283, 0, none⟩ (I q t281)).setCell ⟨g283, 1, none⟩ (I q t282)) w.heap.size (fun k_ => some k_ ≠ (J Ao19 t260.length co19 : Value).ownBlock) (J Ao31 y278.length co31) y278) := ⟨by (with_reducible repeat (first | apply ra | apply rN | apply rd1)); exact Kd.R_mono (rf (p := ⟨g283, 1, none⟩) (rf (p := ⟨g283, 0, none⟩) (Kd.R_types O280.out B283.out (by decide)) (fun _ hk => hk.2) (I q t281)) (fun _ hk => hk.2) (I q t282)) (fun _ hk => hk.1.2)⟩
      have N2 : Aside0 (((w35.setCell ⟨g283, 0, none⟩ (I q t281)).setCell ⟨g283, 1, none⟩ (I q t282)).heap[g263]? = some (.cells #[I q t255, I q t256, I q t257, I q t258, I q t259, J Ao19 t260.length co19] 27 (0, 0))) := ⟨by (with_reducible repeat (first | apply bN | apply bd | apply ba)); refine bq ?_ NB263_283.out _; (with_reducible repeat (first | apply bN | apply bd | apply ba)); refine bq ?_ NB263_283.out _; (with_reducible repeat (first | apply bN | apply bd | apply ba)); exact B263.out⟩
      have N3 : Aside0 (((w35.setCell ⟨g283, 0, none⟩ (I q t281)).setCell ⟨g283, 1, none⟩ (I q t282)).heap[g270]? = some (.cells #[I q t264, I q t265, I q t266, I q t267, I q t268, I q t269] 69 (0, 0))) := ⟨by (with_reducible repeat (first | apply bN | apply bd | apply ba)); refine bq ?_ NB270_283.out _; (with_reducible repeat (first | apply bN | apply bd | apply ba)); refine bq ?_ NB270_283.out _; (with_reducible repeat (first | apply bN | apply bd | apply ba)); exact B270.out⟩
      have N4 : Aside0 (((w35.setCell ⟨g283, 0, none⟩ (I q t281)).setCell ⟨g283, 1, none⟩ (I q t282)).heap[g277]? = some (.cells #[I q t255, I q t256, I q t257, I q t258, I q t259, J Ao31 y278.length co31] 27 (0, 0))) := ⟨by (with_reducible repeat (first | apply bN | apply bd | apply ba)); refine bq ?_ NB277_283.out _; (with_reducible repeat (first | apply bN | apply bd | apply ba)); refine bq ?_ NB277_283.out _; (with_reducible repeat (first | apply bN | apply bd | apply ba)); exact B277.out⟩
      have N5 : Aside0 (((w35.setCell ⟨g283, 0, none⟩ (I q t281)).setCell ⟨g283, 1, none⟩ (I q t282)).heap[g283]? = some (.cells #[I q t281, I q t282] 37 (0, 0))) := ⟨by (with_reducible repeat (first | apply bN | apply bd | apply ba)); refine blk_put (cs := #[I q t281, I q 0]) ?_ 1 _ rfl; (with_reducible repeat (first | apply bN | apply bd | apply ba)); refine blk_put (cs := #[I q 0, I q 0]) ?_ 0 _ rfl; (with_reducible repeat (first | apply bN | apply bd | apply ba)); exact B283.out⟩
      have N6 : Aside0 (Below w.heap.size w ((w35.setCell ⟨g283, 0, none⟩ (I q t281)).setCell ⟨g283, 1, none⟩ (I q t282))) := ⟨by repeat (first | (with_reducible first | exact HB.out | apply pa | apply pN | apply p1 | refine bs ?_ E263.out | refine bs ?_ E270.out | refine bs ?_ E277.out | refine bs ?_ E283.out) | exact HB.out)⟩
      (try clear O262)
      (try clear O280)
      (try clear B263)
      (try clear B270)
      (try clear B277)
      (try clear B283)
      (try clear HB)
      generalize ((w35.setCell ⟨g283, 0, none⟩ (I q t281)).setCell ⟨g283, 1, none⟩ (I q t282)) = w40 at N0 N1 N2 N3 N4 N5 N6 ⊢
      have O262 := N0
      have O280 := N1
      have B263 := N2
      have B270 := N3
      have B277 := N4
      have B283 := N5
      have HB := N6
      clear N0 N1 N2 N3 N4 N5 N6
      have N0 := am (rd1 O262.out)
      have N1 := am (rd1 O280.out)
      have N2 := am (bd B263.out)
      have N3 := am (bd B270.out)
      have N4 := am (bd B277.out)
      have N5 := am (bd B283.out)
      have N6 := am (p1 HB.out)
      clear O262
      clear O280
      clear B263
      clear B270
      clear B277
      clear B283
      clear HB
      have O262 := N0
      have O280 := N1
      have B263 := N2
      have B270 := N3
      have B277 := N4
      have B283 := N5
      have HB := N6
      clear N0 N1 N2 N3 N4 N5 N6
      refine start_ (n := 36) (S := fun w' => w'.cell? ⟨g277, 0, none⟩ = some (I q t255) ∧ w'.cell? ⟨g277, 1, none⟩ = some (I q t256) ∧ w'.cell? ⟨g277, 2, none⟩ = some (I q t257) ∧ w'.cell? ⟨g277, 3, none⟩ = some (I q t258) ∧ w'.cell? ⟨g277, 4, none⟩ = some (I q t259) ∧ w'.cell? ⟨g277, 5, none⟩ = some (J Ao31 y278.length co31) ∧ w'.cell? ⟨g270, 0, none⟩ = some (I q t264) ∧ w'.cell? ⟨g270, 1, none⟩ = some (I q t265) ∧ w'.cell? ⟨g270, 2, none⟩ = some (I q t266) ∧ w'.cell? ⟨g270, 3, none⟩ = some (I q t267) ∧ w'.cell? ⟨g270, 4, none⟩ = some (I q t268) ∧ w'.cell? ⟨g270, 5, none⟩ = some (I q t269) ∧ w'.cell? ⟨g283, 0, none⟩ = some (I q t281) ∧ w'.cell? ⟨g283, 1, none⟩ = some (I q t282) ∧ w'.cell? ⟨g263, 0, none⟩ = some (I q t255) ∧ w'.cell? ⟨g263, 1, none⟩ = some (I q t256) ∧ w'.cell? ⟨g263, 2, none⟩ = some (I q t257) ∧ w'.cell? ⟨g263, 3, none⟩ = some (I q t258) ∧ w'.cell? ⟨g263, 4, none⟩ = some (I q t259) ∧ w'.cell? ⟨g263, 5, none⟩ = some (J Ao19 t260.length co19)) (ds := []) #[false, false, false, false, false, false, false, false, false, false, false, false, false, false, false, false, false, false, false, false, false, false, false, false, false, false, false, false, false, false, false, false, false, false, false, false] (by kernel_rfl) rfl rfl ⟨(bc B277.out 0).trans rfl, (bc B277.out 1).trans rfl, (bc B277.out 2).trans rfl, (bc B277.out 3).trans rfl, (bc B277.out 4).trans rfl, (bc B277.out 5).trans rfl, (bc B270.out 0).trans rfl, (bc B270.out 1).trans rfl, (bc B270.out 2).trans rfl, (bc B270.out 3).trans rfl, (bc B270.out 4).trans rfl, (bc B270.out 5).trans rfl, (bc B283.out 0).trans rfl, (bc B283.out 1).trans rfl, (bc B263.out 0).trans rfl, (bc B263.out 1).trans rfl, (bc B263.out 2).trans rfl, (bc B263.out 3).trans rfl, (bc B263.out 4).trans rfl, (bc B263.out 5).trans rfl⟩ (fun hHeld => ?_); refine with_tabW laws_FnHashes.tab10 laws_FnHashes.bits10 (fun HT_ HW_ => ?_)
      generalize w40.drew = w41 at O262 O280 B263 B270 B277 B283 HB hHeld ⊢
      refine take_ (i := 0) (N := some 28) (v := ?_) (a' := ?_) #[true, false, false, false, false, false, false, false, false, false, false, false, false, false, false, false, false, false, false, false, false, false, false, false, false, false, false, false, false, false, false, false, false, false, false, false] rfl rfl (take_ofW HT_.out HW_.out (by kernel_rfl)) (fun _ _ _ h => h) (Or.inl ⟨by rfl, ?_⟩) hHeld ?_ ?_
      rotate_left
      · rintro w' ⟨s0, s1, s2, s3, s4, s5, s6, s7, s8, s9, s10, s11, s12, s13, s14, s15, s16, s17, s18, s19⟩
        go_simp
        with_reducible rfl
      rotate_left
      · simp only [Act.put, List.setIfInBounds_toArray, List.set_cons_zero, List.set_cons_succ, i64_w, i32_w]
        rfl
      refine take_ (i := 2) (N := some 30) (v := ?_) (a' := ?_) #[true, false, true, false, false, false, false, false, false, false, false, false, false, false, false, false, false, false, false, false, false, false, false, false, false, false, false, false, false, false, false, false, false, false, false, false] rfl rfl (take_ofW HT_.out HW_.out (by kernel_rfl)) (fun _ _ _ h => h) (Or.inl ⟨by rfl, ?_⟩) hHeld ?_ ?_
      rotate_left
      · rintro w' ⟨s0, s1, s2, s3, s4, s5, s6, s7, s8, s9, s10, s11, s12, s13, s14, s15, s16, s17, s18, s19⟩
        go_simp
        with_reducible rfl
      rotate_left
      · simp only [Act.put, List.setIfInBounds_toArray, List.set_cons_zero, List.set_cons_succ, i64_w, i32_w]
        rfl
      refine one_ (i := 1) (N := some 29) #[true, true, true, false, false, false, false, false, false, false, false, false, false, false, false, false, false, false, false, false, false, false, false, false, false, false, false, false, false, false, false, false, false, false, false, false] rfl rfl (one_of HT_.out (by kernel_rfl)) (by decide) (fun K hK => ?_)
      refine goes_ Try.func47 (by kernel_rfl) rfl #[.agg #[I q t255, I q t256, I q t257, I q t258, I q t259, J Ao31 y278.length co31]] (by rfl) rfl rfl (by (try simp only [List.map_toArray, List.map_cons, List.map_nil]); first | done | rfl | (simp only [List.length_drop, List.length_take]; rfl)) ?_
      with_reducible refine (impl_FlowOf.calls k t255 t256 t257 t258 t259 _ _ y278 t284 t285 t286 t287 t288 t289 _ ?side1 ?side2 A8.out).mono ?_
      (case side1 => repeat (first | exact (Kd.R_reads' O280.out).2.2 | (with_reducible refine ca ?_ _) | (with_reducible refine cN ?_ _) | (with_reducible refine cd1 ?_)))
      (case side2 => exact (Kd.R_reads' O280.out).2.1)
      rintro e w42 ⟨rfl, hb⟩
      refine ⟨_, rfl, ?_⟩
      have N0 := am (rb (by (with_reducible repeat (first | apply ra | apply rN | apply rd1)); exact O262.out) hb)
      have N1 := am (rb (by (with_reducible repeat (first | apply ra | apply rN | apply rd1)); exact O280.out) hb)
      have N2 := am (bb (g := g263) (by (with_reducible repeat (first | apply bN | apply bd | apply ba)); exact B263.out) hb)
      have N3 := am (bb (g := g270) (by (with_reducible repeat (first | apply bN | apply bd | apply ba)); exact B270.out) hb)
      have N4 := am (bb (g := g277) (by (with_reducible repeat (first | apply bN | apply bd | apply ba)); exact B277.out) hb)
      have N5 := am (bb (g := g283) (by (with_reducible repeat (first | apply bN | apply bd | apply ba)); exact B283.out) hb)
      have N6 := am (bp (by repeat (first | (with_reducible first | exact HB.out | apply pa | apply pN | apply p1 | refine bs ?_ E263.out | refine bs ?_ E270.out | refine bs ?_ E277.out | refine bs ?_ E283.out) | exact HB.out)) hb)
      clear O262
      clear O280
      clear B263
      clear B270
      clear B277
      clear B283
      clear HB
      have O262 := N0
      have O280 := N1
      have B263 := N2
      have B270 := N3
      have B277 := N4
      have B283 := N5
      have HB := N6
      clear N0 N1 N2 N3 N4 N5 N6
      (try clear hb)
      (try clear hb2)
      (try clear hk)
      (try clear hi)
      refine hK.out _ _ ⟨(bc B277.out 0).trans rfl, (bc B277.out 1).trans rfl, (bc B277.out 2).trans rfl, (bc B277.out 3).trans rfl, (bc B277.out 4).trans rfl, (bc B277.out 5).trans rfl, (bc B270.out 0).trans rfl, (bc B270.out 1).trans rfl, (bc B270.out 2).trans rfl, (bc B270.out 3).trans rfl, (bc B270.out 4).trans rfl, (bc B270.out 5).trans rfl, (bc B283.out 0).trans rfl, (bc B283.out 1).trans rfl, (bc B263.out 0).trans rfl, (bc B263.out 1).trans rfl, (bc B263.out 2).trans rfl, (bc B263.out 3).trans rfl, (bc B263.out 4).trans rfl, (bc B263.out 5).trans rfl⟩ (fun hHeld => ?_)
      clear hK K
      refine norm_ (a' := ?_) ?_ ?_
      rotate_left
      · show Act.put _ (some 29) _ = _
        simp only [Act.put, List.setIfInBounds_toArray, List.set_cons_zero, List.set_cons_succ, i64_w, i32_w]
        rfl
      refine pure_ (i := 3) (N := some 31) (v := ?_) (a' := ?_) #[true, true, true, true, false, false, false, false, false, false, false, false, false, false, false, false, false, false, false, false, false, false, false, false, false, false, false, false, false, false, false, false, false, false, false, false] rfl rfl (any_of HT_.out (by kernel_rfl)) (fun _ _ _ h => h) (Or.inl ⟨by rfl, ?_⟩) ?_ ?_
      rotate_left
      · intro w'
        first | (go_simp; with_reducible rfl) | (go_simp; (try unfold Instr.field); go_simp; (try simp only [asAgg]); go_simp; with_reducible rfl)
      rotate_left
      · simp only [Act.put, List.setIfInBounds_toArray, List.set_cons_zero, List.set_cons_succ, i64_w, i32_w]
        rfl
      refine pure_ (i := 4) (N := some 32) (v := ?_) (a' := ?_) #[true, true, true, true, true, false, false, false, false, false, false, false, false, false, false, false, false, false, false, false, false, false, false, false, false, false, false, false, false, false, false, false, false, false, false, false] rfl rfl (any_of HT_.out (by kernel_rfl)) (fun _ _ _ h => h) (Or.inl ⟨by rfl, ?_⟩) ?_ ?_
      rotate_left
      · intro w'
        first | (go_simp; with_reducible rfl) | (go_simp; (try unfold Instr.field); go_simp; (try simp only [asAgg]); go_simp; with_reducible rfl)
      rotate_left
      · simp only [Act.put, List.setIfInBounds_toArray, List.set_cons_zero, List.set_cons_succ, i64_w, i32_w]
        rfl
      refine pure_ (i := 5) (N := some 33) (v := ?_) (a' := ?_) #[true, true, true, true, true, true, false, false, false, false, false, false, false, false, false, false, false, false, false, false, false, false, false, false, false, false, false, false, false, false, false, false, false, false, false, false] rfl rfl (any_of HT_.out (by kernel_rfl)) (fun _ _ _ h => h) (Or.inl ⟨by rfl, ?_⟩) ?_ ?_
      rotate_left
      · intro w'
        first | (go_simp; with_reducible rfl) | (go_simp; (try unfold Instr.field); go_simp; (try simp only [asAgg]); go_simp; with_reducible rfl)
      rotate_left
      · simp only [Act.put, List.setIfInBounds_toArray, List.set_cons_zero, List.set_cons_succ, i64_w, i32_w]
        rfl
      refine take_ (i := 6) (N := some 34) (v := ?_) (a' := ?_) #[true, true, true, true, true, true, true, false, false, false, false, false, false, false, false, false, false, false, false, false, false, false, false, false, false, false, false, false, false, false, false, false, false, false, false, false] rfl rfl (take_ofW HT_.out HW_.out (by kernel_rfl)) (fun _ _ _ h => h) (Or.inl ⟨by rfl, ?_⟩) hHeld ?_ ?_
      rotate_left
      · rintro w' ⟨s0, s1, s2, s3, s4, s5, s6, s7, s8, s9, s10, s11, s12, s13, s14, s15, s16, s17, s18, s19⟩
        go_simp
        with_reducible rfl
      rotate_left
      · simp only [Act.put, List.setIfInBounds_toArray, List.set_cons_zero, List.set_cons_succ, i64_w, i32_w]
        rfl
      refine pure_ (i := 7) (N := some 35) (v := ?_) (a' := ?_) #[true, true, true, true, true, true, true, true, false, false, false, false, false, false, false, false, false, false, false, false, false, false, false, false, false, false, false, false, false, false, false, false, false, false, false, false] rfl rfl (any_of HT_.out (by kernel_rfl)) (fun _ _ _ h => h) (Or.inl ⟨by rfl, ?_⟩) ?_ ?_
      rotate_left
      · intro w'
        first | (go_simp; with_reducible rfl) | (go_simp; (try unfold Instr.field); go_simp; (try simp only [asAgg]); go_simp; with_reducible rfl)
      rotate_left
      · simp only [Act.put, List.setIfInBounds_toArray, List.set_cons_zero, List.set_cons_succ, i64_w, i32_w]
        rfl
      refine pure_ (i := 8) (N := some 36) (v := ?_) (a' := ?_) #[true, true, true, true, true, true, true, true, true, false, false, false, false, false, false, false, false, false, false, false, false, false, false, false, false, false, false, false, false, false, false, false, false, false, false, false] rfl rfl (any_of HT_.out (by kernel_rfl)) (fun _ _ _ h => h) (Or.inl ⟨by rfl, ?_⟩) ?_ ?_
      rotate_left
      · intro w'
        first | (go_simp; with_reducible rfl) | (go_simp; (try unfold Instr.field); go_simp; (try simp only [asAgg]); go_simp; with_reducible rfl)
      rotate_left
      · simp only [Act.put, List.setIfInBounds_toArray, List.set_cons_zero, List.set_cons_succ, i64_w, i32_w]
        rfl
      refine pure_ (i := 9) (N := some 37) (v := ?_) (a' := ?_) #[true, true, true, true, true, true, true, true, true, true, false, false, false, false, false, false, false, false, false, false, false, false, false, false, false, false, false, false, false, false, false, false, false, false, false, false] rfl rfl (any_of HT_.out (by kernel_rfl)) (fun _ _ _ h => h) (Or.inl ⟨by rfl, ?_⟩) ?_ ?_
      rotate_left
      · intro w'
        first | (go_simp; with_reducible rfl) | (go_simp; (try unfold Instr.field); go_simp; (try simp only [asAgg]); go_simp; with_reducible rfl)
      rotate_left
      · simp only [Act.put, List.setIfInBounds_toArray, List.set_cons_zero, List.set_cons_succ, i64_w, i32_w]
        rfl
      refine pure_ (i := 10) (N := some 38) (v := ?_) (a' := ?_) #[true, true, true, true, true, true, true, true, true, true, true, false, false, false, false, false, false, false, false, false, false, false, false, false, false, false, false, false, false, false, false, false, false, false, false, false] rfl rfl (any_of HT_.out (by kernel_rfl)) (fun _ _ _ h => h) (Or.inl ⟨by rfl, ?_⟩) ?_ ?_
      rotate_left
      · intro w'
        first | (go_simp; with_reducible rfl) | (go_simp; (try unfold Instr.field); go_simp; (try simp only [asAgg]); go_simp; with_reducible rfl)
      rotate_left
      · simp only [Act.put, List.setIfInBounds_toArray, List.set_cons_zero, List.set_cons_succ, i64_w, i32_w]
        rfl
      refine take_ (i := 11) (N := some 39) (v := ?_) (a' := ?_) #[true, true, true, true, true, true, true, true, true, true, true, true, false, false, false, false, false, false, false, false, false, false, false, false, false, false, false, false, false, false, false, false, false, false, false, false] rfl rfl (take_ofW HT_.out HW_.out (by kernel_rfl)) (fun _ _ _ h => h) (Or.inl ⟨by rfl, ?_⟩) hHeld ?_ ?_
      rotate_left
      · rintro w' ⟨s0, s1, s2, s3, s4, s5, s6, s7, s8, s9, s10, s11, s12, s13, s14, s15, s16, s17, s18, s19⟩
        go_simp
        with_reducible rfl
      rotate_left
      · simp only [Act.put, List.setIfInBounds_toArray, List.set_cons_zero, List.set_cons_succ, i64_w, i32_w]
        rfl
      refine pure_ (i := 12) (N := some 40) (v := ?_) (a' := ?_) #[true, true, true, true, true, true, true, true, true, true, true, true, true, false, false, false, false, false, false, false, false, false, false, false, false, false, false, false, false, false, false, false, false, false, false, false] rfl rfl (any_of HT_.out (by kernel_rfl)) (fun _ _ _ h => h) (Or.inl ⟨by rfl, ?_⟩) ?_ ?_
      rotate_left
      · intro w'
        first | (go_simp; with_reducible rfl) | (go_simp; (try unfold Instr.field); go_simp; (try simp only [asAgg]); go_simp; with_reducible rfl)
      rotate_left
      · simp only [Act.put, List.setIfInBounds_toArray, List.set_cons_zero, List.set_cons_succ, i64_w, i32_w]
        rfl
      refine pure_ (i := 13) (N := some 41) (v := ?_) (a' := ?_) #[true, true, true, true, true, true, true, true, true, true, true, true, true, true, false, false, false, false, false, false, false, false, false, false, false, false, false, false, false, false, false, false, false, false, false, false] rfl rfl (any_of HT_.out (by kernel_rfl)) (fun _ _ _ h => h) (Or.inl ⟨by rfl, ?_⟩) ?_ ?_
      rotate_left
      · intro w'
        first | (go_simp; with_reducible rfl) | (go_simp; (try unfold Instr.field); go_simp; (try simp only [asAgg]); go_simp; with_reducible rfl)
      rotate_left
      · simp only [Act.put, List.setIfInBounds_toArray, List.set_cons_zero, List.set_cons_succ, i64_w, i32_w]
        rfl
      refine pure_ (i := 14) (N := some 42) (v := ?_) (a' := ?_) #[true, true, true, true, true, true, true, true, true, true, true, true, true, true, true, false, false, false, false, false, false, false, false, false, false, false, false, false, false, false, false, false, false, false, false, false] rfl rfl (any_of HT_.out (by kernel_rfl)) (fun _ _ _ h => h) (Or.inl ⟨by rfl, ?_⟩) ?_ ?_
      rotate_left
      · intro w'
        first | (go_simp; with_reducible rfl) | (go_simp; (try unfold Instr.field); go_simp; (try simp only [asAgg]); go_simp; with_reducible rfl)
      rotate_left
      · simp only [Act.put, List.setIfInBounds_toArray, List.set_cons_zero, List.set_cons_succ, i64_w, i32_w]
        rfl
      refine pure_ (i := 15) (N := some 43) (v := ?_) (a' := ?_) #[true, true, true, true, true, true, true, true, true, true, true, true, true, true, true, true, false, false, false, false, false, false, false, false, false, false, false, false, false, false, false, false, false, false, false, false] rfl rfl (any_of HT_.out (by kernel_rfl)) (fun _ _ _ h => h) (Or.inl ⟨by rfl, ?_⟩) ?_ ?_
      rotate_left
      · intro w'
        first | (go_simp; with_reducible rfl) | (go_simp; (try unfold Instr.field); go_simp; (try simp only [asAgg]); go_simp; with_reducible rfl)
      rotate_left
      · simp only [Act.put, List.setIfInBounds_toArray, List.set_cons_zero, List.set_cons_succ, i64_w, i32_w]
        rfl
      refine take_ (i := 16) (N := some 44) (v := ?_) (a' := ?_) #[true, true, true, true, true, true, true, true, true, true, true, true, true, true, true, true, true, false, false, false, false, false, false, false, false, false, false, false, false, false, false, false, false, false, false, false] rfl rfl (take_ofW HT_.out HW_.out (by kernel_rfl)) (fun _ _ _ h => h) (Or.inl ⟨by rfl, ?_⟩) hHeld ?_ ?_
      rotate_left
      · rintro w' ⟨s0, s1, s2, s3, s4, s5, s6, s7, s8, s9, s10, s11, s12, s13, s14, s15, s16, s17, s18, s19⟩
        go_simp
        with_reducible rfl
      rotate_left
      · simp only [Act.put, List.setIfInBounds_toArray, List.set_cons_zero, List.set_cons_succ, i64_w, i32_w]
        rfl
      refine pure_ (i := 17) (N := some 45) (v := ?_) (a' := ?_) #[true, true, true, true, true, true, true, true, true, true, true, true, true, true, true, true, true, true, false, false, false, false, false, false, false, false, false, false, false, false, false, false, false, false, false, false] rfl rfl (any_of HT_.out (by kernel_rfl)) (fun _ _ _ h => h) (Or.inl ⟨by rfl, ?_⟩) ?_ ?_
      rotate_left
      · intro w'
        first | (go_simp; with_reducible rfl) | (go_simp; (try unfold Instr.field); go_simp; (try simp only [asAgg]); go_simp; with_reducible rfl)
      rotate_left
      · simp only [Act.put, List.setIfInBounds_toArray, List.set_cons_zero, List.set_cons_succ, i64_w, i32_w]
        rfl
      refine pure_ (i := 18) (N := some 46) (v := ?_) (a' := ?_) #[true, true, true, true, true, true, true, true, true, true, true, true, true, true, true, true, true, true, true, false, false, false, false, false, false, false, false, false, false, false, false, false, false, false, false, false] rfl rfl (any_of HT_.out (by kernel_rfl)) (fun _ _ _ h => h) (Or.inl ⟨by rfl, ?_⟩) ?_ ?_
      rotate_left
      · intro w'
        first | (go_simp; with_reducible rfl) | (go_simp; (try unfold Instr.field); go_simp; (try simp only [asAgg]); go_simp; with_reducible rfl)
      rotate_left
      · simp only [Act.put, List.setIfInBounds_toArray, List.set_cons_zero, List.set_cons_succ, i64_w, i32_w]
        rfl
      refine pure_ (i := 19) (N := some 47) (v := ?_) (a' := ?_) #[true, true, true, true, true, true, true, true, true, true, true, true, true, true, true, true, true, true, true, true, false, false, false, false, false, false, false, false, false, false, false, false, false, false, false, false] rfl rfl (any_of HT_.out (by kernel_rfl)) (fun _ _ _ h => h) (Or.inl ⟨by rfl, ?_⟩) ?_ ?_
      rotate_left
      · intro w'
        first | (go_simp; with_reducible rfl) | (go_simp; (try unfold Instr.field); go_simp; (try simp only [asAgg]); go_simp; with_reducible rfl)
      rotate_left
      · simp only [Act.put, List.setIfInBounds_toArray, List.set_cons_zero, List.set_cons_succ, i64_w, i32_w]
        rfl
      refine take_ (i := 20) (N := some 48) (v := ?_) (a' := ?_) #[true, true, true, true, true, true, true, true, true, true, true, true, true, true, true, true, true, true, true, true, true, false, false, false, false, false, false, false, false, false, false, false, false, false, false, false] rfl rfl (take_ofW HT_.out HW_.out (by kernel_rfl)) (fun _ _ _ h => h) (Or.inl ⟨by rfl, ?_⟩) hHeld ?_ ?_
      rotate_left
      · rintro w' ⟨s0, s1, s2, s3, s4, s5, s6, s7, s8, s9, s10, s11, s12, s13, s14, s15, s16, s17, s18, s19⟩
        go_simp
        with_reducible rfl
      rotate_left
      · simp only [Act.put, List.setIfInBounds_toArray, List.set_cons_zero, List.set_cons_succ, i64_w, i32_w]
        rfl
      refine take_ (i := 24) (N := some 52) (v := ?_) (a' := ?_) #[true, true, true, true, true, true, true, true, true, true, true, true, true, true, true, true, true, true, true, true, true, false, false, false, true, false, false, false, false, false, false, false, false, false, false, false] rfl rfl (take_ofW HT_.out HW_.out (by kernel_rfl)) (fun _ _ _ h => h) (Or.inl ⟨by rfl, ?_⟩) hHeld ?_ ?_
      rotate_left
      · rintro w' ⟨s0, s1, s2, s3, s4, s5, s6, s7, s8, s9, s10, s11, s12, s13, s14, s15, s16, s17, s18, s19⟩
        go_simp
        with_reducible rfl
      rotate_left
      · simp only [Act.put, List.setIfInBounds_toArray, List.set_cons_zero, List.set_cons_succ, i64_w, i32_w]
        rfl
      refine one_ (i := 21) (N := some 49) #[true, true, true, true, true, true, true, true, true, true, true, true, true, true, true, true, true, true, true, true, true, true, false, false, true, false, false, false, false, false, false, false, false, false, false, false] rfl rfl (one_of HT_.out (by kernel_rfl)) (by decide) (fun K hK => ?_)
      refine goes_ Try.func47 (by kernel_rfl) rfl #[.agg #[I q t255, I q t256, I q t257, I q t258, I q t259, J Ao31 y278.length co31]] (by rfl) rfl rfl (by (try simp only [List.map_toArray, List.map_cons, List.map_nil]); first | done | rfl | (simp only [List.length_drop, List.length_take]; rfl)) ?_
      with_reducible refine (impl_FlowOf.calls k t255 t256 t257 t258 t259 _ _ y278 t290 t291 t292 t293 t294 t295 _ ?side1 ?side2 A13.out).mono ?_
      (case side1 => repeat (first | exact (Kd.R_reads' O280.out).2.2 | (with_reducible refine ca ?_ _) | (with_reducible refine cN ?_ _) | (with_reducible refine cd1 ?_)))
      (case side2 => exact (Kd.R_reads' O280.out).2.1)
      rintro e w43 ⟨rfl, hb⟩
      refine ⟨_, rfl, ?_⟩
      have N0 := am (rb (by (with_reducible repeat (first | apply ra | apply rN | apply rd1)); exact O262.out) hb)
      have N1 := am (rb (by (with_reducible repeat (first | apply ra | apply rN | apply rd1)); exact O280.out) hb)
      have N2 := am (bb (g := g263) (by (with_reducible repeat (first | apply bN | apply bd | apply ba)); exact B263.out) hb)
      have N3 := am (bb (g := g270) (by (with_reducible repeat (first | apply bN | apply bd | apply ba)); exact B270.out) hb)
      have N4 := am (bb (g := g277) (by (with_reducible repeat (first | apply bN | apply bd | apply ba)); exact B277.out) hb)
      have N5 := am (bb (g := g283) (by (with_reducible repeat (first | apply bN | apply bd | apply ba)); exact B283.out) hb)
      have N6 := am (bp (by repeat (first | (with_reducible first | exact HB.out | apply pa | apply pN | apply p1 | refine bs ?_ E263.out | refine bs ?_ E270.out | refine bs ?_ E277.out | refine bs ?_ E283.out) | exact HB.out)) hb)
      clear O262
      clear O280
      clear B263
      clear B270
      clear B277
      clear B283
      clear HB
      have O262 := N0
      have O280 := N1
      have B263 := N2
      have B270 := N3
      have B277 := N4
      have B283 := N5
      have HB := N6
      clear N0 N1 N2 N3 N4 N5 N6
      (try clear hb)
      (try clear hb2)
      (try clear hk)
      (try clear hi)
      refine hK.out _ _ ⟨(bc B277.out 0).trans rfl, (bc B277.out 1).trans rfl, (bc B277.out 2).trans rfl, (bc B277.out 3).trans rfl, (bc B277.out 4).trans rfl, (bc B277.out 5).trans rfl, (bc B270.out 0).trans rfl, (bc B270.out 1).trans rfl, (bc B270.out 2).trans rfl, (bc B270.out 3).trans rfl, (bc B270.out 4).trans rfl, (bc B270.out 5).trans rfl, (bc B283.out 0).trans rfl, (bc B283.out 1).trans rfl, (bc B263.out 0).trans rfl, (bc B263.out 1).trans rfl, (bc B263.out 2).trans rfl, (bc B263.out 3).trans rfl, (bc B263.out 4).trans rfl, (bc B263.out 5).trans rfl⟩ (fun hHeld => ?_)
      clear hK K
      refine norm_ (a' := ?_) ?_ ?_
      rotate_left
      · show Act.put _ (some 49) _ = _
        simp only [Act.put, List.setIfInBounds_toArray, List.set_cons_zero, List.set_cons_succ, i64_w, i32_w]
        rfl
      refine pure_ (i := 22) (N := some 50) (v := ?_) (a' := ?_) #[true, true, true, true, true, true, true, true, true, true, true, true, true, true, true, true, true, true, true, true, true, true, true, false, true, false, false, false, false, false, false, false, false, false, false, false] rfl rfl (any_of HT_.out (by kernel_rfl)) (fun _ _ _ h => h) (Or.inl ⟨by rfl, ?_⟩) ?_ ?_
      rotate_left
      · intro w'
        first | (go_simp; with_reducible rfl) | (go_simp; (try unfold Instr.field); go_simp; (try simp only [asAgg]); go_simp; with_reducible rfl)
      rotate_left
      · simp only [Act.put, List.setIfInBounds_toArray, List.set_cons_zero, List.set_cons_succ, i64_w, i32_w]
        rfl
      refine one_ (i := 23) (N := some 51) #[true, true, true, true, true, true, true, true, true, true, true, true, true, true, true, true, true, true, true, true, true, true, true, true, true, false, false, false, false, false, false, false, false, false, false, false] rfl rfl (one_of HT_.out (by kernel_rfl)) (by decide) (fun K hK => ?_)
      refine goes_ Try.func35 (by kernel_rfl) rfl #[.agg #[I q t291, I q t292, I q t293, I q t294, I q t295]] (by rfl) rfl rfl (by (try simp only [List.map_toArray, List.map_cons, List.map_nil]); first | done | rfl | (simp only [List.length_drop, List.length_take]; rfl)) ?_
      with_reducible refine (impl_HashFlow.calls k t291 t292 t293 t294 t295 t296 t297 _ A14.out).mono ?_
      rintro e w44 ⟨rfl, hb⟩
      refine ⟨_, rfl, ?_⟩
      have N0 := am (rb (by (with_reducible repeat (first | apply ra | apply rN | apply rd1)); exact O262.out) hb)
      have N1 := am (rb (by (with_reducible repeat (first | apply ra | apply rN | apply rd1)); exact O280.out) hb)
      have N2 := am (bb (g := g263) (by (with_reducible repeat (first | apply bN | apply bd | apply ba)); exact B263.out) hb)
      have N3 := am (bb (g := g270) (by (with_reducible repeat (first | apply bN | apply bd | apply ba)); exact B270.out) hb)
      have N4 := am (bb (g := g277) (by (with_reducible repeat (first | apply bN | apply bd | apply ba)); exact B277.out) hb)
      have N5 := am (bb (g := g283) (by (with_reducible repeat (first | apply bN | apply bd | apply ba)); exact B283.out) hb)
      have N6 := am (bp (by repeat (first | (with_reducible first | exact HB.out | apply pa | apply pN | apply p1 | refine bs ?_ E263.out | refine bs ?_ E270.out | refine bs ?_ E277.out | refine bs ?_ E283.out) | exact HB.out)) hb)
      clear O262
      clear O280
      clear B263
      clear B270
      clear B277
      clear B283
      clear HB
      have O262 := N0
      have O280 := N1
      have B263 := N2
      have B270 := N3
      have B277 := N4
      have B283 := N5
      have HB := N6
      clear N0 N1 N2 N3 N4 N5 N6
      (try clear hb)
      (try clear hb2)
      (try clear hk)
      (try clear hi)
      refine hK.out _ _ ⟨(bc B277.out 0).trans rfl, (bc B277.out 1).trans rfl, (bc B277.out 2).trans rfl, (bc B277.out 3).trans rfl, (bc B277.out 4).trans rfl, (bc B277.out 5).trans rfl, (bc B270.out 0).trans rfl, (bc B270.out 1).trans rfl, (bc B270.out 2).trans rfl, (bc B270.out 3).trans rfl, (bc B270.out 4).trans rfl, (bc B270.out 5).trans rfl, (bc B283.out 0).trans rfl, (bc B283.out 1).trans rfl, (bc B263.out 0).trans rfl, (bc B263.out 1).trans rfl, (bc B263.out 2).trans rfl, (bc B263.out 3).trans rfl, (bc B263.out 4).trans rfl, (bc B263.out 5).trans rfl⟩ (fun hHeld => ?_)
      clear hK K
      refine norm_ (a' := ?_) ?_ ?_
      rotate_left
      · show Act.put _ (some 51) _ = _
        simp only [Act.put, List.setIfInBounds_toArray, List.set_cons_zero, List.set_cons_succ, i64_w, i32_w]
        rfl
      refine pure_ (i := 25) (N := some 53) (v := ?_) (a' := ?_) #[true, true, true, true, true, true, true, true, true, true, true, true, true, true, true, true, true, true, true, true, true, true, true, true, true, true, false, false, false, false, false, false, false, false, false, false] rfl rfl (any_of HT_.out (by kernel_rfl)) (fun _ _ _ h => h) (Or.inl ⟨by rfl, ?_⟩) ?_ ?_
      rotate_left
      · intro w'
        first | (go_simp; with_reducible rfl) | (go_simp; (try unfold Instr.field); go_simp; (try simp only [asAgg]); go_simp; with_reducible rfl)
      rotate_left
      · simp only [Act.put, List.setIfInBounds_toArray, List.set_cons_zero, List.set_cons_succ, i64_w, i32_w]
        rfl
      refine pure_ (i := 26) (N := some 54) (v := ?_) (a' := ?_) #[true, true, true, true, true, true, true, true, true, true, true, true, true, true, true, true, true, true, true, true, true, true, true, true, true, true, true, false, false, false, false, false, false, false, false, false] rfl rfl (any_of HT_.out (by kernel_rfl)) (fun _ _ _ h => h) (Or.inl ⟨by rfl, ?_⟩) ?_ ?_
      rotate_left
      · intro w'
        first | (go_simp; with_reducible rfl) | (go_simp; (try unfold Instr.field); go_simp; (try simp only [asAgg]); go_simp; with_reducible rfl)
      rotate_left
      · simp only [Act.put, List.setIfInBounds_toArray, List.set_cons_zero, List.set_cons_succ, i64_w, i32_w]
        rfl
      refine pure_ (i := 27) (N := some 55) (v := ?_) (a' := ?_) #[true, true, true, true, true, true, true, true, true, true, true, true, true, true, true, true, true, true, true, true, true, true, true, true, true, true, true, true, false, false, false, false, false, false, false, false] rfl rfl (any_of HT_.out (by kernel_rfl)) (fun _ _ _ h => h) (Or.inl ⟨by rfl, ?_⟩) ?_ ?_
      rotate_left
      · intro w'
        first | (go_simp; with_reducible rfl) | (go_simp; (try unfold Instr.field); go_simp; (try simp only [asAgg]); go_simp; with_reducible rfl)
      rotate_left
      · simp only [Act.put, List.setIfInBounds_toArray, List.set_cons_zero, List.set_cons_succ, i64_w, i32_w]
        rfl
      refine pure_ (i := 28) (N := some 56) (v := ?_) (a' := ?_) #[true, true, true, true, true, true, true, true, true, true, true, true, true, true, true, true, true, true, true, true, true, true, true, true, true, true, true, true, true, false, false, false, false, false, false, false] rfl rfl (any_of HT_.out (by kernel_rfl)) (fun _ _ _ h => h) (Or.inl ⟨by rfl, ?_⟩) ?_ ?_
      rotate_left
      · intro w'
        first | (go_simp; with_reducible rfl) | (go_simp; (try unfold Instr.field); go_simp; (try simp only [asAgg]); go_simp; with_reducible rfl)
      rotate_left
      · simp only [Act.put, List.setIfInBounds_toArray, List.set_cons_zero, List.set_cons_succ, i64_w, i32_w]
        rfl
      refine pure_ (i := 29) (N := some 57) (v := ?_) (a' := ?_) #[true, true, true, true, true, true, true, true, true, true, true, true, true, true, true, true, true, true, true, true, true, true, true, true, true, true, true, true, true, true, false, false, false, false, false, false] rfl rfl (any_of HT_.out (by kernel_rfl)) (fun _ _ _ h => h) (Or.inl ⟨by rfl, ?_⟩) ?_ ?_
      rotate_left
      · intro w'
        first | (go_simp; with_reducible rfl) | (go_simp; (try unfold Instr.field); go_simp; (try simp only [asAgg]); go_simp; with_reducible rfl)
      rotate_left
      · simp only [Act.put, List.setIfInBounds_toArray, List.set_cons_zero, List.set_cons_succ, i64_w, i32_w]
        rfl
      refine pure_ (i := 31) (N := some 59) (v := ?_) (a' := ?_) #[true, true, true, true, true, true, true, true, true, true, true, true, true, true, true, true, true, true, true, true, true, true, true, true, true, true, true, true, true, true, false, true, false, false, false, false] rfl rfl (any_of HT_.out (by kernel_rfl)) (fun _ _ _ h => h) (Or.inl ⟨by rfl, ?_⟩) ?_ ?_
      rotate_left
      · intro w'
        first | (go_simp; with_reducible rfl) | (go_simp; (try unfold Instr.field); go_simp; (try simp only [asAgg]); go_simp; with_reducible rfl)
      rotate_left
      · simp only [Act.put, List.setIfInBounds_toArray, List.set_cons_zero, List.set_cons_succ, i64_w, i32_w]
        rfl
      refine take_ (i := 30) (N := some 58) (v := ?_) (a' := ?_) #[true, true, true, true, true, true, true, true, true, true, true, true, true, true, true, true, true, true, true, true, true, true, true, true, true, true, true, true, true, true, true, true, false, false, false, false] rfl rfl (take_ofW HT_.out HW_.out (by kernel_rfl)) (fun _ _ _ h => h) (Or.inl ⟨by rfl, ?_⟩) hHeld ?_ ?_
      rotate_left
      · rintro w' ⟨s0, s1, s2, s3, s4, s5, s6, s7, s8, s9, s10, s11, s12, s13, s14, s15, s16, s17, s18, s19⟩
        go_simp
        with_reducible rfl
      rotate_left
      · simp only [Act.put, List.setIfInBounds_toArray, List.set_cons_zero, List.set_cons_succ, i64_w, i32_w]
        rfl
      refine take_ (i := 32) (N := some 60) (v := ?_) (a' := ?_) #[true, true, true, true, true, true, true, true, true, true, true, true, true, true, true, true, true, true, true, true, true, true, true, true, true, true, true, true, true, true, true, true, true, false, false, false] rfl rfl (take_ofW HT_.out HW_.out (by kernel_rfl)) (fun _ _ _ h => h) (Or.inl ⟨by rfl, ?_⟩) hHeld ?_ ?_
      rotate_left
      · rintro w' ⟨s0, s1, s2, s3, s4, s5, s6, s7, s8, s9, s10, s11, s12, s13, s14, s15, s16, s17, s18, s19⟩
        go_simp
        with_reducible rfl
      rotate_left
      · simp only [Act.put, List.setIfInBounds_toArray, List.set_cons_zero, List.set_cons_succ, i64_w, i32_w]
        rfl
      refine pure_ (i := 33) (N := some 61) (v := ?_) (a' := ?_) #[true, true, true, true, true, true, true, true, true, true, true, true, true, true, true, true, true, true, true, true, true, true, true, true, true, true, true, true, true, true, true, true, true, true, false, false] rfl rfl (any_of HT_.out (by kernel_rfl)) (fun _ _ _ h => h) (Or.inl ⟨by rfl, ?_⟩) ?_ ?_
      rotate_left
      · intro w'
        first | (go_simp; with_reducible rfl) | (go_simp; (try unfold Instr.field); go_simp; (try simp only [asAgg]); go_simp; with_reducible rfl)
      rotate_left
      · simp only [Act.put, List.setIfInBounds_toArray, List.set_cons_zero, List.set_cons_succ, i64_w, i32_w]
        rfl
      refine pure_ (i := 34) (N := some 62) (v := ?_) (a' := ?_) #[true, true, true, true, true, true, true, true, true, true, true, true, true, true, true, true, true, true, true, true, true, true, true, true, true, true, true, true, true, true, true, true, true, true, true, false] rfl rfl (any_of HT_.out (by kernel_rfl)) (fun _ _ _ h => h) (Or.inl ⟨by rfl, ?_⟩) ?_ ?_
      rotate_left
      · intro w'
        first | (go_simp; with_reducible rfl) | (go_simp; (try unfold Instr.field); go_simp; (try simp only [asAgg]); go_simp; with_reducible rfl)
      rotate_left
      · simp only [Act.put, List.setIfInBounds_toArray, List.set_cons_zero, List.set_cons_succ, i64_w, i32_w]
        rfl
      refine pure_ (i := 35) (N := some 2) (v := ?_) (a' := ?_) #[true, true, true, true, true, true, true, true, true, true, true, true, true, true, true, true, true, true, true, true, true, true, true, true, true, true, true, true, true, true, true, true, true, true, true, true] rfl rfl (any_of HT_.out (by kernel_rfl)) (fun _ _ _ h => h) (Or.inl ⟨by rfl, ?_⟩) ?_ ?_
      rotate_left
      · intro w'
        first | (go_simp; with_reducible rfl) | (go_simp; (try unfold Instr.field); go_simp; (try simp only [asAgg]); go_simp; with_reducible rfl)
      rotate_left
      · simp only [Act.put, List.setIfInBounds_toArray, List.set_cons_zero, List.set_cons_succ, i64_w, i32_w]
        rfl
      refine done_ (done_of HT_.out (by kernel_rfl)) ?_
      try go_wp2
      go_ret
      exact ⟨by first | rfl | (simp [errW_none, errW_some] <;> rfl) | (simp [*, errW_none, errW_some] <;> rfl), by repeat (first | (with_reducible first | exact HB.out | apply pa | apply pN | apply p1 | refine bs ?_ E263.out | refine bs ?_ E270.out | refine bs ?_ E277.out | refine bs ?_ E283.out) | exact HB.out)⟩
    · rw [if_neg c15] at H
      have c15b0 : (t296 == t281 && (t297 == t282)) = false := by simpa using c15
      (try (have c15b1 : decide (t296 = t281 && (t297 == t282)) = false := by simpa using c15))
      (try (have c15b2 : (t296 == t281 && (t297 == t282)) = false := by simpa using c15))
      (try (have c15b3 : ¬ (t296 = t281 && (t297 == t282)) := by simpa using c15))
      clear c15
      obtain rfl := Option.some.inj H
      go_enter Try.func11, Try.ntmps11
      try go_wp2_with (first | ((with_reducible refine gate_callee (f := 20) rfl ?_); refine goesL_ (some 8) rfl rfl Try.func20 (by kernel_rfl) rfl #[J A0 l0.length c0] rfl (by (try simp only [List.map_toArray, List.map_cons, List.map_nil]); first | done | rfl) ?_; (with_reducible refine (laws_lwBig.calls _ _ l0 false _ ?side1 ?side2 A2.out).mono ?_); (case side1 => repeat (first | exact HR0.out | (with_reducible refine ca ?_ _) | (with_reducible refine cN ?_ _) | (with_reducible refine cd1 ?_))); (case side2 => exact HC0.out); rintro e w' ⟨rfl, ⟨nd, rfl⟩⟩; refine ⟨_, rfl, ?_⟩) | ((with_reducible refine gate_callee (f := 46) rfl ?_); refine goesL_ (some 10) rfl rfl Try.func46 (by kernel_rfl) rfl #[J A0 l0.length c0] rfl (by (try simp only [List.map_toArray, List.map_cons, List.map_nil]); first | done | rfl) ?_; (with_reducible refine (spec_DrawFlowOf.calls k _ _ l0 t255 t256 t257 t258 t259 t260 _ ?side1 ?side2 A4.out).mono ?_); (case side1 => repeat (first | exact HR0.out | (with_reducible refine ca ?_ _) | (with_reducible refine cN ?_ _) | (with_reducible refine cd1 ?_))); (case side2 => exact HC0.out); rintro e w45 ⟨v261, rfl, ho0, hb⟩; refine ⟨_, rfl, ?_⟩; have N0 := am (rw1 ho0 (bz (by repeat (first | (with_reducible first | exact HB.out | apply pa | apply pN | apply p1) | exact HB.out)))); have N1 := am (bp (by repeat (first | (with_reducible first | exact HB.out | apply pa | apply pN | apply p1) | exact HB.out)) hb); clear HB; have O262 := N0; have HB := N1; clear N0 N1; (try clear hb); (try clear hb2); (try clear hk); (try clear hi); (try clear ho0)) | ((with_reducible refine gate_dst (N := 3) rfl ?_); refine box_event ?hg (N := 3) ?hd (cs := #[I q 0, I q 0, I q 0, I q 0, I q 0, .slice none 0 0]) (t := 27) ?hr ?_; (case hd => rfl); (case hg => rfl); (case hr => first | (go_simp; done) | (go_simp; rfl)); intro g263 hg w46 hbox hb; have N0 := am (rb (by (with_reducible repeat (first | apply ra | apply rN | apply rd1)); exact O262.out) hb); have N1 := am (bp (by repeat (first | (with_reducible first | exact HB.out | apply pa | apply pN | apply p1) | exact HB.out)) hb); have N2 := am (hbox); have N3 := am ((by rw [hg]; exact (bz (by repeat (first | (with_reducible first | exact HB.out | apply pa | apply pN | apply p1) | exact HB.out))) : w.heap.size ≤ g263)); have N4 := am ((by rw [hg]; exact (bz (by repeat (first | (with_reducible first | exact HB.out | apply pa | apply pN | apply p1) | exact HB.out))) : w.heap.size ≤ g263)); clear O262 HB; have O262 := N0; have HB := N1; have B263 := N2; have GW263 := N3; have E263 := N4; clear N0 N1 N2 N3 N4 hb hbox hg; have hcz47_0 : w46.cell? ⟨g263, 0, none⟩ = some (I q 0) := (bc B263.out 0).trans rfl; have hcz47_1 : w46.cell? ⟨g263, 1, none⟩ = some (I q 0) := (bc B263.out 1).trans rfl; have hcz47_2 : w46.cell? ⟨g263, 2, none⟩ = some (I q 0) := (bc B263.out 2).trans rfl; have hcz47_3 : w46.cell? ⟨g263, 3, none⟩ = some (I q 0) := (bc B263.out 3).trans rfl; have hcz47_4 : w46.cell? ⟨g263, 4, none⟩ = some (I q 0) := (bc B263.out 4).trans rfl; have hcz47_5 : w46.cell? ⟨g263, 5, none⟩ = some (.slice none 0 0) := (bc B263.out 5).trans rfl; have hfz47_0 := bf B263.out 0; have hfz47_1 := bf B263.out 1; have hfz47_2 := bf B263.out 2; have hfz47_3 := bf B263.out 3; have hfz47_4 := bf B263.out 4; have hfz47_5 := bf B263.out 5; obtain ⟨Ao48, co48, eo48⟩ := Kd.R_slice O262.out; subst eo48) | ((with_reducible refine gate_callee (f := 47) rfl ?_); refine goesL_ (some 12) rfl rfl Try.func47 (by kernel_rfl) rfl #[.agg #[I q t255, I q t256, I q t257, I q t258, I q t259, J Ao48 t260.length co48]] rfl (by (try simp only [List.map_toArray, List.map_cons, List.map_nil]); first | done | rfl) ?_; (with_reducible refine (impl_FlowOf.calls k t255 t256 t257 t258 t259 _ _ t260 t264 t265 t266 t267 t268 t269 _ ?side1 ?side2 A5.out).mono ?_); (case side1 => refine (Kd.R_reads' (e := 5) (base := w.heap.size) (ok := fun k_ => True) (n := t260.length) (c := co48) ?_).2.2; exact (by (with_reducible repeat (first | apply ra | apply rN | apply rd1)); exact (Kd.R_mono (rf (p := ⟨g263, 5, none⟩) (rf (p := ⟨g263, 4, none⟩) (rf (p := ⟨g263, 3, none⟩) (rf (p := ⟨g263, 2, none⟩) (rf (p := ⟨g263, 1, none⟩) (rf (p := ⟨g263, 0, none⟩) (Kd.R_types O262.out B263.out (by decide)) (fun _ hk => hk.2) (I q t255)) (fun _ hk => hk.2) (I q t256)) (fun _ hk => hk.2) (I q t257)) (fun _ hk => hk.2) (I q t258)) (fun _ hk => hk.2) (I q t259)) (fun _ hk => hk.2) (J Ao48 t260.length co48)) (fun _ h_ => h_.1)))); (case side2 => exact (Kd.R_reads' O262.out).2.1); rintro e w49 ⟨rfl, hb⟩; refine ⟨_, rfl, ?_⟩; have N0 := am (rb (by (with_reducible repeat (first | apply ra | apply rN | apply rd1)); exact (Kd.R_mono (rf (p := ⟨g263, 5, none⟩) (rf (p := ⟨g263, 4, none⟩) (rf (p := ⟨g263, 3, none⟩) (rf (p := ⟨g263, 2, none⟩) (rf (p := ⟨g263, 1, none⟩) (rf (p := ⟨g263, 0, none⟩) (Kd.R_types O262.out B263.out (by decide)) (fun _ hk => hk.2) (I q t255)) (fun _ hk => hk.2) (I q t256)) (fun _ hk => hk.2) (I q t257)) (fun _ hk => hk.2) (I q t258)) (fun _ hk => hk.2) (I q t259)) (fun _ hk => hk.2) (J Ao48 t260.length co48)) (fun _ h_ => h_.1))) hb); have N1 := am (bb (g := g263) (o := .cells #[I q t255, I q t256, I q t257, I q t258, I q t259, J Ao48 t260.length co48] 27 (0, 0)) (by (with_reducible repeat (first | apply bN | apply bd | apply ba)); refine blk_put (cs := #[I q t255, I q t256, I q t257, I q t258, I q t259, .slice none 0 0]) ?_ 5 _ rfl; (with_reducible repeat (first | apply bN | apply bd | apply ba)); refine blk_put (cs := #[I q t255, I q t256, I q t257, I q t258, I q 0, .slice none 0 0]) ?_ 4 _ rfl; (with_reducible repeat (first | apply bN | apply bd | apply ba)); refine blk_put (cs := #[I q t255, I q t256, I q t257, I q 0, I q 0, .slice none 0 0]) ?_ 3 _ rfl; (with_reducible repeat (first | apply bN | apply bd | apply ba)); refine blk_put (cs := #[I q t255, I q t256, I q 0, I q 0, I q 0, .slice none 0 0]) ?_ 2 _ rfl; (with_reducible repeat (first | apply bN | apply bd | apply ba)); refine blk_put (cs := #[I q t255, I q 0, I q 0, I q 0, I q 0, .slice none 0 0]) ?_ 1 _ rfl; (with_reducible repeat (first | apply bN | apply bd | apply ba)); refine blk_put (cs := #[I q 0, I q 0, I q 0, I q 0, I q 0, .slice none 0 0]) ?_ 0 _ rfl; (with_reducible repeat (first | apply bN | apply bd | apply ba)); exact B263.out) hb); have N2 := am (bp (by repeat (first | (with_reducible first | exact HB.out | apply pa | apply pN | apply p1 | refine bs ?_ E263.out) | exact HB.out)) hb); clear O262 B263 HB; have O262 := N0; have B263 := N1; have HB := N2; clear N0 N1 N2; (try clear hb); (try clear hb2); (try clear hk); (try clear hi)) | ((with_reducible refine gate_dst (N := 4) rfl ?_); refine box_event ?hg (N := 4) ?hd (cs := #[I q 0, I q 0, I q 0, I q 0, I q 0, I q 0]) (t := 69) ?hr ?_; (case hd => rfl); (case hg => rfl); (case hr => first | (go_simp; done) | (go_simp; rfl)); intro g270 hg w50 hbox hb; have N0 := am (rb (by (with_reducible repeat (first | apply ra | apply rN | apply rd1)); exact O262.out) hb); have N1 := am (bb (g := g263) (by (with_reducible repeat (first | apply bN | apply bd | apply ba)); exact B263.out) hb); have N2 := am (bp (by repeat (first | (with_reducible first | exact HB.out | apply pa | apply pN | apply p1 | refine bs ?_ E263.out) | exact HB.out)) hb); have N3 := am (hbox); have N4 := am ((by rw [hg]; exact (bz (by repeat (first | (with_reducible first | exact HB.out | apply pa | apply pN | apply p1 | refine bs ?_ E263.out) | exact HB.out))) : w.heap.size ≤ g270)); have N5 := am ((by rw [hg]; exact (bz (by repeat (first | (with_reducible first | exact HB.out | apply pa | apply pN | apply p1 | refine bs ?_ E263.out) | exact HB.out))) : w.heap.size ≤ g270)); have N6 := am ((by rw [hg]; exact Nat.ne_of_lt (bl (g := g263) (by (with_reducible repeat (first | apply bN | apply bd | apply ba)); exact B263.out)) : g263 ≠ g270)); have N7 := am ((by rw [hg]; exact Nat.ne_of_gt (bl (g := g263) (by (with_reducible repeat (first | apply bN | apply bd | apply ba)); exact B263.out)) : g270 ≠ g263)); clear O262 B263 HB; have O262 := N0; have B263 := N1; have HB := N2; have B270 := N3; have GW270 := N4; have E270 := N5; have NB263_270 := N6; have NB270_263 := N7; clear N0 N1 N2 N3 N4 N5 N6 N7 hb hbox hg; have hnb51 := NB270_263.out; have hnc51 := NB263_270.out; have hcz52_0 : w50.cell? ⟨g270, 0, none⟩ = some (I q 0) := (bc B270.out 0).trans rfl; have hcz52_1 : w50.cell? ⟨g270, 1, none⟩ = some (I q 0) := (bc B270.out 1).trans rfl; have hcz52_2 : w50.cell? ⟨g270, 2, none⟩ = some (I q 0) := (bc B270.out 2).trans rfl; have hcz52_3 : w50.cell? ⟨g270, 3, none⟩ = some (I q 0) := (bc B270.out 3).trans rfl; have hcz52_4 : w50.cell? ⟨g270, 4, none⟩ = some (I q 0) := (bc B270.out 4).trans rfl; have hcz52_5 : w50.cell? ⟨g270, 5, none⟩ = some (I q 0) := (bc B270.out 5).trans rfl; have hfz52_0 := bf B270.out 0; have hfz52_1 := bf B270.out 1; have hfz52_2 := bf B270.out 2; have hfz52_3 := bf B270.out 3; have hfz52_4 := bf B270.out 4; have hfz52_5 := bf B270.out 5; have hcz53_0 : w50.cell? ⟨g263, 0, none⟩ = some (I q t255) := (bc B263.out 0).trans rfl; have hcz53_1 : w50.cell? ⟨g263, 1, none⟩ = some (I q t256) := (bc B263.out 1).trans rfl; have hcz53_2 : w50.cell? ⟨g263, 2, none⟩ = some (I q t257) := (bc B263.out 2).trans rfl; have hcz53_3 : w50.cell? ⟨g263, 3, none⟩ = some (I q t258) := (bc B263.out 3).trans rfl; have hcz53_4 : w50.cell? ⟨g263, 4, none⟩ = some (I q t259) := (bc B263.out 4).trans rfl; have hcz53_5 : w50.cell? ⟨g263, 5, none⟩ = some (J Ao48 t260.length co48) := (bc B263.out 5).trans rfl; have hfz53_0 := bf B263.out 0; have hfz53_1 := bf B263.out 1; have hfz53_2 := bf B263.out 2; have hfz53_3 := bf B263.out 3; have hfz53_4 := bf B263.out 4; have hfz53_5 := bf B263.out 5) | ((with_reducible refine gate_dst (N := 5) rfl ?_); refine box_event ?hg (N := 5) ?hd (cs := #[I q 0, I q 0, I q 0, I q 0, I q 0, .slice none 0 0]) (t := 27) ?hr ?_; (case hd => rfl); (case hg => rfl); (case hr => first | (go_simp; done) | (go_simp; rfl)); intro g277 hg w54 hbox hb; have N0 := am (rb (by (with_reducible repeat (first | apply ra | apply rN | apply rd1)); exact (Kd.R_mono (rf (p := ⟨g270, 5, none⟩) (rf (p := ⟨g270, 4, none⟩) (rf (p := ⟨g270, 3, none⟩) (rf (p := ⟨g270, 2, none⟩) (rf (p := ⟨g270, 1, none⟩) (rf (p := ⟨g270, 0, none⟩) (Kd.R_types O262.out B270.out (by decide)) (fun _ hk => hk.2) (I q t264)) (fun _ hk => hk.2) (I q t265)) (fun _ hk => hk.2) (I q t266)) (fun _ hk => hk.2) (I q t267)) (fun _ hk => hk.2) (I q t268)) (fun _ hk => hk.2) (I q t269)) (fun _ h_ => h_.1))) hb); have N1 := am (bb (g := g263) (o := .cells #[I q t255, I q t256, I q t257, I q t258, I q t259, J Ao48 t260.length co48] 27 (0, 0)) (by (with_reducible repeat (first | apply bN | apply bd | apply ba)); refine bq ?_ NB263_270.out _; (with_reducible repeat (first | apply bN | apply bd | apply ba)); refine bq ?_ NB263_270.out _; (with_reducible repeat (first | apply bN | apply bd | apply ba)); refine bq ?_ NB263_270.out _; (with_reducible repeat (first | apply bN | apply bd | apply ba)); refine bq ?_ NB263_270.out _; (with_reducible repeat (first | apply bN | apply bd | apply ba)); refine bq ?_ NB263_270.out _; (with_reducible repeat (first | apply bN | apply bd | apply ba)); refine bq ?_ NB263_270.out _; (with_reducible repeat (first | apply bN | apply bd | apply ba)); exact B263.out) hb); have N2 := am (bb (g := g270) (o := .cells #[I q t264, I q t265, I q t266, I q t267, I q t268, I q t269] 69 (0, 0)) (by (with_reducible repeat (first | apply bN | apply bd | apply ba)); refine blk_put (cs := #[I q t264, I q t265, I q t266, I q t267, I q t268, I q 0]) ?_ 5 _ rfl; (with_reducible repeat (first | apply bN | apply bd | apply ba)); refine blk_put (cs := #[I q t264, I q t265, I q t266, I q t267, I q 0, I q 0]) ?_ 4 _ rfl; (with_reducible repeat (first | apply bN | apply bd | apply ba)); refine blk_put (cs := #[I q t264, I q t265, I q t266, I q 0, I q 0, I q 0]) ?_ 3 _ rfl; (with_reducible repeat (first | apply bN | apply bd | apply ba)); refine blk_put (cs := #[I q t264, I q t265, I q 0, I q 0, I q 0, I q 0]) ?_ 2 _ rfl; (with_reducible repeat (first | apply bN | apply bd | apply ba)); refine blk_put (cs := #[I q t264, I q 0, I q 0, I q 0, I q 0, I q 0]) ?_ 1 _ rfl; (with_reducible repeat (first | apply bN | apply bd | apply ba)); refine blk_put (cs := #[I q 0, I q 0, I q 0, I q 0, I q 0, I q 0]) ?_ 0 _ rfl; (with_reducible repeat (first | apply bN | apply bd | apply ba)); exact B270.out) hb); have N3 := am (bp (by repeat (first | (with_reducible first | exact HB.out | apply pa | apply pN | apply p1 | refine bs ?_ E263.out | refine bs ?_ E270.out) | exact HB.out)) hb); have N4 := am (hbox); have N5 := am ((by rw [hg]; exact (bz (by repeat (first | (with_reducible first | exact HB.out | apply pa | apply pN | apply p1 | refine bs ?_ E263.out | refine bs ?_ E270.out) | exact HB.out))) : w.heap.size ≤ g277)); have N6 := am ((by rw [hg]; exact (bz (by repeat (first | (with_reducible first | exact HB.out | apply pa | apply pN | apply p1 | refine bs ?_ E263.out | refine bs ?_ E270.out) | exact HB.out))) : w.heap.size ≤ g277)); have N7 := am ((by rw [hg]; exact Nat.ne_of_lt (bl (g := g263) (o := .cells #[I q t255, I q t256, I q t257, I q t258, I q t259, J Ao48 t260.length co48] 27 (0, 0)) (by (with_reducible repeat (first | apply bN | apply bd | apply ba)); refine bq ?_ NB263_270.out _; (with_reducible repeat (first | apply bN | apply bd | apply ba)); refine bq ?_ NB263_270.out _; (with_reducible repeat (first | apply bN | apply bd | apply ba)); refine bq ?_ NB263_270.out _; (with_reducible repeat (first | apply bN | apply bd | apply ba)); refine bq ?_ NB263_270.out _; (with_reducible repeat (first | apply bN | apply bd | apply ba)); refine bq ?_ NB263_270.out _; (with_reducible repeat (first | apply bN | apply bd | apply ba)); refine bq ?_ NB263_270.out _; (with_reducible repeat (first | apply bN | apply bd | apply ba)); exact B263.out)) : g263 ≠ g277)); have N8 := am ((by rw [hg]; exact Nat.ne_of_gt (bl (g := g263) (o := .cells #[I q t255, I q t256, I q t257, I q t258, I q t259, J Ao48 t260.length co48] 27 (0, 0)) (by (with_reducible repeat (first | apply bN | apply bd | apply ba)); refine bq ?_ NB263_270.out _; (with_reducible repeat (first | apply bN | apply bd | apply ba)); refine bq ?_ NB263_270.out _; (with_reducible repeat (first | apply bN | apply bd | apply ba)); refine bq ?_ NB263_270.out _; (with_reducible repeat (first | apply bN | apply bd | apply ba)); refine bq ?_ NB263_270.out _; (with_reducible repeat (first | apply bN | apply bd | apply ba)); refine bq ?_ NB263_270.out _; (with_reducible repeat (first | apply bN | apply bd | apply ba)); refine bq ?_ NB263_270.out _; (with_reducible repeat (first | apply bN | apply bd | apply ba)); exact B263.out)) : g277 ≠ g263)); have N9 := am ((by rw [hg]; exact Nat.ne_of_lt (bl (g := g270) (o := .cells #[I q t264, I q t265, I q t266, I q t267, I q t268, I q t269] 69 (0, 0)) (by (with_reducible repeat (first | apply bN | apply bd | apply ba)); refine blk_put (cs := #[I q t264, I q t265, I q t266, I q t267, I q t268, I q 0]) ?_ 5 _ rfl; (with_reducible repeat (first | apply bN | apply bd | apply ba)); refine blk_put (cs := #[I q t264, I q t265, I q t266, I q t267, I q 0, I q 0]) ?_ 4 _ rfl; (with_reducible repeat (first | apply bN | apply bd | apply ba)); refine blk_put (cs := #[I q t264, I q t265, I q t266, I q 0, I q 0, I q 0]) ?_ 3 _ rfl; (with_reducible repeat (first | apply bN | apply bd | apply ba)); refine blk_put (cs := #[I q t264, I q t265, I q 0, I q 0, I q 0, I q 0]) ?_ 2 _ rfl; (with_reducible repeat (first | apply bN | apply bd | apply ba)); refine blk_put (cs := #[I q t264, I q 0, I q 0, I q 0, I q 0, I q 0]) ?_ 1 _ rfl; (with_reducible repeat (first | apply bN | apply bd | apply ba)); refine blk_put (cs := #[I q 0, I q 0, I q 0, I q 0, I q 0, I q 0]) ?_ 0 _ rfl; (with_reducible repeat (first | apply bN | apply bd | apply ba)); exact B270.out)) : g270 ≠ g277)); have N10 := am ((by rw [hg]; exact Nat.ne_of_gt (bl (g := g270) (o := .cells #[I q t264, I q t265, I q t266, I q t267, I q t268, I q t269] 69 (0, 0)) (by (with_reducible repeat (first | apply bN | apply bd | apply ba)); refine blk_put (cs := #[I q t264, I q t265, I q t266, I q t267, I q t268, I q 0]) ?_ 5 _ rfl; (with_reducible repeat (first | apply bN | apply bd | apply ba)); refine blk_put (cs := #[I q t264, I q t265, I q t266, I q t267, I q 0, I q 0]) ?_ 4 _ rfl; (with_reducible repeat (first | apply bN | apply bd | apply ba)); refine blk_put (cs := #[I q t264, I q t265, I q t266, I q 0, I q 0, I q 0]) ?_ 3 _ rfl; (with_reducible repeat (first | apply bN | apply bd | apply ba)); refine blk_put (cs := #[I q t264, I q t265, I q 0, I q 0, I q 0, I q 0]) ?_ 2 _ rfl; (with_reducible repeat (first | apply bN | apply bd | apply ba)); refine blk_put (cs := #[I q t264, I q 0, I q 0, I q 0, I q 0, I q 0]) ?_ 1 _ rfl; (with_reducible repeat (first | apply bN | apply bd | apply ba)); refine blk_put (cs := #[I q 0, I q 0, I q 0, I q 0, I q 0, I q 0]) ?_ 0 _ rfl; (with_reducible repeat (first | apply bN | apply bd | apply ba)); exact B270.out)) : g277 ≠ g270)); clear O262 B263 B270 HB; have O262 := N0; have B263 := N1; have B270 := N2; have HB := N3; have B277 := N4; have GW277 := N5; have E277 := N6; have NB263_277 := N7; have NB277_263 := N8; have NB270_277 := N9; have NB277_270 := N10; clear N0 N1 N2 N3 N4 N5 N6 N7 N8 N9 N10 hb hbox hg; have hnb55 := NB277_263.out; have hnc55 := NB263_277.out; have hnb56 := NB277_270.out; have hnc56 := NB270_277.out; have hcz57_0 : w54.cell? ⟨g277, 0, none⟩ = some (I q 0) := (bc B277.out 0).trans rfl; have hcz57_1 : w54.cell? ⟨g277, 1, none⟩ = some (I q 0) := (bc B277.out 1).trans rfl; have hcz57_2 : w54.cell? ⟨g277, 2, none⟩ = some (I q 0) := (bc B277.out 2).trans rfl; have hcz57_3 : w54.cell? ⟨g277, 3, none⟩ = some (I q 0) := (bc B277.out 3).trans rfl; have hcz57_4 : w54.cell? ⟨g277, 4, none⟩ = some (I q 0) := (bc B277.out 4).trans rfl; have hcz57_5 : w54.cell? ⟨g277, 5, none⟩ = some (.slice none 0 0) := (bc B277.out 5).trans rfl; have hfz57_0 := bf B277.out 0; have hfz57_1 := bf B277.out 1; have hfz57_2 := bf B277.out 2; have hfz57_3 := bf B277.out 3; have hfz57_4 := bf B277.out 4; have hfz57_5 := bf B277.out 5) | ((with_reducible refine gate_dst (N := 23) rfl ?_); refine Kd.R_lit (Kd.int .u8) _ 5 ?hg (N := 23) ?hd (xs := ([1, 2] : List Int)) (inner := [.int .u8 1, .int .u8 2]) (ok := fun _ => True) (okp := fun _ => True) ?hr ?hp (fun _ hk => hk) trivial (Below.refl _ _) (Nat.le_refl _) (by simp) ?_; (case hd => rfl); (case hg => rfl); (case hr => first | (go_simp; done) | (go_simp; rfl)); (case hp => exact (Reps.one (show Kd.M (Kd.int .u8) _ _ _ 1 [.int .u8 1] from rfl) (Reps.one (show Kd.M (Kd.int .u8) _ _ _ 2 [.int .u8 2] from rfl) (Reps.none _ _)))); intro v279 w58 ho59 hb hg_ hnew_; clear hg_ hnew_; (first | rw [← Ny278.out] at ho59 | (simp only [Int.reduceToNat] at ho59; rw [← Ny278.out] at ho59)); have N0 := am (re (by (with_reducible repeat (first | apply ra | apply rN | apply rd1)); exact (Kd.R_mono (rf (p := ⟨g277, 5, none⟩) (rf (p := ⟨g277, 4, none⟩) (rf (p := ⟨g277, 3, none⟩) (rf (p := ⟨g277, 2, none⟩) (rf (p := ⟨g277, 1, none⟩) (rf (p := ⟨g277, 0, none⟩) (Kd.R_types O262.out B277.out (by decide)) (fun _ hk => hk.2) (I q t255)) (fun _ hk => hk.2) (I q t256)) (fun _ hk => hk.2) (I q t257)) (fun _ hk => hk.2) (I q t258)) (fun _ hk => hk.2) (I q t259)) (fun _ hk => hk.2) (J Ao48 t260.length co48)) (fun _ h_ => h_.1))) (Kd.R_base ho59) hb); have N1 := am (rw1 (rn ho59 (rl (by (with_reducible repeat (first | apply ra | apply rN | apply rd1)); exact (Kd.R_mono (rf (p := ⟨g277, 5, none⟩) (rf (p := ⟨g277, 4, none⟩) (rf (p := ⟨g277, 3, none⟩) (rf (p := ⟨g277, 2, none⟩) (rf (p := ⟨g277, 1, none⟩) (rf (p := ⟨g277, 0, none⟩) (Kd.R_types O262.out B277.out (by decide)) (fun _ hk => hk.2) (I q t255)) (fun _ hk => hk.2) (I q t256)) (fun _ hk => hk.2) (I q t257)) (fun _ hk => hk.2) (I q t258)) (fun _ hk => hk.2) (I q t259)) (fun _ hk => hk.2) (J Ao48 t260.length co48)) (fun _ h_ => h_.1))))) (bz (by repeat (first | (with_reducible first | exact HB.out | apply pa | apply pN | apply p1 | refine bs ?_ E263.out | refine bs ?_ E270.out | refine bs ?_ E277.out) | exact HB.out)))); have N2 := am (bb (g := g263) (o := .cells #[I q t255, I q t256, I q t257, I q t258, I q t259, J Ao48 t260.length co48] 27 (0, 0)) (by (with_reducible repeat (first | apply bN | apply bd | apply ba)); refine bq ?_ NB263_277.out _; (with_reducible repeat (first | apply bN | apply bd | apply ba)); refine bq ?_ NB263_277.out _; (with_reducible repeat (first | apply bN | apply bd | apply ba)); refine bq ?_ NB263_277.out _; (with_reducible repeat (first | apply bN | apply bd | apply ba)); refine bq ?_ NB263_277.out _; (with_reducible repeat (first | apply bN | apply bd | apply ba)); refine bq ?_ NB263_277.out _; (with_reducible repeat (first | apply bN | apply bd | apply ba)); refine bq ?_ NB263_277.out _; (with_reducible repeat (first | apply bN | apply bd | apply ba)); exact B263.out) hb); have N3 := am (bb (g := g270) (o := .cells #[I q t264, I q t265, I q t266, I q t267, I q t268, I q t269] 69 (0, 0)) (by (with_reducible repeat (first | apply bN | apply bd | apply ba)); refine bq ?_ NB270_277.out _; (with_reducible repeat (first | apply bN | apply bd | apply ba)); refine bq ?_ NB270_277.out _; (with_reducible repeat (first | apply bN | apply bd | apply ba)); refine bq ?_ NB270_277.out _; (with_reducible repeat (first | apply bN | apply bd | apply ba)); refine bq ?_ NB270_277.out _; (with_reducible repeat (first | apply bN | apply bd | apply ba)); refine bq ?_ NB270_277.out _; (with_reducible repeat (first | apply bN | apply bd | apply ba)); refine bq ?_ NB270_277.out _; (with_reducible repeat (first | apply bN | apply bd | apply ba)); exact B270.out) hb); have N4 := am (bb (g := g277) (o := .cells #[I q t255, I q t256, I q t257, I q t258, I q t259, J Ao48 t260.length co48] 27 (0, 0)) (by (with_reducible repeat (first | apply bN | apply bd | apply ba)); refine blk_put (cs := #[I q t255, I q t256, I q t257, I q t258, I q t259, .slice none 0 0]) ?_ 5 _ rfl; (with_reducible repeat (first | apply bN | apply bd | apply ba)); refine blk_put (cs := #[I q t255, I q t256, I q t257, I q t258, I q 0, .slice none 0 0]) ?_ 4 _ rfl; (with_reducible repeat (first | apply bN | apply bd | apply ba)); refine blk_put (cs := #[I q t255, I q t256, I q t257, I q 0, I q 0, .slice none 0 0]) ?_ 3 _ rfl; (with_reducible repeat (first | apply bN | apply bd | apply ba)); refine blk_put (cs := #[I q t255, I q t256, I q 0, I q 0, I q 0, .slice none 0 0]) ?_ 2 _ rfl; (with_reducible repeat (first | apply bN | apply bd | apply ba)); refine blk_put (cs := #[I q t255, I q 0, I q 0, I q 0, I q 0, .slice none 0 0]) ?_ 1 _ rfl; (with_reducible repeat (first | apply bN | apply bd | apply ba)); refine blk_put (cs := #[I q 0, I q 0, I q 0, I q 0, I q 0, .slice none 0 0]) ?_ 0 _ rfl; (with_reducible repeat (first | apply bN | apply bd | apply ba)); exact B277.out) hb); have N5 := am (bp (by repeat (first | (with_reducible first | exact HB.out | apply pa | apply pN | apply p1 | refine bs ?_ E263.out | refine bs ?_ E270.out | refine bs ?_ E277.out) | exact HB.out)) hb); clear O262 B263 B270 B277 HB; have O262 := N0; have O280 := N1; have B263 := N2; have B270 := N3; have B277 := N4; have HB := N5; clear N0 N1 N2 N3 N4 N5 hb ho59; obtain ⟨Ao60, co60, eo60⟩ := Kd.R_slice O280.out; subst eo60; have hcz61_0 : w58.cell? ⟨g277, 0, none⟩ = some (I q t255) := (bc B277.out 0).trans rfl; have hcz61_1 : w58.cell? ⟨g277, 1, none⟩ = some (I q t256) := (bc B277.out 1).trans rfl; have hcz61_2 : w58.cell? ⟨g277, 2, none⟩ = some (I q t257) := (bc B277.out 2).trans rfl; have hcz61_3 : w58.cell? ⟨g277, 3, none⟩ = some (I q t258) := (bc B277.out 3).trans rfl; have hcz61_4 : w58.cell? ⟨g277, 4, none⟩ = some (I q t259) := (bc B277.out 4).trans rfl; have hcz61_5 : w58.cell? ⟨g277, 5, none⟩ = some (J Ao48 t260.length co48) := (bc B277.out 5).trans rfl; have hfz61_0 := bf B277.out 0; have hfz61_1 := bf B277.out 1; have hfz61_2 := bf B277.out 2; have hfz61_3 := bf B277.out 3; have hfz61_4 := bf B277.out 4; have hfz61_5 := bf B277.out 5; have hcz62_0 : w58.cell? ⟨g270, 0, none⟩ = some (I q t264) := (bc B270.out 0).trans rfl; have hcz62_1 : w58.cell? ⟨g270, 1, none⟩ = some (I q t265) := (bc B270.out 1).trans rfl; have hcz62_2 : w58.cell? ⟨g270, 2, none⟩ = some (I q t266) := (bc B270.out 2).trans rfl; have hcz62_3 : w58.cell? ⟨g270, 3, none⟩ = some (I q t267) := (bc B270.out 3).trans rfl; have hcz62_4 : w58.cell? ⟨g270, 4, none⟩ = some (I q t268) := (bc B270.out 4).trans rfl; have hcz62_5 : w58.cell? ⟨g270, 5, none⟩ = some (I q t269) := (bc B270.out 5).trans rfl; have hfz62_0 := bf B270.out 0; have hfz62_1 := bf B270.out 1; have hfz62_2 := bf B270.out 2; have hfz62_3 := bf B270.out 3; have hfz62_4 := bf B270.out 4; have hfz62_5 := bf B270.out 5) | ((with_reducible refine gate_callee (f := 35) rfl ?_); refine goesL_ (some 27) rfl rfl Try.func35 (by kernel_rfl) rfl #[.agg #[I q t265, I q t266, I q t267, I q t268, I q t269]] rfl (by (try simp only [List.map_toArray, List.map_cons, List.map_nil]); first | done | rfl) ?_; (with_reducible refine (impl_HashFlow.calls k t265 t266 t267 t268 t269 t281 t282 _ A7.out).mono ?_); rintro e w63 ⟨rfl, hb⟩; refine ⟨_, rfl, ?_⟩; have N0 := am (rb (by (with_reducible repeat (first | apply ra | apply rN | apply rd1)); exact (Kd.R_mono (rf (p := ⟨g277, 5, none⟩) (Kd.R_types O262.out B277.out (by decide)) (fun _ hk => hk.2) (J Ao60 y278.length co60)) (fun _ h_ => h_.1))) hb); have N1 := am (rb (by (with_reducible repeat (first | apply ra | apply rN | apply rd1)); exact (Kd.R_mono (rf (p := ⟨g277, 5, none⟩) (Kd.R_types O280.out B277.out (by decide)) (fun _ hk => hk.2) (J Ao60 y278.length co60)) (fun _ h_ => h_.1))) hb); have N2 := am (bb (g := g263) (o := .cells #[I q t255, I q t256, I q t257, I q t258, I q t259, J Ao48 t260.length co48] 27 (0, 0)) (by (with_reducible repeat (first | apply bN | apply bd | apply ba)); refine bq ?_ NB263_277.out _; (with_reducible repeat (first | apply bN | apply bd | apply ba)); exact B263.out) hb); have N3 := am (bb (g := g270) (o := .cells #[I q t264, I q t265, I q t266, I q t267, I q t268, I q t269] 69 (0, 0)) (by (with_reducible repeat (first | apply bN | apply bd | apply ba)); refine bq ?_ NB270_277.out _; (with_reducible repeat (first | apply bN | apply bd | apply ba)); exact B270.out) hb); have N4 := am (bb (g := g277) (o := .cells #[I q t255, I q t256, I q t257, I q t258, I q t259, J Ao60 y278.length co60] 27 (0, 0)) (by (with_reducible repeat (first | apply bN | apply bd | apply ba)); refine blk_put (cs := #[I q t255, I q t256, I q t257, I q t258, I q t259, J Ao48 t260.length co48]) ?_ 5 _ rfl; (with_reducible repeat (first | apply bN | apply bd | apply ba)); exact B277.out) hb); have N5 := am (bp (by repeat (first | (with_reducible first | exact HB.out | apply pa | apply pN | apply p1 | refine bs ?_ E263.out | refine bs ?_ E270.out | refine bs ?_ E277.out) | exact HB.out)) hb); clear O262 O280 B263 B270 B277 HB; have O262 := N0; have O280 := N1; have B263 := N2; have B270 := N3; have B277 := N4; have HB := N5; clear N0 N1 N2 N3 N4 N5; (try clear hb); (try clear hb2); (try clear hk); (try clear hi)) | ((with_reducible refine gate_dst (N := 6) rfl ?_); refine box_event ?hg (N := 6) ?hd (cs := #[I q 0, I q 0]) (t := 37) ?hr ?_; (case hd => rfl); (case hg => rfl); (case hr => first | (go_simp; done) | (go_simp; rfl)); intro g283 hg w64 hbox hb; have N0 := am (rb (by (with_reducible repeat (first | apply ra | apply rN | apply rd1)); exact O262.out) hb); have N1 := am (rb (by (with_reducible repeat (first | apply ra | apply rN | apply rd1)); exact O280.out) hb); have N2 := am (bb (g := g263) (by (with_reducible repeat (first | apply bN | apply bd | apply ba)); exact B263.out) hb); have N3 := am (bb (g := g270) (by (with_reducible repeat (first | apply bN | apply bd | apply ba)); exact B270.out) hb); have N4 := am (bb (g := g277) (by (with_reducible repeat (first | apply bN | apply bd | apply ba)); exact B277.out) hb); have N5 := am (bp (by repeat (first | (with_reducible first | exact HB.out | apply pa | apply pN | apply p1 | refine bs ?_ E263.out | refine bs ?_ E270.out | refine bs ?_ E277.out) | exact HB.out)) hb); have N6 := am (hbox); have N7 := am ((by rw [hg]; exact (bz (by repeat (first | (with_reducible first | exact HB.out | apply pa | apply pN | apply p1 | refine bs ?_ E263.out | refine bs ?_ E270.out | refine bs ?_ E277.out) | exact HB.out))) : w.heap.size ≤ g283)); have N8 := am ((by rw [hg]; exact (bz (by repeat (first | (with_reducible first | exact HB.out | apply pa | apply pN | apply p1 | refine bs ?_ E263.out | refine bs ?_ E270.out | refine bs ?_ E277.out) | exact HB.out))) : w.heap.size ≤ g283)); have N9 := am ((by rw [hg]; exact Nat.ne_of_lt (bl (g := g263) (by (with_reducible repeat (first | apply bN | apply bd | apply ba)); exact B263.out)) : g263 ≠ g283)); have N10 := am ((by rw [hg]; exact Nat.ne_of_gt (bl (g := g263) (by (with_reducible repeat (first | apply bN | apply bd | apply ba)); exact B263.out)) : g283 ≠ g263)); have N11 := am ((by rw [hg]; exact Nat.ne_of_lt (bl (g := g270) (by (with_reducible repeat (first | apply bN | apply bd | apply ba)); exact B270.out)) : g270 ≠ g283)); have N12 := am ((by rw [hg]; exact Nat.ne_of_gt (bl (g := g270) (by (with_reducible repeat (first | apply bN | apply bd | apply ba)); exact B270.out)) : g283 ≠ g270)); have N13 := am ((by rw [hg]; exact Nat.ne_of_lt (bl (g := g277) (by (with_reducible repeat (first | apply bN | apply bd | apply ba)); exact B277.out)) : g277 ≠ g283)); have N14 := am ((by rw [hg]; exact Nat.ne_of_gt (bl (g := g277) (by (with_reducible repeat (first | apply bN | apply bd | apply ba)); exact B277.out)) : g283 ≠ g277)); clear O262 O280 B263 B270 B277 HB; have O262 := N0; have O280 := N1; have B263 := N2; have B270 := N3; have B277 := N4; have HB := N5; have B283 := N6; have GW283 := N7; have E283 := N8; have NB263_283 := N9; have NB283_263 := N10; have NB270_283 := N11; have NB283_270 := N12; have NB277_283 := N13; have NB283_277 := N14; clear N0 N1 N2 N3 N4 N5 N6 N7 N8 N9 N10 N11 N12 N13 N14 hb hbox hg; have hnb65 := NB283_263.out; have hnc65 := NB263_283.out; have hnb66 := NB283_270.out; have hnc66 := NB270_283.out; have hnb67 := NB283_277.out; have hnc67 := NB277_283.out; have hcz68_0 : w64.cell? ⟨g283, 0, none⟩ = some (I q 0) := (bc B283.out 0).trans rfl; have hcz68_1 : w64.cell? ⟨g283, 1, none⟩ = some (I q 0) := (bc B283.out 1).trans rfl; have hfz68_0 := bf B283.out 0; have hfz68_1 := bf B283.out 1))
      have N0 : Aside0 (Kd.R (Kd.int .u8) 5 ((w64.setCell ⟨g283, 0, none⟩ (I q t281)).setCell ⟨g283, 1, none⟩ (I q t282)) w.heap.size (fun k_ => some k_ ≠ (J Ao60 y278.length co60 : Value).ownBlock) (J Ao48 t260.length co48) t260) := ⟨by (with_reducible repeat (first | apply ra | apply rN | apply rd1)); exact Kd.R_mono (rf (p := ⟨g283, 1, none⟩) (rf (p := ⟨g283, 0, none⟩) (Kd.R_types O262.out B283.out (by decide)) (fun _ hk => hk.2) (I q t281)) (fun _ hk => hk.2) (I q t282)) (fun _ hk => hk.1.2)⟩
      have N1 : Aside0 (Kd.R (Kd.int .u8) 5 ((w64.setCell ⟨g283, 0, none⟩ (I q t281)).setCell ⟨g283, 1, none⟩ (I q t282)) w.heap.size (fun k_ => some k_ ≠ (J Ao48 t260.length co48 : Value).ownBlock) (J Ao60 y278.length co60) y278) := ⟨by (with_reducible repeat (first | apply ra | apply rN | apply rd1)); exact Kd.R_mono (rf (p := ⟨g283, 1, none⟩) (rf (p := ⟨g283, 0, none⟩) (Kd.R_types O280.out B283.out (by decide)) (fun _ hk => hk.2) (I q t281)) (fun _ hk => hk.2) (I q t282)) (fun _ hk => hk.1.2)⟩
      have N2 : Aside0 (((w64.setCell ⟨g283, 0, none⟩ (I q t281)).setCell ⟨g283, 1, none⟩ (I q t282)).heap[g263]? = some (.cells #[I q t255, I q t256, I q t257, I q t258, I q t259, J Ao48 t260.length co48] 27 (0, 0))) := ⟨by (with_reducible repeat (first | apply bN | apply bd | apply ba)); refine bq ?_ NB263_283.out _; (with_reducible repeat (first | apply bN | apply bd | apply ba)); refine bq ?_ NB263_283.out _; (with_reducible repeat (first | apply bN | apply bd | apply ba)); exact B263.out⟩
      have N3 : Aside0 (((w64.setCell ⟨g283, 0, none⟩ (I q t281)).setCell ⟨g283, 1, none⟩ (I q t282)).heap[g270]? = some (.cells #[I q t264, I q t265, I q t266, I q t267, I q t268, I q t269] 69 (0, 0))) := ⟨by (with_reducible repeat (first | apply bN | apply bd | apply ba)); refine bq ?_ NB270_283.out _; (with_reducible repeat (first | apply bN | apply bd | apply ba)); refine bq ?_ NB270_283.out _; (with_reducible repeat (first | apply bN | apply bd | apply ba)); exact B270.out⟩
      have N4 : Aside0 (((w64.setCell ⟨g283, 0, none⟩ (I q t281)).setCell ⟨g283, 1, none⟩ (I q t282)).heap[g277]? = some (.cells #[I q t255, I q t256, I q t257, I q t258, I q t259, J Ao60 y278.length co60] 27 (0, 0))) := ⟨by (with_reducible repeat (first | apply bN | apply bd | apply ba)); refine bq ?_ NB277_283.out _; (with_reducible repeat (first | apply bN | apply bd | apply ba)); refine bq ?_ NB277_283.out _; (with_reducible repeat (first | apply bN | apply bd | apply ba)); exact B277.out⟩
      have N5 : Aside0 (((w64.setCell ⟨g283, 0, none⟩ (I q t281)).setCell ⟨g283, 1, none⟩ (I q t282)).heap[g283]? = some (.cells #[I q t281, I q t282] 37 (0, 0))) := ⟨by (with_reducible repeat (first | apply bN | apply bd | apply ba)); refine blk_put (cs := #[I q t281, I q 0]) ?_ 1 _ rfl; (with_reducible repeat (first | apply bN | apply bd | apply ba)); refine blk_put (cs := #[I q 0, I q 0]) ?_ 0 _ rfl; (with_reducible repeat (first | apply bN | apply bd | apply ba)); exact B283.out⟩
      have N6 : Aside0 (Below w.heap.size w ((w64.setCell ⟨g283, 0, none⟩ (I q t281)).setCell ⟨g283, 1, none⟩ (I q t282))) := ⟨by repeat (first | (with_reducible first | exact HB.out | apply pa | apply pN | apply p1 | refine bs ?_ E263.out | refine bs ?_ E270.out | refine bs ?_ E277.out | refine bs ?_ E283.out) | exact HB.out)⟩
      (try clear O262)
      (try clear O280)
      (try clear B263)
      (try clear B270)
      (try clear B277)
      (try clear B283)
      (try clear HB)
      generalize ((w64.setCell ⟨g283, 0, none⟩ (I q t281)).setCell ⟨g283, 1, none⟩ (I q t282)) = w69 at N0 N1 N2 N3 N4 N5 N6 ⊢
      have O262 := N0
      have O280 := N1
      have B263 := N2
      have B270 := N3
      have B277 := N4
      have B283 := N5
      have HB := N6
      clear N0 N1 N2 N3 N4 N5 N6
      have N0 := am (rd1 O262.out)
      have N1 := am (rd1 O280.out)
      have N2 := am (bd B263.out)
      have N3 := am (bd B270.out)
      have N4 := am (bd B277.out)
      have N5 := am (bd B283.out)
      have N6 := am (p1 HB.out)
      clear O262
      clear O280
      clear B263
      clear B270
      clear B277
      clear B283
      clear HB
      have O262 := N0
      have O280 := N1
      have B263 := N2
      have B270 := N3
      have B277 := N4
      have B283 := N5
      have HB := N6
      clear N0 N1 N2 N3 N4 N5 N6
      refine start_ (n := 36) (S := fun w' => w'.cell? ⟨g277, 0, none⟩ = some (I q t255) ∧ w'.cell? ⟨g277, 1, none⟩ = some (I q t256) ∧ w'.cell? ⟨g277, 2, none⟩ = some (I q t257) ∧ w'.cell? ⟨g277, 3, none⟩ = some (I q t258) ∧ w'.cell? ⟨g277, 4, none⟩ = some (I q t259) ∧ w'.cell? ⟨g277, 5, none⟩ = some (J Ao60 y278.length co60) ∧ w'.cell? ⟨g270, 0, none⟩ = some (I q t264) ∧ w'.cell? ⟨g270, 1, none⟩ = some (I q t265) ∧ w'.cell? ⟨g270, 2, none⟩ = some (I q t266) ∧ w'.cell? ⟨g270, 3, none⟩ = some (I q t267) ∧ w'.cell? ⟨g270, 4, none⟩ = some (I q t268) ∧ w'.cell? ⟨g270, 5, none⟩ = some (I q t269) ∧ w'.cell? ⟨g283, 0, none⟩ = some (I q t281) ∧ w'.cell? ⟨g283, 1, none⟩ = some (I q t282)) (ds := []) #[false, false, false, false, false, false, false, false, false, false, false, false, false, false, false, false, false, false, false, false, false, false, false, false, false, false, false, false, false, false, false, false, false, false, false, false] (by kernel_rfl) rfl rfl ⟨(bc B277.out 0).trans rfl, (bc B277.out 1).trans rfl, (bc B277.out 2).trans rfl, (bc B277.out 3).trans rfl, (bc B277.out 4).trans rfl, (bc B277.out 5).trans rfl, (bc B270.out 0).trans rfl, (bc B270.out 1).trans rfl, (bc B270.out 2).trans rfl, (bc B270.out 3).trans rfl, (bc B270.out 4).trans rfl, (bc B270.out 5).trans rfl, (bc B283.out 0).trans rfl, (bc B283.out 1).trans rfl⟩ (fun hHeld => ?_); refine with_tabW laws_FnHashes.tab10 laws_FnHashes.bits10 (fun HT_ HW_ => ?_)
      generalize w69.drew = w70 at O262 O280 B263 B270 B277 B283 HB hHeld ⊢
      refine take_ (i := 0) (N := some 28) (v := ?_) (a' := ?_) #[true, false, false, false, false, false, false, false, false, false, false, false, false, false, false, false, false, false, false, false, false, false, false, false, false, false, false, false, false, false, false, false, false, false, false, false] rfl rfl (take_ofW HT_.out HW_.out (by kernel_rfl)) (fun _ _ _ h => h) (Or.inl ⟨by rfl, ?_⟩) hHeld ?_ ?_
      rotate_left
      · rintro w' ⟨s0, s1, s2, s3, s4, s5, s6, s7, s8, s9, s10, s11, s12, s13⟩
        go_simp
        with_reducible rfl
      rotate_left
      · simp only [Act.put, List.setIfInBounds_toArray, List.set_cons_zero, List.set_cons_succ, i64_w, i32_w]
        rfl
      refine take_ (i := 2) (N := some 30) (v := ?_) (a' := ?_) #[true, false, true, false, false, false, false, false, false, false, false, false, false, false, false, false, false, false, false, false, false, false, false, false, false, false, false, false, false, false, false, false, false, false, false, false] rfl rfl (take_ofW HT_.out HW_.out (by kernel_rfl)) (fun _ _ _ h => h) (Or.inl ⟨by rfl, ?_⟩) hHeld ?_ ?_
      rotate_left
      · rintro w' ⟨s0, s1, s2, s3, s4, s5, s6, s7, s8, s9, s10, s11, s12, s13⟩
        go_simp
        with_reducible rfl
      rotate_left
      · simp only [Act.put, List.setIfInBounds_toArray, List.set_cons_zero, List.set_cons_succ, i64_w, i32_w]
        rfl
      refine one_ (i := 1) (N := some 29) #[true, true, true, false, false, false, false, false, false, false, false, false, false, false, false, false, false, false, false, false, false, false, false, false, false, false, false, false, false, false, false, false, false, false, false, false] rfl rfl (one_of HT_.out (by kernel_rfl)) (by decide) (fun K hK => ?_)
      refine goes_ Try.func47 (by kernel_rfl) rfl #[.agg #[I q t255, I q t256, I q t257, I q t258, I q t259, J Ao60 y278.length co60]] (by rfl) rfl rfl (by (try simp only [List.map_toArray, List.map_cons, List.map_nil]); first | done | rfl | (simp only [List.length_drop, List.length_take]; rfl)) ?_
      with_reducible refine (impl_FlowOf.calls k t255 t256 t257 t258 t259 _ _ y278 t284 t285 t286 t287 t288 t289 _ ?side1 ?side2 A8.out).mono ?_
      (case side1 => repeat (first | exact (Kd.R_reads' O280.out).2.2 | (with_reducible refine ca ?_ _) | (with_reducible refine cN ?_ _) | (with_reducible refine cd1 ?_)))
      (case side2 => exact (Kd.R_reads' O280.out).2.1)
      rintro e w71 ⟨rfl, hb⟩
      refine ⟨_, rfl, ?_⟩
      have N0 := am (rb (by (with_reducible repeat (first | apply ra | apply rN | apply rd1)); exact O262.out) hb)
      have N1 := am (rb (by (with_reducible repeat (first | apply ra | apply rN | apply rd1)); exact O280.out) hb)
      have N2 := am (bb (g := g263) (by (with_reducible repeat (first | apply bN | apply bd | apply ba)); exact B263.out) hb)
      have N3 := am (bb (g := g270) (by (with_reducible repeat (first | apply bN | apply bd | apply ba)); exact B270.out) hb)
      have N4 := am (bb (g := g277) (by (with_reducible repeat (first | apply bN | apply bd | apply ba)); exact B277.out) hb)
      have N5 := am (bb (g := g283) (by (with_reducible repeat (first | apply bN | apply bd | apply ba)); exact B283.out) hb)
      have N6 := am (bp (by repeat (first | (with_reducible first | exact HB.out | apply pa | apply pN | apply p1 | refine bs ?_ E263.out | refine bs ?_ E270.out | refine bs ?_ E277.out | refine bs ?_ E283.out) | exact HB.out)) hb)
      clear O262
      clear O280
      clear B263
      clear B270
      clear B277
      clear B283
      clear HB
      have O262 := N0
      have O280 := N1
      have B263 := N2
      have B270 := N3
      have B277 := N4
      have B283 := N5
      have HB := N6
      clear N0 N1 N2 N3 N4 N5 N6
      (try clear hb)
      (try clear hb2)
      (try clear hk)
      (try clear hi)
      refine hK.out _ _ ⟨(bc B277.out 0).trans rfl, (bc B277.out 1).trans rfl, (bc B277.out 2).trans rfl, (bc B277.out 3).trans rfl, (bc B277.out 4).trans rfl, (bc B277.out 5).trans rfl, (bc B270.out 0).trans rfl, (bc B270.out 1).trans rfl, (bc B270.out 2).trans rfl, (bc B270.out 3).trans rfl, (bc B270.out 4).trans rfl, (bc B270.out 5).trans rfl, (bc B283.out 0).trans rfl, (bc B283.out 1).trans rfl⟩ (fun hHeld => ?_)
      clear hK K
      refine norm_ (a' := ?_) ?_ ?_
      rotate_left
      · show Act.put _ (some 29) _ = _
        simp only [Act.put, List.setIfInBounds_toArray, List.set_cons_zero, List.set_cons_succ, i64_w, i32_w]
        rfl
      refine pure_ (i := 3) (N := some 31) (v := ?_) (a' := ?_) #[true, true, true, true, false, false, false, false, false, false, false, false, false, false, false, false, false, false, false, false, false, false, false, false, false, false, false, false, false, false, false, false, false, false, false, false] rfl rfl (any_of HT_.out (by kernel_rfl)) (fun _ _ _ h => h) (Or.inl ⟨by rfl, ?_⟩) ?_ ?_
      rotate_left
      · intro w'
        first | (go_simp; with_reducible rfl) | (go_simp; (try unfold Instr.field); go_simp; (try simp only [asAgg]); go_simp; with_reducible rfl)
      rotate_left
      · simp only [Act.put, List.setIfInBounds_toArray, List.set_cons_zero, List.set_cons_succ, i64_w, i32_w]
        rfl
      refine pure_ (i := 4) (N := some 32) (v := ?_) (a' := ?_) #[true, true, true, true, true, false, false, false, false, false, false, false, false, false, false, false, false, false, false, false, false, false, false, false, false, false, false, false, false, false, false, false, false, false, false, false] rfl rfl (any_of HT_.out (by kernel_rfl)) (fun _ _ _ h => h) (Or.inl ⟨by rfl, ?_⟩) ?_ ?_
      rotate_left
      · intro w'
        first | (go_simp; with_reducible rfl) | (go_simp; (try unfold Instr.field); go_simp; (try simp only [asAgg]); go_simp; with_reducible rfl)
      rotate_left
      · simp only [Act.put, List.setIfInBounds_toArray, List.set_cons_zero, List.set_cons_succ, i64_w, i32_w]
        rfl
      refine pure_ (i := 5) (N := some 33) (v := ?_) (a' := ?_) #[true, true, true, true, true, true, false, false, false, false, false, false, false, false, false, false, false, false, false, false, false, false, false, false, false, false, false, false, false, false, false, false, false, false, false, false] rfl rfl (any_of HT_.out (by kernel_rfl)) (fun _ _ _ h => h) (Or.inl ⟨by rfl, ?_⟩) ?_ ?_
      rotate_left
      · intro w'
        first | (go_simp; with_reducible rfl) | (go_simp; (try unfold Instr.field); go_simp; (try simp only [asAgg]); go_simp; with_reducible rfl)
      rotate_left
      · simp only [Act.put, List.setIfInBounds_toArray, List.set_cons_zero, List.set_cons_succ, i64_w, i32_w]
        rfl
      refine take_ (i := 6) (N := some 34) (v := ?_) (a' := ?_) #[true, true, true, true, true, true, true, false, false, false, false, false, false, false, false, false, false, false, false, false, false, false, false, false, false, false, false, false, false, false, false, false, false, false, false, false] rfl rfl (take_ofW HT_.out HW_.out (by kernel_rfl)) (fun _ _ _ h => h) (Or.inl ⟨by rfl, ?_⟩) hHeld ?_ ?_
      rotate_left
      · rintro w' ⟨s0, s1, s2, s3, s4, s5, s6, s7, s8, s9, s10, s11, s12, s13⟩
        go_simp
        with_reducible rfl
      rotate_left
      · simp only [Act.put, List.setIfInBounds_toArray, List.set_cons_zero, List.set_cons_succ, i64_w, i32_w]
        rfl
      refine pure_ (i := 7) (N := some 35) (v := ?_) (a' := ?_) #[true, true, true, true, true, true, true, true, false, false, false, false, false, false, false, false, false, false, false, false, false, false, false, false, false, false, false, false, false, false, false, false, false, false, false, false] rfl rfl (any_of HT_.out (by kernel_rfl)) (fun _ _ _ h => h) (Or.inl ⟨by rfl, ?_⟩) ?_ ?_
      rotate_left
      · intro w'
        first | (go_simp; with_reducible rfl) | (go_simp; (try unfold Instr.field); go_simp; (try simp only [asAgg]); go_simp; with_reducible rfl)
      rotate_left
      · simp only [Act.put, List.setIfInBounds_toArray, List.set_cons_zero, List.set_cons_succ, i64_w, i32_w]
        rfl
      refine pure_ (i := 8) (N := some 36) (v := ?_) (a' := ?_) #[true, true, true, true, true, true, true, true, true, false, false, false, false, false, false, false, false, false, false, false, false, false, false, false, false, false, false, false, false, false, false, false, false, false, false, false] rfl rfl (any_of HT_.out (by kernel_rfl)) (fun _ _ _ h => h) (Or.inl ⟨by rfl, ?_⟩) ?_ ?_
      rotate_left
      · intro w'
        first | (go_simp; with_reducible rfl) | (go_simp; (try unfold Instr.field); go_simp; (try simp only [asAgg]); go_simp; with_reducible rfl)
      rotate_left
      · simp only [Act.put, List.setIfInBounds_toArray, List.set_cons_zero, List.set_cons_succ, i64_w, i32_w]
        rfl
      refine pure_ (i := 9) (N := some 37) (v := ?_) (a' := ?_) #[true, true, true, true, true, true, true, true, true, true, false, false, false, false, false, false, false, false, false, false, false, false, false, false, false, false, false, false, false, false, false, false, false, false, false, false] rfl rfl (any_of HT_.out (by kernel_rfl)) (fun _ _ _ h => h) (Or.inl ⟨by rfl, ?_⟩) ?_ ?_
      rotate_left
      · intro w'
        first | (go_simp; with_reducible rfl) | (go_simp; (try unfold Instr.field); go_simp; (try simp only [asAgg]); go_simp; with_reducible rfl)
      rotate_left
      · simp only [Act.put, List.setIfInBounds_toArray, List.set_cons_zero, List.set_cons_succ, i64_w, i32_w]
        rfl
      refine pure_ (i := 10) (N := some 38) (v := ?_) (a' := ?_) #[true, true, true, true, true, true, true, true, true, true, true, false, false, false, false, false, false, false, false, false, false, false, false, false, false, false, false, false, false, false, false, false, false, false, false, false] rfl rfl (any_of HT_.out (by kernel_rfl)) (fun _ _ _ h => h) (Or.inl ⟨by rfl, ?_⟩) ?_ ?_
      rotate_left
      · intro w'
        first | (go_simp; with_reducible rfl) | (go_simp; (try unfold Instr.field); go_simp; (try simp only [asAgg]); go_simp; with_reducible rfl)
      rotate_left
      · simp only [Act.put, List.setIfInBounds_toArray, List.set_cons_zero, List.set_cons_succ, i64_w, i32_w]
        rfl
      refine take_ (i := 11) (N := some 39) (v := ?_) (a' := ?_) #[true, true, true, true, true, true, true, true, true, true, true, true, false, false, false, false, false, false, false, false, false, false, false, false, false, false, false, false, false, false, false, false, false, false, false, false] rfl rfl (take_ofW HT_.out HW_.out (by kernel_rfl)) (fun _ _ _ h => h) (Or.inl ⟨by rfl, ?_⟩) hHeld ?_ ?_
      rotate_left
      · rintro w' ⟨s0, s1, s2, s3, s4, s5, s6, s7, s8, s9, s10, s11, s12, s13⟩
        go_simp
        with_reducible rfl
      rotate_left
      · simp only [Act.put, List.setIfInBounds_toArray, List.set_cons_zero, List.set_cons_succ, i64_w, i32_w]
        rfl
      refine pure_ (i := 12) (N := some 40) (v := ?_) (a' := ?_) #[true, true, true, true, true, true, true, true, true, true, true, true, true, false, false, false, false, false, false, false, false, false, false, false, false, false, false, false, false, false, false, false, false, false, false, false] rfl rfl (any_of HT_.out (by kernel_rfl)) (fun _ _ _ h => h) (Or.inl ⟨by rfl, ?_⟩) ?_ ?_
      rotate_left
      · intro w'
        first | (go_simp; with_reducible rfl) | (go_simp; (try unfold Instr.field); go_simp; (try simp only [asAgg]); go_simp; with_reducible rfl)
      rotate_left
      · simp only [Act.put, List.setIfInBounds_toArray, List.set_cons_zero, List.set_cons_succ, i64_w, i32_w]
        rfl
      refine pure_ (i := 13) (N := some 41) (v := ?_) (a' := ?_) #[true, true, true, true, true, true, true, true, true, true, true, true, true, true, false, false, false, false, false, false, false, false, false, false, false, false, false, false, false, false, false, false, false, false, false, false] rfl rfl (any_of HT_.out (by kernel_rfl)) (fun _ _ _ h => h) (Or.inl ⟨by rfl, ?_⟩) ?_ ?_
      rotate_left
      · intro w'
        first | (go_simp; with_reducible rfl) | (go_simp; (try unfold Instr.field); go_simp; (try simp only [asAgg]); go_simp; with_reducible rfl)
      rotate_left
      · simp only [Act.put, List.setIfInBounds_toArray, List.set_cons_zero, List.set_cons_succ, i64_w, i32_w]
        rfl
      refine pure_ (i := 14) (N := some 42) (v := ?_) (a' := ?_) #[true, true, true, true, true, true, true, true, true, true, true, true, true, true, true, false, false, false, false, false, false, false, false, false, false, false, false, false, false, false, false, false, false, false, false, false] rfl rfl (any_of HT_.out (by kernel_rfl)) (fun _ _ _ h => h) (Or.inl ⟨by rfl, ?_⟩) ?_ ?_
      rotate_left
      · intro w'
        first | (go_simp; with_reducible rfl) | (go_simp; (try unfold Instr.field); go_simp; (try simp only [asAgg]); go_simp; with_reducible rfl)
      rotate_left
      · simp only [Act.put, List.setIfInBounds_toArray, List.set_cons_zero, List.set_cons_succ, i64_w, i32_w]
        rfl
      refine pure_ (i := 15) (N := some 43) (v := ?_) (a' := ?_) #[true, true, true, true, true, true, true, true, true, true, true, true, true, true, true, true, false, false, false, false, false, false, false, false, false, false, false, false, false, false, false, false, false, false, false, false] rfl rfl (any_of HT_.out (by kernel_rfl)) (fun _ _ _ h => h) (Or.inl ⟨by rfl, ?_⟩) ?_ ?_
      rotate_left
      · intro w'
        first | (go_simp; with_reducible rfl) | (go_simp; (try unfold Instr.field); go_simp; (try simp only [asAgg]); go_simp; with_reducible rfl)
      rotate_left
      · simp only [Act.put, List.setIfInBounds_toArray, List.set_cons_zero, List.set_cons_succ, i64_w, i32_w]
        rfl
      refine take_ (i := 16) (N := some 44) (v := ?_) (a' := ?_) #[true, true, true, true, true, true, true, true, true, true, true, true, true, true, true, true, true, false, false, false, false, false, false, false, false, false, false, false, false, false, false, false, false, false, false, false] rfl rfl (take_ofW HT_.out HW_.out (by kernel_rfl)) (fun _ _ _ h => h) (Or.inl ⟨by rfl, ?_⟩) hHeld ?_ ?_
      rotate_left
      · rintro w' ⟨s0, s1, s2, s3, s4, s5, s6, s7, s8, s9, s10, s11, s12, s13⟩
        go_simp
        with_reducible rfl
      rotate_left
      · simp only [Act.put, List.setIfInBounds_toArray, List.set_cons_zero, List.set_cons_succ, i64_w, i32_w]
        rfl
      refine pure_ (i := 17) (N := some 45) (v := ?_) (a' := ?_) #[true, true, true, true, true, true, true, true, true, true, true, true, true, true, true, true, true, true, false, false, false, false, false, false, false, false, false, false, false, false, false, false, false, false, false, false] rfl rfl (any_of HT_.out (by kernel_rfl)) (fun _ _ _ h => h) (Or.inl ⟨by rfl, ?_⟩) ?_ ?_
      rotate_left
      · intro w'
        first | (go_simp; with_reducible rfl) | (go_simp; (try unfold Instr.field); go_simp; (try simp only [asAgg]); go_simp; with_reducible rfl)
      rotate_left
      · simp only [Act.put, List.setIfInBounds_toArray, List.set_cons_zero, List.set_cons_succ, i64_w, i32_w]
        rfl
      refine pure_ (i := 18) (N := some 46) (v := ?_) (a' := ?_) #[true, true, true, true, true, true, true, true, true, true, true, true, true, true, true, true, true, true, true, false, false, false, false, false, false, false, false, false, false, false, false, false, false, false, false, false] rfl rfl (any_of HT_.out (by kernel_rfl)) (fun _ _ _ h => h) (Or.inl ⟨by rfl, ?_⟩) ?_ ?_
      rotate_left
      · intro w'
        first | (go_simp; with_reducible rfl) | (go_simp; (try unfold Instr.field); go_simp; (try simp only [asAgg]); go_simp; with_reducible rfl)
      rotate_left
      · simp only [Act.put, List.setIfInBounds_toArray, List.set_cons_zero, List.set_cons_succ, i64_w, i32_w]
        rfl
      refine pure_ (i := 19) (N := some 47) (v := ?_) (a' := ?_) #[true, true, true, true, true, true, true, true, true, true, true, true, true, true, true, true, true, true, true, true, false, false, false, false, false, false, false, false, false, false, false, false, false, false, false, false] rfl rfl (any_of HT_.out (by kernel_rfl)) (fun _ _ _ h => h) (Or.inl ⟨by rfl, ?_⟩) ?_ ?_
      rotate_left
      · intro w'
        first | (go_simp; with_reducible rfl) | (go_simp; (try unfold Instr.field); go_simp; (try simp only [asAgg]); go_simp; with_reducible rfl)
      rotate_left
      · simp only [Act.put, List.setIfInBounds_toArray, List.set_cons_zero, List.set_cons_succ, i64_w, i32_w]
        rfl
      refine take_ (i := 20) (N := some 48) (v := ?_) (a' := ?_) #[true, true, true, true, true, true, true, true, true, true, true, true, true, true, true, true, true, true, true, true, true, false, false, false, false, false, false, false, false, false, false, false, false, false, false, false] rfl rfl (take_ofW HT_.out HW_.out (by kernel_rfl)) (fun _ _ _ h => h) (Or.inl ⟨by rfl, ?_⟩) hHeld ?_ ?_
      rotate_left
      · rintro w' ⟨s0, s1, s2, s3, s4, s5, s6, s7, s8, s9, s10, s11, s12, s13⟩
        go_simp
        with_reducible rfl
      rotate_left
      · simp only [Act.put, List.setIfInBounds_toArray, List.set_cons_zero, List.set_cons_succ, i64_w, i32_w]
        rfl
      refine take_ (i := 24) (N := some 52) (v := ?_) (a' := ?_) #[true, true, true, true, true, true, true, true, true, true, true, true, true, true, true, true, true, true, true, true, true, false, false, false, true, false, false, false, false, false, false, false, false, false, false, false] rfl rfl (take_ofW HT_.out HW_.out (by kernel_rfl)) (fun _ _ _ h => h) (Or.inl ⟨by rfl, ?_⟩) hHeld ?_ ?_
      rotate_left
      · rintro w' ⟨s0, s1, s2, s3, s4, s5, s6, s7, s8, s9, s10, s11, s12, s13⟩
        go_simp
        with_reducible rfl
      rotate_left
      · simp only [Act.put, List.setIfInBounds_toArray, List.set_cons_zero, List.set_cons_succ, i64_w, i32_w]
        rfl
      refine one_ (i := 21) (N := some 49) #[true, true, true, true, true, true, true, true, true, true, true, true, true, true, true, true, true, true, true, true, true, true, false, false, true, false, false, false, false, false, false, false, false, false, false, false] rfl rfl (one_of HT_.out (by kernel_rfl)) (by decide) (fun K hK => ?_)
      refine goes_ Try.func47 (by kernel_rfl) rfl #[.agg #[I q t255, I q t256, I q t257, I q t258, I q t259, J Ao60 y278.length co60]] (by rfl) rfl rfl (by (try simp only [List.map_toArray, List.map_cons, List.map_nil]); first | done | rfl | (simp only [List.length_drop, List.length_take]; rfl)) ?_
      with_reducible refine (impl_FlowOf.calls k t255 t256 t257 t258 t259 _ _ y278 t290 t291 t292 t293 t294 t295 _ ?side1 ?side2 A13.out).mono ?_
      (case side1 => repeat (first | exact (Kd.R_reads' O280.out).2.2 | (with_reducible refine ca ?_ _) | (with_reducible refine cN ?_ _) | (with_reducible refine cd1 ?_)))
      (case side2 => exact (Kd.R_reads' O280.out).2.1)
      rintro e w72 ⟨rfl, hb⟩
      refine ⟨_, rfl, ?_⟩
      have N0 := am (rb (by (with_reducible repeat (first | apply ra | apply rN | apply rd1)); exact O262.out) hb)
      have N1 := am (rb (by (with_reducible repeat (first | apply ra | apply rN | apply rd1)); exact O280.out) hb)
      have N2 := am (bb (g := g263) (by (with_reducible repeat (first | apply bN | apply bd | apply ba)); exact B263.out) hb)
      have N3 := am (bb (g := g270) (by (with_reducible repeat (first | apply bN | apply bd | apply ba)); exact B270.out) hb)
      have N4 := am (bb (g := g277) (by (with_reducible repeat (first | apply bN | apply bd | apply ba)); exact B277.out) hb)
      have N5 := am (bb (g := g283) (by (with_reducible repeat (first | apply bN | apply bd | apply ba)); exact B283.out) hb)
      have N6 := am (bp (by repeat (first | (with_reducible first | exact HB.out | apply pa | apply pN | apply p1 | refine bs ?_ E263.out | refine bs ?_ E270.out | refine bs ?_ E277.out | refine bs ?_ E283.out) | exact HB.out)) hb)
      clear O262
      clear O280
      clear B263
      clear B270
      clear B277
      clear B283
      clear HB
      have O262 := N0
      have O280 := N1
      have B263 := N2
      have B270 := N3
      have B277 := N4
      have B283 := N5
      have HB := N6
      clear N0 N1 N2 N3 N4 N5 N6
      (try clear hb)
      (try clear hb2)
      (try clear hk)
      (try clear hi)
      refine hK.out _ _ ⟨(bc B277.out 0).trans rfl, (bc B277.out 1).trans rfl, (bc B277.out 2).trans rfl, (bc B277.out 3).trans rfl, (bc B277.out 4).trans rfl, (bc B277.out 5).trans rfl, (bc B270.out 0).trans rfl, (bc B270.out 1).trans rfl, (bc B270.out 2).trans rfl, (bc B270.out 3).trans rfl, (bc B270.out 4).trans rfl, (bc B270.out 5).trans rfl, (bc B283.out 0).trans rfl, (bc B283.out 1).trans rfl⟩ (fun hHeld => ?_)
      clear hK K
      refine norm_ (a' := ?_) ?_ ?_
      rotate_left
      · show Act.put _ (some 49) _ = _
        simp only [Act.put, List.setIfInBounds_toArray, List.set_cons_zero, List.set_cons_succ, i64_w, i32_w]
        rfl
      refine pure_ (i := 22) (N := some 50) (v := ?_) (a' := ?_) #[true, true, true, true, true, true, true, true, true, true, true, true, true, true, true, true, true, true, true, true, true, true, true, false, true, false, false, false, false, false, false, false, false, false, false, false] rfl rfl (any_of HT_.out (by kernel_rfl)) (fun _ _ _ h => h) (Or.inl ⟨by rfl, ?_⟩) ?_ ?_
      rotate_left
      · intro w'
        first | (go_simp; with_reducible rfl) | (go_simp; (try unfold Instr.field); go_simp; (try simp only [asAgg]); go_simp; with_reducible rfl)
      rotate_left
      · simp only [Act.put, List.setIfInBounds_toArray, List.set_cons_zero, List.set_cons_succ, i64_w, i32_w]
        rfl
      refine one_ (i := 23) (N := some 51) #[true, true, true, true, true, true, true, true, true, true, true, true, true, true, true, true, true, true, true, true, true, true, true, true, true, false, false, false, false, false, false, false, false, false, false, false] rfl rfl (one_of HT_.out (by kernel_rfl)) (by decide) (fun K hK => ?_)
      refine goes_ Try.func35 (by kernel_rfl) rfl #[.agg #[I q t291, I q t292, I q t293, I q t294, I q t295]] (by rfl) rfl rfl (by (try simp only [List.map_toArray, List.map_cons, List.map_nil]); first | done | rfl | (simp only [List.length_drop, List.length_take]; rfl)) ?_
      with_reducible refine (impl_HashFlow.calls k t291 t292 t293 t294 t295 t296 t297 _ A14.out).mono ?_
      rintro e w73 ⟨rfl, hb⟩
      refine ⟨_, rfl, ?_⟩
      have N0 := am (rb (by (with_reducible repeat (first | apply ra | apply rN | apply rd1)); exact O262.out) hb)
      have N1 := am (rb (by (with_reducible repeat (first | apply ra | apply rN | apply rd1)); exact O280.out) hb)
      have N2 := am (bb (g := g263) (by (with_reducible repeat (first | apply bN | apply bd | apply ba)); exact B263.out) hb)
      have N3 := am (bb (g := g270) (by (with_reducible repeat (first | apply bN | apply bd | apply ba)); exact B270.out) hb)
      have N4 := am (bb (g := g277) (by (with_reducible repeat (first | apply bN | apply bd | apply ba)); exact B277.out) hb)
      have N5 := am (bb (g := g283) (by (with_reducible repeat (first | apply bN | apply bd | apply ba)); exact B283.out) hb)
      have N6 := am (bp (by repeat (first | (with_reducible first | exact HB.out | apply pa | apply pN | apply p1 | refine bs ?_ E263.out | refine bs ?_ E270.out | refine bs ?_ E277.out | refine bs ?_ E283.out) | exact HB.out)) hb)
      clear O262
      clear O280
      clear B263
      clear B270
      clear B277
      clear B283
      clear HB
      have O262 := N0
      have O280 := N1
      have B263 := N2
      have B270 := N3
      have B277 := N4
      have B283 := N5
      have HB := N6
      clear N0 N1 N2 N3 N4 N5 N6
      (try clear hb)
      (try clear hb2)
      (try clear hk)
      (try clear hi)
      refine hK.out _ _ ⟨(bc B277.out 0).trans rfl, (bc B277.out 1).trans rfl, (bc B277.out 2).trans rfl, (bc B277.out 3).trans rfl, (bc B277.out 4).trans rfl, (bc B277.out 5).trans rfl, (bc B270.out 0).trans rfl, (bc B270.out 1).trans rfl, (bc B270.out 2).trans rfl, (bc B270.out 3).trans rfl, (bc B270.out 4).trans rfl, (bc B270.out 5).trans rfl, (bc B283.out 0).trans rfl, (bc B283.out 1).trans rfl⟩ (fun hHeld => ?_)
      clear hK K
      refine norm_ (a' := ?_) ?_ ?_
      rotate_left
      · show Act.put _ (some 51) _ = _
        simp only [Act.put, List.setIfInBounds_toArray, List.set_cons_zero, List.set_cons_succ, i64_w, i32_w]
        rfl
      refine pure_ (i := 25) (N := some 53) (v := ?_) (a' := ?_) #[true, true, true, true, true, true, true, true, true, true, true, true, true, true, true, true, true, true, true, true, true, true, true, true, true, true, false, false, false, false, false, false, false, false, false, false] rfl rfl (any_of HT_.out (by kernel_rfl)) (fun _ _ _ h => h) (Or.inl ⟨by rfl, ?_⟩) ?_ ?_
      rotate_left
      · intro w'
        first | (go_simp; with_reducible rfl) | (go_simp; (try unfold Instr.field); go_simp; (try simp only [asAgg]); go_simp; with_reducible rfl)
      rotate_left
      · simp only [Act.put, List.setIfInBounds_toArray, List.set_cons_zero, List.set_cons_succ, i64_w, i32_w]
        rfl
      refine pure_ (i := 26) (N := some 54) (v := ?_) (a' := ?_) #[true, true, true, true, true, true, true, true, true, true, true, true, true, true, true, true, true, true, true, true, true, true, true, true, true, true, true, false, false, false, false, false, false, false, false, false] rfl rfl (any_of HT_.out (by kernel_rfl)) (fun _ _ _ h => h) (Or.inl ⟨by rfl, ?_⟩) ?_ ?_
      rotate_left
      · intro w'
        first | (go_simp; with_reducible rfl) | (go_simp; (try unfold Instr.field); go_simp; (try simp only [asAgg]); go_simp; with_reducible rfl)
      rotate_left
      · simp only [Act.put, List.setIfInBounds_toArray, List.set_cons_zero, List.set_cons_succ, i64_w, i32_w]
        rfl
      refine pure_ (i := 27) (N := some 55) (v := ?_) (a' := ?_) #[true, true, true, true, true, true, true, true, true, true, true, true, true, true, true, true, true, true, true, true, true, true, true, true, true, true, true, true, false, false, false, false, false, false, false, false] rfl rfl (any_of HT_.out (by kernel_rfl)) (fun _ _ _ h => h) (Or.inl ⟨by rfl, ?_⟩) ?_ ?_
      rotate_left
      · intro w'
        first | (go_simp; with_reducible rfl) | (go_simp; (try unfold Instr.field); go_simp; (try simp only [asAgg]); go_simp; with_reducible rfl)
      rotate_left
      · simp only [Act.put, List.setIfInBounds_toArray, List.set_cons_zero, List.set_cons_succ, i64_w, i32_w]
        rfl
      refine pure_ (i := 28) (N := some 56) (v := undef) (a' := ?_) #[true, true, true, true, true, true, true, true, true, true, true, true, true, true, true, true, true, true, true, true, true, true, true, true, true, true, true, true, true, false, false, false, false, false, false, false] rfl rfl (any_of HT_.out (by kernel_rfl)) (fun _ _ _ h => h) (Or.inr ⟨by rfl, rfl⟩) ?_ ?_
      rotate_left
      · simp only [Act.put, List.setIfInBounds_toArray, List.set_cons_zero, List.set_cons_succ, i64_w, i32_w]
        rfl
      refine pure_ (i := 29) (N := some 57) (v := undef) (a' := ?_) #[true, true, true, true, true, true, true, true, true, true, true, true, true, true, true, true, true, true, true, true, true, true, true, true, true, true, true, true, true, true, false, false, false, false, false, false] rfl rfl (any_of HT_.out (by kernel_rfl)) (fun _ _ _ h => h) (Or.inr ⟨by rfl, rfl⟩) ?_ ?_
      rotate_left
      · simp only [Act.put, List.setIfInBounds_toArray, List.set_cons_zero, List.set_cons_succ, i64_w, i32_w]
        rfl
      refine pure_ (i := 30) (N := some 58) (v := undef) (a' := ?_) #[true, true, true, true, true, true, true, true, true, true, true, true, true, true, true, true, true, true, true, true, true, true, true, true, true, true, true, true, true, true, true, false, false, false, false, false] rfl rfl (any_of HT_.out (by kernel_rfl)) (fun _ _ _ h => h) (Or.inr ⟨by rfl, rfl⟩) ?_ ?_
      rotate_left
      · simp only [Act.put, List.setIfInBounds_toArray, List.set_cons_zero, List.set_cons_succ, i64_w, i32_w]
        rfl
      refine pure_ (i := 31) (N := some 59) (v := undef) (a' := ?_) #[true, true, true, true, true, true, true, true, true, true, true, true, true, true, true, true, true, true, true, true, true, true, true, true, true, true, true, true, true, true, true, true, false, false, false, false] rfl rfl (any_of HT_.out (by kernel_rfl)) (fun _ _ _ h => h) (Or.inr ⟨by rfl, rfl⟩) ?_ ?_
      rotate_left
      · simp only [Act.put, List.setIfInBounds_toArray, List.set_cons_zero, List.set_cons_succ, i64_w, i32_w]
        rfl
      refine pure_ (i := 32) (N := some 60) (v := undef) (a' := ?_) #[true, true, true, true, true, true, true, true, true, true, true, true, true, true, true, true, true, true, true, true, true, true, true, true, true, true, true, true, true, true, true, true, true, false, false, false] rfl rfl (any_of HT_.out (by kernel_rfl)) (fun _ _ _ h => h) (Or.inr ⟨by rfl, rfl⟩) ?_ ?_
      rotate_left
      · simp only [Act.put, List.setIfInBounds_toArray, List.set_cons_zero, List.set_cons_succ, i64_w, i32_w]
        rfl
      refine pure_ (i := 33) (N := some 61) (v := undef) (a' := ?_) #[true, true, true, true, true, true, true, true, true, true, true, true, true, true, true, true, true, true, true, true, true, true, true, true, true, true, true, true, true, true, true, true, true, true, false, false] rfl rfl (any_of HT_.out (by kernel_rfl)) (fun _ _ _ h => h) (Or.inr ⟨by rfl, rfl⟩) ?_ ?_
      rotate_left
      · simp only [Act.put, List.setIfInBounds_toArray, List.set_cons_zero, List.set_cons_succ, i64_w, i32_w]
        rfl
      refine pure_ (i := 34) (N := some 62) (v := ?_) (a' := ?_) #[true, true, true, true, true, true, true, true, true, true, true, true, true, true, true, true, true, true, true, true, true, true, true, true, true, true, true, true, true, true, true, true, true, true, true, false] rfl rfl (any_of HT_.out (by kernel_rfl)) (fun _ _ _ h => h) (Or.inl ⟨by rfl, ?_⟩) ?_ ?_
      rotate_left
      · intro w'
        first | (go_simp; with_reducible rfl) | (go_simp; (try unfold Instr.field); go_simp; (try simp only [asAgg]); go_simp; with_reducible rfl)
      rotate_left
      · simp only [Act.put, List.setIfInBounds_toArray, List.set_cons_zero, List.set_cons_succ, i64_w, i32_w]
        rfl
      refine pure_ (i := 35) (N := some 2) (v := ?_) (a' := ?_) #[true, true, true, true, true, true, true, true, true, true, true, true, true, true, true, true, true, true, true, true, true, true, true, true, true, true, true, true, true, true, true, true, true, true, true, true] rfl rfl (any_of HT_.out (by kernel_rfl)) (fun _ _ _ h => h) (Or.inl ⟨by rfl, ?_⟩) ?_ ?_
      rotate_left
      · intro w'
        first | (go_simp; with_reducible rfl) | (go_simp; (try unfold Instr.field); go_simp; (try simp only [asAgg]); go_simp; with_reducible rfl)
      rotate_left
      · simp only [Act.put, List.setIfInBounds_toArray, List.set_cons_zero, List.set_cons_succ, i64_w, i32_w]
        rfl
      refine done_ (done_of HT_.out (by kernel_rfl)) ?_
      try go_wp2
      go_ret
      exact ⟨by first | rfl | (simp [errW_none, errW_some] <;> rfl) | (simp [*, errW_none, errW_some] <;> rfl), by repeat (first | (with_reducible first | exact HB.out | apply pa | apply pN | apply p1 | refine bs ?_ E263.out | refine bs ?_ E270.out | refine bs ?_ E277.out | refine bs ?_ E283.out) | exact HB.out)⟩
  · rw [if_neg c12] at H
    have c12b0 : decide (t282 < 1000003) = false := decide_eq_false c12
    clear c12
    obtain rfl := Option.some.inj H
    go_enter Try.func11, Try.ntmps11
    try go_wp2_with (first | ((with_reducible refine gate_callee (f := 20) rfl ?_); refine goesL_ (some 8) rfl rfl Try.func20 (by kernel_rfl) rfl #[J A0 l0.length c0] rfl (by (try simp only [List.map_toArray, List.map_cons, List.map_nil]); first | done | rfl) ?_; (with_reducible refine (laws_lwBig.calls _ _ l0 false _ ?side1 ?side2 A2.out).mono ?_); (case side1 => repeat (first | exact HR0.out | (with_reducible refine ca ?_ _) | (with_reducible refine cN ?_ _) | (with_reducible refine cd1 ?_))); (case side2 => exact HC0.out); rintro e w' ⟨rfl, ⟨nd, rfl⟩⟩; refine ⟨_, rfl, ?_⟩) | ((with_reducible refine gate_callee (f := 46) rfl ?_); refine goesL_ (some 10) rfl rfl Try.func46 (by kernel_rfl) rfl #[J A0 l0.length c0] rfl (by (try simp only [List.map_toArray, List.map_cons, List.map_nil]); first | done | rfl) ?_; (with_reducible refine (spec_DrawFlowOf.calls k _ _ l0 t255 t256 t257 t258 t259 t260 _ ?side1 ?side2 A4.out).mono ?_); (case side1 => repeat (first | exact HR0.out | (with_reducible refine ca ?_ _) | (with_reducible refine cN ?_ _) | (with_reducible refine cd1 ?_))); (case side2 => exact HC0.out); rintro e w74 ⟨v261, rfl, ho0, hb⟩; refine ⟨_, rfl, ?_⟩; have N0 := am (rw1 ho0 (bz (by repeat (first | (with_reducible first | exact HB.out | apply pa | apply pN | apply p1) | exact HB.out)))); have N1 := am (bp (by repeat (first | (with_reducible first | exact HB.out | apply pa | apply pN | apply p1) | exact HB.out)) hb); clear HB; have O262 := N0; have HB := N1; clear N0 N1; (try clear hb); (try clear hb2); (try clear hk); (try clear hi); (try clear ho0)) | ((with_reducible refine gate_dst (N := 3) rfl ?_); refine box_event ?hg (N := 3) ?hd (cs := #[I q 0, I q 0, I q 0, I q 0, I q 0, .slice none 0 0]) (t := 27) ?hr ?_; (case hd => rfl); (case hg => rfl); (case hr => first | (go_simp; done) | (go_simp; rfl)); intro g263 hg w75 hbox hb; have N0 := am (rb (by (with_reducible repeat (first | apply ra | apply rN | apply rd1)); exact O262.out) hb); have N1 := am (bp (by repeat (first | (with_reducible first | exact HB.out | apply pa | apply pN | apply p1) | exact HB.out)) hb); have N2 := am (hbox); have N3 := am ((by rw [hg]; exact (bz (by repeat (first | (with_reducible first | exact HB.out | apply pa | apply pN | apply p1) | exact HB.out))) : w.heap.size ≤ g263)); have N4 := am ((by rw [hg]; exact (bz (by repeat (first | (with_reducible first | exact HB.out | apply pa | apply pN | apply p1) | exact HB.out))) : w.heap.size ≤ g263)); clear O262 HB; have O262 := N0; have HB := N1; have B263 := N2; have GW263 := N3; have E263 := N4; clear N0 N1 N2 N3 N4 hb hbox hg; have hcz76_0 : w75.cell? ⟨g263, 0, none⟩ = some (I q 0) := (bc B263.out 0).trans rfl; have hcz76_1 : w75.cell? ⟨g263, 1, none⟩ = some (I q 0) := (bc B263.out 1).trans rfl; have hcz76_2 : w75.cell? ⟨g263, 2, none⟩ = some (I q 0) := (bc B263.out 2).trans rfl; have hcz76_3 : w75.cell? ⟨g263, 3, none⟩ = some (I q 0) := (bc B263.out 3).trans rfl; have hcz76_4 : w75.cell? ⟨g263, 4, none⟩ = some (I q 0) := (bc B263.out 4).trans rfl; have hcz76_5 : w75.cell? ⟨g263, 5, none⟩ = some (.slice none 0 0) := (bc B263.out 5).trans rfl; have hfz76_0 := bf B263.out 0; have hfz76_1 := bf B263.out 1; have hfz76_2 := bf B263.out 2; have hfz76_3 := bf B263.out 3; have hfz76_4 := bf B263.out 4; have hfz76_5 := bf B263.out 5; obtain ⟨Ao77, co77, eo77⟩ := Kd.R_slice O262.out; subst eo77) | ((with_reducible refine gate_callee (f := 47) rfl ?_); refine goesL_ (some 12) rfl rfl Try.func47 (by kernel_rfl) rfl #[.agg #[I q t255, I q t256, I q t257, I q t258, I q t259, J Ao77 t260.length co77]] rfl (by (try simp only [List.map_toArray, List.map_cons, List.map_nil]); first | done | rfl) ?_; (with_reducible refine (impl_FlowOf.calls k t255 t256 t257 t258 t259 _ _ t260 t264 t265 t266 t267 t268 t269 _ ?side1 ?side2 A5.out).mono ?_); (case side1 => refine (Kd.R_reads' (e := 5) (base := w.heap.size) (ok := fun k_ => True) (n := t260.length) (c := co77) ?_).2.2; exact (by (with_reducible repeat (first | apply ra | apply rN | apply rd1)); exact (Kd.R_mono (rf (p := ⟨g263, 5, none⟩) (rf (p := ⟨g263, 4, none⟩) (rf (p := ⟨g263, 3, none⟩) (rf (p := ⟨g263, 2, none⟩) (rf (p := ⟨g263, 1, none⟩) (rf (p := ⟨g263, 0, none⟩) (Kd.R_types O262.out B263.out (by decide)) (fun _ hk => hk.2) (I q t255)) (fun _ hk => hk.2) (I q t256)) (fun _ hk => hk.2) (I q t257)) (fun _ hk => hk.2) (I q t258)) (fun _ hk => hk.2) (I q t259)) (fun _ hk => hk.2) (J Ao77 t260.length co77)) (fun _ h_ => h_.1)))); (case side2 => exact (Kd.R_reads' O262.out).2.1); rintro e w78 ⟨rfl, hb⟩; refine ⟨_, rfl, ?_⟩; have N0 := am (rb (by (with_reducible repeat (first | apply ra | apply rN | apply rd1)); exact (Kd.R_mono (rf (p := ⟨g263, 5, none⟩) (rf (p := ⟨g263, 4, none⟩) (rf (p := ⟨g263, 3, none⟩) (rf (p := ⟨g263, 2, none⟩) (rf (p := ⟨g263, 1, none⟩) (rf (p := ⟨g263, 0, none⟩) (Kd.R_types O262.out B263.out (by decide)) (fun _ hk => hk.2) (I q t255)) (fun _ hk => hk.2) (I q t256)) (fun _ hk => hk.2) (I q t257)) (fun _ hk => hk.2) (I q t258)) (fun _ hk => hk.2) (I q t259)) (fun _ hk => hk.2) (J Ao77 t260.length co77)) (fun _ h_ => h_.1))) hb); have N1 := am (bb (g := g263) (o := .cells #[I q t255, I q t256, I q t257, I q t258, I q t259, J Ao77 t260.length co77] 27 (0, 0)) (by (with_reducible repeat (first | apply bN | apply bd | apply ba)); refine blk_put (cs := #[I q t255, I q t256, I q t257, I q t258, I q t259, .slice none 0 0]) ?_ 5 _ rfl; (with_reducible repeat (first | apply bN | apply bd | apply ba)); refine blk_put (cs := #[I q t255, I q t256, I q t257, I q t258, I q 0, .slice none 0 0]) ?_ 4 _ rfl; (with_reducible repeat (first | apply bN | apply bd | apply ba)); refine blk_put (cs := #[I q t255, I q t256, I q t257, I q 0, I q 0, .slice none 0 0]) ?_ 3 _ rfl; (with_reducible repeat (first | apply bN | apply bd | apply ba)); refine blk_put (cs := #[I q t255, I q t256, I q 0, I q 0, I q 0, .slice none 0 0]) ?_ 2 _ rfl; (with_reducible repeat (first | apply bN | apply bd | apply ba)); refine blk_put (cs := #[I q t255, I q 0, I q 0, I q 0, I q 0, .slice none 0 0]) ?_ 1 _ rfl; (with_reducible repeat (first | apply bN | apply bd | apply ba)); refine blk_put (cs := #[I q 0, I q 0, I q 0, I q 0, I q 0, .slice none 0 0]) ?_ 0 _ rfl; (with_reducible repeat (first | apply bN | apply bd | apply ba)); exact B263.out) hb); have N2 := am (bp (by repeat (first | (with_reducible first | exact HB.out | apply pa | apply pN | apply p1 | refine bs ?_ E263.out) | exact HB.out)) hb); clear O262 B263 HB; have O262 := N0; have B263 := N1; have HB := N2; clear N0 N1 N2; (try clear hb); (try clear hb2); (try clear hk); (try clear hi)) | ((with_reducible refine gate_dst (N := 4) rfl ?_); refine box_event ?hg (N := 4) ?hd (cs := #[I q 0, I q 0, I q 0, I q 0, I q 0, I q 0]) (t := 69) ?hr ?_; (case hd => rfl); (case hg => rfl); (case hr => first | (go_simp; done) | (go_simp; rfl)); intro g270 hg w79 hbox hb; have N0 := am (rb (by (with_reducible repeat (first | apply ra | apply rN | apply rd1)); exact O262.out) hb); have N1 := am (bb (g := g263) (by (with_reducible repeat (first | apply bN | apply bd | apply ba)); exact B263.out) hb); have N2 := am (bp (by repeat (first | (with_reducible first | exact HB.out | apply pa | apply pN | apply p1 | refine bs ?_ E263.out) | exact HB.out)) hb); have N3 := am (hbox); have N4 := am ((by rw [hg]; exact (bz (by repeat (first | (with_reducible first | exact HB.out | apply pa | apply pN | apply p1 | refine bs ?_ E263.out) | exact HB.out))) : w.heap.size ≤ g270)); have N5 := am ((by rw [hg]; exact (bz (by repeat (first | (with_reducible first | exact HB.out | apply pa | apply pN | apply p1 | refine bs ?_ E263.out) | exact HB.out))) : w.heap.size ≤ g270)); have N6 := am ((by rw [hg]; exact Nat.ne_of_lt (bl (g := g263) (by (with_reducible repeat (first | apply bN | apply bd | apply ba)); exact B263.out)) : g263 ≠ g270)); have N7 := am ((by rw [hg]; exact Nat.ne_of_gt (bl (g := g263) (by (with_reducible repeat (first | apply bN | apply bd | apply ba)); exact B263.out)) : g270 ≠ g263)); clear O262 B263 HB; have O262 := N0; have B263 := N1; have HB := N2; have B270 := N3; have GW270 := N4; have E270 := N5; have NB263_270 := N6; have NB270_263 := N7; clear N0 N1 N2 N3 N4 N5 N6 N7 hb hbox hg; have hnb80 := NB270_263.out; have hnc80 := NB263_270.out; have hcz81_0 : w79.cell? ⟨g270, 0, none⟩ = some (I q 0) := (bc B270.out 0).trans rfl; have hcz81_1 : w79.cell? ⟨g270, 1, none⟩ = some (I q 0) := (bc B270.out 1).trans rfl; have hcz81_2 : w79.cell? ⟨g270, 2, none⟩ = some (I q 0) := (bc B270.out 2).trans rfl; have hcz81_3 : w79.cell? ⟨g270, 3, none⟩ = some (I q 0) := (bc B270.out 3).trans rfl; have hcz81_4 : w79.cell? ⟨g270, 4, none⟩ = some (I q 0) := (bc B270.out 4).trans rfl; have hcz81_5 : w79.cell? ⟨g270, 5, none⟩ = some (I q 0) := (bc B270.out 5).trans rfl; have hfz81_0 := bf B270.out 0; have hfz81_1 := bf B270.out 1; have hfz81_2 := bf B270.out 2; have hfz81_3 := bf B270.out 3; have hfz81_4 := bf B270.out 4; have hfz81_5 := bf B270.out 5; have hcz82_0 : w79.cell? ⟨g263, 0, none⟩ = some (I q t255) := (bc B263.out 0).trans rfl; have hcz82_1 : w79.cell? ⟨g263, 1, none⟩ = some (I q t256) := (bc B263.out 1).trans rfl; have hcz82_2 : w79.cell? ⟨g263, 2, none⟩ = some (I q t257) := (bc B263.out 2).trans rfl; have hcz82_3 : w79.cell? ⟨g263, 3, none⟩ = some (I q t258) := (bc B263.out 3).trans rfl; have hcz82_4 : w79.cell? ⟨g263, 4, none⟩ = some (I q t259) := (bc B263.out 4).trans rfl; have hcz82_5 : w79.cell? ⟨g263, 5, none⟩ = some (J Ao77 t260.length co77) := (bc B263.out 5).trans rfl; have hfz82_0 := bf B263.out 0; have hfz82_1 := bf B263.out 1; have hfz82_2 := bf B263.out 2; have hfz82_3 := bf B263.out 3; have hfz82_4 := bf B263.out 4; have hfz82_5 := bf B263.out 5) | ((with_reducible refine gate_dst (N := 5) rfl ?_); refine box_event ?hg (N := 5) ?hd (cs := #[I q 0, I q 0, I q 0, I q 0, I q 0, .slice none 0 0]) (t := 27) ?hr ?_; (case hd => rfl); (case hg => rfl); (case hr => first | (go_simp; done) | (go_simp; rfl)); intro g277 hg w83 hbox hb; have N0 := am (rb (by (with_reducible repeat (first | apply ra | apply rN | apply rd1)); exact (Kd.R_mono (rf (p := ⟨g270, 5, none⟩) (rf (p := ⟨g270, 4, none⟩) (rf (p := ⟨g270, 3, none⟩) (rf (p := ⟨g270, 2, none⟩) (rf (p := ⟨g270, 1, none⟩) (rf (p := ⟨g270, 0, none⟩) (Kd.R_types O262.out B270.out (by decide)) (fun _ hk => hk.2) (I q t264)) (fun _ hk => hk.2) (I q t265)) (fun _ hk => hk.2) (I q t266)) (fun _ hk => hk.2) (I q t267)) (fun _ hk => hk.2) (I q t268)) (fun _ hk => hk.2) (I q t269)) (fun _ h_ => h_.1))) hb); have N1 := am (bb (g := g263) (o := .cells #[I q t255, I q t256, I q t257, I q t258, I q t259, J Ao77 t260.length co77] 27 (0, 0)) (by (with_reducible repeat (first | apply bN | apply bd | apply ba)); refine bq ?_ NB263_270.out _; (with_reducible repeat (first | apply bN | apply bd | apply ba)); refine bq ?_ NB263_270.out _; (with_reducible repeat (first | apply bN | apply bd | apply ba)); refine bq ?_ NB263_270.out _; (with_reducible repeat (first | apply bN | apply bd | apply ba)); refine bq ?_ NB263_270.out _; (with_reducible repeat (first | apply bN | apply bd | apply ba)); refine bq ?_ NB263_270.out _; (with_reducible repeat (first | apply bN | apply bd | apply ba)); refine bq ?_ NB263_270.out _; (with_reducible repeat (first | apply bN | apply bd | apply ba)); exact B263.out) hb); have N2 := am (bb (g := g270) (o := .cells #[I q t264, I q t265, I q t266, I q t267, I q t268, I q t269] 69 (0, 0)) (by (with_reducible repeat (first | apply bN | apply bd | apply ba)); refine blk_put (cs := #[I q t264, I q t265, I q t266, I q t267, I q t268, I q 0]) ?_ 5 _ rfl; (with_reducible repeat (first | apply bN | apply bd | apply ba)); refine blk_put (cs := #[I q t264, I q t265, I q t266, I q t267, I q 0, I q 0]) ?_ 4 _ rfl; (with_reducible repeat (first | apply bN | apply bd | apply ba)); refine blk_put (cs := #[I q t264, I q t265, I q t266, I q 0, I q 0, I q 0]) ?_ 3 _ rfl; (with_reducible repeat (first | apply bN | apply bd | apply ba)); refine blk_put (cs := #[I q t264, I q t265, I q 0, I q 0, I q 0, I q 0]) ?_ 2 _ rfl; (with_reducible repeat (first | apply bN | apply bd | apply ba)); refine blk_put (cs := #[I q t264, I q 0, I q 0, I q 0, I q 0, I q 0]) ?_ 1 _ rfl; (with_reducible repeat (first | apply bN | apply bd | apply ba)); refine blk_put (cs := #[I q 0, I q 0, I q 0, I q 0, I q 0, I q 0]) ?_ 0 _ rfl; (with_reducible repeat (first | apply bN | apply bd | apply ba)); exact B270.out) hb); have N3 := am (bp (by repeat (first | (with_reducible first | exact HB.out | apply pa | apply pN | apply p1 | refine bs ?_ E263.out | refine bs ?_ E270.out) | exact HB.out)) hb); have N4 := am (hbox); have N5 := am ((by rw [hg]; exact (bz (by repeat (first | (with_reducible first | exact HB.out | apply pa | apply pN | apply p1 | refine bs ?_ E263.out | refine bs ?_ E270.out) | exact HB.out))) : w.heap.size ≤ g277)); have N6 := am ((by rw [hg]; exact (bz (by repeat (first | (with_reducible first | exact HB.out | apply pa | apply pN | apply p1 | refine bs ?_ E263.out | refine bs ?_ E270.out) | exact HB.out))) : w.heap.size ≤ g277)); have N7 := am ((by rw [hg]; exact Nat.ne_of_lt (bl (g := g263) (o := .cells #[I q t255, I q t256, I q t257, I q t258, I q t259, J Ao77 t260.length co77] 27 (0, 0)) (by (with_reducible repeat (first | apply bN | apply bd | apply ba)); refine bq ?_ NB263_270.out _; (with_reducible repeat (first | apply bN | apply bd | apply ba)); refine bq ?_ NB263_270.out _; (with_reducible repeat (first | apply bN | apply bd | apply ba)); refine bq ?_ NB263_270.out _; (with_reducible repeat (first | apply bN | apply bd | apply ba)); refine bq ?_ NB263_270.out _; (with_reducible repeat (first | apply bN | apply bd | apply ba)); refine bq ?_ NB263_270.out _; (with_reducible repeat (first | apply bN | apply bd | apply ba)); refine bq ?_ NB263_270.out _; (with_reducible repeat (first | apply bN | apply bd | apply ba)); exact B263.out)) : g263 ≠ g277)); have N8 := am ((by rw [hg]; exact Nat.ne_of_gt (bl (g := g263) (o := .cells #[I q t255, I q t256, I q t257, I q t258, I q t259, J Ao77 t260.length co77] 27 (0, 0)) (by (with_reducible repeat (first | apply bN | apply bd | apply ba)); refine bq ?_ NB263_270.out _; (with_reducible repeat (first | apply bN | apply bd | apply ba)); refine bq ?_ NB263_270.out _; (with_reducible repeat (first | apply bN | apply bd | apply ba)); refine bq ?_ NB263_270.out _; (with_reducible repeat (first | apply bN | apply bd | apply ba)); refine bq ?_ NB263_270.out _; (with_reducible repeat (first | apply bN | apply bd | apply ba)); refine bq ?_ NB263_270.out _; (with_reducible repeat (first | apply bN | apply bd | apply ba)); refine bq ?_ NB263_270.out _; (with_reducible repeat (first | apply bN | apply bd | apply ba)); exact B263.out)) : g277 ≠ g263)); have N9 := am ((by rw [hg]; exact Nat.ne_of_lt (bl (g := g270) (o := .cells #[I q t264, I q t265, I q t266, I q t267, I q t268, I q t269] 69 (0, 0)) (by (with_reducible repeat (first | apply bN | apply bd | apply ba)); refine blk_put (cs := #[I q t264, I q t265, I q t266, I q t267, I q t268, I q 0]) ?_ 5 _ rfl; (with_reducible repeat (first | apply bN | apply bd | apply ba)); refine blk_put (cs := #[I q t264, I q t265, I q t266, I q t267, I q 0, I q 0]) ?_ 4 _ rfl; (with_reducible repeat (first | apply bN | apply bd | apply ba)); refine blk_put (cs := #[I q t264, I q t265, I q t266, I q 0, I q 0, I q 0]) ?_ 3 _ rfl; (with_reducible repeat (first | apply bN | apply bd | apply ba)); refine blk_put (cs := #[I q t264, I q t265, I q 0, I q 0, I q 0, I q 0]) ?_ 2 _ rfl; (with_reducible repeat (first | apply bN | apply bd | apply ba)); refine blk_put (cs := #[I q t264, I q 0, I q 0, I q 0, I q 0, I q 0]) ?_ 1 _ rfl; (with_reducible repeat (first | apply bN | apply bd | apply ba)); refine blk_put (cs := #[I q 0, I q 0, I q 0, I q 0, I q 0, I q 0]) ?_ 0 _ rfl; (with_reducible repeat (first | apply bN | apply bd | apply ba)); exact B270.out)) : g270 ≠ g277)); have N10 := am ((by rw [hg]; exact Nat.ne_of_gt (bl (g := g270) (o := .cells #[I q t264, I q t265, I q t266, I q t267, I q t268, I q t269] 69 (0, 0)) (by (with_reducible repeat (first | apply bN | apply bd | apply ba)); refine blk_put (cs := #[I q t264, I q t265, I q t266, I q t267, I q t268, I q 0]) ?_ 5 _ rfl; (with_reducible repeat (first | apply bN | apply bd | apply ba)); refine blk_put (cs := #[I q t264, I q t265, I q t266, I q t267, I q 0, I q 0]) ?_ 4 _ rfl; (with_reducible repeat (first | apply bN | apply bd | apply ba)); refine blk_put (cs := #[I q t264, I q t265, I q t266, I q 0, I q 0, I q 0]) ?_ 3 _ rfl; (with_reducible repeat (first | apply bN | apply bd | apply ba)); refine blk_put (cs := #[I q t264, I q t265, I q 0, I q 0, I q 0, I q 0]) ?_ 2 _ rfl; (with_reducible repeat (first | apply bN | apply bd | apply ba)); refine blk_put (cs := #[I q t264, I q 0, I q 0, I q 0, I q 0, I q 0]) ?_ 1 _ rfl; (with_reducible repeat (first | apply bN | apply bd | apply ba)); refine blk_put (cs := #[I q 0, I q 0, I q 0, I q 0, I q 0, I q 0]) ?_ 0 _ rfl; (with_reducible repeat (first | apply bN | apply bd | apply ba)); exact B270.out)) : g277 ≠ g270)); clear O262 B263 B270 HB; have O262 := N0; have B263 := N1; have B270 := N2; have HB := N3; have B277 := N4; have GW277 := N5; have E277 := N6; have NB263_277 := N7; have NB277_263 := N8; have NB270_277 := N9; have NB277_270 := N10; clear N0 N1 N2 N3 N4 N5 N6 N7 N8 N9 N10 hb hbox hg; have hnb84 := NB277_263.out; have hnc84 := NB263_277.out; have hnb85 := NB277_270.out; have hnc85 := NB270_277.out; have hcz86_0 : w83.cell? ⟨g277, 0, none⟩ = some (I q 0) := (bc B277.out 0).trans rfl; have hcz86_1 : w83.cell? ⟨g277, 1, none⟩ = some (I q 0) := (bc B277.out 1).trans rfl; have hcz86_2 : w83.cell? ⟨g277, 2, none⟩ = some (I q 0) := (bc B277.out 2).trans rfl; have hcz86_3 : w83.cell? ⟨g277, 3, none⟩ = some (I q 0) := (bc B277.out 3).trans rfl; have hcz86_4 : w83.cell? ⟨g277, 4, none⟩ = some (I q 0) := (bc B277.out 4).trans rfl; have hcz86_5 : w83.cell? ⟨g277, 5, none⟩ = some (.slice none 0 0) := (bc B277.out 5).trans rfl; have hfz86_0 := bf B277.out 0; have hfz86_1 := bf B277.out 1; have hfz86_2 := bf B277.out 2; have hfz86_3 := bf B277.out 3; have hfz86_4 := bf B277.out 4; have hfz86_5 := bf B277.out 5) | ((with_reducible refine gate_dst (N := 23) rfl ?_); refine Kd.R_lit (Kd.int .u8) _ 5 ?hg (N := 23) ?hd (xs := ([1, 2] : List Int)) (inner := [.int .u8 1, .int .u8 2]) (ok := fun _ => True) (okp := fun _ => True) ?hr ?hp (fun _ hk => hk) trivial (Below.refl _ _) (Nat.le_refl _) (by simp) ?_; (case hd => rfl); (case hg => rfl); (case hr => first | (go_simp; done) | (go_simp; rfl)); (case hp => exact (Reps.one (show Kd.M (Kd.int .u8) _ _ _ 1 [.int .u8 1] from rfl) (Reps.one (show Kd.M (Kd.int .u8) _ _ _ 2 [.int .u8 2] from rfl) (Reps.none _ _)))); intro v279 w87 ho88 hb hg_ hnew_; clear hg_ hnew_; (first | rw [← Ny278.out] at ho88 | (simp only [Int.reduceToNat] at ho88; rw [← Ny278.out] at ho88)); have N0 := am (re (by (with_reducible repeat (first | apply ra | apply rN | apply rd1)); exact (Kd.R_mono (rf (p := ⟨g277, 5, none⟩) (rf (p := ⟨g277, 4, none⟩) (rf (p := ⟨g277, 3, none⟩) (rf (p := ⟨g277, 2, none⟩) (rf (p := ⟨g277, 1, none⟩) (rf (p := ⟨g277, 0, none⟩) (Kd.R_types O262.out B277.out (by decide)) (fun _ hk => hk.2) (I q t255)) (fun _ hk => hk.2) (I q t256)) (fun _ hk => hk.2) (I q t257)) (fun _ hk => hk.2) (I q t258)) (fun _ hk => hk.2) (I q t259)) (fun _ hk => hk.2) (J Ao77 t260.length co77)) (fun _ h_ => h_.1))) (Kd.R_base ho88) hb); have N1 := am (rw1 (rn ho88 (rl (by (with_reducible repeat (first | apply ra | apply rN | apply rd1)); exact (Kd.R_mono (rf (p := ⟨g277, 5, none⟩) (rf (p := ⟨g277, 4, none⟩) (rf (p := ⟨g277, 3, none⟩) (rf (p := ⟨g277, 2, none⟩) (rf (p := ⟨g277, 1, none⟩) (rf (p := ⟨g277, 0, none⟩) (Kd.R_types O262.out B277.out (by decide)) (fun _ hk => hk.2) (I q t255)) (fun _ hk => hk.2) (I q t256)) (fun _ hk => hk.2) (I q t257)) (fun _ hk => hk.2) (I q t258)) (fun _ hk => hk.2) (I q t259)) (fun _ hk => hk.2) (J Ao77 t260.length co77)) (fun _ h_ => h_.1))))) (bz (by repeat (first | (with_reducible first | exact HB.out | apply pa | apply pN | apply p1 | refine bs ?_ E263.out | refine bs ?_ E270.out | refine bs ?_ E277.out) | exact HB.out)))); have N2 := am (bb (g := g263) (o := .cells #[I q t255, I q t256, I q t257, I q t258, I q t259, J Ao77 t260.length co77] 27 (0, 0)) (by (with_reducible repeat (first | apply bN | apply bd | apply ba)); refine bq ?_ NB263_277.out _; (with_reducible repeat (first | apply bN | apply bd | apply ba)); refine bq ?_ NB263_277.out _; (with_reducible repeat (first | apply bN | apply bd | apply ba)); refine bq ?_ NB263_277.out _; (with_reducible repeat (first | apply bN | apply bd | apply ba)); refine bq ?_ NB263_277.out _; (with_reducible repeat (first | apply bN | apply bd | apply ba)); refine bq ?_ NB263_277.out _; (with_reducible repeat (first | apply bN | apply bd | apply ba)); refine bq ?_ NB263_277.out _; (with_reducible repeat (first | apply bN | apply bd | apply ba)); exact B263.out) hb); have N3 := am (bb (g := g270) (o := .cells #[I q t264, I q t265, I q t266, I q t267, I q t268, I q t269] 69 (0, 0)) (by (with_reducible repeat (first | apply bN | apply bd | apply ba)); refine bq ?_ NB270_277.out _; (with_reducible repeat (first | apply bN | apply bd | apply ba)); refine bq ?_ NB270_277.out _; (with_reducible repeat (first | apply bN | apply bd | apply ba)); refine bq ?_ NB270_277.out _; (with_reducible repeat (first | apply bN | apply bd | apply ba)); refine bq ?_ NB270_277.out _; (with_reducible repeat (first | apply bN | apply bd | apply ba)); refine bq ?_ NB270_277.out _; (with_reducible repeat (first | apply bN | apply bd | apply ba)); refine bq ?_ NB270_277.out _; (with_reducible repeat (first | apply bN | apply bd | apply ba)); exact B270.out) hb); have N4 := am (bb (g := g277) (o := .cells #[I q t255, I q t256, I q t257, I q t258, I q t259, J Ao77 t260.length co77] 27 (0, 0)) (by (with_reducible repeat (first | apply bN | apply bd | apply ba)); refine blk_put (cs := #[I q t255, I q t256, I q t257, I q t258, I q t259, .slice none 0 0]) ?_ 5 _ rfl; (with_reducible repeat (first | apply bN | apply bd | apply ba)); refine blk_put (cs := #[I q t255, I q t256, I q t257, I q t258, I q 0, .slice none 0 0]) ?_ 4 _ rfl; (with_reducible repeat (first | apply bN | apply bd | apply ba)); refine blk_put (cs := #[I q t255, I q t256, I q t257, I q 0, I q 0, .slice none 0 0]) ?_ 3 _ rfl; (with_reducible repeat (first | apply bN | apply bd | apply ba)); refine blk_put (cs := #[I q t255, I q t256, I q 0, I q 0, I q 0, .slice none 0 0]) ?_ 2 _ rfl; (with_reducible repeat (first | apply bN | apply bd | apply ba)); refine blk_put (cs := #[I q t255, I q 0, I q 0, I q 0, I q 0, .slice none 0 0]) ?_ 1 _ rfl; (with_reducible repeat (first | apply bN | apply bd | apply ba)); refine blk_put (cs := #[I q 0, I q 0, I q 0, I q 0, I q 0, .slice none 0 0]) ?_ 0 _ rfl; (with_reducible repeat (first | apply bN | apply bd | apply ba)); exact B277.out) hb); have N5 := am (bp (by repeat (first | (with_reducible first | exact HB.out | apply pa | apply pN | apply p1 | refine bs ?_ E263.out | refine bs ?_ E270.out | refine bs ?_ E277.out) | exact HB.out)) hb); clear O262 B263 B270 B277 HB; have O262 := N0; have O280 := N1; have B263 := N2; have B270 := N3; have B277 := N4; have HB := N5; clear N0 N1 N2 N3 N4 N5 hb ho88; obtain ⟨Ao89, co89, eo89⟩ := Kd.R_slice O280.out; subst eo89; have hcz90_0 : w87.cell? ⟨g277, 0, none⟩ = some (I q t255) := (bc B277.out 0).trans rfl; have hcz90_1 : w87.cell? ⟨g277, 1, none⟩ = some (I q t256) := (bc B277.out 1).trans rfl; have hcz90_2 : w87.cell? ⟨g277, 2, none⟩ = some (I q t257) := (bc B277.out 2).trans rfl; have hcz90_3 : w87.cell? ⟨g277, 3, none⟩ = some (I q t258) := (bc B277.out 3).trans rfl; have hcz90_4 : w87.cell? ⟨g277, 4, none⟩ = some (I q t259) := (bc B277.out 4).trans rfl; have hcz90_5 : w87.cell? ⟨g277, 5, none⟩ = some (J Ao77 t260.length co77) := (bc B277.out 5).trans rfl; have hfz90_0 := bf B277.out 0; have hfz90_1 := bf B277.out 1; have hfz90_2 := bf B277.out 2; have hfz90_3 := bf B277.out 3; have hfz90_4 := bf B277.out 4; have hfz90_5 := bf B277.out 5; have hcz91_0 : w87.cell? ⟨g270, 0, none⟩ = some (I q t264) := (bc B270.out 0).trans rfl; have hcz91_1 : w87.cell? ⟨g270, 1, none⟩ = some (I q t265) := (bc B270.out 1).trans rfl; have hcz91_2 : w87.cell? ⟨g270, 2, none⟩ = some (I q t266) := (bc B270.out 2).trans rfl; have hcz91_3 : w87.cell? ⟨g270, 3, none⟩ = some (I q t267) := (bc B270.out 3).trans rfl; have hcz91_4 : w87.cell? ⟨g270, 4, none⟩ = some (I q t268) := (bc B270.out 4).trans rfl; have hcz91_5 : w87.cell? ⟨g270, 5, none⟩ = some (I q t269) := (bc B270.out 5).trans rfl; have hfz91_0 := bf B270.out 0; have hfz91_1 := bf B270.out 1; have hfz91_2 := bf B270.out 2; have hfz91_3 := bf B270.out 3; have hfz91_4 := bf B270.out 4; have hfz91_5 := bf B270.out 5) | ((with_reducible refine gate_callee (f := 35) rfl ?_); refine goesL_ (some 27) rfl rfl Try.func35 (by kernel_rfl) rfl #[.agg #[I q t265, I q t266, I q t267, I q t268, I q t269]] rfl (by (try simp only [List.map_toArray, List.map_cons, List.map_nil]); first | done | rfl) ?_; (with_reducible refine (impl_HashFlow.calls k t265 t266 t267 t268 t269 t281 t282 _ A7.out).mono ?_); rintro e w92 ⟨rfl, hb⟩; refine ⟨_, rfl, ?_⟩; have N0 := am (rb (by (with_reducible repeat (first | apply ra | apply rN | apply rd1)); exact (Kd.R_mono (rf (p := ⟨g277, 5, none⟩) (Kd.R_types O262.out B277.out (by decide)) (fun _ hk => hk.2) (J Ao89 y278.length co89)) (fun _ h_ => h_.1))) hb); have N1 := am (rb (by (with_reducible repeat (first | apply ra | apply rN | apply rd1)); exact (Kd.R_mono (rf (p := ⟨g277, 5, none⟩) (Kd.R_types O280.out B277.out (by decide)) (fun _ hk => hk.2) (J Ao89 y278.length co89)) (fun _ h_ => h_.1))) hb); have N2 := am (bb (g := g263) (o := .cells #[I q t255, I q t256, I q t257, I q t258, I q t259, J Ao77 t260.length co77] 27 (0, 0)) (by (with_reducible repeat (first | apply bN | apply bd | apply ba)); refine bq ?_ NB263_277.out _; (with_reducible repeat (first | apply bN | apply bd | apply ba)); exact B263.out) hb); have N3 := am (bb (g := g270) (o := .cells #[I q t264, I q t265, I q t266, I q t267, I q t268, I q t269] 69 (0, 0)) (by (with_reducible repeat (first | apply bN | apply bd | apply ba)); refine bq ?_ NB270_277.out _; (with_reducible repeat (first | apply bN | apply bd | apply ba)); exact B270.out) hb); have N4 := am (bb (g := g277) (o := .cells #[I q t255, I q t256, I q t257, I q t258, I q t259, J Ao89 y278.length co89] 27 (0, 0)) (by (with_reducible repeat (first | apply bN | apply bd | apply ba)); refine blk_put (cs := #[I q t255, I q t256, I q t257, I q t258, I q t259, J Ao77 t260.length co77]) ?_ 5 _ rfl; (with_reducible repeat (first | apply bN | apply bd | apply ba)); exact B277.out) hb); have N5 := am (bp (by repeat (first | (with_reducible first | exact HB.out | apply pa | apply pN | apply p1 | refine bs ?_ E263.out | refine bs ?_ E270.out | refine bs ?_ E277.out) | exact HB.out)) hb); clear O262 O280 B263 B270 B277 HB; have O262 := N0; have O280 := N1; have B263 := N2; have B270 := N3; have B277 := N4; have HB := N5; clear N0 N1 N2 N3 N4 N5; (try clear hb); (try clear hb2); (try clear hk); (try clear hi)) | ((with_reducible refine gate_dst (N := 6) rfl ?_); refine box_event ?hg (N := 6) ?hd (cs := #[I q 0, I q 0]) (t := 37) ?hr ?_; (case hd => rfl); (case hg => rfl); (case hr => first | (go_simp; done) | (go_simp; rfl)); intro g283 hg w93 hbox hb; have N0 := am (rb (by (with_reducible repeat (first | apply ra | apply rN | apply rd1)); exact O262.out) hb); have N1 := am (rb (by (with_reducible repeat (first | apply ra | apply rN | apply rd1)); exact O280.out) hb); have N2 := am (bb (g := g263) (by (with_reducible repeat (first | apply bN | apply bd | apply ba)); exact B263.out) hb); have N3 := am (bb (g := g270) (by (with_reducible repeat (first | apply bN | apply bd | apply ba)); exact B270.out) hb); have N4 := am (bb (g := g277) (by (with_reducible repeat (first | apply bN | apply bd | apply ba)); exact B277.out) hb); have N5 := am (bp (by repeat (first | (with_reducible first | exact HB.out | apply pa | apply pN | apply p1 | refine bs ?_ E263.out | refine bs ?_ E270.out | refine bs ?_ E277.out) | exact HB.out)) hb); have N6 := am (hbox); have N7 := am ((by rw [hg]; exact (bz (by repeat (first | (with_reducible first | exact HB.out | apply pa | apply pN | apply p1 | refine bs ?_ E263.out | refine bs ?_ E270.out | refine bs ?_ E277.out) | exact HB.out))) : w.heap.size ≤ g283)); have N8 := am ((by rw [hg]; exact (bz (by repeat (first | (with_reducible first | exact HB.out | apply pa | apply pN | apply p1 | refine bs ?_ E263.out | refine bs ?_ E270.out | refine bs ?_ E277.out) | exact HB.out))) : w.heap.size ≤ g283)); have N9 := am ((by rw [hg]; exact Nat.ne_of_lt (bl (g := g263) (by (with_reducible repeat (first | apply bN | apply bd | apply ba)); exact B263.out)) : g263 ≠ g283)); have N10 := am ((by rw [hg]; exact Nat.ne_of_gt (bl (g := g263) (by (with_reducible repeat (first | apply bN | apply bd | apply ba)); exact B263.out)) : g283 ≠ g263)); have N11 := am ((by rw [hg]; exact Nat.ne_of_lt (bl (g := g270) (by (with_reducible repeat (first | apply bN | apply bd | apply ba)); exact B270.out)) : g270 ≠ g283)); have N12 := am ((by rw [hg]; exact Nat.ne_of_gt (bl (g := g270) (by (with_reducible repeat (first | apply bN | apply bd | apply ba)); exact B270.out)) : g283 ≠ g270)); have N13 := am ((by rw [hg]; exact Nat.ne_of_lt (bl (g := g277) (by (with_reducible repeat (first | apply bN | apply bd | apply ba)); exact B277.out)) : g277 ≠ g283)); have N14 := am ((by rw [hg]; exact Nat.ne_of_gt (bl (g := g277) (by (with_reducible repeat (first | apply bN | apply bd | apply ba)); exact B277.out)) : g283 ≠ g277)); clear O262 O280 B263 B270 B277 HB; have O262 := N0; have O280 := N1; have B263 := N2; have B270 := N3; have B277 := N4; have HB := N5; have B283 := N6; have GW283 := N7; have E283 := N8; have NB263_283 := N9; have NB283_263 := N10; have NB270_283 := N11; have NB283_270 := N12; have NB277_283 := N13; have NB283_277 := N14; clear N0 N1 N2 N3 N4 N5 N6 N7 N8 N9 N10 N11 N12 N13 N14 hb hbox hg; have hnb94 := NB283_263.out; have hnc94 := NB263_283.out; have hnb95 := NB283_270.out; have hnc95 := NB270_283.out; have hnb96 := NB283_277.out; have hnc96 := NB277_283.out; have hcz97_0 : w93.cell? ⟨g283, 0, none⟩ = some (I q 0) := (bc B283.out 0).trans rfl; have hcz97_1 : w93.cell? ⟨g283, 1, none⟩ = some (I q 0) := (bc B283.out 1).trans rfl; have hfz97_0 := bf B283.out 0; have hfz97_1 := bf B283.out 1))
    have N0 : Aside0 (Kd.R (Kd.int .u8) 5 ((w93.setCell ⟨g283, 0, none⟩ (I q t281)).setCell ⟨g283, 1, none⟩ (I q t282)) w.heap.size (fun k_ => some k_ ≠ (J Ao89 y278.length co89 : Value).ownBlock) (J Ao77 t260.length co77) t260) := ⟨by (with_reducible repeat (first | apply ra | apply rN | apply rd1)); exact Kd.R_mono (rf (p := ⟨g283, 1, none⟩) (rf (p := ⟨g283, 0, none⟩) (Kd.R_types O262.out B283.out (by decide)) (fun _ hk => hk.2) (I q t281)) (fun _ hk => hk.2) (I q t282)) (fun _ hk => hk.1.2)⟩
    have N1 : Aside0 (Kd.R (Kd.int .u8) 5 ((w93.setCell ⟨g283, 0, none⟩ (I q t281)).setCell ⟨g283, 1, none⟩ (I q t282)) w.heap.size (fun k_ => some k_ ≠ (J Ao77 t260.length co77 : Value).ownBlock) (J Ao89 y278.length co89) y278) := ⟨by (with_reducible repeat (first | apply ra | apply rN | apply rd1)); exact Kd.R_mono (rf (p := ⟨g283, 1, none⟩) (rf (p := ⟨g283, 0, none⟩) (Kd.R_types O280.out B283.out (by decide)) (fun _ hk => hk.2) (I q t281)) (fun _ hk => hk.2) (I q t282)) (fun _ hk => hk.1.2)⟩
    have N2 : Aside0 (((w93.setCell ⟨g283, 0, none⟩ (I q t281)).setCell ⟨g283, 1, none⟩ (I q t282)).heap[g263]? = some (.cells #[I q t255, I q t256, I q t257, I q t258, I q t259, J Ao77 t260.length co77] 27 (0, 0))) := ⟨by (with_reducible repeat (first | apply bN | apply bd | apply ba)); refine bq ?_ NB263_283.out _; (with_reducible repeat (first | apply bN | apply bd | apply ba)); refine bq ?_ NB263_283.out _; (with_reducible repeat (first | apply bN | apply bd | apply ba)); exact B263.out⟩
    have N3 : Aside0 (((w93.setCell ⟨g283, 0, none⟩ (I q t281)).setCell ⟨g283, 1, none⟩ (I q t282)).heap[g270]? = some (.cells #[I q t264, I q t265, I q t266, I q t267, I q t268, I q t269] 69 (0, 0))) := ⟨by (with_reducible repeat (first | apply bN | apply bd | apply ba)); refine bq ?_ NB270_283.out _; (with_reducible repeat (first | apply bN | apply bd | apply ba)); refine bq ?_ NB270_283.out _; (with_reducible repeat (first | apply bN | apply bd | apply ba)); exact B270.out⟩
    have N4 : Aside0 (((w93.setCell ⟨g283, 0, none⟩ (I q t281)).setCell ⟨g283, 1, none⟩ (I q t282)).heap[g277]? = some (.cells #[I q t255, I q t256, I q t257, I q t258, I q t259, J Ao89 y278.length co89] 27 (0, 0))) := ⟨by (with_reducible repeat (first | apply bN | apply bd | apply ba)); refine bq ?_ NB277_283.out _; (with_reducible repeat (first | apply bN | apply bd | apply ba)); refine bq ?_ NB277_283.out _; (with_reducible repeat (first | apply bN | apply bd | apply ba)); exact B277.out⟩
    have N5 : Aside0 (((w93.setCell ⟨g283, 0, none⟩ (I q t281)).setCell ⟨g283, 1, none⟩ (I q t282)).heap[g283]? = some (.cells #[I q t281, I q t282] 37 (0, 0))) := ⟨by (with_reducible repeat (first | apply bN | apply bd | apply ba)); refine blk_put (cs := #[I q t281, I q 0]) ?_ 1 _ rfl; (with_reducible repeat (first | apply bN | apply bd | apply ba)); refine blk_put (cs := #[I q 0, I q 0]) ?_ 0 _ rfl; (with_reducible repeat (first | apply bN | apply bd | apply ba)); exact B283.out⟩
    have N6 : Aside0 (Below w.heap.size w ((w93.setCell ⟨g283, 0, none⟩ (I q t281)).setCell ⟨g283, 1, none⟩ (I q t282))) := ⟨by repeat (first | (with_reducible first | exact HB.out | apply pa | apply pN | apply p1 | refine bs ?_ E263.out | refine bs ?_ E270.out | refine bs ?_ E277.out | refine bs ?_ E283.out) | exact HB.out)⟩
    (try clear O262)
    (try clear O280)
    (try clear B263)
    (try clear B270)
    (try clear B277)
    (try clear B283)
    (try clear HB)
    generalize ((w93.setCell ⟨g283, 0, none⟩ (I q t281)).setCell ⟨g283, 1, none⟩ (I q t282)) = w98 at N0 N1 N2 N3 N4 N5 N6 ⊢
    have O262 := N0
    have O280 := N1
    have B263 := N2
    have B270 := N3
    have B277 := N4
    have B283 := N5
    have HB := N6
    clear N0 N1 N2 N3 N4 N5 N6
    have N0 := am (rd1 O262.out)
    have N1 := am (rd1 O280.out)
    have N2 := am (bd B263.out)
    have N3 := am (bd B270.out)
    have N4 := am (bd B277.out)
    have N5 := am (bd B283.out)
    have N6 := am (p1 HB.out)
    clear O262
    clear O280
    clear B263
    clear B270
    clear B277
    clear B283
    clear HB
    have O262 := N0
    have O280 := N1
    have B263 := N2
    have B270 := N3
    have B277 := N4
    have B283 := N5
    have HB := N6
    clear N0 N1 N2 N3 N4 N5 N6
    refine start_ (n := 36) (S := fun w' => w'.cell? ⟨g277, 0, none⟩ = some (I q t255) ∧ w'.cell? ⟨g277, 1, none⟩ = some (I q t256) ∧ w'.cell? ⟨g277, 2, none⟩ = some (I q t257) ∧ w'.cell? ⟨g277, 3, none⟩ = some (I q t258) ∧ w'.cell? ⟨g277, 4, none⟩ = some (I q t259) ∧ w'.cell? ⟨g277, 5, none⟩ = some (J Ao89 y278.length co89) ∧ w'.cell? ⟨g270, 0, none⟩ = some (I q t264) ∧ w'.cell? ⟨g270, 1, none⟩ = some (I q t265) ∧ w'.cell? ⟨g270, 2, none⟩ = some (I q t266) ∧ w'.cell? ⟨g270, 3, none⟩ = some (I q t267) ∧ w'.cell? ⟨g270, 4, none⟩ = some (I q t268) ∧ w'.cell? ⟨g270, 5, none⟩ = some (I q t269) ∧ w'.cell? ⟨g283, 0, none⟩ = some (I q t281) ∧ w'.cell? ⟨g283, 1, none⟩ = some (I q t282)) (ds := []) #[false, false, false, false, false, false, false, false, false, false, false, false, false, false, false, false, false, false, false, false, false, false, false, false, false, false, false, false, false, false, false, false, false, false, false, false] (by kernel_rfl) rfl rfl ⟨(bc B277.out 0).trans rfl, (bc B277.out 1).trans rfl, (bc B277.out 2).trans rfl, (bc B277.out 3).trans rfl, (bc B277.out 4).trans rfl, (bc B277.out 5).trans rfl, (bc B270.out 0).trans rfl, (bc B270.out 1).trans rfl, (bc B270.out 2).trans rfl, (bc B270.out 3).trans rfl, (bc B270.out 4).trans rfl, (bc B270.out 5).trans rfl, (bc B283.out 0).trans rfl, (bc B283.out 1).trans rfl⟩ (fun hHeld => ?_); refine with_tabW laws_FnHashes.tab10 laws_FnHashes.bits10 (fun HT_ HW_ => ?_)
    generalize w98.drew = w99 at O262 O280 B263 B270 B277 B283 HB hHeld ⊢
    refine take_ (i := 0) (N := some 28) (v := ?_) (a' := ?_) #[true, false, false, false, false, false, false, false, false, false, false, false, false, false, false, false, false, false, false, false, false, false, false, false, false, false, false, false, false, false, false, false, false, false, false, false] rfl rfl (take_ofW HT_.out HW_.out (by kernel_rfl)) (fun _ _ _ h => h) (Or.inl ⟨by rfl, ?_⟩) hHeld ?_ ?_
    rotate_left
    · rintro w' ⟨s0, s1, s2, s3, s4, s5, s6, s7, s8, s9, s10, s11, s12, s13⟩
      go_simp
      with_reducible rfl
    rotate_left
    · simp only [Act.put, List.setIfInBounds_toArray, List.set_cons_zero, List.set_cons_succ, i64_w, i32_w]
      rfl
    refine take_ (i := 2) (N := some 30) (v := ?_) (a' := ?_) #[true, false, true, false, false, false, false, false, false, false, false, false, false, false, false, false, false, false, false, false, false, false, false, false, false, false, false, false, false, false, false, false, false, false, false, false] rfl rfl (take_ofW HT_.out HW_.out (by kernel_rfl)) (fun _ _ _ h => h) (Or.inl ⟨by rfl, ?_⟩) hHeld ?_ ?_
    rotate_left
    · rintro w' ⟨s0, s1, s2, s3, s4, s5, s6, s7, s8, s9, s10, s11, s12, s13⟩
      go_simp
      with_reducible rfl
    rotate_left
    · simp only [Act.put, List.setIfInBounds_toArray, List.set_cons_zero, List.set_cons_succ, i64_w, i32_w]
      rfl
    refine one_ (i := 1) (N := some 29) #[true, true, true, false, false, false, false, false, false, false, false, false, false, false, false, false, false, false, false, false, false, false, false, false, false, false, false, false, false, false, false, false, false, false, false, false] rfl rfl (one_of HT_.out (by kernel_rfl)) (by decide) (fun K hK => ?_)
    refine goes_ Try.func47 (by kernel_rfl) rfl #[.agg #[I q t255, I q t256, I q t257, I q t258, I q t259, J Ao89 y278.length co89]] (by rfl) rfl rfl (by (try simp only [List.map_toArray, List.map_cons, List.map_nil]); first | done | rfl | (simp only [List.length_drop, List.length_take]; rfl)) ?_
    with_reducible refine (impl_FlowOf.calls k t255 t256 t257 t258 t259 _ _ y278 t284 t285 t286 t287 t288 t289 _ ?side1 ?side2 A8.out).mono ?_
    (case side1 => repeat (first | exact (Kd.R_reads' O280.out).2.2 | (with_reducible refine ca ?_ _) | (with_reducible refine cN ?_ _) | (with_reducible refine cd1 ?_)))
    (case side2 => exact (Kd.R_reads' O280.out).2.1)
    rintro e w100 ⟨rfl, hb⟩
    refine ⟨_, rfl, ?_⟩
    have N0 := am (rb (by (with_reducible repeat (first | apply ra | apply rN | apply rd1)); exact O262.out) hb)
    have N1 := am (rb (by (with_reducible repeat (first | apply ra | apply rN | apply rd1)); exact O280.out) hb)
    have N2 := am (bb (g := g263) (by (with_reducible repeat (first | apply bN | apply bd | apply ba)); exact B263.out) hb)
    have N3 := am (bb (g := g270) (by (with_reducible repeat (first | apply bN | apply bd | apply ba)); exact B270.out) hb)
    have N4 := am (bb (g := g277) (by (with_reducible repeat (first | apply bN | apply bd | apply ba)); exact B277.out) hb)
    have N5 := am (bb (g := g283) (by (with_reducible repeat (first | apply bN | apply bd | apply ba)); exact B283.out) hb)
    have N6 := am (bp (by repeat (first | (with_reducible first | exact HB.out | apply pa | apply pN | apply p1 | refine bs ?_ E263.out | refine bs ?_ E270.out | refine bs ?_ E277.out | refine bs ?_ E283.out) | exact HB.out)) hb)
    clear O262
    clear O280
    clear B263
    clear B270
    clear B277
    clear B283
    clear HB
    have O262 := N0
    have O280 := N1
    have B263 := N2
    have B270 := N3
    have B277 := N4
    have B283 := N5
    have HB := N6
    clear N0 N1 N2 N3 N4 N5 N6
    (try clear hb)
    (try clear hb2)
    (try clear hk)
    (try clear hi)
    refine hK.out _ _ ⟨(bc B277.out 0).trans rfl, (bc B277.out 1).trans rfl, (bc B277.out 2).trans rfl, (bc B277.out 3).trans rfl, (bc B277.out 4).trans rfl, (bc B277.out 5).trans rfl, (bc B270.out 0).trans rfl, (bc B270.out 1).trans rfl, (bc B270.out 2).trans rfl, (bc B270.out 3).trans rfl, (bc B270.out 4).trans rfl, (bc B270.out 5).trans rfl, (bc B283.out 0).trans rfl, (bc B283.out 1).trans rfl⟩ (fun hHeld => ?_)
    clear hK K
    refine norm_ (a' := ?_) ?_ ?_
    rotate_left
    · show Act.put _ (some 29) _ = _
      simp only [Act.put, List.setIfInBounds_toArray, List.set_cons_zero, List.set_cons_succ, i64_w, i32_w]
      rfl
    refine pure_ (i := 3) (N := some 31) (v := ?_) (a' := ?_) #[true, true, true, true, false, false, false, false, false, false, false, false, false, false, false, false, false, false, false, false, false, false, false, false, false, false, false, false, false, false, false, false, false, false, false, false] rfl rfl (any_of HT_.out (by kernel_rfl)) (fun _ _ _ h => h) (Or.inl ⟨by rfl, ?_⟩) ?_ ?_
    rotate_left
    · intro w'
      first | (go_simp; with_reducible rfl) | (go_simp; (try unfold Instr.field); go_simp; (try simp only [asAgg]); go_simp; with_reducible rfl)
    rotate_left
    · simp only [Act.put, List.setIfInBounds_toArray, List.set_cons_zero, List.set_cons_succ, i64_w, i32_w]
      rfl
    refine pure_ (i := 4) (N := some 32) (v := ?_) (a' := ?_) #[true, true, true, true, true, false, false, false, false, false, false, false, false, false, false, false, false, false, false, false, false, false, false, false, false, false, false, false, false, false, false, false, false, false, false, false] rfl rfl (any_of HT_.out (by kernel_rfl)) (fun _ _ _ h => h) (Or.inl ⟨by rfl, ?_⟩) ?_ ?_
    rotate_left
    · intro w'
      first | (go_simp; with_reducible rfl) | (go_simp; (try unfold Instr.field); go_simp; (try simp only [asAgg]); go_simp; with_reducible rfl)
    rotate_left
    · simp only [Act.put, List.setIfInBounds_toArray, List.set_cons_zero, List.set_cons_succ, i64_w, i32_w]
      rfl
    refine pure_ (i := 5) (N := some 33) (v := ?_) (a' := ?_) #[true, true, true, true, true, true, false, false, false, false, false, false, false, false, false, false, false, false, false, false, false, false, false, false, false, false, false, false, false, false, false, false, false, false, false, false] rfl rfl (any_of HT_.out (by kernel_rfl)) (fun _ _ _ h => h) (Or.inl ⟨by rfl, ?_⟩) ?_ ?_
    rotate_left
    · intro w'
      first | (go_simp; with_reducible rfl) | (go_simp; (try unfold Instr.field); go_simp; (try simp only [asAgg]); go_simp; with_reducible rfl)
    rotate_left
    · simp only [Act.put, List.setIfInBounds_toArray, List.set_cons_zero, List.set_cons_succ, i64_w, i32_w]
      rfl
    refine take_ (i := 6) (N := some 34) (v := ?_) (a' := ?_) #[true, true, true, true, true, true, true, false, false, false, false, false, false, false, false, false, false, false, false, false, false, false, false, false, false, false, false, false, false, false, false, false, false, false, false, false] rfl rfl (take_ofW HT_.out HW_.out (by kernel_rfl)) (fun _ _ _ h => h) (Or.inl ⟨by rfl, ?_⟩) hHeld ?_ ?_
    rotate_left
    · rintro w' ⟨s0, s1, s2, s3, s4, s5, s6, s7, s8, s9, s10, s11, s12, s13⟩
      go_simp
      with_reducible rfl
    rotate_left
    · simp only [Act.put, List.setIfInBounds_toArray, List.set_cons_zero, List.set_cons_succ, i64_w, i32_w]
      rfl
    refine pure_ (i := 7) (N := some 35) (v := ?_) (a' := ?_) #[true, true, true, true, true, true, true, true, false, false, false, false, false, false, false, false, false, false, false, false, false, false, false, false, false, false, false, false, false, false, false, false, false, false, false, false] rfl rfl (any_of HT_.out (by kernel_rfl)) (fun _ _ _ h => h) (Or.inl ⟨by rfl, ?_⟩) ?_ ?_
    rotate_left
    · intro w'
      first | (go_simp; with_reducible rfl) | (go_simp; (try unfold Instr.field); go_simp; (try simp only [asAgg]); go_simp; with_reducible rfl)
    rotate_left
    · simp only [Act.put, List.setIfInBounds_toArray, List.set_cons_zero, List.set_cons_succ, i64_w, i32_w]
      rfl
    refine pure_ (i := 8) (N := some 36) (v := ?_) (a' := ?_) #[true, true, true, true, true, true, true, true, true, false, false, false, false, false, false, false, false, false, false, false, false, false, false, false, false, false, false, false, false, false, false, false, false, false, false, false] rfl rfl (any_of HT_.out (by kernel_rfl)) (fun _ _ _ h => h) (Or.inl ⟨by rfl, ?_⟩) ?_ ?_
    rotate_left
    · intro w'
      first | (go_simp; with_reducible rfl) | (go_simp; (try unfold Instr.field); go_simp; (try simp only [asAgg]); go_simp; with_reducible rfl)
    rotate_left
    · simp only [Act.put, List.setIfInBounds_toArray, List.set_cons_zero, List.set_cons_succ, i64_w, i32_w]
      rfl
    refine pure_ (i := 9) (N := some 37) (v := ?_) (a' := ?_) #[true, true, true, true, true, true, true, true, true, true, false, false, false, false, false, false, false, false, false, false, false, false, false, false, false, false, false, false, false, false, false, false, false, false, false, false] rfl rfl (any_of HT_.out (by kernel_rfl)) (fun _ _ _ h => h) (Or.inl ⟨by rfl, ?_⟩) ?_ ?_
    rotate_left
    · intro w'
      first | (go_simp; with_reducible rfl) | (go_simp; (try unfold Instr.field); go_simp; (try simp only [asAgg]); go_simp; with_reducible rfl)
    rotate_left
    · simp only [Act.put, List.setIfInBounds_toArray, List.set_cons_zero, List.set_cons_succ, i64_w, i32_w]
      rfl
    refine pure_ (i := 10) (N := some 38) (v := ?_) (a' := ?_) #[true, true, true, true, true, true, true, true, true, true, true, false, false, false, false, false, false, false, false, false, false, false, false, false, false, false, false, false, false, false, false, false, false, false, false, false] rfl rfl (any_of HT_.out (by kernel_rfl)) (fun _ _ _ h => h) (Or.inl ⟨by rfl, ?_⟩) ?_ ?_
    rotate_left
    · intro w'
      first | (go_simp; with_reducible rfl) | (go_simp; (try unfold Instr.field); go_simp; (try simp only [asAgg]); go_simp; with_reducible rfl)
    rotate_left
    · simp only [Act.put, List.setIfInBounds_toArray, List.set_cons_zero, List.set_cons_succ, i64_w, i32_w]
      rfl
    refine take_ (i := 11) (N := some 39) (v := ?_) (a' := ?_) #[true, true, true, true, true, true, true, true, true, true, true, true, false, false, false, false, false, false, false, false, false, false, false, false, false, false, false, false, false, false, false, false, false, false, false, false] rfl rfl (take_ofW HT_.out HW_.out (by kernel_rfl)) (fun _ _ _ h => h) (Or.inl ⟨by rfl, ?_⟩) hHeld ?_ ?_
    rotate_left
    · rintro w' ⟨s0, s1, s2, s3, s4, s5, s6, s7, s8, s9, s10, s11, s12, s13⟩
      go_simp
      with_reducible rfl
    rotate_left
    · simp only [Act.put, List.setIfInBounds_toArray, List.set_cons_zero, List.set_cons_succ, i64_w, i32_w]
      rfl
    refine pure_ (i := 12) (N := some 40) (v := ?_) (a' := ?_) #[true, true, true, true, true, true, true, true, true, true, true, true, true, false, false, false, false, false, false, false, false, false, false, false, false, false, false, false, false, false, false, false, false, false, false, false] rfl rfl (any_of HT_.out (by kernel_rfl)) (fun _ _ _ h => h) (Or.inl ⟨by rfl, ?_⟩) ?_ ?_
    rotate_left
    · intro w'
      first | (go_simp; with_reducible rfl) | (go_simp; (try unfold Instr.field); go_simp; (try simp only [asAgg]); go_simp; with_reducible rfl)
    rotate_left
    · simp only [Act.put, List.setIfInBounds_toArray, List.set_cons_zero, List.set_cons_succ, i64_w, i32_w]
      rfl
    refine pure_ (i := 13) (N := some 41) (v := ?_) (a' := ?_) #[true, true, true, true, true, true, true, true, true, true, true, true, true, true, false, false, false, false, false, false, false, false, false, false, false, false, false, false, false, false, false, false, false, false, false, false] rfl rfl (any_of HT_.out (by kernel_rfl)) (fun _ _ _ h => h) (Or.inl ⟨by rfl, ?_⟩) ?_ ?_
    rotate_left
    · intro w'
      first | (go_simp; with_reducible rfl) | (go_simp; (try unfold Instr.field); go_simp; (try simp only [asAgg]); go_simp; with_reducible rfl)
    rotate_left
    · simp only [Act.put, List.setIfInBounds_toArray, List.set_cons_zero, List.set_cons_succ, i64_w, i32_w]
      rfl
    refine pure_ (i := 14) (N := some 42) (v := ?_) (a' := ?_) #[true, true, true, true, true, true, true, true, true, true, true, true, true, true, true, false, false, false, false, false, false, false, false, false, false, false, false, false, false, false, false, false, false, false, false, false] rfl rfl (any_of HT_.out (by kernel_rfl)) (fun _ _ _ h => h) (Or.inl ⟨by rfl, ?_⟩) ?_ ?_
    rotate_left
    · intro w'
      first | (go_simp; with_reducible rfl) | (go_simp; (try unfold Instr.field); go_simp; (try simp only [asAgg]); go_simp; with_reducible rfl)
    rotate_left
    · simp only [Act.put, List.setIfInBounds_toArray, List.set_cons_zero, List.set_cons_succ, i64_w, i32_w]
      rfl
    refine pure_ (i := 15) (N := some 43) (v := ?_) (a' := ?_) #[true, true, true, true, true, true, true, true, true, true, true, true, true, true, true, true, false, false, false, false, false, false, false, false, false, false, false, false, false, false, false, false, false, false, false, false] rfl rfl (any_of HT_.out (by kernel_rfl)) (fun _ _ _ h => h) (Or.inl ⟨by rfl, ?_⟩) ?_ ?_
    rotate_left
    · intro w'
      first | (go_simp; with_reducible rfl) | (go_simp; (try unfold Instr.field); go_simp; (try simp only [asAgg]); go_simp; with_reducible rfl)
    rotate_left
    · simp only [Act.put, List.setIfInBounds_toArray, List.set_cons_zero, List.set_cons_succ, i64_w, i32_w]
      rfl
    refine take_ (i := 16) (N := some 44) (v := ?_) (a' := ?_) #[true, true, true, true, true, true, true, true, true, true, true, true, true, true, true, true, true, false, false, false, false, false, false, false, false, false, false, false, false, false, false, false, false, false, false, false] rfl rfl (take_ofW HT_.out HW_.out (by kernel_rfl)) (fun _ _ _ h => h) (Or.inl ⟨by rfl, ?_⟩) hHeld ?_ ?_
    rotate_left
    · rintro w' ⟨s0, s1, s2, s3, s4, s5, s6, s7, s8, s9, s10, s11, s12, s13⟩
      go_simp
      with_reducible rfl
    rotate_left
    · simp only [Act.put, List.setIfInBounds_toArray, List.set_cons_zero, List.set_cons_succ, i64_w, i32_w]
      rfl
    refine pure_ (i := 17) (N := some 45) (v := ?_) (a' := ?_) #[true, true, true, true, true, true, true, true, true, true, true, true, true, true, true, true, true, true, false, false, false, false, false, false, false, false, false, false, false, false, false, false, false, false, false, false] rfl rfl (any_of HT_.out (by kernel_rfl)) (fun _ _ _ h => h) (Or.inl ⟨by rfl, ?_⟩) ?_ ?_
    rotate_left
    · intro w'
      first | (go_simp; with_reducible rfl) | (go_simp; (try unfold Instr.field); go_simp; (try simp only [asAgg]); go_simp; with_reducible rfl)
    rotate_left
    · simp only [Act.put, List.setIfInBounds_toArray, List.set_cons_zero, List.set_cons_succ, i64_w, i32_w]
      rfl
    refine pure_ (i := 18) (N := some 46) (v := ?_) (a' := ?_) #[true, true, true, true, true, true, true, true, true, true, true, true, true, true, true, true, true, true, true, false, false, false, false, false, false, false, false, false, false, false, false, false, false, false, false, false] rfl rfl (any_of HT_.out (by kernel_rfl)) (fun _ _ _ h => h) (Or.inl ⟨by rfl, ?_⟩) ?_ ?_
    rotate_left
    · intro w'
      first | (go_simp; with_reducible rfl) | (go_simp; (try unfold Instr.field); go_simp; (try simp only [asAgg]); go_simp; with_reducible rfl)
    rotate_left
    · simp only [Act.put, List.setIfInBounds_toArray, List.set_cons_zero, List.set_cons_succ, i64_w, i32_w]
      rfl
    refine pure_ (i := 19) (N := some 47) (v := ?_) (a' := ?_) #[true, true, true, true, true, true, true, true, true, true, true, true, true, true, true, true, true, true, true, true, false, false, false, false, false, false, false, false, false, false, false, false, false, false, false, false] rfl rfl (any_of HT_.out (by kernel_rfl)) (fun _ _ _ h => h) (Or.inl ⟨by rfl, ?_⟩) ?_ ?_
    rotate_left
    · intro w'
      first | (go_simp; with_reducible rfl) | (go_simp; (try unfold Instr.field); go_simp; (try simp only [asAgg]); go_simp; with_reducible rfl)
    rotate_left
    · simp only [Act.put, List.setIfInBounds_toArray, List.set_cons_zero, List.set_cons_succ, i64_w, i32_w]
      rfl
    refine pure_ (i := 20) (N := some 48) (v := undef) (a' := ?_) #[true, true, true, true, true, true, true, true, true, true, true, true, true, true, true, true, true, true, true, true, true, false, false, false, false, false, false, false, false, false, false, false, false, false, false, false] rfl rfl (any_of HT_.out (by kernel_rfl)) (fun _ _ _ h => h) (Or.inr ⟨by rfl, rfl⟩) ?_ ?_
    rotate_left
    · simp only [Act.put, List.setIfInBounds_toArray, List.set_cons_zero, List.set_cons_succ, i64_w, i32_w]
      rfl
    refine pure_ (i := 21) (N := some 49) (v := undef) (a' := ?_) #[true, true, true, true, true, true, true, true, true, true, true, true, true, true, true, true, true, true, true, true, true, true, false, false, false, false, false, false, false, false, false, false, false, false, false, false] rfl rfl (any_of HT_.out (by kernel_rfl)) (fun _ _ _ h => h) (Or.inr ⟨by rfl, rfl⟩) ?_ ?_
    rotate_left
    · simp only [Act.put, List.setIfInBounds_toArray, List.set_cons_zero, List.set_cons_succ, i64_w, i32_w]
      rfl
    refine pure_ (i := 22) (N := some 50) (v := undef) (a' := ?_) #[true, true, true, true, true, true, true, true, true, true, true, true, true, true, true, true, true, true, true, true, true, true, true, false, false, false, false, false, false, false, false, false, false, false, false, false] rfl rfl (any_of HT_.out (by kernel_rfl)) (fun _ _ _ h => h) (Or.inr ⟨by rfl, rfl⟩) ?_ ?_
    rotate_left
    · simp only [Act.put, List.setIfInBounds_toArray, List.set_cons_zero, List.set_cons_succ, i64_w, i32_w]
      rfl
    refine pure_ (i := 23) (N := some 51) (v := undef) (a' := ?_) #[true, true, true, true, true, true, true, true, true, true, true, true, true, true, true, true, true, true, true, true, true, true, true, true, false, false, false, false, false, false, false, false, false, false, false, false] rfl rfl (any_of HT_.out (by kernel_rfl)) (fun _ _ _ h => h) (Or.inr ⟨by rfl, rfl⟩) ?_ ?_
    rotate_left
    · simp only [Act.put, List.setIfInBounds_toArray, List.set_cons_zero, List.set_cons_succ, i64_w, i32_w]
      rfl
    refine pure_ (i := 24) (N := some 52) (v := undef) (a' := ?_) #[true, true, true, true, true, true, true, true, true, true, true, true, true, true, true, true, true, true, true, true, true, true, true, true, true, false, false, false, false, false, false, false, false, false, false, false] rfl rfl (any_of HT_.out (by kernel_rfl)) (fun _ _ _ h => h) (Or.inr ⟨by rfl, rfl⟩) ?_ ?_
    rotate_left
    · simp only [Act.put, List.setIfInBounds_toArray, List.set_cons_zero, List.set_cons_succ, i64_w, i32_w]
      rfl
    refine pure_ (i := 25) (N := some 53) (v := undef) (a' := ?_) #[true, true, true, true, true, true, true, true, true, true, true, true, true, true, true, true, true, true, true, true, true, true, true, true, true, true, false, false, false, false, false, false, false, false, false, false] rfl rfl (any_of HT_.out (by kernel_rfl)) (fun _ _ _ h => h) (Or.inr ⟨by rfl, rfl⟩) ?_ ?_
    rotate_left
    · simp only [Act.put, List.setIfInBounds_toArray, List.set_cons_zero, List.set_cons_succ, i64_w, i32_w]
      rfl
    refine pure_ (i := 26) (N := some 54) (v := ?_) (a' := ?_) #[true, true, true, true, true, true, true, true, true, true, true, true, true, true, true, true, true, true, true, true, true, true, true, true, true, true, true, false, false, false, false, false, false, false, false, false] rfl rfl (any_of HT_.out (by kernel_rfl)) (fun _ _ _ h => h) (Or.inl ⟨by rfl, ?_⟩) ?_ ?_
    rotate_left
    · intro w'
      first | (go_simp; with_reducible rfl) | (go_simp; (try unfold Instr.field); go_simp; (try simp only [asAgg]); go_simp; with_reducible rfl)
    rotate_left
    · simp only [Act.put, List.setIfInBounds_toArray, List.set_cons_zero, List.set_cons_succ, i64_w, i32_w]
      rfl
    refine pure_ (i := 27) (N := some 55) (v := ?_) (a' := ?_) #[true, true, true, true, true, true, true, true, true, true, true, true, true, true, true, true, true, true, true, true, true, true, true, true, true, true, true, true, false, false, false, false, false, false, false, false] rfl rfl (any_of HT_.out (by kernel_rfl)) (fun _ _ _ h => h) (Or.inl ⟨by rfl, ?_⟩) ?_ ?_
    rotate_left
    · intro w'
      first | (go_simp; with_reducible rfl) | (go_simp; (try unfold Instr.field); go_simp; (try simp only [asAgg]); go_simp; with_reducible rfl)
    rotate_left
    · simp only [Act.put, List.setIfInBounds_toArray, List.set_cons_zero, List.set_cons_succ, i64_w, i32_w]
      rfl
    refine pure_ (i := 28) (N := some 56) (v := undef) (a' := ?_) #[true, true, true, true, true, true, true, true, true, true, true, true, true, true, true, true, true, true, true, true, true, true, true, true, true, true, true, true, true, false, false, false, false, false, false, false] rfl rfl (any_of HT_.out (by kernel_rfl)) (fun _ _ _ h => h) (Or.inr ⟨by rfl, rfl⟩) ?_ ?_
    rotate_left
    · simp only [Act.put, List.setIfInBounds_toArray, List.set_cons_zero, List.set_cons_succ, i64_w, i32_w]
      rfl
    refine pure_ (i := 29) (N := some 57) (v := undef) (a' := ?_) #[true, true, true, true, true, true, true, true, true, true, true, true, true, true, true, true, true, true, true, true, true, true, true, true, true, true, true, true, true, true, false, false, false, false, false, false] rfl rfl (any_of HT_.out (by kernel_rfl)) (fun _ _ _ h => h) (Or.inr ⟨by rfl, rfl⟩) ?_ ?_
    rotate_left
    · simp only [Act.put, List.setIfInBounds_toArray, List.set_cons_zero, List.set_cons_succ, i64_w, i32_w]
      rfl
    refine pure_ (i := 30) (N := some 58) (v := undef) (a' := ?_) #[true, true, true, true, true, true, true, true, true, true, true, true, true, true, true, true, true, true, true, true, true, true, true, true, true, true, true, true, true, true, true, false, false, false, false, false] rfl rfl (any_of HT_.out (by kernel_rfl)) (fun _ _ _ h => h) (Or.inr ⟨by rfl, rfl⟩) ?_ ?_
    rotate_left
    · simp only [Act.put, List.setIfInBounds_toArray, List.set_cons_zero, List.set_cons_succ, i64_w, i32_w]
      rfl
    refine pure_ (i := 31) (N := some 59) (v := undef) (a' := ?_) #[true, true, true, true, true, true, true, true, true, true, true, true, true, true, true, true, true, true, true, true, true, true, true, true, true, true, true, true, true, true, true, true, false, false, false, false] rfl rfl (any_of HT_.out (by kernel_rfl)) (fun _ _ _ h => h) (Or.inr ⟨by rfl, rfl⟩) ?_ ?_
    rotate_left
    · simp only [Act.put, List.setIfInBounds_toArray, List.set_cons_zero, List.set_cons_succ, i64_w, i32_w]
      rfl
    refine pure_ (i := 32) (N := some 60) (v := undef) (a' := ?_) #[true, true, true, true, true, true, true, true, true, true, true, true, true, true, true, true, true, true, true, true, true, true, true, true, true, true, true, true, true, true, true, true, true, false, false, false] rfl rfl (any_of HT_.out (by kernel_rfl)) (fun _ _ _ h => h) (Or.inr ⟨by rfl, rfl⟩) ?_ ?_
    rotate_left
    · simp only [Act.put, List.setIfInBounds_toArray, List.set_cons_zero, List.set_cons_succ, i64_w, i32_w]
      rfl
    refine pure_ (i := 33) (N := some 61) (v := undef) (a' := ?_) #[true, true, true, true, true, true, true, true, true, true, true, true, true, true, true, true, true, true, true, true, true, true, true, true, true, true, true, true, true, true, true, true, true, true, false, false] rfl rfl (any_of HT_.out (by kernel_rfl)) (fun _ _ _ h => h) (Or.inr ⟨by rfl, rfl⟩) ?_ ?_
    rotate_left
    · simp only [Act.put, List.setIfInBounds_toArray, List.set_cons_zero, List.set_cons_succ, i64_w, i32_w]
      rfl
    refine pure_ (i := 34) (N := some 62) (v := ?_) (a' := ?_) #[true, true, true, true, true, true, true, true, true, true, true, true, true, true, true, true, true, true, true, true, true, true, true, true, true, true, true, true, true, true, true, true, true, true, true, false] rfl rfl (any_of HT_.out (by kernel_rfl)) (fun _ _ _ h => h) (Or.inl ⟨by rfl, ?_⟩) ?_ ?_
    rotate_left
    · intro w'
      first | (go_simp; with_reducible rfl) | (go_simp; (try unfold Instr.field); go_simp; (try simp only [asAgg]); go_simp; with_reducible rfl)
    rotate_left
    · simp only [Act.put, List.setIfInBounds_toArray, List.set_cons_zero, List.set_cons_succ, i64_w, i32_w]
      rfl
    refine pure_ (i := 35) (N := some 2) (v := ?_) (a' := ?_) #[true, true, true, true, true, true, true, true, true, true, true, true, true, true, true, true, true, true, true, true, true, true, true, true, true, true, true, true, true, true, true, true, true, true, true, true] rfl rfl (any_of HT_.out (by kernel_rfl)) (fun _ _ _ h => h) (Or.inl ⟨by rfl, ?_⟩) ?_ ?_
    rotate_left
    · intro w'
      first | (go_simp; with_reducible rfl) | (go_simp; (try unfold Instr.field); go_simp; (try simp only [asAgg]); go_simp; with_reducible rfl)
    rotate_left
    · simp only [Act.put, List.setIfInBounds_toArray, List.set_cons_zero, List.set_cons_succ, i64_w, i32_w]
      rfl
    refine done_ (done_of HT_.out (by kernel_rfl)) ?_
    try go_wp2
    go_ret
    exact ⟨by first | rfl | (simp [errW_none, errW_some] <;> rfl) | (simp [*, errW_none, errW_some] <;> rfl), by repeat (first | (with_reducible first | exact HB.out | apply pa | apply pN | apply p1 | refine bs ?_ E263.out | refine bs ?_ E270.out | refine bs ?_ E277.out | refine bs ?_ E283.out) | exact HB.out)⟩
end Go.Proofs.Ytaellhlkjjooiaa.QFnHashes
