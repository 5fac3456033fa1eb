-- MADE BY PROGRAM (wip/dr/assemble2.py) out of walks by hand. Lean checks it.
import Derived.Test.YtfmlhpoaipeoeaaQFnDeltasyk
import Derived.Test.YtfmlhpoaipeoeaaQFnDeltasyc
import Derived.Test.YtfmlhpoaipeoeaaIx
import Derived.StillTailTactics
namespace Go.Proofs.Ytfmlhpoaipeoeaa.QFnDeltas
open Go.RowKit Go.Proofs.YtfmlhpoaipeoeaaW.PrintWords Go.Proofs.YtfmlhpoaipeoeaaW.PrintLast Go.Proofs.YtfmlhpoaipeoeaaW.PrintMore
open Go.Proofs.YtfmlhpoaipeoeaaW.PrintWords renaming blk_drewN → bN, blk_drew → bd, blk_alloc → ba, blk_cell → bc, blk_frozen → bf, below_set → bs, pw_below_drewN → pN, below_drew1 → p1, below_alloc → pa, blk_below → bb, below_size → bz, below_step → bp, blk_lt → bl, blk_far → bq, add_block → ab
open Go.Proofs.YtfmlhpoaipeoeaaW.PrintWords.Kd renaming R_drewN → rN, R_drew → rd1, R_alloc → ra, R_far → rf, R_below → rb, R_new' → rn, R_lt → rl, R_elder' → re, R_lower → rw1, C_alloc → ca, C_drewN → cN, C_drew → cd1, S_alloc → sa, S_drewN → sN, S_drew → sd, S_far → sf, S_mono → sm, S_types → st, S_lt → sl
open Go.Proofs.YtfmlhpoaipeoeaaW.PrintWords.Aside0 renaming mk → am
open Go.Value renaming int → I, slice → J
open Go.IntKind renaming i64 → q
attribute [local go_sem] max2_int min2_int max_two min_two max_three min_three max_four min_four   -- for this text's walks alone
set_option linter.unusedVariables false
set_option linter.unusedSimpArgs false
theorem pu2l {W : World} {g t : Nat} {u0 u1 v0 v1 : Value} (h : W.heap[g]? = some (.cells #[u0, u1] t (0, 0))) : ((W.setCell ⟨g, 0, none⟩ v0).setCell ⟨g, 1, none⟩ v1).heap[g]? = some (.cells #[v0, v1] t (0, 0)) := by
  refine blk_put (cs := #[v0, u1]) ?_ 1 _ rfl
  exact blk_put (cs := #[u0, u1]) h 0 _ rfl
theorem pu3l {W : World} {g t : Nat} {u0 u1 u2 v0 v1 v2 : Value} (h : W.heap[g]? = some (.cells #[u0, u1, u2] t (0, 0))) : (((W.setCell ⟨g, 0, none⟩ v0).setCell ⟨g, 1, none⟩ v1).setCell ⟨g, 2, none⟩ v2).heap[g]? = some (.cells #[v0, v1, v2] t (0, 0)) := by
  refine blk_put (cs := #[v0, v1, u2]) ?_ 2 _ rfl
  refine blk_put (cs := #[v0, u1, u2]) ?_ 1 _ rfl
  exact blk_put (cs := #[u0, u1, u2]) h 0 _ rfl
attribute [local go_sem high] eqA38
/-! ### laws_FnDeltas: function 11 -/
def laws_FnDeltas.l0 : Nat → Int → Int → List (S36) → List (S64) → Int → List (S36) → List (S64) → Int → List Int → Option (Bool)
 | 0, _, _, _, _, _, _, _, _, _ => none
 | k + 1, x6, x545000, x545001, x545002, x546000, x546001, x546002, x551000, x551001 => if x6 < (x545001.length : Int) then (if 0 ≤ x6 then ((impl_BackendAt.f x546000 x546001 x546002 ((rd_T36 x545001 x6).f0)).bind fun bt556 => ((impl_BackendAt.f x545000 x545001 x545002 ((rd_T36 x545001 x6).f0)).bind fun bt562 => ((laws_lwHas.f k x551001 ((rd_T36 x545001 x6).f0)).bind fun t568 => (if ((bt556.1 == bt562.1 && ((bt556.2.1 == bt562.2.1 && (bt556.2.2.1 == bt562.2.2.1 && (bt556.2.2.2.1 == bt562.2.2.2.1 && (bt556.2.2.2.2.1 == bt562.2.2.2.2.1 && (bt556.2.2.2.2.2 == bt562.2.2.2.2.2))))))) == t568) = true then none else (laws_FnDeltas.l0 k (wrap64 (x6 + 1)) x545000 x545001 x545002 x546000 x546001 x546002 x551000 x551001))))) else (none)) else ((impl_DeltaOf.f x546000 x546001 x546002 x545000 x545001 x545002).bind fun bt569 => ((laws_lwNums.f k bt569.2 x551001).bind fun t573 => (if t573 = true then ((impl_DeltaOf.f x545000 x545001 x545002 x545000 x545001 x545002).bind fun bt574 => (if (bt574.2.length : Int) = 0 then ((spec_DeltaOf.f x545000 x545001 x545002 x546000 x546001 x546002).bind fun bt578 => (some ((x551001.length : Int) == (bt578.2.length : Int)))) else none)) else none)))
def laws_FnDeltas.g (k : Nat) (a : Int) (k1 : List S36) (k2 : List S64) (b : Int) (l1 : List S36) (l2 : List S64) : Option (Bool) := (impl_DeltaOf.f a k1 k2 b l1 l2).bind fun bt546 => (if bt546.1 = 0 then (laws_FnDeltas.l0 k 0 a k1 k2 b l1 l2 bt546.1 bt546.2) else ((spec_DeltaOf.f a k1 k2 b l1 l2).bind fun bt551 => (some (bt551.1 == bt546.1))))
open Classical in
noncomputable
def laws_FnDeltas.rest (k : Nat) (l0 : List Int) : Option (Bool) := if (Dr.IsBytes l0 ∧ ∀ (a : Int) (k1 : List S36) (k2 : List S64) (b : Int) (l1 : List S36) (l2 : List S64), k1.length ≤ 9 → k2.length ≤ 5 → (∀ y, y ∈ k2 → y.f3.length ≤ 25) → l1.length ≤ 9 → l2.length ≤ 5 → (∀ y, y ∈ l2 → y.f3.length ≤ 25) → laws_FnDeltas.g k a k1 k2 b l1 l2 = some true) then some true else none
noncomputable
def laws_FnDeltas.f (k : Nat) (l0 : List Int) : Option (Bool) := (laws_lwBig.f l0).bind fun t529 => (if t529 = true then (some true) else (laws_FnDeltas.rest k l0))
theorem laws_FnDeltas.rest_some {k : Nat} {l0 : List Int} {r : Bool} (h : laws_FnDeltas.rest k l0 = some r) : Dr.IsBytes l0 ∧ (∀ (a : Int) (k1 : List S36) (k2 : List S64) (b : Int) (l1 : List S36) (l2 : List S64), k1.length ≤ 9 → k2.length ≤ 5 → (∀ y, y ∈ k2 → y.f3.length ≤ 25) → l1.length ≤ 9 → l2.length ≤ 5 → (∀ y, y ∈ l2 → y.f3.length ≤ 25) → laws_FnDeltas.g k a k1 k2 b l1 l2 = some true) ∧ r = true := by
 unfold laws_FnDeltas.rest at h
 split at h
 ·rename_i hc
  exact ⟨hc.1, hc.2, (Option.some.inj h).symm⟩
 ·cases h
theorem laws_FnDeltas.small {l0 : List Int} (h : laws_lwBig.f l0 = some false) : l0.length ≤ 2097152 := by
 unfold laws_lwBig.f at h
 have h2 := of_decide_eq_false (Option.some.inj h)
 omega
def laws_FnDeltas.T6 : Bool × List (List Nat × List Nat) := (true, [([], []), ([], []), ([0, 1], [0, 1]), ([2], [2]), ([], []), ([4], [4]), ([3, 5], [3, 5]), ([6, 2, 0, 1, 2, 3, 4, 5, 6], [6])])
def laws_FnDeltas.B6 : List Nat := [0, 0, 3, 7, 0, 16, 63, 127]
theorem laws_FnDeltas.tab6 : rtab .any (opsOf Try.f11 6) = laws_FnDeltas.T6 := by kernel_rfl
theorem laws_FnDeltas.bits6 : waitsOk laws_FnDeltas.T6.2 laws_FnDeltas.B6 = true := by kernel_rfl
def laws_FnDeltas.T11 : Bool × List (List Nat × List Nat) := (true, [([], []), ([], []), ([0, 1], [0, 1]), ([], []), ([], []), ([3, 4, 2], [3, 4]), ([2, 5], [2, 5]), ([6, 5, 0, 1, 2, 3, 4, 5, 6], [6])])
def laws_FnDeltas.B11 : List Nat := [0, 0, 3, 0, 0, 31, 63, 127]
theorem laws_FnDeltas.tab11 : rtab .any (opsOf Try.f11 11) = laws_FnDeltas.T11 := by kernel_rfl
theorem laws_FnDeltas.bits11 : waitsOk laws_FnDeltas.T11.2 laws_FnDeltas.B11 = true := by kernel_rfl
def laws_FnDeltas.T14 : Bool × List (List Nat × List Nat) := (true, [([], []), ([], []), ([0, 1], [0, 1]), ([2], [2]), ([], []), ([4], [4]), ([3, 5, 2], [3, 5]), ([6, 6], [6]), ([7], [7]), ([7], [7]), ([8, 9, 7, 7], [7, 8, 9]), ([10, 7], [7, 10]), ([11, 7], [7, 11]), ([12, 7], [7, 12]), ([7, 13], [7, 13]), ([14, 10], [14]), ([15], [15]), ([16, 15], [15, 16]), ([17, 15], [15, 17]), ([15], [15]), ([15], [15]), ([19, 20, 15, 15], [15, 19, 20]), ([21, 15], [15, 21]), ([22, 15], [15, 22]), ([18, 23, 15], [15, 18, 23]), ([15, 24], [15, 24]), ([25, 21, 0, 1, 2, 3, 4, 5, 6, 7, 8, 9, 10, 11, 12, 13, 14, 15, 16, 17, 18, 19, 20, 21, 22, 23, 24, 25], [25])])
def laws_FnDeltas.B14 : List Nat := [0, 0, 3, 7, 0, 16, 63, 127, 255, 255, 1023, 2047, 4095, 8191, 16383, 32767, 65535, 131071, 262143, 65535, 65535, 1638399, 3735551, 7929855, 16777215, 33554431, 67108863]
theorem laws_FnDeltas.tab14 : rtab .any (opsOf Try.f11 14) = laws_FnDeltas.T14 := by kernel_rfl
theorem laws_FnDeltas.bits14 : waitsOk laws_FnDeltas.T14.2 laws_FnDeltas.B14 = true := by kernel_rfl
set_option maxHeartbeats 8000000 in
set_option maxRecDepth 100000 in
theorem laws_FnDeltas.calls (k : Nat) (A0 : Option Addr) (c0 : Nat) (l0 : List Int) (r : Bool) (w : World) (hr0 : Kd.C (Kd.int .u8) w A0 l0.length l0) (hc0 : l0.length ≤ c0) (h : laws_FnDeltas.f k l0 = some r) :
  Calls Try.prog 11 #[J A0 l0.length c0] w fun e w' => e = .returned (.bool r) ∧ Below w.heap.size w w' := by
 have hu31 := Try.underlying31
 have hu76 := Try.underlying76
 have HR0 := am hr0
 have HC0 := am hc0
 clear hr0 hc0
 have HB := am (Below.refl w.heap.size w)
 have H : ((laws_lwBig.f l0).bind fun t529 => (if t529 = true then (some true) else (laws_FnDeltas.rest k l0))) = some r := h
 clear h
 replace H := Option.bind_eq_some_iff.mp H
 obtain ⟨t529, A20, H⟩ := H
 replace H : (if t529 = true then (some true) else (laws_FnDeltas.rest k l0)) = some r := H
 have A2 := am A20
 clear A20
 by_cases c3 : t529 = true
 ·subst c3
  have H1 : (some true) = some r := by rw [if_pos rfl] at H; exact H
  clear H
  have H := H1
  clear H1
  obtain rfl := Option.some.inj H
  go_enter Try.func11, Try.ntmps11
  go_wp2_with (first | ((with_reducible refine gate_callee (f := 30) rfl ?_); refine goesL_ (some 10) rfl rfl Try.func30 (by kernel_rfl) rfl #[J A0 l0.length c0] rfl (by (try simp only [List.map_toArray, List.map_cons, List.map_nil]); first | done | rfl) ?_; (with_reducible refine (laws_lwBig.calls _ _ l0 true _ ?side1 ?side2 A2.out).mono ?_); (case side1 => repeat (first | exact HR0.out | (with_reducible refine ca ?_ _) | (with_reducible refine cN ?_ _) | (with_reducible refine cd1 ?_))); (case side2 => exact HC0.out); rintro e w' ⟨rfl, ⟨nd, rfl⟩⟩; refine ⟨_, rfl, ?_⟩))
  go_ret
  exact ⟨by first | rfl | (simp [errW_none, errW_some] <;> rfl) | (simp [*, errW_none, errW_some] <;> rfl), by repeat (first | (with_reducible first | exact HB.out | apply pa | apply pN | apply p1) | exact HB.out)⟩
 ·replace c3 := Bool.eq_false_iff.mpr c3
  subst c3
  have H1 : laws_FnDeltas.rest k l0 = some r := by rw [if_neg Bool.false_ne_true] at H; exact H
  clear H
  obtain ⟨hBy, HALL0, hr⟩ := laws_FnDeltas.rest_some H1
  have hsm := laws_FnDeltas.small A2.out
  have HALL := am HALL0
  clear H1 HALL0
  go_enter Try.func11, Try.ntmps11
  go_wp2_with ((with_reducible refine gate_callee (f := 30) rfl ?_); refine goesL_ (some 10) rfl rfl Try.func30 (by kernel_rfl) rfl #[J A0 l0.length c0] rfl (by (try simp only [List.map_toArray, List.map_cons, List.map_nil]); first | done | rfl) ?_; (with_reducible refine (laws_lwBig.calls _ _ l0 false _ ?side1 ?side2 A2.out).mono ?_); (case side1 => repeat (first | exact HR0.out | (with_reducible refine ca ?_ _) | (with_reducible refine cN ?_ _) | (with_reducible refine cd1 ?_))); (case side2 => exact HC0.out); rintro e w' ⟨rfl, ⟨nd, rfl⟩⟩; refine ⟨_, rfl, ?_⟩)
  refine (spec_DrawDeltaOf.cf A0 c0 l0 _ ?side1 HC0.out hBy hsm).mono ?_
  (case side1 => repeat (first | exact HR0.out | (with_reducible refine ca ?_ _) | (with_reducible refine cN ?_ _) | (with_reducible refine cd1 ?_)))
  rintro e w7 ⟨t530, v532, v535, t537, v539, v542, t531, t534, t538, t541, rfl, ho0, ho1, ho2, ho3, hq1, hq2, hq3, hq4, hq5, hq6, hb⟩
  (have N0 := am (rw1 ho0 (bz (by repeat (first | (with_reducible first | exact HB.out | apply pa | apply pN | apply p1) | exact HB.out)))); have N1 := am (rw1 ho1 (bz (by repeat (first | (with_reducible first | exact HB.out | apply pa | apply pN | apply p1) | exact HB.out)))); have N2 := am (rw1 ho2 (bz (by repeat (first | (with_reducible first | exact HB.out | apply pa | apply pN | apply p1) | exact HB.out)))); have N3 := am (rw1 ho3 (bz (by repeat (first | (with_reducible first | exact HB.out | apply pa | apply pN | apply p1) | exact HB.out)))); have N4 := am (bp (by repeat (first | (with_reducible first | exact HB.out | apply pa | apply pN | apply p1) | exact HB.out)) hb); clear HB; have O533 := N0; have O536 := N1; have O540 := N2; have O543 := N3; have HB := N4; clear N0 N1 N2 N3 N4; (try clear hb); (try clear hb2); (try clear hk); (try clear hi); (try clear ho0); (try clear ho1); (try clear ho2); (try clear ho3))
  have H : ((impl_DeltaOf.f t530 t531 t534 t537 t538 t541).bind fun bt546 => (if bt546.1 = 0 then (laws_FnDeltas.l0 k 0 t530 t531 t534 t537 t538 t541 bt546.1 bt546.2) else ((spec_DeltaOf.f t530 t531 t534 t537 t538 t541).bind fun bt551 => (some (bt551.1 == bt546.1))))) = some r := by rw [hr]; exact HALL.out t530 t531 t534 t537 t538 t541 hq1 hq2 hq3 hq4 hq5 hq6
  clear hr HALL hq1 hq2 hq3 hq4 hq5 hq6 hBy hsm
  replace H := Option.bind_eq_some_iff.mp H
  obtain ⟨⟨t546, t547⟩, A50, H⟩ := H
  replace H : (if t546 = 0 then (laws_FnDeltas.l0 k 0 t530 t531 t534 t537 t538 t541 t546 t547) else ((spec_DeltaOf.f t530 t531 t534 t537 t538 t541).bind fun bt551 => (some (bt551.1 == t546)))) = some r := H
  have A5 := am A50
  clear A50
  by_cases c6 : t546 = 0
  ·rw [if_pos c6] at H
   have c6b0 : (t546 == 0) = true := beq_iff_eq.mpr c6
   have c6b1 : (t546 != 0) = false := bne_eq_false_iff_eq.mpr c6
   clear c6
   have H' := am H
   clear H
   go_wp2_with (first | ((with_reducible refine gate_callee (f := 30) rfl ?_); refine goesL_ (some 10) rfl rfl Try.func30 (by kernel_rfl) rfl #[J A0 l0.length c0] rfl (by (try simp only [List.map_toArray, List.map_cons, List.map_nil]); first | done | rfl) ?_; (with_reducible refine (laws_lwBig.calls _ _ l0 false _ ?side1 ?side2 A2.out).mono ?_); (case side1 => repeat (first | exact HR0.out | (with_reducible refine ca ?_ _) | (with_reducible refine cN ?_ _) | (with_reducible refine cd1 ?_))); (case side2 => exact HC0.out); rintro e w' ⟨rfl, ⟨nd, rfl⟩⟩; refine ⟨_, rfl, ?_⟩) | ((with_reducible refine gate_callee (f := 46) rfl ?_); refine goesL_ (some 13) rfl rfl Try.func46 (by kernel_rfl) rfl #[J A0 l0.length c0] rfl (by (try simp only [List.map_toArray, List.map_cons, List.map_nil]); first | done | rfl) ?_; (with_reducible refine (spec_DrawDeltaOf.calls k _ _ l0 t530 t531 t534 t537 t538 t541 _ ?side1 ?side2 A4.out).mono ?_); (case side1 => repeat (first | exact HR0.out | (with_reducible refine ca ?_ _) | (with_reducible refine cN ?_ _) | (with_reducible refine cd1 ?_))); (case side2 => exact HC0.out); rintro e w7 ⟨v532, v535, v539, v542, rfl, ho0, ho1, ho2, ho3, hb⟩; refine ⟨_, rfl, ?_⟩; have N0 := am (rw1 ho0 (bz (by repeat (first | (with_reducible first | exact HB.out | apply pa | apply pN | apply p1) | exact HB.out)))); have N1 := am (rw1 ho1 (bz (by repeat (first | (with_reducible first | exact HB.out | apply pa | apply pN | apply p1) | exact HB.out)))); have N2 := am (rw1 ho2 (bz (by repeat (first | (with_reducible first | exact HB.out | apply pa | apply pN | apply p1) | exact HB.out)))); have N3 := am (rw1 ho3 (bz (by repeat (first | (with_reducible first | exact HB.out | apply pa | apply pN | apply p1) | exact HB.out)))); have N4 := am (bp (by repeat (first | (with_reducible first | exact HB.out | apply pa | apply pN | apply p1) | exact HB.out)) hb); clear HB; have O533 := N0; have O536 := N1; have O540 := N2; have O543 := N3; have HB := N4; clear N0 N1 N2 N3 N4; (try clear hb); (try clear hb2); (try clear hk); (try clear hi); (try clear ho0); (try clear ho1); (try clear ho2); (try clear ho3)) | ((with_reducible refine gate_dst (N := 3) rfl ?_); (try (refine gate_guard (by rfl) ?_; dsimp only)); refine box_event ?hg (N := 3) ?hd (cs := #[I q 0, .slice none 0 0, .slice none 0 0]) (t := 31) ?hr ?_; (case hd => rfl); (case hg => rfl); (case hr => first | (go_simp; done) | (go_simp; rfl)); intro g544 hg w8 hbox hb; have N0 := am (rb (by (with_reducible repeat (first | apply ra | apply rN | apply rd1)); exact O533.out) hb); have N1 := am (rb (by (with_reducible repeat (first | apply ra | apply rN | apply rd1)); exact O536.out) hb); have N2 := am (rb (by (with_reducible repeat (first | apply ra | apply rN | apply rd1)); exact O540.out) hb); have N3 := am (rb (by (with_reducible repeat (first | apply ra | apply rN | apply rd1)); exact O543.out) hb); have N4 := am (bp (by repeat (first | (with_reducible first | exact HB.out | apply pa | apply pN | apply p1) | exact HB.out)) hb); have N5 := am (hbox); have N6 := am ((by rw [hg]; exact (bz (by repeat (first | (with_reducible first | exact HB.out | apply pa | apply pN | apply p1) | exact HB.out))) : w.heap.size ≤ g544)); have N7 := am ((by rw [hg]; exact (bz (by repeat (first | (with_reducible first | exact HB.out | apply pa | apply pN | apply p1) | exact HB.out))) : w.heap.size ≤ g544)); clear O533 O536 O540 O543 HB; have O533 := N0; have O536 := N1; have O540 := N2; have O543 := N3; have HB := N4; have B544 := N5; have GW544 := N6; have E544 := N7; clear N0 N1 N2 N3 N4 N5 N6 N7 hb hbox hg) | ((with_reducible refine gate_dst (N := 4) rfl ?_); (try (refine gate_guard (by rfl) ?_; dsimp only)); refine box_event ?hg (N := 4) ?hd (cs := #[I q 0, .slice none 0 0, .slice none 0 0]) (t := 31) ?hr ?_; (case hd => rfl); (case hg => rfl); (case hr => first | (go_simp; done) | (go_simp; rfl)); intro g545 hg w9 hbox hb; have N0 := am (rb (by (with_reducible repeat (first | apply ra | apply rN | apply rd1)); exact O533.out) hb); have N1 := am (rb (by (with_reducible repeat (first | apply ra | apply rN | apply rd1)); exact O536.out) hb); have N2 := am (rb (by (with_reducible repeat (first | apply ra | apply rN | apply rd1)); exact O540.out) hb); have N3 := am (rb (by (with_reducible repeat (first | apply ra | apply rN | apply rd1)); exact O543.out) hb); have N4 := am (bb (g := g544) (by (with_reducible repeat (first | apply bN | apply bd | apply ba)); exact B544.out) hb); have N5 := am (bp (by repeat (first | (with_reducible first | exact HB.out | apply pa | apply pN | apply p1 | refine bs ?_ E544.out) | exact HB.out)) hb); have N6 := am (hbox); have N7 := am ((by rw [hg]; exact (bz (by repeat (first | (with_reducible first | exact HB.out | apply pa | apply pN | apply p1 | refine bs ?_ E544.out) | exact HB.out))) : w.heap.size ≤ g545)); have N8 := am ((by rw [hg]; exact (bz (by repeat (first | (with_reducible first | exact HB.out | apply pa | apply pN | apply p1 | refine bs ?_ E544.out) | exact HB.out))) : w.heap.size ≤ g545)); have N9 := am ((by rw [hg]; exact Nat.ne_of_lt (bl (g := g544) (by (with_reducible repeat (first | apply bN | apply bd | apply ba)); exact B544.out)) : g544 ≠ g545)); have N10 := am ((by rw [hg]; exact Nat.ne_of_gt (bl (g := g544) (by (with_reducible repeat (first | apply bN | apply bd | apply ba)); exact B544.out)) : g545 ≠ g544)); clear O533 O536 O540 O543 B544 HB; have O533 := N0; have O536 := N1; have O540 := N2; have O543 := N3; have B544 := N4; have HB := N5; have B545 := N6; have GW545 := N7; have E545 := N8; have NB544_545 := N9; have NB545_544 := N10; clear N0 N1 N2 N3 N4 N5 N6 N7 N8 N9 N10 hb hbox hg; have hnb10 := NB544_545.out; have hnc10 := NB545_544.out; have hcz11_0 : w9.cell? ⟨g544, 0, none⟩ = some (I q 0) := (bc B544.out 0).trans rfl; have hcz11_1 : w9.cell? ⟨g544, 1, none⟩ = some (.slice none 0 0) := (bc B544.out 1).trans rfl; have hcz11_2 : w9.cell? ⟨g544, 2, none⟩ = some (.slice none 0 0) := (bc B544.out 2).trans rfl; have hfz11_0 := bf B544.out 0; have hfz11_1 := bf B544.out 1; have hfz11_2 := bf B544.out 2; obtain ⟨Ao12, co12, eo12⟩ := Kd.R_slice O533.out; subst eo12; obtain ⟨Ao13, co13, eo13⟩ := Kd.R_slice O536.out; subst eo13; have hcz14_0 : w9.cell? ⟨g545, 0, none⟩ = some (I q 0) := (bc B545.out 0).trans rfl; have hcz14_1 : w9.cell? ⟨g545, 1, none⟩ = some (.slice none 0 0) := (bc B545.out 1).trans rfl; have hcz14_2 : w9.cell? ⟨g545, 2, none⟩ = some (.slice none 0 0) := (bc B545.out 2).trans rfl; have hfz14_0 := bf B545.out 0; have hfz14_1 := bf B545.out 1; have hfz14_2 := bf B545.out 2; obtain ⟨Ao15, co15, eo15⟩ := Kd.R_slice O540.out; subst eo15; obtain ⟨Ao16, co16, eo16⟩ := Kd.R_slice O543.out; subst eo16) | ((with_reducible refine gate_callee (f := 42) rfl ?_); refine goesL_ (some 18) rfl rfl Try.func42 (by kernel_rfl) rfl #[.agg #[I q t530, J Ao12 t531.length co12, J Ao13 t534.length co13], .agg #[I q t537, J Ao15 t538.length co15, J Ao16 t541.length co16]] rfl (by (try simp only [List.map_toArray, List.map_cons, List.map_nil]); first | done | rfl) ?_; (with_reducible refine (impl_DeltaOf.calls t530 _ _ t531 _ _ t534 t537 _ _ t538 _ _ t541 t546 t547 _ ?side1 ?side2 ?side3 ?side4 ?side5 ?side6 ?side7 ?side8 A5.out).mono ?_); (case side1 => refine (Kd.R_reads' (e := 36) (base := w.heap.size) (ok := fun k_ => some k_ ≠ (J Ao15 t538.length co15 : Value).ownBlock) (n := t531.length) (c := co12) ?_).2.2; exact (by (with_reducible repeat (first | apply ra | apply rN | apply rd1)); exact (Kd.R_mono (Kd.R_mono (rf (p := ⟨g545, 2, none⟩) (rf (p := ⟨g545, 1, none⟩) (rf (p := ⟨g545, 0, none⟩) (rf (p := ⟨g544, 2, none⟩) (rf (p := ⟨g544, 1, none⟩) (rf (p := ⟨g544, 0, none⟩) (Kd.R_types (Kd.R_types O533.out B544.out (by decide)) B545.out (by decide)) (fun _ hk => hk.1.2) (I q t530)) (fun _ hk => hk.1.2) (J Ao12 t531.length co12)) (fun _ hk => hk.1.2) (J Ao13 t534.length co13)) (fun _ hk => hk.2) (I q t537)) (fun _ hk => hk.2) (J Ao15 t538.length co15)) (fun _ hk => hk.2) (J Ao16 t541.length co16)) (fun _ h_ => h_.1)) (fun _ h_ => h_.1)))); (case side2 => exact (Kd.R_reads' O533.out).2.1); (case side3 => refine (Kd.R_reads' (e := 64) (base := w.heap.size) (ok := fun k_ => some k_ ≠ (J Ao16 t541.length co16 : Value).ownBlock) (n := t534.length) (c := co13) ?_).2.2; exact (by (with_reducible repeat (first | apply ra | apply rN | apply rd1)); exact (Kd.R_mono (Kd.R_mono (rf (p := ⟨g545, 2, none⟩) (rf (p := ⟨g545, 1, none⟩) (rf (p := ⟨g545, 0, none⟩) (rf (p := ⟨g544, 2, none⟩) (rf (p := ⟨g544, 1, none⟩) (rf (p := ⟨g544, 0, none⟩) (Kd.R_types (Kd.R_types O536.out B544.out (by decide)) B545.out (by decide)) (fun _ hk => hk.1.2) (I q t530)) (fun _ hk => hk.1.2) (J Ao12 t531.length co12)) (fun _ hk => hk.1.2) (J Ao13 t534.length co13)) (fun _ hk => hk.2) (I q t537)) (fun _ hk => hk.2) (J Ao15 t538.length co15)) (fun _ hk => hk.2) (J Ao16 t541.length co16)) (fun _ h_ => h_.1)) (fun _ h_ => h_.1)))); (case side4 => exact (Kd.R_reads' O536.out).2.1); (case side5 => refine (Kd.R_reads' (e := 36) (base := w.heap.size) (ok := fun k_ => some k_ ≠ (J Ao12 t531.length co12 : Value).ownBlock) (n := t538.length) (c := co15) ?_).2.2; exact (by (with_reducible repeat (first | apply ra | apply rN | apply rd1)); exact (Kd.R_mono (Kd.R_mono (rf (p := ⟨g545, 2, none⟩) (rf (p := ⟨g545, 1, none⟩) (rf (p := ⟨g545, 0, none⟩) (rf (p := ⟨g544, 2, none⟩) (rf (p := ⟨g544, 1, none⟩) (rf (p := ⟨g544, 0, none⟩) (Kd.R_types (Kd.R_types O540.out B544.out (by decide)) B545.out (by decide)) (fun _ hk => hk.1.2) (I q t530)) (fun _ hk => hk.1.2) (J Ao12 t531.length co12)) (fun _ hk => hk.1.2) (J Ao13 t534.length co13)) (fun _ hk => hk.2) (I q t537)) (fun _ hk => hk.2) (J Ao15 t538.length co15)) (fun _ hk => hk.2) (J Ao16 t541.length co16)) (fun _ h_ => h_.1)) (fun _ h_ => h_.1)))); (case side6 => exact (Kd.R_reads' O540.out).2.1); (case side7 => refine (Kd.R_reads' (e := 64) (base := w.heap.size) (ok := fun k_ => some k_ ≠ (J Ao13 t534.length co13 : Value).ownBlock) (n := t541.length) (c := co16) ?_).2.2; exact (by (with_reducible repeat (first | apply ra | apply rN | apply rd1)); exact (Kd.R_mono (Kd.R_mono (rf (p := ⟨g545, 2, none⟩) (rf (p := ⟨g545, 1, none⟩) (rf (p := ⟨g545, 0, none⟩) (rf (p := ⟨g544, 2, none⟩) (rf (p := ⟨g544, 1, none⟩) (rf (p := ⟨g544, 0, none⟩) (Kd.R_types (Kd.R_types O543.out B544.out (by decide)) B545.out (by decide)) (fun _ hk => hk.1.2) (I q t530)) (fun _ hk => hk.1.2) (J Ao12 t531.length co12)) (fun _ hk => hk.1.2) (J Ao13 t534.length co13)) (fun _ hk => hk.2) (I q t537)) (fun _ hk => hk.2) (J Ao15 t538.length co15)) (fun _ hk => hk.2) (J Ao16 t541.length co16)) (fun _ h_ => h_.1)) (fun _ h_ => h_.1)))); (case side8 => exact (Kd.R_reads' O543.out).2.1); rintro e w17 ⟨v548, rfl, ho0, hb⟩; refine ⟨_, rfl, ?_⟩; have N0 := am (rb (by (with_reducible repeat (first | apply ra | apply rN | apply rd1)); exact (Kd.R_mono (Kd.R_mono (rf (p := ⟨g545, 2, none⟩) (rf (p := ⟨g545, 1, none⟩) (rf (p := ⟨g545, 0, none⟩) (rf (p := ⟨g544, 2, none⟩) (rf (p := ⟨g544, 1, none⟩) (rf (p := ⟨g544, 0, none⟩) (Kd.R_types (Kd.R_types O533.out B544.out (by decide)) B545.out (by decide)) (fun _ hk => hk.1.2) (I q t530)) (fun _ hk => hk.1.2) (J Ao12 t531.length co12)) (fun _ hk => hk.1.2) (J Ao13 t534.length co13)) (fun _ hk => hk.2) (I q t537)) (fun _ hk => hk.2) (J Ao15 t538.length co15)) (fun _ hk => hk.2) (J Ao16 t541.length co16)) (fun _ h_ => h_.1)) (fun _ h_ => h_.1))) hb); have N1 := am (re (by (with_reducible repeat (first | apply ra | apply rN | apply rd1)); exact (Kd.R_mono (Kd.R_mono (rf (p := ⟨g545, 2, none⟩) (rf (p := ⟨g545, 1, none⟩) (rf (p := ⟨g545, 0, none⟩) (rf (p := ⟨g544, 2, none⟩) (rf (p := ⟨g544, 1, none⟩) (rf (p := ⟨g544, 0, none⟩) (Kd.R_types (Kd.R_types O536.out B544.out (by decide)) B545.out (by decide)) (fun _ hk => hk.1.2) (I q t530)) (fun _ hk => hk.1.2) (J Ao12 t531.length co12)) (fun _ hk => hk.1.2) (J Ao13 t534.length co13)) (fun _ hk => hk.2) (I q t537)) (fun _ hk => hk.2) (J Ao15 t538.length co15)) (fun _ hk => hk.2) (J Ao16 t541.length co16)) (fun _ h_ => h_.1)) (fun _ h_ => h_.1))) (Kd.R_base ho0) hb); have N2 := am (rb (by (with_reducible repeat (first | apply ra | apply rN | apply rd1)); exact (Kd.R_mono (Kd.R_mono (rf (p := ⟨g545, 2, none⟩) (rf (p := ⟨g545, 1, none⟩) (rf (p := ⟨g545, 0, none⟩) (rf (p := ⟨g544, 2, none⟩) (rf (p := ⟨g544, 1, none⟩) (rf (p := ⟨g544, 0, none⟩) (Kd.R_types (Kd.R_types O540.out B544.out (by decide)) B545.out (by decide)) (fun _ hk => hk.1.2) (I q t530)) (fun _ hk => hk.1.2) (J Ao12 t531.length co12)) (fun _ hk => hk.1.2) (J Ao13 t534.length co13)) (fun _ hk => hk.2) (I q t537)) (fun _ hk => hk.2) (J Ao15 t538.length co15)) (fun _ hk => hk.2) (J Ao16 t541.length co16)) (fun _ h_ => h_.1)) (fun _ h_ => h_.1))) hb); have N3 := am (re (by (with_reducible repeat (first | apply ra | apply rN | apply rd1)); exact (Kd.R_mono (Kd.R_mono (rf (p := ⟨g545, 2, none⟩) (rf (p := ⟨g545, 1, none⟩) (rf (p := ⟨g545, 0, none⟩) (rf (p := ⟨g544, 2, none⟩) (rf (p := ⟨g544, 1, none⟩) (rf (p := ⟨g544, 0, none⟩) (Kd.R_types (Kd.R_types O543.out B544.out (by decide)) B545.out (by decide)) (fun _ hk => hk.1.2) (I q t530)) (fun _ hk => hk.1.2) (J Ao12 t531.length co12)) (fun _ hk => hk.1.2) (J Ao13 t534.length co13)) (fun _ hk => hk.2) (I q t537)) (fun _ hk => hk.2) (J Ao15 t538.length co15)) (fun _ hk => hk.2) (J Ao16 t541.length co16)) (fun _ h_ => h_.1)) (fun _ h_ => h_.1))) (Kd.R_base ho0) hb); have N4 := am (rw1 ho0 (bz (by repeat (first | (with_reducible first | exact HB.out | apply pa | apply pN | apply p1 | refine bs ?_ E544.out | refine bs ?_ E545.out) | exact HB.out)))); have N5 := am (bb (g := g544) (o := .cells #[I q t530, J Ao12 t531.length co12, J Ao13 t534.length co13] 31 (0, 0)) (by (iterate 3 ((with_reducible repeat (first | apply bN | apply bd | apply ba)); refine bq ?_ NB544_545.out _)); (with_reducible repeat (first | apply bN | apply bd | apply ba)); exact pu3l B544.out) hb); have N6 := am (bb (g := g545) (o := .cells #[I q t537, J Ao15 t538.length co15, J Ao16 t541.length co16] 31 (0, 0)) (by (with_reducible repeat (first | apply bN | apply bd | apply ba)); refine blk_put (cs := #[I q t537, J Ao15 t538.length co15, .slice none 0 0]) ?_ 2 _ rfl; (with_reducible repeat (first | apply bN | apply bd | apply ba)); refine blk_put (cs := #[I q t537, .slice none 0 0, .slice none 0 0]) ?_ 1 _ rfl; (with_reducible repeat (first | apply bN | apply bd | apply ba)); refine blk_put (cs := #[I q 0, .slice none 0 0, .slice none 0 0]) ?_ 0 _ rfl; (iterate 3 ((with_reducible repeat (first | apply bN | apply bd | apply ba)); refine bq ?_ NB545_544.out _)); (with_reducible repeat (first | apply bN | apply bd | apply ba)); exact B545.out) hb); have N7 := am (bp (by repeat (first | (with_reducible first | exact HB.out | apply pa | apply pN | apply p1 | refine bs ?_ E544.out | refine bs ?_ E545.out) | exact HB.out)) hb); clear O533 O536 O540 O543 B544 B545 HB; have O533 := N0; have O536 := N1; have O540 := N2; have O543 := N3; have O549 := N4; have B544 := N5; have B545 := N6; have HB := N7; clear N0 N1 N2 N3 N4 N5 N6 N7; (try clear hb); (try clear hb2); (try clear hk); (try clear hi); (try clear ho0)) | ((with_reducible refine gate_dst (N := 5) rfl ?_); (try (refine gate_guard (by rfl) ?_; dsimp only)); refine box_event ?hg (N := 5) ?hd (cs := #[I q 0, .slice none 0 0]) (t := 76) ?hr ?_; (case hd => rfl); (case hg => rfl); (case hr => first | (go_simp; done) | (go_simp; rfl)); intro g550 hg w18 hbox hb; have N0 := am (rb (by (with_reducible repeat (first | apply ra | apply rN | apply rd1)); exact O533.out) hb); have N1 := am (rb (by (with_reducible repeat (first | apply ra | apply rN | apply rd1)); exact O536.out) hb); have N2 := am (rb (by (with_reducible repeat (first | apply ra | apply rN | apply rd1)); exact O540.out) hb); have N3 := am (rb (by (with_reducible repeat (first | apply ra | apply rN | apply rd1)); exact O543.out) hb); have N4 := am (rb (by (with_reducible repeat (first | apply ra | apply rN | apply rd1)); exact O549.out) hb); have N5 := am (bb (g := g544) (by (with_reducible repeat (first | apply bN | apply bd | apply ba)); exact B544.out) hb); have N6 := am (bb (g := g545) (by (with_reducible repeat (first | apply bN | apply bd | apply ba)); exact B545.out) hb); have N7 := am (bp (by repeat (first | (with_reducible first | exact HB.out | apply pa | apply pN | apply p1 | refine bs ?_ E544.out | refine bs ?_ E545.out) | exact HB.out)) hb); have N8 := am (hbox); have N9 := am ((by rw [hg]; exact (bz (by repeat (first | (with_reducible first | exact HB.out | apply pa | apply pN | apply p1 | refine bs ?_ E544.out | refine bs ?_ E545.out) | exact HB.out))) : w.heap.size ≤ g550)); have N10 := am ((by rw [hg]; exact (bz (by repeat (first | (with_reducible first | exact HB.out | apply pa | apply pN | apply p1 | refine bs ?_ E544.out | refine bs ?_ E545.out) | exact HB.out))) : w.heap.size ≤ g550)); have N11 := am ((by rw [hg]; exact Nat.ne_of_lt (bl (g := g544) (by (with_reducible repeat (first | apply bN | apply bd | apply ba)); exact B544.out)) : g544 ≠ g550)); have N12 := am ((by rw [hg]; exact Nat.ne_of_gt (bl (g := g544) (by (with_reducible repeat (first | apply bN | apply bd | apply ba)); exact B544.out)) : g550 ≠ g544)); have N13 := am ((by rw [hg]; exact Nat.ne_of_lt (bl (g := g545) (by (with_reducible repeat (first | apply bN | apply bd | apply ba)); exact B545.out)) : g545 ≠ g550)); have N14 := am ((by rw [hg]; exact Nat.ne_of_gt (bl (g := g545) (by (with_reducible repeat (first | apply bN | apply bd | apply ba)); exact B545.out)) : g550 ≠ g545)); clear O533 O536 O540 O543 O549 B544 B545 HB; have O533 := N0; have O536 := N1; have O540 := N2; have O543 := N3; have O549 := N4; have B544 := N5; have B545 := N6; have HB := N7; have B550 := N8; have GW550 := N9; have E550 := N10; have NB544_550 := N11; have NB550_544 := N12; have NB545_550 := N13; have NB550_545 := N14; clear N0 N1 N2 N3 N4 N5 N6 N7 N8 N9 N10 N11 N12 N13 N14 hb hbox hg; have hnb19 := NB550_544.out; have hnc19 := NB544_550.out; have hnb20 := NB550_545.out; have hnc20 := NB545_550.out; have hcz21_0 : w18.cell? ⟨g550, 0, none⟩ = some (I q 0) := (bc B550.out 0).trans rfl; have hcz21_1 : w18.cell? ⟨g550, 1, none⟩ = some (.slice none 0 0) := (bc B550.out 1).trans rfl; have hfz21_0 := bf B550.out 0; have hfz21_1 := bf B550.out 1; obtain ⟨Ao22, co22, eo22⟩ := Kd.R_slice O549.out; subst eo22))
   go_loopg [6] k (fun kq v6 w' => ∃ (x6_1 : Int), v6 = I q x6_1 ∧ Aside0 (laws_FnDeltas.l0 kq x6_1 t530 t531 t534 t537 t538 t541 t546 t547 = some r) ∧ Aside0 (kq ≤ k) ∧ Aside0 (Kd.R k36 36 w' w.heap.size (fun k_ => some k_ ≠ ((J Ao15 t538.length co15) : Value).ownBlock) (J Ao12 t531.length co12) t531) ∧ Aside0 (Kd.R k64 64 w' w.heap.size (fun k_ => some k_ ≠ ((J Ao16 t541.length co16) : Value).ownBlock ∧ some k_ ≠ ((J Ao22 t547.length co22) : Value).ownBlock) (J Ao13 t534.length co13) t534) ∧ Aside0 (Kd.R k36 36 w' w.heap.size (fun k_ => some k_ ≠ ((J Ao12 t531.length co12) : Value).ownBlock) (J Ao15 t538.length co15) t538) ∧ Aside0 (Kd.R k64 64 w' w.heap.size (fun k_ => some k_ ≠ ((J Ao13 t534.length co13) : Value).ownBlock ∧ some k_ ≠ ((J Ao22 t547.length co22) : Value).ownBlock) (J Ao16 t541.length co16) t541) ∧ Aside0 (Kd.R (Kd.int .i64) 2 w' w.heap.size (fun _ => True) (J Ao22 t547.length co22) t547) ∧ Aside0 (w'.heap[g544]? = some (.cells #[I q t530, (J Ao12 t531.length co12), (J Ao13 t534.length co13)] 31 (0, 0))) ∧ Aside0 (w'.heap[g545]? = some (.cells #[I q t537, (J Ao15 t538.length co15), (J Ao16 t541.length co16)] 31 (0, 0))) ∧ Aside0 (w'.heap[g550]? = some (.cells #[I q t546, (J Ao22 t547.length co22)] 76 (0, 0))) ∧ Aside0 (Below w.heap.size w w'))
   case atStart => exact ⟨(0), (by first | rfl | (simp; done) | (simp [*]; done)), H', ⟨Nat.le_refl _⟩, ⟨by (with_reducible repeat (first | apply ra | apply rN | apply rd1)); exact Kd.R_mono (rf (p := ⟨g550, 1, none⟩) (rf (p := ⟨g550, 0, none⟩) (Kd.R_types O533.out B550.out (by decide)) (fun _ hk => hk.2) (I q t546)) (fun _ hk => hk.2) (J Ao22 t547.length co22)) (fun _ hk => hk.1)⟩, ⟨by (with_reducible repeat (first | apply ra | apply rN | apply rd1)); exact Kd.R_mono (rf (p := ⟨g550, 1, none⟩) (rf (p := ⟨g550, 0, none⟩) (Kd.R_types O536.out B550.out (by decide)) (fun _ hk => hk.2) (I q t546)) (fun _ hk => hk.2) (J Ao22 t547.length co22)) (fun _ hk => ⟨hk.1.1, hk.1.2⟩)⟩, ⟨by (with_reducible repeat (first | apply ra | apply rN | apply rd1)); exact Kd.R_mono (rf (p := ⟨g550, 1, none⟩) (rf (p := ⟨g550, 0, none⟩) (Kd.R_types O540.out B550.out (by decide)) (fun _ hk => hk.2) (I q t546)) (fun _ hk => hk.2) (J Ao22 t547.length co22)) (fun _ hk => hk.1)⟩, ⟨by (with_reducible repeat (first | apply ra | apply rN | apply rd1)); exact Kd.R_mono (rf (p := ⟨g550, 1, none⟩) (rf (p := ⟨g550, 0, none⟩) (Kd.R_types O543.out B550.out (by decide)) (fun _ hk => hk.2) (I q t546)) (fun _ hk => hk.2) (J Ao22 t547.length co22)) (fun _ hk => ⟨hk.1.1, hk.1.2⟩)⟩, ⟨by (with_reducible repeat (first | apply ra | apply rN | apply rd1)); exact Kd.R_mono (rf (p := ⟨g550, 1, none⟩) (rf (p := ⟨g550, 0, none⟩) (Kd.R_types O549.out B550.out (by decide)) (fun _ hk => hk.2) (I q t546)) (fun _ hk => hk.2) (J Ao22 t547.length co22)) (fun _ hk => trivial)⟩, ⟨by (iterate 2 ((with_reducible repeat (first | apply bN | apply bd | apply ba)); refine bq ?_ NB544_550.out _)); (with_reducible repeat (first | apply bN | apply bd | apply ba)); exact B544.out⟩, ⟨by (iterate 2 ((with_reducible repeat (first | apply bN | apply bd | apply ba)); refine bq ?_ NB545_550.out _)); (with_reducible repeat (first | apply bN | apply bd | apply ba)); exact B545.out⟩, ⟨by (with_reducible repeat (first | apply bN | apply bd | apply ba)); exact pu2l B550.out⟩, ⟨by repeat (first | (with_reducible first | exact HB.out | apply pa | apply pN | apply p1 | refine bs ?_ E544.out | refine bs ?_ E545.out | refine bs ?_ E550.out) | exact HB.out)⟩⟩
   case round =>
    clear H'
    try clear c1
    try clear c2
    try clear p2
    try clear c3
    try clear c4
    try clear c6
    try clear c6b0
    try clear c6b1
    try clear c10
    try clear c11
    try clear c19
    try clear c20
    try clear hcz11_0
    try clear hcz11_1
    try clear hcz11_2
    try clear hcz14_0
    try clear hcz14_1
    try clear hcz14_2
    try clear hcz21_0
    try clear hcz21_1
    try clear hfz11_0
    try clear hfz11_1
    try clear hfz11_2
    try clear hfz14_0
    try clear hfz14_1
    try clear hfz14_2
    try clear hfz21_0
    try clear hfz21_1
    obtain ⟨x6_1, rfl, HA, HK1, o0, o1, o2, o3, o4, B544, B545, B550, HB⟩ := hrel
    cases gk with
    | zero => exact absurd HA.out (by simp [laws_FnDeltas.l0])
    | succ k1 =>
     have H := HA.out
     clear HA
     simp only [laws_FnDeltas.l0] at H
     by_cases c23 : x6_1 < (t531.length : Int)
     ·rw [if_pos c23] at H
      have c23b0 : decide (x6_1 < (t531.length : Int)) = true := decide_eq_true c23
      clear c23
      by_cases c24 : 0 ≤ x6_1
      ·rw [if_pos c24] at H
       have c24b0 : decide (0 ≤ x6_1) = true := decide_eq_true c24
       clear c24
       replace H := Option.bind_eq_some_iff.mp H
       obtain ⟨⟨t556, t557, t558, t559, t560, t561⟩, A250, H⟩ := H
       replace H : ((impl_BackendAt.f t530 t531 t534 ((rd_T36 t531 x6_1).f0)).bind fun bt562 => ((laws_lwHas.f k1 t547 ((rd_T36 t531 x6_1).f0)).bind fun t568 => (if ((t556 == bt562.1 && ((t557 == bt562.2.1 && (t558 == bt562.2.2.1 && (t559 == bt562.2.2.2.1 && (t560 == bt562.2.2.2.2.1 && (t561 == bt562.2.2.2.2.2))))))) == t568) = true then none else (laws_FnDeltas.l0 k1 (wrap64 (x6_1 + 1)) t530 t531 t534 t537 t538 t541 t546 t547)))) = some r := H
       have A25 := am A250
       clear A250
       replace H := Option.bind_eq_some_iff.mp H
       obtain ⟨⟨t562, t563, t564, t565, t566, t567⟩, A260, H⟩ := H
       replace H : ((laws_lwHas.f k1 t547 ((rd_T36 t531 x6_1).f0)).bind fun t568 => (if ((t556 == t562 && ((t557 == t563 && (t558 == t564 && (t559 == t565 && (t560 == t566 && (t561 == t567))))))) == t568) = true then none else (laws_FnDeltas.l0 k1 (wrap64 (x6_1 + 1)) t530 t531 t534 t537 t538 t541 t546 t547))) = some r := H
       have A26 := am A260
       clear A260
       replace H := Option.bind_eq_some_iff.mp H
       obtain ⟨t568, A270, H⟩ := H
       replace H : (if ((t556 == t562 && ((t557 == t563 && (t558 == t564 && (t559 == t565 && (t560 == t566 && (t561 == t567))))))) == t568) = true then none else (laws_FnDeltas.l0 k1 (wrap64 (x6_1 + 1)) t530 t531 t534 t537 t538 t541 t546 t547)) = some r := H
       have A27 := am A270
       clear A270
       by_cases c28 : ((t556 == t562 && ((t557 == t563 && (t558 == t564 && (t559 == t565 && (t560 == t566 && (t561 == t567))))))) == t568) = true
       ·rw [if_pos c28] at H
        have c28b0 : ((t556 == t562 && ((t557 == t563 && (t558 == t564 && (t559 == t565 && (t560 == t566 && (t561 == t567))))))) == t568) = true := c28
        (try (have c28b1 : decide ((t556 == t562 && ((t557 == t563 && (t558 == t564 && (t559 == t565 && (t560 == t566 && (t561 == t567))))))) = t568) = true := by simpa using c28))
        (try (have c28b2 : ((t556 == t562 && ((t557 == t563 && (t558 == t564 && (t559 == t565 && (t560 == t566 && (t561 == t567))))))) == t568) = true := by simpa using c28))
        clear c28
        cases H
       ·rw [if_neg c28] at H
        have c28b0 : ((t556 == t562 && ((t557 == t563 && (t558 == t564 && (t559 == t565 && (t560 == t566 && (t561 == t567))))))) == t568) = false := by simpa using c28
        (try (have c28b1 : decide ((t556 == t562 && ((t557 == t563 && (t558 == t564 && (t559 == t565 && (t560 == t566 && (t561 == t567))))))) = t568) = false := by simpa using c28))
        (try (have c28b2 : ((t556 == t562 && ((t557 == t563 && (t558 == t564 && (t559 == t565 && (t560 == t566 && (t561 == t567))))))) == t568) = false := by simpa using c28))
        (try (have c28b3 : ¬ ((t556 == t562 && ((t557 == t563 && (t558 == t564 && (t559 == t565 && (t560 == t566 && (t561 == t567))))))) = t568) := by simpa using c28))
        clear c28
        have H' := am H
        clear H
        have hnb37 := NB544_545.out
        have hnc37 := NB545_544.out
        have hnb38 := NB544_550.out
        have hnc38 := NB550_544.out
        have hcz39_0 : wr.cell? ⟨g544, 0, none⟩ = some (I q t530) := (bc B544.out 0).trans rfl
        have hcz39_1 : wr.cell? ⟨g544, 1, none⟩ = some (J Ao12 t531.length co12) := (bc B544.out 1).trans rfl
        have hcz39_2 : wr.cell? ⟨g544, 2, none⟩ = some (J Ao13 t534.length co13) := (bc B544.out 2).trans rfl
        have hfz39_0 := bf B544.out 0
        have hfz39_1 := bf B544.out 1
        have hfz39_2 := bf B544.out 2
        have p555 : 0 ≤ (x6_1 : Int) := of_decide_eq_true (by first | (with_reducible assumption) | assumption)
        have q555 : x6_1 < (t531.length : Int) := of_decide_eq_true (by first | (with_reducible assumption) | assumption)
        obtain ⟨ad555, e555, hx555_0, hx555_1, hx555_2, hx555_3, hx555_4⟩ := at_T36 (Kd.R_reads' o0.out).2.2 x6_1 p555 q555
        cases e555
        replace p555 := eq_true p555
        replace q555 := eq_true q555
        try go_wp2
        have N0 := am (rd1 o0.out)
        have N1 := am (rd1 o1.out)
        have N2 := am (rd1 o2.out)
        have N3 := am (rd1 o3.out)
        have N4 := am (rd1 o4.out)
        have N5 := am (bd B544.out)
        have N6 := am (bd B545.out)
        have N7 := am (bd B550.out)
        have N8 := am (p1 HB.out)
        clear o0
        clear o1
        clear o2
        clear o3
        clear o4
        clear B544
        clear B545
        clear B550
        clear HB
        have o0 := N0
        have o1 := N1
        have o2 := N2
        have o3 := N3
        have o4 := N4
        have B544 := N5
        have B545 := N6
        have B550 := N7
        have HB := N8
        clear N0 N1 N2 N3 N4 N5 N6 N7 N8
        refine start_ (n := 8) (S := fun w' => w'.cell? ⟨g545, 0, none⟩ = some (I q t537) ∧ w'.cell? ⟨g545, 1, none⟩ = some (J Ao15 t538.length co15) ∧ w'.cell? ⟨g545, 2, none⟩ = some (J Ao16 t541.length co16) ∧ w'.cell? ⟨g544, 0, none⟩ = some (I q t530) ∧ w'.cell? ⟨g544, 1, none⟩ = some (.slice (some ad555) t531.length co12) ∧ w'.cell? ⟨g544, 2, none⟩ = some (J Ao13 t534.length co13)) (ds := []) (Mk 8 0) (by kernel_rfl) rfl rfl ⟨(bc B545.out 0).trans rfl, (bc B545.out 1).trans rfl, (bc B545.out 2).trans rfl, (bc B544.out 0).trans rfl, (bc B544.out 1).trans rfl, (bc B544.out 2).trans rfl⟩ (fun hHeld => ?_); refine with_tabW laws_FnDeltas.tab11 laws_FnDeltas.bits11 (fun HT_ HW_ => ?_)
        generalize wr.drew = w40 at o0 o1 o2 o3 o4 B544 B545 B550 HB hHeld ⊢
        refine pure_ (i := 1) (N := some 43) (v := ?_) (a' := ?_) (Mk 8 2) rfl rfl (any_of HT_.out (by kernel_rfl)) (fun _ _ _ h => h) (Or.inl ⟨by rfl, ?_⟩) ?_ ?_
        rotate_left
        ·intro w'
         first | (go_simp; with_reducible rfl) | (go_simp; (try unfold Instr.field); go_simp; (try simp only [asAgg]); go_simp; with_reducible rfl)
        rotate_left
        ·simp only [Act.put, List.setIfInBounds_toArray, List.set_cons_zero, List.set_cons_succ, i64_w, i32_w]
         rfl
        refine pure_ (i := 4) (N := some 46) (v := ?_) (a' := ?_) (Mk 8 18) rfl rfl (any_of HT_.out (by kernel_rfl)) (fun _ _ _ h => h) (Or.inl ⟨by rfl, ?_⟩) ?_ ?_
        rotate_left
        ·intro w'
         first | (go_simp; with_reducible rfl) | (go_simp; (try unfold Instr.field); go_simp; (try simp only [asAgg]); go_simp; with_reducible rfl)
        rotate_left
        ·simp only [Act.put, List.setIfInBounds_toArray, List.set_cons_zero, List.set_cons_succ, i64_w, i32_w]
         rfl
        refine take_ (i := 0) (N := some 42) (v := ?_) (a' := ?_) (Mk 8 19) rfl rfl (take_ofW HT_.out HW_.out (by kernel_rfl)) (fun _ _ _ h => h) (Or.inl ⟨by rfl, ?_⟩) hHeld ?_ ?_
        rotate_left
        ·rintro w' ⟨s0, s1, s2, s3, s4, s5⟩
         go_simp
         with_reducible rfl
        rotate_left
        ·simp only [Act.put, List.setIfInBounds_toArray, List.set_cons_zero, List.set_cons_succ, i64_w, i32_w]
         rfl
        refine take_ (i := 3) (N := some 45) (v := ?_) (a' := ?_) (Mk 8 27) rfl rfl (take_ofW HT_.out HW_.out (by kernel_rfl)) (fun _ _ _ h => h) (Or.inl ⟨by rfl, ?_⟩) hHeld ?_ ?_
        rotate_left
        ·rintro w' ⟨s0, s1, s2, s3, s4, s5⟩
         go_simp
         with_reducible rfl
        rotate_left
        ·simp only [Act.put, List.setIfInBounds_toArray, List.set_cons_zero, List.set_cons_succ, i64_w, i32_w]
         rfl
        refine one_ (i := 2) (N := some 44) (Mk 8 31) rfl rfl (one_of HT_.out (by kernel_rfl)) (by decide) (fun K hK => ?_)
        refine goes_ Try.func18 (by kernel_rfl) rfl #[.agg #[I q t537, J Ao15 t538.length co15, J Ao16 t541.length co16], I q ((rd_T36 t531 x6_1).f0)] (by rfl) rfl rfl (by (try simp only [List.map_toArray, List.map_cons, List.map_nil]); first | done | rfl | (simp only [List.length_drop, List.length_take]; rfl)) ?_
        with_reducible refine (impl_BackendAt.calls t537 _ _ t538 _ _ t541 ((rd_T36 t531 x6_1).f0) t556 t557 t558 t559 t560 t561 _ ?side1 ?side2 ?side3 ?side4 A25.out).mono ?_
        (case side1 => repeat (first | exact (Kd.R_reads' o2.out).2.2 | (with_reducible refine ca ?_ _) | (with_reducible refine cN ?_ _) | (with_reducible refine cd1 ?_)))
        (case side2 => exact (Kd.R_reads' o2.out).2.1)
        (case side3 => repeat (first | exact (Kd.R_reads' o3.out).2.2 | (with_reducible refine ca ?_ _) | (with_reducible refine cN ?_ _) | (with_reducible refine cd1 ?_)))
        (case side4 => exact (Kd.R_reads' o3.out).2.1)
        rintro e w41 ⟨rfl, hb⟩
        refine ⟨_, rfl, ?_⟩
        have N0 := am (rb (by (with_reducible repeat (first | apply ra | apply rN | apply rd1)); exact o0.out) hb)
        have N1 := am (rb (by (with_reducible repeat (first | apply ra | apply rN | apply rd1)); exact o1.out) hb)
        have N2 := am (rb (by (with_reducible repeat (first | apply ra | apply rN | apply rd1)); exact o2.out) hb)
        have N3 := am (rb (by (with_reducible repeat (first | apply ra | apply rN | apply rd1)); exact o3.out) hb)
        have N4 := am (rb (by (with_reducible repeat (first | apply ra | apply rN | apply rd1)); exact o4.out) hb)
        have N5 := am (bb (g := g544) (by (with_reducible repeat (first | apply bN | apply bd | apply ba)); exact B544.out) hb)
        have N6 := am (bb (g := g545) (by (with_reducible repeat (first | apply bN | apply bd | apply ba)); exact B545.out) hb)
        have N7 := am (bb (g := g550) (by (with_reducible repeat (first | apply bN | apply bd | apply ba)); exact B550.out) hb)
        have N8 := am (bp (by repeat (first | (with_reducible first | exact HB.out | apply pa | apply pN | apply p1 | refine bs ?_ E544.out | refine bs ?_ E545.out | refine bs ?_ E550.out) | exact HB.out)) hb)
        clear o0
        clear o1
        clear o2
        clear o3
        clear o4
        clear B544
        clear B545
        clear B550
        clear HB
        have o0 := N0
        have o1 := N1
        have o2 := N2
        have o3 := N3
        have o4 := N4
        have B544 := N5
        have B545 := N6
        have B550 := N7
        have HB := N8
        clear N0 N1 N2 N3 N4 N5 N6 N7 N8
        (try clear hb)
        (try clear hb2)
        (try clear hk)
        (try clear hi)
        refine hK.out _ _ ⟨(bc B545.out 0).trans rfl, (bc B545.out 1).trans rfl, (bc B545.out 2).trans rfl, (bc B544.out 0).trans rfl, (bc B544.out 1).trans rfl, (bc B544.out 2).trans rfl⟩ (fun hHeld => ?_)
        clear hK K
        refine norm_ (a' := ?_) ?_ ?_
        rotate_left
        ·show Act.put _ (some 44) _ = _
         simp only [Act.put, List.setIfInBounds_toArray, List.set_cons_zero, List.set_cons_succ, i64_w, i32_w]
         rfl
        refine one_ (i := 5) (N := some 47) (Mk 8 63) rfl rfl (one_of HT_.out (by kernel_rfl)) (by decide) (fun K hK => ?_)
        refine goes_ Try.func18 (by kernel_rfl) rfl #[.agg #[I q t530, .slice (some ad555) t531.length co12, J Ao13 t534.length co13], I q ((rd_T36 t531 x6_1).f0)] (by rfl) rfl rfl (by (try simp only [List.map_toArray, List.map_cons, List.map_nil]); first | done | rfl | (simp only [List.length_drop, List.length_take]; rfl)) ?_
        with_reducible refine (impl_BackendAt.calls t530 _ _ t531 _ _ t534 ((rd_T36 t531 x6_1).f0) t562 t563 t564 t565 t566 t567 _ ?side1 ?side2 ?side3 ?side4 A26.out).mono ?_
        (case side1 => repeat (first | exact (Kd.R_reads' o0.out).2.2 | (with_reducible refine ca ?_ _) | (with_reducible refine cN ?_ _) | (with_reducible refine cd1 ?_)))
        (case side2 => exact (Kd.R_reads' o0.out).2.1)
        (case side3 => repeat (first | exact (Kd.R_reads' o1.out).2.2 | (with_reducible refine ca ?_ _) | (with_reducible refine cN ?_ _) | (with_reducible refine cd1 ?_)))
        (case side4 => exact (Kd.R_reads' o1.out).2.1)
        rintro e w42 ⟨rfl, hb⟩
        refine ⟨_, rfl, ?_⟩
        have N0 := am (rb (by (with_reducible repeat (first | apply ra | apply rN | apply rd1)); exact o0.out) hb)
        have N1 := am (rb (by (with_reducible repeat (first | apply ra | apply rN | apply rd1)); exact o1.out) hb)
        have N2 := am (rb (by (with_reducible repeat (first | apply ra | apply rN | apply rd1)); exact o2.out) hb)
        have N3 := am (rb (by (with_reducible repeat (first | apply ra | apply rN | apply rd1)); exact o3.out) hb)
        have N4 := am (rb (by (with_reducible repeat (first | apply ra | apply rN | apply rd1)); exact o4.out) hb)
        have N5 := am (bb (g := g544) (by (with_reducible repeat (first | apply bN | apply bd | apply ba)); exact B544.out) hb)
        have N6 := am (bb (g := g545) (by (with_reducible repeat (first | apply bN | apply bd | apply ba)); exact B545.out) hb)
        have N7 := am (bb (g := g550) (by (with_reducible repeat (first | apply bN | apply bd | apply ba)); exact B550.out) hb)
        have N8 := am (bp (by repeat (first | (with_reducible first | exact HB.out | apply pa | apply pN | apply p1 | refine bs ?_ E544.out | refine bs ?_ E545.out | refine bs ?_ E550.out) | exact HB.out)) hb)
        clear o0
        clear o1
        clear o2
        clear o3
        clear o4
        clear B544
        clear B545
        clear B550
        clear HB
        have o0 := N0
        have o1 := N1
        have o2 := N2
        have o3 := N3
        have o4 := N4
        have B544 := N5
        have B545 := N6
        have B550 := N7
        have HB := N8
        clear N0 N1 N2 N3 N4 N5 N6 N7 N8
        (try clear hb)
        (try clear hb2)
        (try clear hk)
        (try clear hi)
        refine hK.out _ _ ⟨(bc B545.out 0).trans rfl, (bc B545.out 1).trans rfl, (bc B545.out 2).trans rfl, (bc B544.out 0).trans rfl, (bc B544.out 1).trans rfl, (bc B544.out 2).trans rfl⟩ (fun hHeld => ?_)
        clear hK K
        refine norm_ (a' := ?_) ?_ ?_
        rotate_left
        ·show Act.put _ (some 47) _ = _
         simp only [Act.put, List.setIfInBounds_toArray, List.set_cons_zero, List.set_cons_succ, i64_w, i32_w]
         rfl
        refine pure_ (i := 6) (N := some 48) (v := ?_) (a' := ?_) (Mk 8 127) rfl rfl (any_of HT_.out (by kernel_rfl)) (fun _ _ _ h => h) (Or.inl ⟨by rfl, ?_⟩) ?_ ?_
        rotate_left
        ·intro w'
         first | (go_simp; with_reducible rfl) | (go_simp; (try unfold Instr.field); go_simp; (try simp only [asAgg]); go_simp; with_reducible rfl)
        rotate_left
        ·simp only [Act.put, List.setIfInBounds_toArray, List.set_cons_zero, List.set_cons_succ, i64_w, i32_w]
         rfl
        refine pure_ (i := 7) (N := some 8) (v := ?_) (a' := ?_) (Mk 8 255) rfl rfl (any_of HT_.out (by kernel_rfl)) (fun _ _ _ h => h) (Or.inl ⟨by rfl, ?_⟩) ?_ ?_
        rotate_left
        ·intro w'
         first | (go_simp; with_reducible rfl) | (go_simp; (try unfold Instr.field); go_simp; (try simp only [asAgg]); go_simp; with_reducible rfl)
        rotate_left
        ·simp only [Act.put, List.setIfInBounds_toArray, List.set_cons_zero, List.set_cons_succ, i64_w, i32_w]
         rfl
        refine done_ (done_of HT_.out (by kernel_rfl)) ?_
        have hnb43 := NB550_545.out
        have hnc43 := NB545_550.out
        have hcz44_0 : w42.cell? ⟨g550, 0, none⟩ = some (I q t546) := (bc B550.out 0).trans rfl
        have hcz44_1 : w42.cell? ⟨g550, 1, none⟩ = some (J Ao22 t547.length co22) := (bc B550.out 1).trans rfl
        have hfz44_0 := bf B550.out 0
        have hfz44_1 := bf B550.out 1
        try go_wp2_with (first | ((with_reducible refine gate_callee (f := 32) rfl ?_); refine goesL_ (some 53) rfl rfl Try.func32 (by kernel_rfl) rfl #[J Ao22 t547.length co22, I q ((rd_T36 t531 x6_1).f0)] rfl (by (try simp only [List.map_toArray, List.map_cons, List.map_nil]); first | done | rfl) ?_; (with_reducible refine (laws_lwHas.calls k1 _ _ t547 ((rd_T36 t531 x6_1).f0) t568 _ ?side1 ?side2 A27.out).mono ?_); (case side1 => repeat (first | exact (Kd.R_reads' o4.out).2.2 | (with_reducible refine ca ?_ _) | (with_reducible refine cN ?_ _) | (with_reducible refine cd1 ?_))); (case side2 => exact (Kd.R_reads' o4.out).2.1); rintro e w' ⟨rfl, ⟨nd, rfl⟩⟩; refine ⟨_, rfl, ?_⟩))
        go_roundg k1
        case measure => have := HK1.out; omega
        case rel => exact ⟨(wrap64 (x6_1 + 1)), (by first | rfl | (simp; done) | (simp [*]; done)), H', ⟨by have := HK1.out; omega⟩, ⟨by (with_reducible repeat (first | apply ra | apply rN | apply rd1)); exact o0.out⟩, ⟨by (with_reducible repeat (first | apply ra | apply rN | apply rd1)); exact o1.out⟩, ⟨by (with_reducible repeat (first | apply ra | apply rN | apply rd1)); exact o2.out⟩, ⟨by (with_reducible repeat (first | apply ra | apply rN | apply rd1)); exact o3.out⟩, ⟨by (with_reducible repeat (first | apply ra | apply rN | apply rd1)); exact o4.out⟩, ⟨by (with_reducible repeat (first | apply bN | apply bd | apply ba)); exact B544.out⟩, ⟨by (with_reducible repeat (first | apply bN | apply bd | apply ba)); exact B545.out⟩, ⟨by (with_reducible repeat (first | apply bN | apply bd | apply ba)); exact B550.out⟩, ⟨by repeat (first | (with_reducible first | exact HB.out | apply pa | apply pN | apply p1 | refine bs ?_ E544.out | refine bs ?_ E545.out | refine bs ?_ E550.out) | exact HB.out)⟩⟩
      ·rw [if_neg c24] at H
       exact absurd H (by simp)
     ·rw [if_neg c23] at H
      have c23b0 : decide (x6_1 < (t531.length : Int)) = false := decide_eq_false c23
      clear c23
      replace H := Option.bind_eq_some_iff.mp H
      obtain ⟨⟨t569, t570⟩, A450, H⟩ := H
      replace H : ((laws_lwNums.f k1 t570 t547).bind fun t573 => (if t573 = true then ((impl_DeltaOf.f t530 t531 t534 t530 t531 t534).bind fun bt574 => (if (bt574.2.length : Int) = 0 then ((spec_DeltaOf.f t530 t531 t534 t537 t538 t541).bind fun bt578 => (some ((t547.length : Int) == (bt578.2.length : Int)))) else none)) else none)) = some r := H
      have A45 := am A450
      clear A450
      replace H := Option.bind_eq_some_iff.mp H
      obtain ⟨t573, A460, H⟩ := H
      replace H : (if t573 = true then ((impl_DeltaOf.f t530 t531 t534 t530 t531 t534).bind fun bt574 => (if (bt574.2.length : Int) = 0 then ((spec_DeltaOf.f t530 t531 t534 t537 t538 t541).bind fun bt578 => (some ((t547.length : Int) == (bt578.2.length : Int)))) else none)) else none) = some r := H
      have A46 := am A460
      clear A460
      by_cases c47 : t573 = true
      ·subst c47
       have H1 : ((impl_DeltaOf.f t530 t531 t534 t530 t531 t534).bind fun bt574 => (if (bt574.2.length : Int) = 0 then ((spec_DeltaOf.f t530 t531 t534 t537 t538 t541).bind fun bt578 => (some ((t547.length : Int) == (bt578.2.length : Int)))) else none)) = some r := by rw [if_pos rfl] at H; exact H
       clear H
       have H := H1
       clear H1
       replace H := Option.bind_eq_some_iff.mp H
       obtain ⟨⟨t574, t575⟩, A480, H⟩ := H
       replace H : (if (t575.length : Int) = 0 then ((spec_DeltaOf.f t530 t531 t534 t537 t538 t541).bind fun bt578 => (some ((t547.length : Int) == (bt578.2.length : Int)))) else none) = some r := H
       have A48 := am A480
       clear A480
       by_cases c49 : (t575.length : Int) = 0
       ·rw [if_pos c49] at H
        have c49b0 : ((t575.length : Int) == 0) = true := beq_iff_eq.mpr c49
        have c49b1 : ((t575.length : Int) != 0) = false := bne_eq_false_iff_eq.mpr c49
        clear c49
        replace H := Option.bind_eq_some_iff.mp H
        obtain ⟨⟨t578, t579⟩, A500, H⟩ := H
        replace H : (some ((t547.length : Int) == (t579.length : Int))) = some r := H
        have A50 := am A500
        clear A500
        obtain rfl := Option.some.inj H
        have hnb51 := NB544_545.out
        have hnc51 := NB545_544.out
        have hnb52 := NB544_550.out
        have hnc52 := NB550_544.out
        have hcz53_0 : wr.cell? ⟨g544, 0, none⟩ = some (I q t530) := (bc B544.out 0).trans rfl
        have hcz53_1 : wr.cell? ⟨g544, 1, none⟩ = some (J Ao12 t531.length co12) := (bc B544.out 1).trans rfl
        have hcz53_2 : wr.cell? ⟨g544, 2, none⟩ = some (J Ao13 t534.length co13) := (bc B544.out 2).trans rfl
        have hfz53_0 := bf B544.out 0
        have hfz53_1 := bf B544.out 1
        have hfz53_2 := bf B544.out 2
        try go_wp2
        have N0 := am (rd1 o0.out)
        have N1 := am (rd1 o1.out)
        have N2 := am (rd1 o2.out)
        have N3 := am (rd1 o3.out)
        have N4 := am (rd1 o4.out)
        have N5 := am (bd B544.out)
        have N6 := am (bd B545.out)
        have N7 := am (bd B550.out)
        have N8 := am (p1 HB.out)
        clear o0
        clear o1
        clear o2
        clear o3
        clear o4
        clear B544
        clear B545
        clear B550
        clear HB
        have o0 := N0
        have o1 := N1
        have o2 := N2
        have o3 := N3
        have o4 := N4
        have B544 := N5
        have B545 := N6
        have B550 := N7
        have HB := N8
        clear N0 N1 N2 N3 N4 N5 N6 N7 N8
        refine start_ (n := 27) (S := fun w' => w'.cell? ⟨g545, 0, none⟩ = some (I q t537) ∧ w'.cell? ⟨g545, 1, none⟩ = some (J Ao15 t538.length co15) ∧ w'.cell? ⟨g545, 2, none⟩ = some (J Ao16 t541.length co16) ∧ w'.cell? ⟨g544, 0, none⟩ = some (I q t530) ∧ w'.cell? ⟨g544, 1, none⟩ = some (J Ao12 t531.length co12) ∧ w'.cell? ⟨g544, 2, none⟩ = some (J Ao13 t534.length co13) ∧ w'.cell? ⟨g550, 0, none⟩ = some (I q t546) ∧ w'.cell? ⟨g550, 1, none⟩ = some (J Ao22 t547.length co22)) (ds := []) (Mk 27 0) (by kernel_rfl) rfl rfl ⟨(bc B545.out 0).trans rfl, (bc B545.out 1).trans rfl, (bc B545.out 2).trans rfl, (bc B544.out 0).trans rfl, (bc B544.out 1).trans rfl, (bc B544.out 2).trans rfl, (bc B550.out 0).trans rfl, (bc B550.out 1).trans rfl⟩ (fun hHeld => ?_); refine with_tabW laws_FnDeltas.tab14 laws_FnDeltas.bits14 (fun HT_ HW_ => ?_)
        generalize wr.drew = w54 at o0 o1 o2 o3 o4 B544 B545 B550 HB hHeld ⊢
        refine pure_ (i := 4) (N := some 59) (v := ?_) (a' := ?_) (Mk 27 16) rfl rfl (any_of HT_.out (by kernel_rfl)) (fun _ _ _ h => h) (Or.inl ⟨by rfl, ?_⟩) ?_ ?_
        rotate_left
        ·intro w'
         first | (go_simp; with_reducible rfl) | (go_simp; (try unfold Instr.field); go_simp; (try simp only [asAgg]); go_simp; with_reducible rfl)
        rotate_left
        ·simp only [Act.put, List.setIfInBounds_toArray, List.set_cons_zero, List.set_cons_succ, i64_w, i32_w]
         rfl
        refine take_ (i := 0) (N := some 55) (v := ?_) (a' := ?_) (Mk 27 17) rfl rfl (take_ofW HT_.out HW_.out (by kernel_rfl)) (fun _ _ _ h => h) (Or.inl ⟨by rfl, ?_⟩) hHeld ?_ ?_
        rotate_left
        ·rintro w' ⟨s0, s1, s2, s3, s4, s5, s6, s7⟩
         go_simp
         with_reducible rfl
        rotate_left
        ·simp only [Act.put, List.setIfInBounds_toArray, List.set_cons_zero, List.set_cons_succ, i64_w, i32_w]
         rfl
        refine take_ (i := 1) (N := some 56) (v := ?_) (a' := ?_) (Mk 27 19) rfl rfl (take_ofW HT_.out HW_.out (by kernel_rfl)) (fun _ _ _ h => h) (Or.inl ⟨by rfl, ?_⟩) hHeld ?_ ?_
        rotate_left
        ·rintro w' ⟨s0, s1, s2, s3, s4, s5, s6, s7⟩
         go_simp
         with_reducible rfl
        rotate_left
        ·simp only [Act.put, List.setIfInBounds_toArray, List.set_cons_zero, List.set_cons_succ, i64_w, i32_w]
         rfl
        refine take_ (i := 5) (N := some 60) (v := ?_) (a' := ?_) (Mk 27 51) rfl rfl (take_ofW HT_.out HW_.out (by kernel_rfl)) (fun _ _ _ h => h) (Or.inl ⟨by rfl, ?_⟩) hHeld ?_ ?_
        rotate_left
        ·rintro w' ⟨s0, s1, s2, s3, s4, s5, s6, s7⟩
         go_simp
         with_reducible rfl
        rotate_left
        ·simp only [Act.put, List.setIfInBounds_toArray, List.set_cons_zero, List.set_cons_succ, i64_w, i32_w]
         rfl
        refine one_ (i := 2) (N := some 57) (Mk 27 55) rfl rfl (one_of HT_.out (by kernel_rfl)) (by decide) (fun K hK => ?_)
        refine goes_ Try.func42 (by kernel_rfl) rfl #[.agg #[I q t537, J Ao15 t538.length co15, J Ao16 t541.length co16], .agg #[I q t530, J Ao12 t531.length co12, J Ao13 t534.length co13]] (by rfl) rfl rfl (by (try simp only [List.map_toArray, List.map_cons, List.map_nil]); first | done | rfl | (simp only [List.length_drop, List.length_take]; rfl)) ?_
        with_reducible refine (impl_DeltaOf.calls t537 _ _ t538 _ _ t541 t530 _ _ t531 _ _ t534 t569 t570 _ ?side1 ?side2 ?side3 ?side4 ?side5 ?side6 ?side7 ?side8 A45.out).mono ?_
        (case side1 => repeat (first | exact (Kd.R_reads' o2.out).2.2 | (with_reducible refine ca ?_ _) | (with_reducible refine cN ?_ _) | (with_reducible refine cd1 ?_)))
        (case side2 => exact (Kd.R_reads' o2.out).2.1)
        (case side3 => repeat (first | exact (Kd.R_reads' o3.out).2.2 | (with_reducible refine ca ?_ _) | (with_reducible refine cN ?_ _) | (with_reducible refine cd1 ?_)))
        (case side4 => exact (Kd.R_reads' o3.out).2.1)
        (case side5 => repeat (first | exact (Kd.R_reads' o0.out).2.2 | (with_reducible refine ca ?_ _) | (with_reducible refine cN ?_ _) | (with_reducible refine cd1 ?_)))
        (case side6 => exact (Kd.R_reads' o0.out).2.1)
        (case side7 => repeat (first | exact (Kd.R_reads' o1.out).2.2 | (with_reducible refine ca ?_ _) | (with_reducible refine cN ?_ _) | (with_reducible refine cd1 ?_)))
        (case side8 => exact (Kd.R_reads' o1.out).2.1)
        rintro e w55 ⟨v571, rfl, ho0, hb⟩
        refine ⟨_, rfl, ?_⟩
        have N0 := am (rb (by (with_reducible repeat (first | apply ra | apply rN | apply rd1)); exact o0.out) hb)
        have N1 := am (re (by (with_reducible repeat (first | apply ra | apply rN | apply rd1)); exact o1.out) (Kd.R_base ho0) hb)
        have N2 := am (rb (by (with_reducible repeat (first | apply ra | apply rN | apply rd1)); exact o2.out) hb)
        have N3 := am (re (by (with_reducible repeat (first | apply ra | apply rN | apply rd1)); exact o3.out) (Kd.R_base ho0) hb)
        have N4 := am (re (by (with_reducible repeat (first | apply ra | apply rN | apply rd1)); exact o4.out) (Kd.R_base ho0) hb)
        have N5 := am (rw1 (rn ho0 (rl (by (with_reducible repeat (first | apply ra | apply rN | apply rd1)); exact o4.out))) (bz (by repeat (first | (with_reducible first | exact HB.out | apply pa | apply pN | apply p1 | refine bs ?_ E544.out | refine bs ?_ E545.out | refine bs ?_ E550.out) | exact HB.out))))
        have N6 := am (bb (g := g544) (by (with_reducible repeat (first | apply bN | apply bd | apply ba)); exact B544.out) hb)
        have N7 := am (bb (g := g545) (by (with_reducible repeat (first | apply bN | apply bd | apply ba)); exact B545.out) hb)
        have N8 := am (bb (g := g550) (by (with_reducible repeat (first | apply bN | apply bd | apply ba)); exact B550.out) hb)
        have N9 := am (bp (by repeat (first | (with_reducible first | exact HB.out | apply pa | apply pN | apply p1 | refine bs ?_ E544.out | refine bs ?_ E545.out | refine bs ?_ E550.out) | exact HB.out)) hb)
        clear o0
        clear o1
        clear o2
        clear o3
        clear o4
        clear B544
        clear B545
        clear B550
        clear HB
        have o0 := N0
        have o1 := N1
        have o2 := N2
        have o3 := N3
        have o4 := N4
        have O572 := N5
        have B544 := N6
        have B545 := N7
        have B550 := N8
        have HB := N9
        clear N0 N1 N2 N3 N4 N5 N6 N7 N8 N9
        (try clear hb)
        (try clear hb2)
        (try clear hk)
        (try clear hi)
        (try clear ho0)
        obtain ⟨Ao56, co56, eo56⟩ := Kd.R_slice O572.out
        (first | subst eo56 | (injection eo56 with f1_ f2_ f3_; have f4_ := f1_.symm; have f5_ := f3_.symm; clear f1_ f2_ f3_; subst f4_; subst f5_))
        refine hK.out _ _ ⟨(bc B545.out 0).trans rfl, (bc B545.out 1).trans rfl, (bc B545.out 2).trans rfl, (bc B544.out 0).trans rfl, (bc B544.out 1).trans rfl, (bc B544.out 2).trans rfl, (bc B550.out 0).trans rfl, (bc B550.out 1).trans rfl⟩ (fun hHeld => ?_)
        clear hK K
        refine norm_ (a' := ?_) ?_ ?_
        rotate_left
        ·show Act.put _ (some 57) _ = _
         simp only [Act.put, List.setIfInBounds_toArray, List.set_cons_zero, List.set_cons_succ, i64_w, i32_w]
         rfl
        refine pure_ (i := 3) (N := some 58) (v := ?_) (a' := ?_) (Mk 27 63) rfl rfl (any_of HT_.out (by kernel_rfl)) (fun _ _ _ h => h) (Or.inl ⟨by rfl, ?_⟩) ?_ ?_
        rotate_left
        ·intro w'
         first | (go_simp; with_reducible rfl) | (go_simp; (try unfold Instr.field); go_simp; (try simp only [asAgg]); go_simp; with_reducible rfl)
        rotate_left
        ·simp only [Act.put, List.setIfInBounds_toArray, List.set_cons_zero, List.set_cons_succ, i64_w, i32_w]
         rfl
        refine one_ (i := 6) (N := some 61) (Mk 27 127) rfl rfl (one_of HT_.out (by kernel_rfl)) (by decide) (fun K hK => ?_)
        refine goes_ Try.func47 (by kernel_rfl) rfl #[J Ao56 t570.length co56, J Ao22 t547.length co22] (by rfl) rfl rfl (by (try simp only [List.map_toArray, List.map_cons, List.map_nil]); first | done | rfl | (simp only [List.length_drop, List.length_take]; rfl)) ?_
        with_reducible refine (laws_lwNums.calls k1 _ _ t570 _ _ t547 true _ ?side1 ?side2 ?side3 ?side4 A46.out).mono ?_
        (case side1 => repeat (first | exact (Kd.R_reads' O572.out).2.2 | (with_reducible refine ca ?_ _) | (with_reducible refine cN ?_ _) | (with_reducible refine cd1 ?_)))
        (case side2 => exact (Kd.R_reads' O572.out).2.1)
        (case side3 => repeat (first | exact (Kd.R_reads' o4.out).2.2 | (with_reducible refine ca ?_ _) | (with_reducible refine cN ?_ _) | (with_reducible refine cd1 ?_)))
        (case side4 => exact (Kd.R_reads' o4.out).2.1)
        rintro e w' ⟨rfl, ⟨nd, rfl⟩⟩
        refine ⟨_, rfl, ?_⟩
        refine hK.out _ _ ⟨(bc B545.out 0).trans rfl, (bc B545.out 1).trans rfl, (bc B545.out 2).trans rfl, (bc B544.out 0).trans rfl, (bc B544.out 1).trans rfl, (bc B544.out 2).trans rfl, (bc B550.out 0).trans rfl, (bc B550.out 1).trans rfl⟩ (fun hHeld => ?_)
        clear hK K
        refine norm_ (a' := ?_) ?_ ?_
        rotate_left
        ·show Act.put _ (some 61) _ = _
         simp only [Act.put, List.setIfInBounds_toArray, List.set_cons_zero, List.set_cons_succ, i64_w, i32_w]
         rfl
        refine pure_ (i := 7) (N := some 62) (v := ?_) (a' := ?_) (Mk 27 255) rfl rfl (any_of HT_.out (by kernel_rfl)) (fun _ _ _ h => h) (Or.inl ⟨by rfl, ?_⟩) ?_ ?_
        rotate_left
        ·intro w'
         first | (go_simp; with_reducible rfl) | (go_simp; (try unfold Instr.field); go_simp; (try simp only [asAgg]); go_simp; with_reducible rfl)
        rotate_left
        ·simp only [Act.put, List.setIfInBounds_toArray, List.set_cons_zero, List.set_cons_succ, i64_w, i32_w]
         rfl
        refine take_ (i := 8) (N := some 63) (v := ?_) (a' := ?_) (Mk 27 511) rfl rfl (take_ofW HT_.out HW_.out (by kernel_rfl)) (fun _ _ _ h => h) (Or.inl ⟨by rfl, ?_⟩) hHeld ?_ ?_
        rotate_left
        ·rintro w' ⟨s0, s1, s2, s3, s4, s5, s6, s7⟩
         go_simp
         with_reducible rfl
        rotate_left
        ·simp only [Act.put, List.setIfInBounds_toArray, List.set_cons_zero, List.set_cons_succ, i64_w, i32_w]
         rfl
        refine take_ (i := 9) (N := some 64) (v := ?_) (a' := ?_) (Mk 27 1023) rfl rfl (take_ofW HT_.out HW_.out (by kernel_rfl)) (fun _ _ _ h => h) (Or.inl ⟨by rfl, ?_⟩) hHeld ?_ ?_
        rotate_left
        ·rintro w' ⟨s0, s1, s2, s3, s4, s5, s6, s7⟩
         go_simp
         with_reducible rfl
        rotate_left
        ·simp only [Act.put, List.setIfInBounds_toArray, List.set_cons_zero, List.set_cons_succ, i64_w, i32_w]
         rfl
        refine one_ (i := 10) (N := some 65) (Mk 27 2047) rfl rfl (one_of HT_.out (by kernel_rfl)) (by decide) (fun K hK => ?_)
        refine goes_ Try.func42 (by kernel_rfl) rfl #[.agg #[I q t530, J Ao12 t531.length co12, J Ao13 t534.length co13], .agg #[I q t530, J Ao12 t531.length co12, J Ao13 t534.length co13]] (by rfl) rfl rfl (by (try simp only [List.map_toArray, List.map_cons, List.map_nil]); first | done | rfl | (simp only [List.length_drop, List.length_take]; rfl)) ?_
        with_reducible refine (impl_DeltaOf.calls t530 _ _ t531 _ _ t534 t530 _ _ t531 _ _ t534 t574 t575 _ ?side1 ?side2 ?side3 ?side4 ?side5 ?side6 ?side7 ?side8 A48.out).mono ?_
        (case side1 => repeat (first | exact (Kd.R_reads' o0.out).2.2 | (with_reducible refine ca ?_ _) | (with_reducible refine cN ?_ _) | (with_reducible refine cd1 ?_)))
        (case side2 => exact (Kd.R_reads' o0.out).2.1)
        (case side3 => repeat (first | exact (Kd.R_reads' o1.out).2.2 | (with_reducible refine ca ?_ _) | (with_reducible refine cN ?_ _) | (with_reducible refine cd1 ?_)))
        (case side4 => exact (Kd.R_reads' o1.out).2.1)
        (case side5 => repeat (first | exact (Kd.R_reads' o0.out).2.2 | (with_reducible refine ca ?_ _) | (with_reducible refine cN ?_ _) | (with_reducible refine cd1 ?_)))
        (case side6 => exact (Kd.R_reads' o0.out).2.1)
        (case side7 => repeat (first | exact (Kd.R_reads' o1.out).2.2 | (with_reducible refine ca ?_ _) | (with_reducible refine cN ?_ _) | (with_reducible refine cd1 ?_)))
        (case side8 => exact (Kd.R_reads' o1.out).2.1)
        rintro e w57 ⟨v576, rfl, ho0, hb⟩
        refine ⟨_, rfl, ?_⟩
        have N0 := am (rb (by (with_reducible repeat (first | apply ra | apply rN | apply rd1)); exact o0.out) hb)
        have N1 := am (re (by (with_reducible repeat (first | apply ra | apply rN | apply rd1)); exact o1.out) (Kd.R_base ho0) hb)
        have N2 := am (rb (by (with_reducible repeat (first | apply ra | apply rN | apply rd1)); exact o2.out) hb)
        have N3 := am (re (by (with_reducible repeat (first | apply ra | apply rN | apply rd1)); exact o3.out) (Kd.R_base ho0) hb)
        have N4 := am (re (by (with_reducible repeat (first | apply ra | apply rN | apply rd1)); exact o4.out) (Kd.R_base ho0) hb)
        have N5 := am (re (by (with_reducible repeat (first | apply ra | apply rN | apply rd1)); exact O572.out) (Kd.R_base ho0) hb)
        have N6 := am (rw1 (rn (rn ho0 (rl (by (with_reducible repeat (first | apply ra | apply rN | apply rd1)); exact o4.out))) (rl (by (with_reducible repeat (first | apply ra | apply rN | apply rd1)); exact O572.out))) (bz (by repeat (first | (with_reducible first | exact HB.out | apply pa | apply pN | apply p1 | refine bs ?_ E544.out | refine bs ?_ E545.out | refine bs ?_ E550.out) | exact HB.out))))
        have N7 := am (bb (g := g544) (by (with_reducible repeat (first | apply bN | apply bd | apply ba)); exact B544.out) hb)
        have N8 := am (bb (g := g545) (by (with_reducible repeat (first | apply bN | apply bd | apply ba)); exact B545.out) hb)
        have N9 := am (bb (g := g550) (by (with_reducible repeat (first | apply bN | apply bd | apply ba)); exact B550.out) hb)
        have N10 := am (bp (by repeat (first | (with_reducible first | exact HB.out | apply pa | apply pN | apply p1 | refine bs ?_ E544.out | refine bs ?_ E545.out | refine bs ?_ E550.out) | exact HB.out)) hb)
        clear o0
        clear o1
        clear o2
        clear o3
        clear o4
        clear O572
        clear B544
        clear B545
        clear B550
        clear HB
        have o0 := N0
        have o1 := N1
        have o2 := N2
        have o3 := N3
        have o4 := N4
        have O572 := N5
        have O577 := N6
        have B544 := N7
        have B545 := N8
        have B550 := N9
        have HB := N10
        clear N0 N1 N2 N3 N4 N5 N6 N7 N8 N9 N10
        (try clear hb)
        (try clear hb2)
        (try clear hk)
        (try clear hi)
        (try clear ho0)
        obtain ⟨Ao58, co58, eo58⟩ := Kd.R_slice O577.out
        (first | subst eo58 | (injection eo58 with f1_ f2_ f3_; have f4_ := f1_.symm; have f5_ := f3_.symm; clear f1_ f2_ f3_; subst f4_; subst f5_))
        refine hK.out _ _ ⟨(bc B545.out 0).trans rfl, (bc B545.out 1).trans rfl, (bc B545.out 2).trans rfl, (bc B544.out 0).trans rfl, (bc B544.out 1).trans rfl, (bc B544.out 2).trans rfl, (bc B550.out 0).trans rfl, (bc B550.out 1).trans rfl⟩ (fun hHeld => ?_)
        clear hK K
        refine norm_ (a' := ?_) ?_ ?_
        rotate_left
        ·show Act.put _ (some 65) _ = _
         simp only [Act.put, List.setIfInBounds_toArray, List.set_cons_zero, List.set_cons_succ, i64_w, i32_w]
         rfl
        refine pure_ (i := 11) (N := some 66) (v := ?_) (a' := ?_) (Mk 27 4095) rfl rfl (any_of HT_.out (by kernel_rfl)) (fun _ _ _ h => h) (Or.inl ⟨by rfl, ?_⟩) ?_ ?_
        rotate_left
        ·intro w'
         first | (go_simp; with_reducible rfl) | (go_simp; (try unfold Instr.field); go_simp; (try simp only [asAgg]); go_simp; with_reducible rfl)
        rotate_left
        ·simp only [Act.put, List.setIfInBounds_toArray, List.set_cons_zero, List.set_cons_succ, i64_w, i32_w]
         rfl
        refine pure_ (i := 12) (N := some 67) (v := ?_) (a' := ?_) (Mk 27 8191) rfl rfl (any_of HT_.out (by kernel_rfl)) (fun _ _ _ h => h) (Or.inl ⟨by rfl, ?_⟩) ?_ ?_
        rotate_left
        ·intro w'
         first | (go_simp; with_reducible rfl) | (go_simp; (try unfold Instr.field); go_simp; (try simp only [asAgg]); go_simp; with_reducible rfl)
        rotate_left
        ·simp only [Act.put, List.setIfInBounds_toArray, List.set_cons_zero, List.set_cons_succ, i64_w, i32_w]
         rfl
        refine pure_ (i := 13) (N := some 68) (v := ?_) (a' := ?_) (Mk 27 16383) rfl rfl (any_of HT_.out (by kernel_rfl)) (fun _ _ _ h => h) (Or.inl ⟨by rfl, ?_⟩) ?_ ?_
        rotate_left
        ·intro w'
         first | (go_simp; with_reducible rfl) | (go_simp; (try unfold Instr.field); go_simp; (try simp only [asAgg]); go_simp; with_reducible rfl)
        rotate_left
        ·simp only [Act.put, List.setIfInBounds_toArray, List.set_cons_zero, List.set_cons_succ, i64_w, i32_w]
         rfl
        refine pure_ (i := 14) (N := some 69) (v := ?_) (a' := ?_) (Mk 27 32767) rfl rfl (any_of HT_.out (by kernel_rfl)) (fun _ _ _ h => h) (Or.inl ⟨by rfl, ?_⟩) ?_ ?_
        rotate_left
        ·intro w'
         first | (go_simp; with_reducible rfl) | (go_simp; (try unfold Instr.field); go_simp; (try simp only [asAgg]); go_simp; with_reducible rfl)
        rotate_left
        ·simp only [Act.put, List.setIfInBounds_toArray, List.set_cons_zero, List.set_cons_succ, i64_w, i32_w]
         rfl
        refine pure_ (i := 15) (N := some 70) (v := ?_) (a' := ?_) (Mk 27 65535) rfl rfl (any_of HT_.out (by kernel_rfl)) (fun _ _ _ h => h) (Or.inl ⟨by rfl, ?_⟩) ?_ ?_
        rotate_left
        ·intro w'
         first | (go_simp; with_reducible rfl) | (go_simp; (try unfold Instr.field); go_simp; (try simp only [asAgg]); go_simp; with_reducible rfl)
        rotate_left
        ·simp only [Act.put, List.setIfInBounds_toArray, List.set_cons_zero, List.set_cons_succ, i64_w, i32_w]
         rfl
        refine pure_ (i := 16) (N := some 71) (v := ?_) (a' := ?_) (Mk 27 131071) rfl rfl (any_of HT_.out (by kernel_rfl)) (fun _ _ _ h => h) (Or.inl ⟨by rfl, ?_⟩) ?_ ?_
        rotate_left
        ·intro w'
         first | (go_simp; with_reducible rfl) | (go_simp; (try unfold Instr.field); go_simp; (try simp only [asAgg]); go_simp; with_reducible rfl)
        rotate_left
        ·simp only [Act.put, List.setIfInBounds_toArray, List.set_cons_zero, List.set_cons_succ, i64_w, i32_w]
         rfl
        refine take_ (i := 17) (N := some 72) (v := ?_) (a' := ?_) (Mk 27 262143) rfl rfl (take_ofW HT_.out HW_.out (by kernel_rfl)) (fun _ _ _ h => h) (Or.inl ⟨by rfl, ?_⟩) hHeld ?_ ?_
        rotate_left
        ·rintro w' ⟨s0, s1, s2, s3, s4, s5, s6, s7⟩
         go_simp
         with_reducible rfl
        rotate_left
        ·simp only [Act.put, List.setIfInBounds_toArray, List.set_cons_zero, List.set_cons_succ, i64_w, i32_w]
         rfl
        refine pure_ (i := 18) (N := some 73) (v := ?_) (a' := ?_) (Mk 27 524287) rfl rfl (any_of HT_.out (by kernel_rfl)) (fun _ _ _ h => h) (Or.inl ⟨by rfl, ?_⟩) ?_ ?_
        rotate_left
        ·intro w'
         first | (go_simp; with_reducible rfl) | (go_simp; (try unfold Instr.field); go_simp; (try simp only [asAgg]); go_simp; with_reducible rfl)
        rotate_left
        ·simp only [Act.put, List.setIfInBounds_toArray, List.set_cons_zero, List.set_cons_succ, i64_w, i32_w]
         rfl
        refine take_ (i := 19) (N := some 74) (v := ?_) (a' := ?_) (Mk 27 1048575) rfl rfl (take_ofW HT_.out HW_.out (by kernel_rfl)) (fun _ _ _ h => h) (Or.inl ⟨by rfl, ?_⟩) hHeld ?_ ?_
        rotate_left
        ·rintro w' ⟨s0, s1, s2, s3, s4, s5, s6, s7⟩
         go_simp
         with_reducible rfl
        rotate_left
        ·simp only [Act.put, List.setIfInBounds_toArray, List.set_cons_zero, List.set_cons_succ, i64_w, i32_w]
         rfl
        refine take_ (i := 20) (N := some 75) (v := ?_) (a' := ?_) (Mk 27 2097151) rfl rfl (take_ofW HT_.out HW_.out (by kernel_rfl)) (fun _ _ _ h => h) (Or.inl ⟨by rfl, ?_⟩) hHeld ?_ ?_
        rotate_left
        ·rintro w' ⟨s0, s1, s2, s3, s4, s5, s6, s7⟩
         go_simp
         with_reducible rfl
        rotate_left
        ·simp only [Act.put, List.setIfInBounds_toArray, List.set_cons_zero, List.set_cons_succ, i64_w, i32_w]
         rfl
        refine one_ (i := 21) (N := some 76) (Mk 27 4194303) rfl rfl (one_of HT_.out (by kernel_rfl)) (by decide) (fun K hK => ?_)
        refine goes_ Try.func41 (by kernel_rfl) rfl #[.agg #[I q t530, J Ao12 t531.length co12, J Ao13 t534.length co13], .agg #[I q t537, J Ao15 t538.length co15, J Ao16 t541.length co16]] (by rfl) rfl rfl (by (try simp only [List.map_toArray, List.map_cons, List.map_nil]); first | done | rfl | (simp only [List.length_drop, List.length_take]; rfl)) ?_
        with_reducible refine (spec_DeltaOf.calls t530 _ _ t531 _ _ t534 t537 _ _ t538 _ _ t541 t578 t579 _ ?side1 ?side2 ?side3 ?side4 ?side5 ?side6 ?side7 ?side8 A50.out).mono ?_
        (case side1 => repeat (first | exact (Kd.R_reads' o0.out).2.2 | (with_reducible refine ca ?_ _) | (with_reducible refine cN ?_ _) | (with_reducible refine cd1 ?_)))
        (case side2 => exact (Kd.R_reads' o0.out).2.1)
        (case side3 => repeat (first | exact (Kd.R_reads' o1.out).2.2 | (with_reducible refine ca ?_ _) | (with_reducible refine cN ?_ _) | (with_reducible refine cd1 ?_)))
        (case side4 => exact (Kd.R_reads' o1.out).2.1)
        (case side5 => repeat (first | exact (Kd.R_reads' o2.out).2.2 | (with_reducible refine ca ?_ _) | (with_reducible refine cN ?_ _) | (with_reducible refine cd1 ?_)))
        (case side6 => exact (Kd.R_reads' o2.out).2.1)
        (case side7 => repeat (first | exact (Kd.R_reads' o3.out).2.2 | (with_reducible refine ca ?_ _) | (with_reducible refine cN ?_ _) | (with_reducible refine cd1 ?_)))
        (case side8 => exact (Kd.R_reads' o3.out).2.1)
        rintro e w59 ⟨v580, rfl, ho0, hb⟩
        refine ⟨_, rfl, ?_⟩
        have N0 := am (rb (by (with_reducible repeat (first | apply ra | apply rN | apply rd1)); exact o0.out) hb)
        have N1 := am (re (by (with_reducible repeat (first | apply ra | apply rN | apply rd1)); exact o1.out) (Kd.R_base ho0) hb)
        have N2 := am (rb (by (with_reducible repeat (first | apply ra | apply rN | apply rd1)); exact o2.out) hb)
        have N3 := am (re (by (with_reducible repeat (first | apply ra | apply rN | apply rd1)); exact o3.out) (Kd.R_base ho0) hb)
        have N4 := am (re (by (with_reducible repeat (first | apply ra | apply rN | apply rd1)); exact o4.out) (Kd.R_base ho0) hb)
        have N5 := am (re (by (with_reducible repeat (first | apply ra | apply rN | apply rd1)); exact O572.out) (Kd.R_base ho0) hb)
        have N6 := am (re (by (with_reducible repeat (first | apply ra | apply rN | apply rd1)); exact O577.out) (Kd.R_base ho0) hb)
        have N7 := am (rw1 (rn (rn (rn ho0 (rl (by (with_reducible repeat (first | apply ra | apply rN | apply rd1)); exact o4.out))) (rl (by (with_reducible repeat (first | apply ra | apply rN | apply rd1)); exact O572.out))) (rl (by (with_reducible repeat (first | apply ra | apply rN | apply rd1)); exact O577.out))) (bz (by repeat (first | (with_reducible first | exact HB.out | apply pa | apply pN | apply p1 | refine bs ?_ E544.out | refine bs ?_ E545.out | refine bs ?_ E550.out) | exact HB.out))))
        have N8 := am (bb (g := g544) (by (with_reducible repeat (first | apply bN | apply bd | apply ba)); exact B544.out) hb)
        have N9 := am (bb (g := g545) (by (with_reducible repeat (first | apply bN | apply bd | apply ba)); exact B545.out) hb)
        have N10 := am (bb (g := g550) (by (with_reducible repeat (first | apply bN | apply bd | apply ba)); exact B550.out) hb)
        have N11 := am (bp (by repeat (first | (with_reducible first | exact HB.out | apply pa | apply pN | apply p1 | refine bs ?_ E544.out | refine bs ?_ E545.out | refine bs ?_ E550.out) | exact HB.out)) hb)
        clear o0
        clear o1
        clear o2
        clear o3
        clear o4
        clear O572
        clear O577
        clear B544
        clear B545
        clear B550
        clear HB
        have o0 := N0
        have o1 := N1
        have o2 := N2
        have o3 := N3
        have o4 := N4
        have O572 := N5
        have O577 := N6
        have O581 := N7
        have B544 := N8
        have B545 := N9
        have B550 := N10
        have HB := N11
        clear N0 N1 N2 N3 N4 N5 N6 N7 N8 N9 N10 N11
        (try clear hb)
        (try clear hb2)
        (try clear hk)
        (try clear hi)
        (try clear ho0)
        obtain ⟨Ao60, co60, eo60⟩ := Kd.R_slice O581.out
        (first | subst eo60 | (injection eo60 with f1_ f2_ f3_; have f4_ := f1_.symm; have f5_ := f3_.symm; clear f1_ f2_ f3_; subst f4_; subst f5_))
        refine hK.out _ _ ⟨(bc B545.out 0).trans rfl, (bc B545.out 1).trans rfl, (bc B545.out 2).trans rfl, (bc B544.out 0).trans rfl, (bc B544.out 1).trans rfl, (bc B544.out 2).trans rfl, (bc B550.out 0).trans rfl, (bc B550.out 1).trans rfl⟩ (fun hHeld => ?_)
        clear hK K
        refine norm_ (a' := ?_) ?_ ?_
        rotate_left
        ·show Act.put _ (some 76) _ = _
         simp only [Act.put, List.setIfInBounds_toArray, List.set_cons_zero, List.set_cons_succ, i64_w, i32_w]
         rfl
        refine pure_ (i := 22) (N := some 77) (v := ?_) (a' := ?_) (Mk 27 8388607) rfl rfl (any_of HT_.out (by kernel_rfl)) (fun _ _ _ h => h) (Or.inl ⟨by rfl, ?_⟩) ?_ ?_
        rotate_left
        ·intro w'
         first | (go_simp; with_reducible rfl) | (go_simp; (try unfold Instr.field); go_simp; (try simp only [asAgg]); go_simp; with_reducible rfl)
        rotate_left
        ·simp only [Act.put, List.setIfInBounds_toArray, List.set_cons_zero, List.set_cons_succ, i64_w, i32_w]
         rfl
        refine pure_ (i := 23) (N := some 78) (v := ?_) (a' := ?_) (Mk 27 16777215) rfl rfl (any_of HT_.out (by kernel_rfl)) (fun _ _ _ h => h) (Or.inl ⟨by rfl, ?_⟩) ?_ ?_
        rotate_left
        ·intro w'
         first | (go_simp; with_reducible rfl) | (go_simp; (try unfold Instr.field); go_simp; (try simp only [asAgg]); go_simp; with_reducible rfl)
        rotate_left
        ·simp only [Act.put, List.setIfInBounds_toArray, List.set_cons_zero, List.set_cons_succ, i64_w, i32_w]
         rfl
        refine pure_ (i := 24) (N := some 79) (v := ?_) (a' := ?_) (Mk 27 33554431) rfl rfl (any_of HT_.out (by kernel_rfl)) (fun _ _ _ h => h) (Or.inl ⟨by rfl, ?_⟩) ?_ ?_
        rotate_left
        ·intro w'
         first | (go_simp; with_reducible rfl) | (go_simp; (try unfold Instr.field); go_simp; (try simp only [asAgg]); go_simp; with_reducible rfl)
        rotate_left
        ·simp only [Act.put, List.setIfInBounds_toArray, List.set_cons_zero, List.set_cons_succ, i64_w, i32_w]
         rfl
        refine pure_ (i := 25) (N := some 80) (v := ?_) (a' := ?_) (Mk 27 67108863) rfl rfl (any_of HT_.out (by kernel_rfl)) (fun _ _ _ h => h) (Or.inl ⟨by rfl, ?_⟩) ?_ ?_
        rotate_left
        ·intro w'
         first | (go_simp; with_reducible rfl) | (go_simp; (try unfold Instr.field); go_simp; (try simp only [asAgg]); go_simp; with_reducible rfl)
        rotate_left
        ·simp only [Act.put, List.setIfInBounds_toArray, List.set_cons_zero, List.set_cons_succ, i64_w, i32_w]
         rfl
        refine pure_ (i := 26) (N := some 2) (v := ?_) (a' := ?_) (Mk 27 134217727) rfl rfl (any_of HT_.out (by kernel_rfl)) (fun _ _ _ h => h) (Or.inl ⟨by rfl, ?_⟩) ?_ ?_
        rotate_left
        ·intro w'
         first | (go_simp; with_reducible rfl) | (go_simp; (try unfold Instr.field); go_simp; (try simp only [asAgg]); go_simp; with_reducible rfl)
        rotate_left
        ·simp only [Act.put, List.setIfInBounds_toArray, List.set_cons_zero, List.set_cons_succ, i64_w, i32_w]
         rfl
        refine done_ (done_of HT_.out (by kernel_rfl)) ?_
        try go_wp2
        go_ret
        exact ⟨by first | rfl | (simp [errW_none, errW_some] <;> rfl) | (simp [*, errW_none, errW_some] <;> rfl), by repeat (first | (with_reducible first | exact HB.out | apply pa | apply pN | apply p1 | refine bs ?_ E544.out | refine bs ?_ E545.out | refine bs ?_ E550.out) | exact HB.out)⟩
       ·rw [if_neg c49] at H
        have c49b0 : ((t575.length : Int) == 0) = false := beq_eq_false_iff_ne.mpr c49
        have c49b1 : ((t575.length : Int) != 0) = true := bne_iff_ne.mpr c49
        have c49b2 : ¬ (t575 = []) := fun h_ => c49 (by rw [h_]; rfl)
        cases H
      ·replace c47 := Bool.eq_false_iff.mpr c47
       subst c47
       have H1 : none = some r := by rw [if_neg (show ¬ (false = true) by decide)] at H; exact H
       clear H
       have H := H1
       clear H1
       cases H
  ·rw [if_neg c6] at H
   have c6b0 : (t546 == 0) = false := beq_eq_false_iff_ne.mpr c6
   have c6b1 : (t546 != 0) = true := bne_iff_ne.mpr c6
   replace H := Option.bind_eq_some_iff.mp H
   obtain ⟨⟨t551, t552⟩, A750, H⟩ := H
   replace H : (some (t551 == t546)) = some r := H
   have A75 := am A750
   clear A750
   obtain rfl := Option.some.inj H
   try go_wp2_with (first | ((with_reducible refine gate_callee (f := 30) rfl ?_); refine goesL_ (some 10) rfl rfl Try.func30 (by kernel_rfl) rfl #[J A0 l0.length c0] rfl (by (try simp only [List.map_toArray, List.map_cons, List.map_nil]); first | done | rfl) ?_; (with_reducible refine (laws_lwBig.calls _ _ l0 false _ ?side1 ?side2 A2.out).mono ?_); (case side1 => repeat (first | exact HR0.out | (with_reducible refine ca ?_ _) | (with_reducible refine cN ?_ _) | (with_reducible refine cd1 ?_))); (case side2 => exact HC0.out); rintro e w' ⟨rfl, ⟨nd, rfl⟩⟩; refine ⟨_, rfl, ?_⟩) | ((with_reducible refine gate_callee (f := 46) rfl ?_); refine goesL_ (some 13) rfl rfl Try.func46 (by kernel_rfl) rfl #[J A0 l0.length c0] rfl (by (try simp only [List.map_toArray, List.map_cons, List.map_nil]); first | done | rfl) ?_; (with_reducible refine (spec_DrawDeltaOf.calls k _ _ l0 t530 t531 t534 t537 t538 t541 _ ?side1 ?side2 A4.out).mono ?_); (case side1 => repeat (first | exact HR0.out | (with_reducible refine ca ?_ _) | (with_reducible refine cN ?_ _) | (with_reducible refine cd1 ?_))); (case side2 => exact HC0.out); rintro e w76 ⟨v532, v535, v539, v542, rfl, ho0, ho1, ho2, ho3, hb⟩; refine ⟨_, rfl, ?_⟩; have N0 := am (rw1 ho0 (bz (by repeat (first | (with_reducible first | exact HB.out | apply pa | apply pN | apply p1) | exact HB.out)))); have N1 := am (rw1 ho1 (bz (by repeat (first | (with_reducible first | exact HB.out | apply pa | apply pN | apply p1) | exact HB.out)))); have N2 := am (rw1 ho2 (bz (by repeat (first | (with_reducible first | exact HB.out | apply pa | apply pN | apply p1) | exact HB.out)))); have N3 := am (rw1 ho3 (bz (by repeat (first | (with_reducible first | exact HB.out | apply pa | apply pN | apply p1) | exact HB.out)))); have N4 := am (bp (by repeat (first | (with_reducible first | exact HB.out | apply pa | apply pN | apply p1) | exact HB.out)) hb); clear HB; have O533 := N0; have O536 := N1; have O540 := N2; have O543 := N3; have HB := N4; clear N0 N1 N2 N3 N4; (try clear hb); (try clear hb2); (try clear hk); (try clear hi); (try clear ho0); (try clear ho1); (try clear ho2); (try clear ho3)) | ((with_reducible refine gate_dst (N := 3) rfl ?_); (try (refine gate_guard (by rfl) ?_; dsimp only)); refine box_event ?hg (N := 3) ?hd (cs := #[I q 0, .slice none 0 0, .slice none 0 0]) (t := 31) ?hr ?_; (case hd => rfl); (case hg => rfl); (case hr => first | (go_simp; done) | (go_simp; rfl)); intro g544 hg w77 hbox hb; have N0 := am (rb (by (with_reducible repeat (first | apply ra | apply rN | apply rd1)); exact O533.out) hb); have N1 := am (rb (by (with_reducible repeat (first | apply ra | apply rN | apply rd1)); exact O536.out) hb); have N2 := am (rb (by (with_reducible repeat (first | apply ra | apply rN | apply rd1)); exact O540.out) hb); have N3 := am (rb (by (with_reducible repeat (first | apply ra | apply rN | apply rd1)); exact O543.out) hb); have N4 := am (bp (by repeat (first | (with_reducible first | exact HB.out | apply pa | apply pN | apply p1) | exact HB.out)) hb); have N5 := am (hbox); have N6 := am ((by rw [hg]; exact (bz (by repeat (first | (with_reducible first | exact HB.out | apply pa | apply pN | apply p1) | exact HB.out))) : w.heap.size ≤ g544)); have N7 := am ((by rw [hg]; exact (bz (by repeat (first | (with_reducible first | exact HB.out | apply pa | apply pN | apply p1) | exact HB.out))) : w.heap.size ≤ g544)); clear O533 O536 O540 O543 HB; have O533 := N0; have O536 := N1; have O540 := N2; have O543 := N3; have HB := N4; have B544 := N5; have GW544 := N6; have E544 := N7; clear N0 N1 N2 N3 N4 N5 N6 N7 hb hbox hg) | ((with_reducible refine gate_dst (N := 4) rfl ?_); (try (refine gate_guard (by rfl) ?_; dsimp only)); refine box_event ?hg (N := 4) ?hd (cs := #[I q 0, .slice none 0 0, .slice none 0 0]) (t := 31) ?hr ?_; (case hd => rfl); (case hg => rfl); (case hr => first | (go_simp; done) | (go_simp; rfl)); intro g545 hg w78 hbox hb; have N0 := am (rb (by (with_reducible repeat (first | apply ra | apply rN | apply rd1)); exact O533.out) hb); have N1 := am (rb (by (with_reducible repeat (first | apply ra | apply rN | apply rd1)); exact O536.out) hb); have N2 := am (rb (by (with_reducible repeat (first | apply ra | apply rN | apply rd1)); exact O540.out) hb); have N3 := am (rb (by (with_reducible repeat (first | apply ra | apply rN | apply rd1)); exact O543.out) hb); have N4 := am (bb (g := g544) (by (with_reducible repeat (first | apply bN | apply bd | apply ba)); exact B544.out) hb); have N5 := am (bp (by repeat (first | (with_reducible first | exact HB.out | apply pa | apply pN | apply p1 | refine bs ?_ E544.out) | exact HB.out)) hb); have N6 := am (hbox); have N7 := am ((by rw [hg]; exact (bz (by repeat (first | (with_reducible first | exact HB.out | apply pa | apply pN | apply p1 | refine bs ?_ E544.out) | exact HB.out))) : w.heap.size ≤ g545)); have N8 := am ((by rw [hg]; exact (bz (by repeat (first | (with_reducible first | exact HB.out | apply pa | apply pN | apply p1 | refine bs ?_ E544.out) | exact HB.out))) : w.heap.size ≤ g545)); have N9 := am ((by rw [hg]; exact Nat.ne_of_lt (bl (g := g544) (by (with_reducible repeat (first | apply bN | apply bd | apply ba)); exact B544.out)) : g544 ≠ g545)); have N10 := am ((by rw [hg]; exact Nat.ne_of_gt (bl (g := g544) (by (with_reducible repeat (first | apply bN | apply bd | apply ba)); exact B544.out)) : g545 ≠ g544)); clear O533 O536 O540 O543 B544 HB; have O533 := N0; have O536 := N1; have O540 := N2; have O543 := N3; have B544 := N4; have HB := N5; have B545 := N6; have GW545 := N7; have E545 := N8; have NB544_545 := N9; have NB545_544 := N10; clear N0 N1 N2 N3 N4 N5 N6 N7 N8 N9 N10 hb hbox hg; have hnb79 := NB544_545.out; have hnc79 := NB545_544.out; have hcz80_0 : w78.cell? ⟨g544, 0, none⟩ = some (I q 0) := (bc B544.out 0).trans rfl; have hcz80_1 : w78.cell? ⟨g544, 1, none⟩ = some (.slice none 0 0) := (bc B544.out 1).trans rfl; have hcz80_2 : w78.cell? ⟨g544, 2, none⟩ = some (.slice none 0 0) := (bc B544.out 2).trans rfl; have hfz80_0 := bf B544.out 0; have hfz80_1 := bf B544.out 1; have hfz80_2 := bf B544.out 2; obtain ⟨Ao81, co81, eo81⟩ := Kd.R_slice O533.out; subst eo81; obtain ⟨Ao82, co82, eo82⟩ := Kd.R_slice O536.out; subst eo82; have hcz83_0 : w78.cell? ⟨g545, 0, none⟩ = some (I q 0) := (bc B545.out 0).trans rfl; have hcz83_1 : w78.cell? ⟨g545, 1, none⟩ = some (.slice none 0 0) := (bc B545.out 1).trans rfl; have hcz83_2 : w78.cell? ⟨g545, 2, none⟩ = some (.slice none 0 0) := (bc B545.out 2).trans rfl; have hfz83_0 := bf B545.out 0; have hfz83_1 := bf B545.out 1; have hfz83_2 := bf B545.out 2; obtain ⟨Ao84, co84, eo84⟩ := Kd.R_slice O540.out; subst eo84; obtain ⟨Ao85, co85, eo85⟩ := Kd.R_slice O543.out; subst eo85) | ((with_reducible refine gate_callee (f := 42) rfl ?_); refine goesL_ (some 18) rfl rfl Try.func42 (by kernel_rfl) rfl #[.agg #[I q t530, J Ao81 t531.length co81, J Ao82 t534.length co82], .agg #[I q t537, J Ao84 t538.length co84, J Ao85 t541.length co85]] rfl (by (try simp only [List.map_toArray, List.map_cons, List.map_nil]); first | done | rfl) ?_; (with_reducible refine (impl_DeltaOf.calls t530 _ _ t531 _ _ t534 t537 _ _ t538 _ _ t541 t546 t547 _ ?side1 ?side2 ?side3 ?side4 ?side5 ?side6 ?side7 ?side8 A5.out).mono ?_); (case side1 => refine (Kd.R_reads' (e := 36) (base := w.heap.size) (ok := fun k_ => some k_ ≠ (J Ao84 t538.length co84 : Value).ownBlock) (n := t531.length) (c := co81) ?_).2.2; exact (by (with_reducible repeat (first | apply ra | apply rN | apply rd1)); exact (Kd.R_mono (Kd.R_mono (rf (p := ⟨g545, 2, none⟩) (rf (p := ⟨g545, 1, none⟩) (rf (p := ⟨g545, 0, none⟩) (rf (p := ⟨g544, 2, none⟩) (rf (p := ⟨g544, 1, none⟩) (rf (p := ⟨g544, 0, none⟩) (Kd.R_types (Kd.R_types O533.out B544.out (by decide)) B545.out (by decide)) (fun _ hk => hk.1.2) (I q t530)) (fun _ hk => hk.1.2) (J Ao81 t531.length co81)) (fun _ hk => hk.1.2) (J Ao82 t534.length co82)) (fun _ hk => hk.2) (I q t537)) (fun _ hk => hk.2) (J Ao84 t538.length co84)) (fun _ hk => hk.2) (J Ao85 t541.length co85)) (fun _ h_ => h_.1)) (fun _ h_ => h_.1)))); (case side2 => exact (Kd.R_reads' O533.out).2.1); (case side3 => refine (Kd.R_reads' (e := 64) (base := w.heap.size) (ok := fun k_ => some k_ ≠ (J Ao85 t541.length co85 : Value).ownBlock) (n := t534.length) (c := co82) ?_).2.2; exact (by (with_reducible repeat (first | apply ra | apply rN | apply rd1)); exact (Kd.R_mono (Kd.R_mono (rf (p := ⟨g545, 2, none⟩) (rf (p := ⟨g545, 1, none⟩) (rf (p := ⟨g545, 0, none⟩) (rf (p := ⟨g544, 2, none⟩) (rf (p := ⟨g544, 1, none⟩) (rf (p := ⟨g544, 0, none⟩) (Kd.R_types (Kd.R_types O536.out B544.out (by decide)) B545.out (by decide)) (fun _ hk => hk.1.2) (I q t530)) (fun _ hk => hk.1.2) (J Ao81 t531.length co81)) (fun _ hk => hk.1.2) (J Ao82 t534.length co82)) (fun _ hk => hk.2) (I q t537)) (fun _ hk => hk.2) (J Ao84 t538.length co84)) (fun _ hk => hk.2) (J Ao85 t541.length co85)) (fun _ h_ => h_.1)) (fun _ h_ => h_.1)))); (case side4 => exact (Kd.R_reads' O536.out).2.1); (case side5 => refine (Kd.R_reads' (e := 36) (base := w.heap.size) (ok := fun k_ => some k_ ≠ (J Ao81 t531.length co81 : Value).ownBlock) (n := t538.length) (c := co84) ?_).2.2; exact (by (with_reducible repeat (first | apply ra | apply rN | apply rd1)); exact (Kd.R_mono (Kd.R_mono (rf (p := ⟨g545, 2, none⟩) (rf (p := ⟨g545, 1, none⟩) (rf (p := ⟨g545, 0, none⟩) (rf (p := ⟨g544, 2, none⟩) (rf (p := ⟨g544, 1, none⟩) (rf (p := ⟨g544, 0, none⟩) (Kd.R_types (Kd.R_types O540.out B544.out (by decide)) B545.out (by decide)) (fun _ hk => hk.1.2) (I q t530)) (fun _ hk => hk.1.2) (J Ao81 t531.length co81)) (fun _ hk => hk.1.2) (J Ao82 t534.length co82)) (fun _ hk => hk.2) (I q t537)) (fun _ hk => hk.2) (J Ao84 t538.length co84)) (fun _ hk => hk.2) (J Ao85 t541.length co85)) (fun _ h_ => h_.1)) (fun _ h_ => h_.1)))); (case side6 => exact (Kd.R_reads' O540.out).2.1); (case side7 => refine (Kd.R_reads' (e := 64) (base := w.heap.size) (ok := fun k_ => some k_ ≠ (J Ao82 t534.length co82 : Value).ownBlock) (n := t541.length) (c := co85) ?_).2.2; exact (by (with_reducible repeat (first | apply ra | apply rN | apply rd1)); exact (Kd.R_mono (Kd.R_mono (rf (p := ⟨g545, 2, none⟩) (rf (p := ⟨g545, 1, none⟩) (rf (p := ⟨g545, 0, none⟩) (rf (p := ⟨g544, 2, none⟩) (rf (p := ⟨g544, 1, none⟩) (rf (p := ⟨g544, 0, none⟩) (Kd.R_types (Kd.R_types O543.out B544.out (by decide)) B545.out (by decide)) (fun _ hk => hk.1.2) (I q t530)) (fun _ hk => hk.1.2) (J Ao81 t531.length co81)) (fun _ hk => hk.1.2) (J Ao82 t534.length co82)) (fun _ hk => hk.2) (I q t537)) (fun _ hk => hk.2) (J Ao84 t538.length co84)) (fun _ hk => hk.2) (J Ao85 t541.length co85)) (fun _ h_ => h_.1)) (fun _ h_ => h_.1)))); (case side8 => exact (Kd.R_reads' O543.out).2.1); rintro e w86 ⟨v548, rfl, ho0, hb⟩; refine ⟨_, rfl, ?_⟩; have N0 := am (rb (by (with_reducible repeat (first | apply ra | apply rN | apply rd1)); exact (Kd.R_mono (Kd.R_mono (rf (p := ⟨g545, 2, none⟩) (rf (p := ⟨g545, 1, none⟩) (rf (p := ⟨g545, 0, none⟩) (rf (p := ⟨g544, 2, none⟩) (rf (p := ⟨g544, 1, none⟩) (rf (p := ⟨g544, 0, none⟩) (Kd.R_types (Kd.R_types O533.out B544.out (by decide)) B545.out (by decide)) (fun _ hk => hk.1.2) (I q t530)) (fun _ hk => hk.1.2) (J Ao81 t531.length co81)) (fun _ hk => hk.1.2) (J Ao82 t534.length co82)) (fun _ hk => hk.2) (I q t537)) (fun _ hk => hk.2) (J Ao84 t538.length co84)) (fun _ hk => hk.2) (J Ao85 t541.length co85)) (fun _ h_ => h_.1)) (fun _ h_ => h_.1))) hb); have N1 := am (re (by (with_reducible repeat (first | apply ra | apply rN | apply rd1)); exact (Kd.R_mono (Kd.R_mono (rf (p := ⟨g545, 2, none⟩) (rf (p := ⟨g545, 1, none⟩) (rf (p := ⟨g545, 0, none⟩) (rf (p := ⟨g544, 2, none⟩) (rf (p := ⟨g544, 1, none⟩) (rf (p := ⟨g544, 0, none⟩) (Kd.R_types (Kd.R_types O536.out B544.out (by decide)) B545.out (by decide)) (fun _ hk => hk.1.2) (I q t530)) (fun _ hk => hk.1.2) (J Ao81 t531.length co81)) (fun _ hk => hk.1.2) (J Ao82 t534.length co82)) (fun _ hk => hk.2) (I q t537)) (fun _ hk => hk.2) (J Ao84 t538.length co84)) (fun _ hk => hk.2) (J Ao85 t541.length co85)) (fun _ h_ => h_.1)) (fun _ h_ => h_.1))) (Kd.R_base ho0) hb); have N2 := am (rb (by (with_reducible repeat (first | apply ra | apply rN | apply rd1)); exact (Kd.R_mono (Kd.R_mono (rf (p := ⟨g545, 2, none⟩) (rf (p := ⟨g545, 1, none⟩) (rf (p := ⟨g545, 0, none⟩) (rf (p := ⟨g544, 2, none⟩) (rf (p := ⟨g544, 1, none⟩) (rf (p := ⟨g544, 0, none⟩) (Kd.R_types (Kd.R_types O540.out B544.out (by decide)) B545.out (by decide)) (fun _ hk => hk.1.2) (I q t530)) (fun _ hk => hk.1.2) (J Ao81 t531.length co81)) (fun _ hk => hk.1.2) (J Ao82 t534.length co82)) (fun _ hk => hk.2) (I q t537)) (fun _ hk => hk.2) (J Ao84 t538.length co84)) (fun _ hk => hk.2) (J Ao85 t541.length co85)) (fun _ h_ => h_.1)) (fun _ h_ => h_.1))) hb); have N3 := am (re (by (with_reducible repeat (first | apply ra | apply rN | apply rd1)); exact (Kd.R_mono (Kd.R_mono (rf (p := ⟨g545, 2, none⟩) (rf (p := ⟨g545, 1, none⟩) (rf (p := ⟨g545, 0, none⟩) (rf (p := ⟨g544, 2, none⟩) (rf (p := ⟨g544, 1, none⟩) (rf (p := ⟨g544, 0, none⟩) (Kd.R_types (Kd.R_types O543.out B544.out (by decide)) B545.out (by decide)) (fun _ hk => hk.1.2) (I q t530)) (fun _ hk => hk.1.2) (J Ao81 t531.length co81)) (fun _ hk => hk.1.2) (J Ao82 t534.length co82)) (fun _ hk => hk.2) (I q t537)) (fun _ hk => hk.2) (J Ao84 t538.length co84)) (fun _ hk => hk.2) (J Ao85 t541.length co85)) (fun _ h_ => h_.1)) (fun _ h_ => h_.1))) (Kd.R_base ho0) hb); have N4 := am (rw1 ho0 (bz (by repeat (first | (with_reducible first | exact HB.out | apply pa | apply pN | apply p1 | refine bs ?_ E544.out | refine bs ?_ E545.out) | exact HB.out)))); have N5 := am (bb (g := g544) (o := .cells #[I q t530, J Ao81 t531.length co81, J Ao82 t534.length co82] 31 (0, 0)) (by (iterate 3 ((with_reducible repeat (first | apply bN | apply bd | apply ba)); refine bq ?_ NB544_545.out _)); (with_reducible repeat (first | apply bN | apply bd | apply ba)); exact pu3l B544.out) hb); have N6 := am (bb (g := g545) (o := .cells #[I q t537, J Ao84 t538.length co84, J Ao85 t541.length co85] 31 (0, 0)) (by (with_reducible repeat (first | apply bN | apply bd | apply ba)); refine blk_put (cs := #[I q t537, J Ao84 t538.length co84, .slice none 0 0]) ?_ 2 _ rfl; (with_reducible repeat (first | apply bN | apply bd | apply ba)); refine blk_put (cs := #[I q t537, .slice none 0 0, .slice none 0 0]) ?_ 1 _ rfl; (with_reducible repeat (first | apply bN | apply bd | apply ba)); refine blk_put (cs := #[I q 0, .slice none 0 0, .slice none 0 0]) ?_ 0 _ rfl; (iterate 3 ((with_reducible repeat (first | apply bN | apply bd | apply ba)); refine bq ?_ NB545_544.out _)); (with_reducible repeat (first | apply bN | apply bd | apply ba)); exact B545.out) hb); have N7 := am (bp (by repeat (first | (with_reducible first | exact HB.out | apply pa | apply pN | apply p1 | refine bs ?_ E544.out | refine bs ?_ E545.out) | exact HB.out)) hb); clear O533 O536 O540 O543 B544 B545 HB; have O533 := N0; have O536 := N1; have O540 := N2; have O543 := N3; have O549 := N4; have B544 := N5; have B545 := N6; have HB := N7; clear N0 N1 N2 N3 N4 N5 N6 N7; (try clear hb); (try clear hb2); (try clear hk); (try clear hi); (try clear ho0)) | ((with_reducible refine gate_dst (N := 5) rfl ?_); (try (refine gate_guard (by rfl) ?_; dsimp only)); refine box_event ?hg (N := 5) ?hd (cs := #[I q 0, .slice none 0 0]) (t := 76) ?hr ?_; (case hd => rfl); (case hg => rfl); (case hr => first | (go_simp; done) | (go_simp; rfl)); intro g550 hg w87 hbox hb; have N0 := am (rb (by (with_reducible repeat (first | apply ra | apply rN | apply rd1)); exact O533.out) hb); have N1 := am (rb (by (with_reducible repeat (first | apply ra | apply rN | apply rd1)); exact O536.out) hb); have N2 := am (rb (by (with_reducible repeat (first | apply ra | apply rN | apply rd1)); exact O540.out) hb); have N3 := am (rb (by (with_reducible repeat (first | apply ra | apply rN | apply rd1)); exact O543.out) hb); have N4 := am (rb (by (with_reducible repeat (first | apply ra | apply rN | apply rd1)); exact O549.out) hb); have N5 := am (bb (g := g544) (by (with_reducible repeat (first | apply bN | apply bd | apply ba)); exact B544.out) hb); have N6 := am (bb (g := g545) (by (with_reducible repeat (first | apply bN | apply bd | apply ba)); exact B545.out) hb); have N7 := am (bp (by repeat (first | (with_reducible first | exact HB.out | apply pa | apply pN | apply p1 | refine bs ?_ E544.out | refine bs ?_ E545.out) | exact HB.out)) hb); have N8 := am (hbox); have N9 := am ((by rw [hg]; exact (bz (by repeat (first | (with_reducible first | exact HB.out | apply pa | apply pN | apply p1 | refine bs ?_ E544.out | refine bs ?_ E545.out) | exact HB.out))) : w.heap.size ≤ g550)); have N10 := am ((by rw [hg]; exact (bz (by repeat (first | (with_reducible first | exact HB.out | apply pa | apply pN | apply p1 | refine bs ?_ E544.out | refine bs ?_ E545.out) | exact HB.out))) : w.heap.size ≤ g550)); have N11 := am ((by rw [hg]; exact Nat.ne_of_lt (bl (g := g544) (by (with_reducible repeat (first | apply bN | apply bd | apply ba)); exact B544.out)) : g544 ≠ g550)); have N12 := am ((by rw [hg]; exact Nat.ne_of_gt (bl (g := g544) (by (with_reducible repeat (first | apply bN | apply bd | apply ba)); exact B544.out)) : g550 ≠ g544)); have N13 := am ((by rw [hg]; exact Nat.ne_of_lt (bl (g := g545) (by (with_reducible repeat (first | apply bN | apply bd | apply ba)); exact B545.out)) : g545 ≠ g550)); have N14 := am ((by rw [hg]; exact Nat.ne_of_gt (bl (g := g545) (by (with_reducible repeat (first | apply bN | apply bd | apply ba)); exact B545.out)) : g550 ≠ g545)); clear O533 O536 O540 O543 O549 B544 B545 HB; have O533 := N0; have O536 := N1; have O540 := N2; have O543 := N3; have O549 := N4; have B544 := N5; have B545 := N6; have HB := N7; have B550 := N8; have GW550 := N9; have E550 := N10; have NB544_550 := N11; have NB550_544 := N12; have NB545_550 := N13; have NB550_545 := N14; clear N0 N1 N2 N3 N4 N5 N6 N7 N8 N9 N10 N11 N12 N13 N14 hb hbox hg; have hnb88 := NB550_544.out; have hnc88 := NB544_550.out; have hnb89 := NB550_545.out; have hnc89 := NB545_550.out; have hcz90_0 : w87.cell? ⟨g550, 0, none⟩ = some (I q 0) := (bc B550.out 0).trans rfl; have hcz90_1 : w87.cell? ⟨g550, 1, none⟩ = some (.slice none 0 0) := (bc B550.out 1).trans rfl; have hfz90_0 := bf B550.out 0; have hfz90_1 := bf B550.out 1; obtain ⟨Ao91, co91, eo91⟩ := Kd.R_slice O549.out; subst eo91))
   have N0 : Aside0 (Kd.R k36 36 ((w87.setCell ⟨g550, 0, none⟩ (I q t546)).setCell ⟨g550, 1, none⟩ (J Ao91 t547.length co91)) w.heap.size (fun k_ => some k_ ≠ (J Ao84 t538.length co84 : Value).ownBlock) (J Ao81 t531.length co81) t531) := ⟨by (with_reducible repeat (first | apply ra | apply rN | apply rd1)); exact Kd.R_mono (rf (p := ⟨g550, 1, none⟩) (rf (p := ⟨g550, 0, none⟩) (Kd.R_types O533.out B550.out (by decide)) (fun _ hk => hk.2) (I q t546)) (fun _ hk => hk.2) (J Ao91 t547.length co91)) (fun _ hk => hk.1)⟩
   have N1 : Aside0 (Kd.R k64 64 ((w87.setCell ⟨g550, 0, none⟩ (I q t546)).setCell ⟨g550, 1, none⟩ (J Ao91 t547.length co91)) w.heap.size (fun k_ => some k_ ≠ (J Ao85 t541.length co85 : Value).ownBlock ∧ some k_ ≠ (J Ao91 t547.length co91 : Value).ownBlock) (J Ao82 t534.length co82) t534) := ⟨by (with_reducible repeat (first | apply ra | apply rN | apply rd1)); exact Kd.R_mono (rf (p := ⟨g550, 1, none⟩) (rf (p := ⟨g550, 0, none⟩) (Kd.R_types O536.out B550.out (by decide)) (fun _ hk => hk.2) (I q t546)) (fun _ hk => hk.2) (J Ao91 t547.length co91)) (fun _ hk => ⟨hk.1.1, hk.1.2⟩)⟩
   have N2 : Aside0 (Kd.R k36 36 ((w87.setCell ⟨g550, 0, none⟩ (I q t546)).setCell ⟨g550, 1, none⟩ (J Ao91 t547.length co91)) w.heap.size (fun k_ => some k_ ≠ (J Ao81 t531.length co81 : Value).ownBlock) (J Ao84 t538.length co84) t538) := ⟨by (with_reducible repeat (first | apply ra | apply rN | apply rd1)); exact Kd.R_mono (rf (p := ⟨g550, 1, none⟩) (rf (p := ⟨g550, 0, none⟩) (Kd.R_types O540.out B550.out (by decide)) (fun _ hk => hk.2) (I q t546)) (fun _ hk => hk.2) (J Ao91 t547.length co91)) (fun _ hk => hk.1)⟩
   have N3 : Aside0 (Kd.R k64 64 ((w87.setCell ⟨g550, 0, none⟩ (I q t546)).setCell ⟨g550, 1, none⟩ (J Ao91 t547.length co91)) w.heap.size (fun k_ => some k_ ≠ (J Ao82 t534.length co82 : Value).ownBlock ∧ some k_ ≠ (J Ao91 t547.length co91 : Value).ownBlock) (J Ao85 t541.length co85) t541) := ⟨by (with_reducible repeat (first | apply ra | apply rN | apply rd1)); exact Kd.R_mono (rf (p := ⟨g550, 1, none⟩) (rf (p := ⟨g550, 0, none⟩) (Kd.R_types O543.out B550.out (by decide)) (fun _ hk => hk.2) (I q t546)) (fun _ hk => hk.2) (J Ao91 t547.length co91)) (fun _ hk => ⟨hk.1.1, hk.1.2⟩)⟩
   have N4 : Aside0 (Kd.R (Kd.int .i64) 2 ((w87.setCell ⟨g550, 0, none⟩ (I q t546)).setCell ⟨g550, 1, none⟩ (J Ao91 t547.length co91)) w.heap.size (fun _ => True) (J Ao91 t547.length co91) t547) := ⟨by (with_reducible repeat (first | apply ra | apply rN | apply rd1)); exact Kd.R_mono (rf (p := ⟨g550, 1, none⟩) (rf (p := ⟨g550, 0, none⟩) (Kd.R_types O549.out B550.out (by decide)) (fun _ hk => hk.2) (I q t546)) (fun _ hk => hk.2) (J Ao91 t547.length co91)) (fun _ hk => trivial)⟩
   have N5 : Aside0 (((w87.setCell ⟨g550, 0, none⟩ (I q t546)).setCell ⟨g550, 1, none⟩ (J Ao91 t547.length co91)).heap[g544]? = some (.cells #[I q t530, J Ao81 t531.length co81, J Ao82 t534.length co82] 31 (0, 0))) := ⟨by (iterate 2 ((with_reducible repeat (first | apply bN | apply bd | apply ba)); refine bq ?_ NB544_550.out _)); (with_reducible repeat (first | apply bN | apply bd | apply ba)); exact B544.out⟩
   have N6 : Aside0 (((w87.setCell ⟨g550, 0, none⟩ (I q t546)).setCell ⟨g550, 1, none⟩ (J Ao91 t547.length co91)).heap[g545]? = some (.cells #[I q t537, J Ao84 t538.length co84, J Ao85 t541.length co85] 31 (0, 0))) := ⟨by (iterate 2 ((with_reducible repeat (first | apply bN | apply bd | apply ba)); refine bq ?_ NB545_550.out _)); (with_reducible repeat (first | apply bN | apply bd | apply ba)); exact B545.out⟩
   have N7 : Aside0 (((w87.setCell ⟨g550, 0, none⟩ (I q t546)).setCell ⟨g550, 1, none⟩ (J Ao91 t547.length co91)).heap[g550]? = some (.cells #[I q t546, J Ao91 t547.length co91] 76 (0, 0))) := ⟨by (with_reducible repeat (first | apply bN | apply bd | apply ba)); exact pu2l B550.out⟩
   have N8 : Aside0 (Below w.heap.size w ((w87.setCell ⟨g550, 0, none⟩ (I q t546)).setCell ⟨g550, 1, none⟩ (J Ao91 t547.length co91))) := ⟨by repeat (first | (with_reducible first | exact HB.out | apply pa | apply pN | apply p1 | refine bs ?_ E544.out | refine bs ?_ E545.out | refine bs ?_ E550.out) | exact HB.out)⟩
   (try clear O533)
   (try clear O536)
   (try clear O540)
   (try clear O543)
   (try clear O549)
   (try clear B544)
   (try clear B545)
   (try clear B550)
   (try clear HB)
   generalize ((w87.setCell ⟨g550, 0, none⟩ (I q t546)).setCell ⟨g550, 1, none⟩ (J Ao91 t547.length co91)) = w92 at N0 N1 N2 N3 N4 N5 N6 N7 N8 ⊢
   have O533 := N0
   have O536 := N1
   have O540 := N2
   have O543 := N3
   have O549 := N4
   have B544 := N5
   have B545 := N6
   have B550 := N7
   have HB := N8
   clear N0 N1 N2 N3 N4 N5 N6 N7 N8
   have N0 := am (rd1 O533.out)
   have N1 := am (rd1 O536.out)
   have N2 := am (rd1 O540.out)
   have N3 := am (rd1 O543.out)
   have N4 := am (rd1 O549.out)
   have N5 := am (bd B544.out)
   have N6 := am (bd B545.out)
   have N7 := am (bd B550.out)
   have N8 := am (p1 HB.out)
   clear O533
   clear O536
   clear O540
   clear O543
   clear O549
   clear B544
   clear B545
   clear B550
   clear HB
   have O533 := N0
   have O536 := N1
   have O540 := N2
   have O543 := N3
   have O549 := N4
   have B544 := N5
   have B545 := N6
   have B550 := N7
   have HB := N8
   clear N0 N1 N2 N3 N4 N5 N6 N7 N8
   refine start_ (n := 8) (S := fun w' => w'.cell? ⟨g544, 0, none⟩ = some (I q t530) ∧ w'.cell? ⟨g544, 1, none⟩ = some (J Ao81 t531.length co81) ∧ w'.cell? ⟨g544, 2, none⟩ = some (J Ao82 t534.length co82) ∧ w'.cell? ⟨g545, 0, none⟩ = some (I q t537) ∧ w'.cell? ⟨g545, 1, none⟩ = some (J Ao84 t538.length co84) ∧ w'.cell? ⟨g545, 2, none⟩ = some (J Ao85 t541.length co85) ∧ w'.cell? ⟨g550, 0, none⟩ = some (I q t546) ∧ w'.cell? ⟨g550, 1, none⟩ = some (J Ao91 t547.length co91)) (ds := []) (Mk 8 0) (by kernel_rfl) rfl rfl ⟨(bc B544.out 0).trans rfl, (bc B544.out 1).trans rfl, (bc B544.out 2).trans rfl, (bc B545.out 0).trans rfl, (bc B545.out 1).trans rfl, (bc B545.out 2).trans rfl, (bc B550.out 0).trans rfl, (bc B550.out 1).trans rfl⟩ (fun hHeld => ?_); refine with_tabW laws_FnDeltas.tab6 laws_FnDeltas.bits6 (fun HT_ HW_ => ?_)
   generalize w92.drew = w93 at O533 O536 O540 O543 O549 B544 B545 B550 HB hHeld ⊢
   refine pure_ (i := 4) (N := some 26) (v := ?_) (a' := ?_) (Mk 8 16) rfl rfl (any_of HT_.out (by kernel_rfl)) (fun _ _ _ h => h) (Or.inl ⟨by rfl, ?_⟩) ?_ ?_
   rotate_left
   ·intro w'
    first | (go_simp; with_reducible rfl) | (go_simp; (try unfold Instr.field); go_simp; (try simp only [asAgg]); go_simp; with_reducible rfl)
   rotate_left
   ·simp only [Act.put, List.setIfInBounds_toArray, List.set_cons_zero, List.set_cons_succ, i64_w, i32_w]
    rfl
   refine take_ (i := 0) (N := some 22) (v := ?_) (a' := ?_) (Mk 8 17) rfl rfl (take_ofW HT_.out HW_.out (by kernel_rfl)) (fun _ _ _ h => h) (Or.inl ⟨by rfl, ?_⟩) hHeld ?_ ?_
   rotate_left
   ·rintro w' ⟨s0, s1, s2, s3, s4, s5, s6, s7⟩
    go_simp
    with_reducible rfl
   rotate_left
   ·simp only [Act.put, List.setIfInBounds_toArray, List.set_cons_zero, List.set_cons_succ, i64_w, i32_w]
    rfl
   refine take_ (i := 1) (N := some 23) (v := ?_) (a' := ?_) (Mk 8 19) rfl rfl (take_ofW HT_.out HW_.out (by kernel_rfl)) (fun _ _ _ h => h) (Or.inl ⟨by rfl, ?_⟩) hHeld ?_ ?_
   rotate_left
   ·rintro w' ⟨s0, s1, s2, s3, s4, s5, s6, s7⟩
    go_simp
    with_reducible rfl
   rotate_left
   ·simp only [Act.put, List.setIfInBounds_toArray, List.set_cons_zero, List.set_cons_succ, i64_w, i32_w]
    rfl
   refine take_ (i := 5) (N := some 27) (v := ?_) (a' := ?_) (Mk 8 51) rfl rfl (take_ofW HT_.out HW_.out (by kernel_rfl)) (fun _ _ _ h => h) (Or.inl ⟨by rfl, ?_⟩) hHeld ?_ ?_
   rotate_left
   ·rintro w' ⟨s0, s1, s2, s3, s4, s5, s6, s7⟩
    go_simp
    with_reducible rfl
   rotate_left
   ·simp only [Act.put, List.setIfInBounds_toArray, List.set_cons_zero, List.set_cons_succ, i64_w, i32_w]
    rfl
   refine one_ (i := 2) (N := some 24) (Mk 8 55) rfl rfl (one_of HT_.out (by kernel_rfl)) (by decide) (fun K hK => ?_)
   refine goes_ Try.func41 (by kernel_rfl) rfl #[.agg #[I q t530, J Ao81 t531.length co81, J Ao82 t534.length co82], .agg #[I q t537, J Ao84 t538.length co84, J Ao85 t541.length co85]] (by rfl) rfl rfl (by (try simp only [List.map_toArray, List.map_cons, List.map_nil]); first | done | rfl | (simp only [List.length_drop, List.length_take]; rfl)) ?_
   with_reducible refine (spec_DeltaOf.calls t530 _ _ t531 _ _ t534 t537 _ _ t538 _ _ t541 t551 t552 _ ?side1 ?side2 ?side3 ?side4 ?side5 ?side6 ?side7 ?side8 A75.out).mono ?_
   (case side1 => repeat (first | exact (Kd.R_reads' O533.out).2.2 | (with_reducible refine ca ?_ _) | (with_reducible refine cN ?_ _) | (with_reducible refine cd1 ?_)))
   (case side2 => exact (Kd.R_reads' O533.out).2.1)
   (case side3 => repeat (first | exact (Kd.R_reads' O536.out).2.2 | (with_reducible refine ca ?_ _) | (with_reducible refine cN ?_ _) | (with_reducible refine cd1 ?_)))
   (case side4 => exact (Kd.R_reads' O536.out).2.1)
   (case side5 => repeat (first | exact (Kd.R_reads' O540.out).2.2 | (with_reducible refine ca ?_ _) | (with_reducible refine cN ?_ _) | (with_reducible refine cd1 ?_)))
   (case side6 => exact (Kd.R_reads' O540.out).2.1)
   (case side7 => repeat (first | exact (Kd.R_reads' O543.out).2.2 | (with_reducible refine ca ?_ _) | (with_reducible refine cN ?_ _) | (with_reducible refine cd1 ?_)))
   (case side8 => exact (Kd.R_reads' O543.out).2.1)
   rintro e w94 ⟨v553, rfl, ho0, hb⟩
   refine ⟨_, rfl, ?_⟩
   have N0 := am (rb (by (with_reducible repeat (first | apply ra | apply rN | apply rd1)); exact O533.out) hb)
   have N1 := am (re (by (with_reducible repeat (first | apply ra | apply rN | apply rd1)); exact O536.out) (Kd.R_base ho0) hb)
   have N2 := am (rb (by (with_reducible repeat (first | apply ra | apply rN | apply rd1)); exact O540.out) hb)
   have N3 := am (re (by (with_reducible repeat (first | apply ra | apply rN | apply rd1)); exact O543.out) (Kd.R_base ho0) hb)
   have N4 := am (re (by (with_reducible repeat (first | apply ra | apply rN | apply rd1)); exact O549.out) (Kd.R_base ho0) hb)
   have N5 := am (rw1 (rn ho0 (rl (by (with_reducible repeat (first | apply ra | apply rN | apply rd1)); exact O549.out))) (bz (by repeat (first | (with_reducible first | exact HB.out | apply pa | apply pN | apply p1 | refine bs ?_ E544.out | refine bs ?_ E545.out | refine bs ?_ E550.out) | exact HB.out))))
   have N6 := am (bb (g := g544) (by (with_reducible repeat (first | apply bN | apply bd | apply ba)); exact B544.out) hb)
   have N7 := am (bb (g := g545) (by (with_reducible repeat (first | apply bN | apply bd | apply ba)); exact B545.out) hb)
   have N8 := am (bb (g := g550) (by (with_reducible repeat (first | apply bN | apply bd | apply ba)); exact B550.out) hb)
   have N9 := am (bp (by repeat (first | (with_reducible first | exact HB.out | apply pa | apply pN | apply p1 | refine bs ?_ E544.out | refine bs ?_ E545.out | refine bs ?_ E550.out) | exact HB.out)) hb)
   clear O533
   clear O536
   clear O540
   clear O543
   clear O549
   clear B544
   clear B545
   clear B550
   clear HB
   have O533 := N0
   have O536 := N1
   have O540 := N2
   have O543 := N3
   have O549 := N4
   have O554 := N5
   have B544 := N6
   have B545 := N7
   have B550 := N8
   have HB := N9
   clear N0 N1 N2 N3 N4 N5 N6 N7 N8 N9
   (try clear hb)
   (try clear hb2)
   (try clear hk)
   (try clear hi)
   (try clear ho0)
   refine hK.out _ _ ⟨(bc B544.out 0).trans rfl, (bc B544.out 1).trans rfl, (bc B544.out 2).trans rfl, (bc B545.out 0).trans rfl, (bc B545.out 1).trans rfl, (bc B545.out 2).trans rfl, (bc B550.out 0).trans rfl, (bc B550.out 1).trans rfl⟩ (fun hHeld => ?_)
   clear hK K
   refine norm_ (a' := ?_) ?_ ?_
   rotate_left
   ·show Act.put _ (some 24) _ = _
    simp only [Act.put, List.setIfInBounds_toArray, List.set_cons_zero, List.set_cons_succ, i64_w, i32_w]
    rfl
   refine pure_ (i := 3) (N := some 25) (v := ?_) (a' := ?_) (Mk 8 63) rfl rfl (any_of HT_.out (by kernel_rfl)) (fun _ _ _ h => h) (Or.inl ⟨by rfl, ?_⟩) ?_ ?_
   rotate_left
   ·intro w'
    first | (go_simp; with_reducible rfl) | (go_simp; (try unfold Instr.field); go_simp; (try simp only [asAgg]); go_simp; with_reducible rfl)
   rotate_left
   ·simp only [Act.put, List.setIfInBounds_toArray, List.set_cons_zero, List.set_cons_succ, i64_w, i32_w]
    rfl
   refine pure_ (i := 6) (N := some 28) (v := ?_) (a' := ?_) (Mk 8 127) rfl rfl (any_of HT_.out (by kernel_rfl)) (fun _ _ _ h => h) (Or.inl ⟨by rfl, ?_⟩) ?_ ?_
   rotate_left
   ·intro w'
    first | (go_simp; with_reducible rfl) | (go_simp; (try unfold Instr.field); go_simp; (try simp only [asAgg]); go_simp; with_reducible rfl)
   rotate_left
   ·simp only [Act.put, List.setIfInBounds_toArray, List.set_cons_zero, List.set_cons_succ, i64_w, i32_w]
    rfl
   refine pure_ (i := 7) (N := some 2) (v := ?_) (a' := ?_) (Mk 8 255) rfl rfl (any_of HT_.out (by kernel_rfl)) (fun _ _ _ h => h) (Or.inl ⟨by rfl, ?_⟩) ?_ ?_
   rotate_left
   ·intro w'
    first | (go_simp; with_reducible rfl) | (go_simp; (try unfold Instr.field); go_simp; (try simp only [asAgg]); go_simp; with_reducible rfl)
   rotate_left
   ·simp only [Act.put, List.setIfInBounds_toArray, List.set_cons_zero, List.set_cons_succ, i64_w, i32_w]
    rfl
   refine done_ (done_of HT_.out (by kernel_rfl)) ?_
   try go_wp2
   go_ret
   exact ⟨by first | rfl | (simp [errW_none, errW_some] <;> rfl) | (simp [*, errW_none, errW_some] <;> rfl), by repeat (first | (with_reducible first | exact HB.out | apply pa | apply pN | apply p1 | refine bs ?_ E544.out | refine bs ?_ E545.out | refine bs ?_ E550.out) | exact HB.out)⟩

/-- THE ONE PURE STATEMENT of laws_FnDeltas: yours. -/
def laws_FnDeltas.Pure : Prop := ∀ (l0 : List Int), l0.length ≤ maxLen → l0.length * 1 ≤ 140737488351232 → (∀ x ∈ l0, (Lit.int .u8 x).wf = true) → ∃ k, laws_FnDeltas.f k l0 = some true
theorem laws_FnDeltas.walk (P : laws_FnDeltas.Pure) (a0 : Option Addr) (len0 cap0 : Nat) (z0 : List Int) (w : World) (w0 : (a0 = none ∧ len0 = 0 ∧ cap0 = 0 ∧ z0 = []) ∨ ∃ x, a0 = some x ∧ len0 ≤ cap0 ∧ cap0 ≤ maxLen ∧ z0.length = cap0 ∧ (∀ i, i < z0.length → w.cell? (x.add i) = some (.int .u8 (z0.getD i 0))) ∧ ∀ n ∈ z0, (Lit.int .u8 n).wf = true) (y0 : len0 * 1 ≤ 140737488351232) :
  Calls Try.prog 11 #[.slice a0 len0 cap0] w fun e w' => e = .returned (.bool true) ∧ Below w.heap.size w w' := by
 obtain ⟨l0, rfl, hr0, hm0, hw0, hc0⟩ := ReadsInt.ofRowC w0
 obtain ⟨k, h⟩ := P l0 hm0 y0 hw0
 refine (laws_FnDeltas.calls k _ _ l0 true w (Kd.C_of_reads (d := (0 : Int)) (h1 := fun _ => rfl) hr0) hc0 h).mono ?_
 rintro e w' ⟨rfl, hd⟩
 exact ⟨rfl, hd⟩

end Go.Proofs.Ytfmlhpoaipeoeaa.QFnDeltas
