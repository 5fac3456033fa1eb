-- MADE BY PROGRAM (wip/dr/assemble.py) out of walks by hand. Lean checks it.
import Derived.Test.YtfmlhpoaipeoeaaQFnDrainedx0
import Derived.Test.YtfmlhpoaipeoeaaQFnDrainedx1
import Derived.Test.YtfmlhpoaipeoeaaQFnDrainedx2
import Derived.Test.YtfmlhpoaipeoeaaIx
import Derived.StillTailTactics
namespace Go.Proofs.Ytfmlhpoaipeoeaa.QFnDrained
open Go.RowKit Go.Proofs.YtfmlhpoaipeoeaaW.PrintWords Go.Proofs.YtfmlhpoaipeoeaaW.PrintLast Go.Proofs.YtfmlhpoaipeoeaaW.PrintMore
open Go.Proofs.YtfmlhpoaipeoeaaW.PrintWords renaming blk_drewN → bN, blk_drew → bd, blk_alloc → ba, blk_cell → bc, blk_frozen → bf, below_set → bs, pw_below_drewN → pN, below_drew1 → p1, below_alloc → pa, blk_below → bb, below_size → bz, below_step → bp, blk_lt → bl, blk_far → bq, add_block → ab
open Go.Proofs.YtfmlhpoaipeoeaaW.PrintWords.Kd renaming R_drewN → rN, R_drew → rd1, R_alloc → ra, R_far → rf, R_below → rb, R_new' → rn, R_lt → rl, R_elder' → re, R_lower → rw1, C_alloc → ca, C_drewN → cN, C_drew → cd1, S_alloc → sa, S_drewN → sN, S_drew → sd, S_far → sf, S_mono → sm, S_types → st, S_lt → sl
open Go.Proofs.YtfmlhpoaipeoeaaW.PrintWords.Aside0 renaming mk → am
open Go.Value renaming int → I, slice → J
open Go.IntKind renaming i64 → q
attribute [local go_sem] max2_int min2_int max_two min_two max_three min_three max_four min_four   -- for this text's walks alone
set_option linter.unusedVariables false
set_option linter.unusedSimpArgs false
theorem pu3a {W : World} {g t : Nat} {u0 u1 u2 v0 v1 v2 : Value} (h : W.heap[g]? = some (.cells #[u0, u1, u2] t (0, 0))) : (((W.setCell ⟨g, 0, none⟩ v0).setCell ⟨g, 1, none⟩ v1).setCell ⟨g, 2, none⟩ v2).heap[g]? = some (.cells #[v0, v1, v2] t (0, 0)) := by
  refine blk_put (cs := #[v0, v1, u2]) ?_ 2 _ rfl
  refine blk_put (cs := #[v0, u1, u2]) ?_ 1 _ rfl
  exact blk_put (cs := #[u0, u1, u2]) h 0 _ rfl
theorem pu4a {W : World} {g t : Nat} {u0 u1 u2 u3 v0 v1 v2 v3 : Value} (h : W.heap[g]? = some (.cells #[u0, u1, u2, u3] t (0, 0))) : ((((W.setCell ⟨g, 0, none⟩ v0).setCell ⟨g, 1, none⟩ v1).setCell ⟨g, 2, none⟩ v2).setCell ⟨g, 3, none⟩ v3).heap[g]? = some (.cells #[v0, v1, v2, v3] t (0, 0)) := by
  refine blk_put (cs := #[v0, v1, v2, u3]) ?_ 3 _ rfl
  refine blk_put (cs := #[v0, v1, u2, u3]) ?_ 2 _ rfl
  refine blk_put (cs := #[v0, u1, u2, u3]) ?_ 1 _ rfl
  exact blk_put (cs := #[u0, u1, u2, u3]) h 0 _ rfl
/-- The operations that are done, as the bits of a number. -/
def Mk (n k : Nat) : Array Bool := ((List.range n).map (fun i => Nat.testBit k i)).toArray
/-! ### spec_l5Copy: function 98 -/
def spec_l5Copy.l0 : Nat → Int → Int → List (S36) → List (S64) → Int → List (S36) → List (S64) → Option (Int × (List (S36)) × (List (S64)))
 | 0, _, _, _, _, _, _, _ => none
 | k + 1, x4, x229000, x229001, x229002, x237000, x237001, x237002 => if x4 < (x229002.length : Int) then (if 0 ≤ x4 then ((some (([] : List Int) : List Int)).bind fun y239 => (if y239.length + ((rd_T64 x229002 x4).f3).length < 17592186044416 then (if x237002.length < 2932031007402 then (spec_l5Copy.l0 k (wrap64 (x4 + 1)) x229000 x229001 x229002 x237000 x237001 (x237002 ++ [(⟨(rd_T64 x229002 x4).f0, (rd_T64 x229002 x4).f1, (rd_T64 x229002 x4).f2, (y239 ++ ((rd_T64 x229002 x4).f3))⟩ : S64)])) else (none)) else (none))) else (none)) else (some (x237000, x237001, x237002))
def spec_l5Copy.f (k : Nat) (aa0 : Int) (la1 : List (S36)) (la2 : List (S64)) : Option (Int × (List (S36)) × (List (S64))) := (some (([] : List (S36)) : List (S36))).bind fun y230 => (if y230.length + la1.length < 3518437208883 then (spec_l5Copy.l0 k 0 aa0 la1 la2 aa0 (y230 ++ la1) ([] : List (S64))) else (none))
theorem spec_l5Copy.mono_l : ∀ k, (∀ y0 y1 y2 y3 y4 y5 y6, LeO (spec_l5Copy.l0 k y0 y1 y2 y3 y4 y5 y6) (spec_l5Copy.l0 (k + 1) y0 y1 y2 y3 y4 y5 y6))
 | 0 => fun _ _ _ _ _ _ _ r h => by simp [spec_l5Copy.l0] at h
 | k + 1 => by
  have ih0 := spec_l5Copy.mono_l k
  ·intro y0 y1 y2 y3 y4 y5 y6
   unfold spec_l5Copy.l0
   repeat' first
   | (with_reducible exact ih0 _ _ _ _ _ _ _)
   | (with_reducible exact LeO.refl _)
   | (with_reducible exact LeO.none _)
   | (with_reducible refine LeO.ite ?_ ?_)
   | (with_reducible refine LeO.bind ?_ (fun _ => ?_))
   | exact ih0 _ _ _ _ _ _ _
   | exact LeO.none _
   | refine LeO.ite ?_ ?_
   | refine LeO.bind ?_ (fun _ => ?_)
theorem spec_l5Copy.mono : ∀ a0 a1 a2 k, LeO (spec_l5Copy.f k a0 a1 a2) (spec_l5Copy.f (k + 1) a0 a1 a2) := by
 intro a0 a1 a2 k
 have ih0 := spec_l5Copy.mono_l k
 unfold spec_l5Copy.f
 repeat' first
   | (with_reducible exact ih0 _ _ _ _ _ _ _)
   | (with_reducible exact LeO.refl _)
   | (with_reducible exact LeO.none _)
   | (with_reducible refine LeO.ite ?_ ?_)
   | (with_reducible refine LeO.bind ?_ (fun _ => ?_))
   | exact ih0 _ _ _ _ _ _ _
   | exact LeO.none _
   | refine LeO.ite ?_ ?_
   | refine LeO.bind ?_ (fun _ => ?_)
def spec_l5Copy.T1 : Bool × List (List Nat × List Nat) := (true, [([], []), ([0], [0]), ([], []), ([], []), ([3], [3]), ([2, 4], [2, 4]), ([1, 5], [1, 5]), ([], []), ([7, 6, 5, 0, 1, 2, 3, 4, 5, 6, 7], [6, 7])])
def spec_l5Copy.B1 : List Nat := [0, 1, 0, 0, 8, 28, 63, 0, 255]
theorem spec_l5Copy.tab1 : rtab .any (opsOf Try.f98 1) = spec_l5Copy.T1 := by kernel_rfl
theorem spec_l5Copy.bits1 : waitsOk spec_l5Copy.T1.2 spec_l5Copy.B1 = true := by kernel_rfl
set_option maxHeartbeats 8000000 in
set_option maxRecDepth 100000 in
theorem spec_l5Copy.calls (k : Nat) (aa0 : Int) (Aa1 : Option Addr) (ca1 : Nat) (la1 : List (S36)) (Aa2 : Option Addr) (ca2 : Nat) (la2 : List (S64)) (r1 : Int) (r2 : List (S36)) (r3 : List (S64)) (w : World) (hr0_1 : Kd.C k36 w Aa1 la1.length la1) (hc0_1 : la1.length ≤ ca1) (hr0_2 : Kd.C k64 w Aa2 la2.length la2) (hc0_2 : la2.length ≤ ca2) (h : spec_l5Copy.f k aa0 la1 la2 = some (r1, r2, r3)) :
  Calls Try.prog 98 #[.agg #[I q aa0, J Aa1 la1.length ca1, J Aa2 la2.length ca2]] w fun e w' => ∃ v1_ v2_ : Value, e = .returned (.agg #[I q r1, v1_, v2_]) ∧ Kd.R k36 36 w' w.heap.size (fun _ => True) v1_ r2 ∧ Kd.S k64 64 w' w.heap.size (fun _ => True) v2_ r3 ∧ Below w.heap.size w w' := by
 have hu31 := Try.underlying31
 have hu64 := Try.underlying64
 have HR0_1 := am hr0_1
 have HC0_1 := am hc0_1
 clear hr0_1 hc0_1
 have HR0_2 := am hr0_2
 have HC0_2 := am hc0_2
 clear hr0_2 hc0_2
 have HB := am (Below.refl w.heap.size w)
 have H : ((some (([] : List (S36)) : List (S36))).bind fun y230 => (if y230.length + la1.length < 3518437208883 then (spec_l5Copy.l0 k 0 aa0 la1 la2 aa0 (y230 ++ la1) ([] : List (S64))) else (none))) = some (r1, r2, r3) := h
 clear h
 obtain ⟨y230, hy230⟩ : ∃ y_ : List (S36), y_ = (([] : List (S36))) := ⟨_, rfl⟩
 replace H : (if y230.length + la1.length < 3518437208883 then (spec_l5Copy.l0 k 0 aa0 la1 la2 aa0 (y230 ++ la1) ([] : List (S64))) else (none)) = some (r1, r2, r3) := by first | (rw [hy230]; with_reducible exact H) | (have H2_ := (Option.bind_some _ _).symm.trans H; rw [hy230]; with_reducible exact H2_) | (have H2_ := (Option.bind_some _ _).symm.trans H; with_reducible exact H2_) | with_reducible exact H | (rw [hy230]; exact H) | exact H
 have Ny230 := am hy230
 clear hy230
 by_cases c2 : y230.length + la1.length < 3518437208883
 ·rw [if_pos c2] at H
  have LMc2 := am c2
  clear c2
  obtain ⟨y233, hy233⟩ : ∃ y_ : List (S36), y_ = (y230 ++ la1) := ⟨_, rfl⟩
  replace H : (spec_l5Copy.l0 k 0 aa0 la1 la2 aa0 y233 ([] : List (S64))) = some (r1, r2, r3) := by first | (rw [hy233]; with_reducible exact H) | (have H2_ := (Option.bind_some _ _).symm.trans H; rw [hy233]; with_reducible exact H2_) | (have H2_ := (Option.bind_some _ _).symm.trans H; with_reducible exact H2_) | with_reducible exact H | (rw [hy233]; exact H) | exact H
  have Ny233 := am hy233
  clear hy233
  have H' := am H
  clear H
  go_enter Try.func98, Try.ntmps98
  try go_wp2_with (first | ((with_reducible refine gate_dst (N := 1) rfl ?_); refine box_event ?hg (N := 1) ?hd (cs := #[I q aa0, J Aa1 la1.length ca1, J Aa2 la2.length ca2]) (t := 31) ?hr ?_; (case hd => rfl); (case hg => rfl); (case hr => first | (go_simp; done) | (go_simp; rfl)); intro g228 hg w3 hbox hb; have N0 := am (bp (by repeat (first | (with_reducible first | exact HB.out | apply pa | apply pN | apply p1) | exact HB.out)) hb); have N1 := am (hbox); have N2 := am ((by rw [hg]; exact (bz (by repeat (first | (with_reducible first | exact HB.out | apply pa | apply pN | apply p1) | exact HB.out))) : w.heap.size ≤ g228)); have N3 := am ((by rw [hg]; exact (bz (by repeat (first | (with_reducible first | exact HB.out | apply pa | apply pN | apply p1) | exact HB.out))) : w.heap.size ≤ g228)); clear HB; have HB := N0; have B228 := N1; have GW228 := N2; have E228 := N3; clear N0 N1 N2 N3 hb hbox hg) | ((with_reducible refine gate_dst (N := 2) rfl ?_); refine box_event ?hg (N := 2) ?hd (cs := #[I q 0, .slice none 0 0, .slice none 0 0]) (t := 31) ?hr ?_; (case hd => rfl); (case hg => rfl); (case hr => first | (go_simp; done) | (go_simp; rfl)); intro g229 hg w4 hbox hb; have N0 := am (bb (g := g228) (by (with_reducible repeat (first | apply bN | apply bd | apply ba)); exact B228.out) hb); have N1 := am (bp (by repeat (first | (with_reducible first | exact HB.out | apply pa | apply pN | apply p1 | refine bs ?_ E228.out) | exact HB.out)) hb); have N2 := am (hbox); have N3 := am ((by rw [hg]; exact (bz (by repeat (first | (with_reducible first | exact HB.out | apply pa | apply pN | apply p1 | refine bs ?_ E228.out) | exact HB.out))) : w.heap.size ≤ g229)); have N4 := am ((by rw [hg]; exact (bz (by repeat (first | (with_reducible first | exact HB.out | apply pa | apply pN | apply p1 | refine bs ?_ E228.out) | exact HB.out))) : w.heap.size ≤ g229)); have N5 := am ((by rw [hg]; exact Nat.ne_of_lt (bl (g := g228) (by (with_reducible repeat (first | apply bN | apply bd | apply ba)); exact B228.out)) : g228 ≠ g229)); have N6 := am ((by rw [hg]; exact Nat.ne_of_gt (bl (g := g228) (by (with_reducible repeat (first | apply bN | apply bd | apply ba)); exact B228.out)) : g229 ≠ g228)); clear B228 HB; have B228 := N0; have HB := N1; have B229 := N2; have GW229 := N3; have E229 := N4; have NB228_229 := N5; have NB229_228 := N6; clear N0 N1 N2 N3 N4 N5 N6 hb hbox hg))
  have N0 := am (bd B228.out)
  have N1 := am (bd B229.out)
  have N2 := am (p1 HB.out)
  clear B228
  clear B229
  clear HB
  have B228 := N0
  have B229 := N1
  have HB := N2
  clear N0 N1 N2
  refine start_ (n := 9) (S := fun w' => w'.cell? ⟨g228, 0, none⟩ = some (I q aa0) ∧ w'.cell? ⟨g228, 1, none⟩ = some (J Aa1 la1.length ca1) ∧ w'.cell? ⟨g228, 2, none⟩ = some (J Aa2 la2.length ca2)) (ds := []) (Mk 9 0) (by kernel_rfl) rfl rfl ⟨(bc B228.out 0).trans rfl, (bc B228.out 1).trans rfl, (bc B228.out 2).trans rfl⟩ (fun hHeld => ?_); refine with_tabW spec_l5Copy.tab1 spec_l5Copy.bits1 (fun HT_ HW_ => ?_)
  generalize w4.drew = w5 at B228 B229 HB hHeld ⊢
  refine pure_ (i := 0) (N := some 6) (v := ?_) (a' := ?_) (Mk 9 1) rfl rfl (any_of HT_.out (by kernel_rfl)) (fun _ _ _ h => h) (Or.inl ⟨by rfl, ?_⟩) ?_ ?_
  rotate_left
  ·intro w'
   first | (go_simp; with_reducible rfl) | (go_simp; (try unfold Instr.field); go_simp; (try simp only [asAgg]); go_simp; with_reducible rfl)
  rotate_left
  ·simp only [Act.put, List.setIfInBounds_toArray, List.set_cons_zero, List.set_cons_succ, i64_w, i32_w]
   rfl
  refine pure_ (i := 3) (N := some 9) (v := ?_) (a' := ?_) (Mk 9 9) rfl rfl (any_of HT_.out (by kernel_rfl)) (fun _ _ _ h => h) (Or.inl ⟨by rfl, ?_⟩) ?_ ?_
  rotate_left
  ·intro w'
   first | (go_simp; with_reducible rfl) | (go_simp; (try unfold Instr.field); go_simp; (try simp only [asAgg]); go_simp; with_reducible rfl)
  rotate_left
  ·simp only [Act.put, List.setIfInBounds_toArray, List.set_cons_zero, List.set_cons_succ, i64_w, i32_w]
   rfl
  refine take_ (i := 1) (N := some 7) (v := ?_) (a' := ?_) (Mk 9 11) rfl rfl (take_ofW HT_.out HW_.out (by kernel_rfl)) (fun _ _ _ h => h) (Or.inl ⟨by rfl, ?_⟩) hHeld ?_ ?_
  rotate_left
  ·rintro w' ⟨s0, s1, s2⟩
   go_simp
   with_reducible rfl
  rotate_left
  ·simp only [Act.put, List.setIfInBounds_toArray, List.set_cons_zero, List.set_cons_succ, i64_w, i32_w]
   rfl
  refine take_ (i := 4) (N := some 10) (v := ?_) (a' := ?_) (Mk 9 27) rfl rfl (take_ofW HT_.out HW_.out (by kernel_rfl)) (fun _ _ _ h => h) (Or.inl ⟨by rfl, ?_⟩) hHeld ?_ ?_
  rotate_left
  ·rintro w' ⟨s0, s1, s2⟩
   go_simp
   with_reducible rfl
  rotate_left
  ·simp only [Act.put, List.setIfInBounds_toArray, List.set_cons_zero, List.set_cons_succ, i64_w, i32_w]
   rfl
  refine join_ (σ := Value × Value × Nat) 1 (Mk 9 255) (fun s_ => [(8, s_.1), (11, s_.2.1), (3, .pointer (some ⟨s_.2.2, 0, none⟩)), (12, .agg #[I q aa0, s_.2.1, .slice none 0 0])]) (fun s_ w' => (w'.cell? ⟨g228, 0, none⟩ = some (I q aa0) ∧ w'.cell? ⟨g228, 1, none⟩ = some (J Aa1 la1.length ca1) ∧ w'.cell? ⟨g228, 2, none⟩ = some (J Aa2 la2.length ca2)) ∧ (Kd.R k36 36 w' w.heap.size (fun _ => True) s_.2.1 y233) ∧ (w'.heap[g228]? = some (.cells #[I q aa0, J Aa1 la1.length ca1, J Aa2 la2.length ca2] 31 (0, 0))) ∧ (w'.heap[g229]? = some (.cells #[I q 0, .slice none 0 0, .slice none 0 0] 31 (0, 0))) ∧ (w'.heap[s_.2.2]? = some (.cells #[I q 0, .slice none 0 0, .slice none 0 0] 31 (0, 0))) ∧ (w.heap.size ≤ s_.2.2) ∧ (w.heap.size ≤ s_.2.2) ∧ (g228 ≠ s_.2.2) ∧ (s_.2.2 ≠ g228) ∧ (g229 ≠ s_.2.2) ∧ (s_.2.2 ≠ g229) ∧ (Below w.heap.size w w')) ?_ ?_
  rotate_left
  ·intro hCont
   refine two_ (i := 2) (j := 7) (Ni := some 8) (Nj := some 3) (Mk 9 31) (Mk 9 155) rfl rfl rfl rfl (two_of HT_.out (by kernel_rfl)) (by decide) (by decide) (fun K hK => ?_) (fun K hK => ?_)
   ·skip
    refine Kd.R_lit_step k36 _ 36 ?hg (N := 8) ?hd (xs := ([] : List (S36))) (inner := []) (ok := fun _ => True) (okp := fun _ => True) ?hr ?hp (fun _ hk => hk) trivial (Below.refl _ _) (Nat.le_refl _) (by simp) ?_; (case hd => rfl); (case hg => rfl); (case hr => first | (go_simp; done) | (go_simp; rfl)); (case hp => exact (Reps.none _ _))
    intro v231 w6 ho7 hb hg_ hnew_
    clear hg_ hnew_
    (first | rw [← Ny230.out] at ho7 | (simp only [Int.reduceToNat] at ho7; rw [← Ny230.out] at ho7))
    have N0 := am (rw1 ho7 (bz (by repeat (first | (with_reducible first | exact HB.out | apply pa | apply pN | apply p1 | refine bs ?_ E228.out | refine bs ?_ E229.out) | exact HB.out))))
    have N1 := am (bb (g := g228) (by (with_reducible repeat (first | apply bN | apply bd | apply ba)); exact B228.out) hb)
    have N2 := am (bb (g := g229) (by (with_reducible repeat (first | apply bN | apply bd | apply ba)); exact B229.out) hb)
    have N3 := am (bp (by repeat (first | (with_reducible first | exact HB.out | apply pa | apply pN | apply p1 | refine bs ?_ E228.out | refine bs ?_ E229.out) | exact HB.out)) hb)
    clear B228
    clear B229
    clear HB
    have O232 := N0
    have B228 := N1
    have B229 := N2
    have HB := N3
    clear N0 N1 N2 N3
    clear hb ho7
    refine hK.out _ _ ⟨(bc B228.out 0).trans rfl, (bc B228.out 1).trans rfl, (bc B228.out 2).trans rfl⟩ (fun hHeld => ?_)
    clear hK K
    refine norm_ (a' := ?_) ?_ ?_
    rotate_left
    ·show Act.put _ (some 8) _ = _
     simp only [Act.put, List.setIfInBounds_toArray, List.set_cons_zero, List.set_cons_succ, i64_w, i32_w]
     rfl
    refine two_ (i := 5) (j := 7) (Ni := some 11) (Nj := some 3) (Mk 9 63) (Mk 9 159) rfl rfl rfl rfl (two_of HT_.out (by kernel_rfl)) (by decide) (by decide) (fun K hK => ?_) (fun K hK => ?_)
    ·skip
     refine Kd.R_append_rows_step k36 (w0 := w) w.heap.size (by rfl) (.tmp 8) (.tmp 10) 28 36 (.agg #[(I q 0), (I q 0), (I q 0), (I q 0), (.bool false)]) 40 rfl Try.underlying28 info36 rfl (by decide) (by omega) v231 y230 la1 _ _ _ (fun _ => True) (fun _ => False) rfl rfl ?aO ?aR (fun _ _ h => h) (fun _ h => h.elim) ?aF ?aB ?aS ?aL ?_
     (case aR => repeat (first | exact (Kd.C_below HR0_1.out HB.out) | (with_reducible refine ca ?_ _) | (with_reducible refine cN ?_ _) | (with_reducible refine cd1 ?_)))
     (case aB => exact (by repeat (first | (with_reducible first | exact HB.out | apply pa | apply pN | apply p1 | refine bs ?_ E228.out | refine bs ?_ E229.out) | exact HB.out)))
     (case aF => exact (fun _ _ => trivial))
     (case aO => exact (by (with_reducible repeat (first | apply ra | apply rN | apply rd1)); exact O232.out))
     (case aS => exact (bz (by repeat (first | (with_reducible first | exact HB.out | apply pa | apply pN | apply p1 | refine bs ?_ E228.out | refine bs ?_ E229.out) | exact HB.out))))
     (case aL => have := LMc2.out; omega)
     intro v234 w8 ho hb hg hat
     rw [← Ny233.out] at ho
     have N0 := am (blk_grown (g := g228) (o := .cells #[I q aa0, J Aa1 la1.length ca1, J Aa2 la2.length ca2] 31 (0, 0)) (by (with_reducible repeat (first | apply bN | apply bd | apply ba)); exact B228.out) hg (Kd.R_ne O232.out B228.out (by decide)))
     have N1 := am (blk_grown (g := g229) (o := .cells #[I q 0, .slice none 0 0, .slice none 0 0] 31 (0, 0)) (by (with_reducible repeat (first | apply bN | apply bd | apply ba)); exact B229.out) hg (Kd.R_ne O232.out B229.out (by decide)))
     have N2 := am (hb)
     have N3 := am (ho)
     clear B228
     clear B229
     clear HB
     clear O232
     have B228 := N0
     have B229 := N1
     have HB := N2
     have O235 := N3
     clear N0 N1 N2 N3
     clear ho hb hg hat
     obtain ⟨Ao9, co9, eo9⟩ := Kd.R_slice O235.out
     (first | subst eo9 | (injection eo9 with f1_ f2_ f3_; have f4_ := f1_.symm; have f5_ := f3_.symm; clear f1_ f2_ f3_; subst f4_; subst f5_))
     refine hK.out _ _ ⟨(bc B228.out 0).trans rfl, (bc B228.out 1).trans rfl, (bc B228.out 2).trans rfl⟩ (fun hHeld => ?_)
     clear hK K
     refine norm_ (a' := ?_) ?_ ?_
     rotate_left
     ·show Act.put _ (some 11) _ = _
      simp only [Act.put, List.setIfInBounds_toArray, List.set_cons_zero, List.set_cons_succ, i64_w, i32_w]
      rfl
     refine pure_ (i := 6) (N := some 12) (v := ?_) (a' := ?_) (Mk 9 127) rfl rfl (any_of HT_.out (by kernel_rfl)) (fun _ _ _ h => h) (Or.inl ⟨by rfl, ?_⟩) ?_ ?_
     rotate_left
     ·intro w'
      first | (go_simp; with_reducible rfl) | (go_simp; (try unfold Instr.field); go_simp; (try simp only [asAgg]); go_simp; with_reducible rfl)
     rotate_left
     ·simp only [Act.put, List.setIfInBounds_toArray, List.set_cons_zero, List.set_cons_succ, i64_w, i32_w]
      rfl
     refine one_ (i := 7) (N := some 3) (Mk 9 255) rfl rfl (one_of HT_.out (by kernel_rfl)) (by decide) (fun K hK => ?_)
     refine box_step ?hg (N := 3) ?hd (cs := #[I q 0, .slice none 0 0, .slice none 0 0]) (t := 31) ?hr ?_; (case hd => rfl); (case hg => rfl); (case hr => first | (go_simp; done) | (go_simp; rfl))
     intro g236 hg w10 hbox hb
     have N0 := am (rb (by (with_reducible repeat (first | apply ra | apply rN | apply rd1)); exact O235.out) hb)
     have N1 := am (bb (g := g228) (by (with_reducible repeat (first | apply bN | apply bd | apply ba)); exact B228.out) hb)
     have N2 := am (bb (g := g229) (by (with_reducible repeat (first | apply bN | apply bd | apply ba)); exact B229.out) hb)
     have N3 := am (bp (by repeat (first | (with_reducible first | exact HB.out | apply pa | apply pN | apply p1 | refine bs ?_ E228.out | refine bs ?_ E229.out) | exact HB.out)) hb)
     have N4 := am (hbox)
     have N5 := am ((by rw [hg]; exact (bz (by repeat (first | (with_reducible first | exact HB.out | apply pa | apply pN | apply p1 | refine bs ?_ E228.out | refine bs ?_ E229.out) | exact HB.out))) : w.heap.size ≤ g236))
     have N6 := am ((by rw [hg]; exact (bz (by repeat (first | (with_reducible first | exact HB.out | apply pa | apply pN | apply p1 | refine bs ?_ E228.out | refine bs ?_ E229.out) | exact HB.out))) : w.heap.size ≤ g236))
     have N7 := am ((by rw [hg]; exact Nat.ne_of_lt (bl (g := g228) (by (with_reducible repeat (first | apply bN | apply bd | apply ba)); exact B228.out)) : g228 ≠ g236))
     have N8 := am ((by rw [hg]; exact Nat.ne_of_gt (bl (g := g228) (by (with_reducible repeat (first | apply bN | apply bd | apply ba)); exact B228.out)) : g236 ≠ g228))
     have N9 := am ((by rw [hg]; exact Nat.ne_of_lt (bl (g := g229) (by (with_reducible repeat (first | apply bN | apply bd | apply ba)); exact B229.out)) : g229 ≠ g236))
     have N10 := am ((by rw [hg]; exact Nat.ne_of_gt (bl (g := g229) (by (with_reducible repeat (first | apply bN | apply bd | apply ba)); exact B229.out)) : g236 ≠ g229))
     clear O235
     clear B228
     clear B229
     clear HB
     have O235 := N0
     have B228 := N1
     have B229 := N2
     have HB := N3
     have B236 := N4
     have GW236 := N5
     have E236 := N6
     have NB228_236 := N7
     have NB236_228 := N8
     have NB229_236 := N9
     have NB236_229 := N10
     clear N0 N1 N2 N3 N4 N5 N6 N7 N8 N9 N10
     clear hb hbox hg
     refine hK.out _ _ ⟨(bc B228.out 0).trans rfl, (bc B228.out 1).trans rfl, (bc B228.out 2).trans rfl⟩ (fun hHeld => ?_)
     clear hK K
     refine norm_ (a' := ?_) ?_ ?_
     rotate_left
     ·show Act.put _ (some 3) _ = _
      simp only [Act.put, List.setIfInBounds_toArray, List.set_cons_zero, List.set_cons_succ, i64_w, i32_w]
      rfl
     exact norm_ (by simp only [putAll, Act.put, List.setIfInBounds_toArray, List.set_cons_zero, List.set_cons_succ]) (hCont (v231, J Ao9 y233.length co9, g236) _ ⟨hHeld, (by (with_reducible repeat (first | apply ra | apply rN | apply rd1)); exact O235.out), (by (with_reducible repeat (first | apply bN | apply bd | apply ba)); exact B228.out), (by (with_reducible repeat (first | apply bN | apply bd | apply ba)); exact B229.out), (by (with_reducible repeat (first | apply bN | apply bd | apply ba)); exact B236.out), GW236.out, E236.out, NB228_236.out, NB236_228.out, NB229_236.out, NB236_229.out, (by repeat (first | (with_reducible first | exact HB.out | apply pa | apply pN | apply p1 | refine bs ?_ E228.out | refine bs ?_ E229.out | refine bs ?_ E236.out) | exact HB.out))⟩)
    ·skip
     refine box_step ?hg (N := 3) ?hd (cs := #[I q 0, .slice none 0 0, .slice none 0 0]) (t := 31) ?hr ?_; (case hd => rfl); (case hg => rfl); (case hr => first | (go_simp; done) | (go_simp; rfl))
     intro g236 hg w8 hbox hb
     have N0 := am (rb (by (with_reducible repeat (first | apply ra | apply rN | apply rd1)); exact O232.out) hb)
     have N1 := am (bb (g := g228) (by (with_reducible repeat (first | apply bN | apply bd | apply ba)); exact B228.out) hb)
     have N2 := am (bb (g := g229) (by (with_reducible repeat (first | apply bN | apply bd | apply ba)); exact B229.out) hb)
     have N3 := am (bp (by repeat (first | (with_reducible first | exact HB.out | apply pa | apply pN | apply p1 | refine bs ?_ E228.out | refine bs ?_ E229.out) | exact HB.out)) hb)
     have N4 := am (hbox)
     have N5 := am ((by rw [hg]; exact (bz (by repeat (first | (with_reducible first | exact HB.out | apply pa | apply pN | apply p1 | refine bs ?_ E228.out | refine bs ?_ E229.out) | exact HB.out))) : w.heap.size ≤ g236))
     have N6 := am ((by rw [hg]; exact (bz (by repeat (first | (with_reducible first | exact HB.out | apply pa | apply pN | apply p1 | refine bs ?_ E228.out | refine bs ?_ E229.out) | exact HB.out))) : w.heap.size ≤ g236))
     have N7 := am ((by rw [hg]; exact Nat.ne_of_lt (bl (g := g228) (by (with_reducible repeat (first | apply bN | apply bd | apply ba)); exact B228.out)) : g228 ≠ g236))
     have N8 := am ((by rw [hg]; exact Nat.ne_of_gt (bl (g := g228) (by (with_reducible repeat (first | apply bN | apply bd | apply ba)); exact B228.out)) : g236 ≠ g228))
     have N9 := am ((by rw [hg]; exact Nat.ne_of_lt (bl (g := g229) (by (with_reducible repeat (first | apply bN | apply bd | apply ba)); exact B229.out)) : g229 ≠ g236))
     have N10 := am ((by rw [hg]; exact Nat.ne_of_gt (bl (g := g229) (by (with_reducible repeat (first | apply bN | apply bd | apply ba)); exact B229.out)) : g236 ≠ g229))
     clear O232
     clear B228
     clear B229
     clear HB
     have O232 := N0
     have B228 := N1
     have B229 := N2
     have HB := N3
     have B236 := N4
     have GW236 := N5
     have E236 := N6
     have NB228_236 := N7
     have NB236_228 := N8
     have NB229_236 := N9
     have NB236_229 := N10
     clear N0 N1 N2 N3 N4 N5 N6 N7 N8 N9 N10
     clear hb hbox hg
     refine hK.out _ _ ⟨(bc B228.out 0).trans rfl, (bc B228.out 1).trans rfl, (bc B228.out 2).trans rfl⟩ (fun hHeld => ?_)
     clear hK K
     refine norm_ (a' := ?_) ?_ ?_
     rotate_left
     ·show Act.put _ (some 3) _ = _
      simp only [Act.put, List.setIfInBounds_toArray, List.set_cons_zero, List.set_cons_succ, i64_w, i32_w]
      rfl
     refine one_ (i := 5) (N := some 11) (Mk 9 191) rfl rfl (one_of HT_.out (by kernel_rfl)) (by decide) (fun K hK => ?_)
     refine Kd.R_append_rows_step k36 (w0 := w) w.heap.size (by rfl) (.tmp 8) (.tmp 10) 28 36 (.agg #[(I q 0), (I q 0), (I q 0), (I q 0), (.bool false)]) 40 rfl Try.underlying28 info36 rfl (by decide) (by omega) v231 y230 la1 _ _ _ (fun _ => True) (fun _ => False) rfl rfl ?aO ?aR (fun _ _ h => h) (fun _ h => h.elim) ?aF ?aB ?aS ?aL ?_
     (case aR => repeat (first | exact (Kd.C_below HR0_1.out HB.out) | (with_reducible refine ca ?_ _) | (with_reducible refine cN ?_ _) | (with_reducible refine cd1 ?_)))
     (case aB => exact (by repeat (first | (with_reducible first | exact HB.out | apply pa | apply pN | apply p1 | refine bs ?_ E228.out | refine bs ?_ E229.out | refine bs ?_ E236.out) | exact HB.out)))
     (case aF => exact (fun _ _ => trivial))
     (case aO => exact (by (with_reducible repeat (first | apply ra | apply rN | apply rd1)); exact O232.out))
     (case aS => exact (bz (by repeat (first | (with_reducible first | exact HB.out | apply pa | apply pN | apply p1 | refine bs ?_ E228.out | refine bs ?_ E229.out | refine bs ?_ E236.out) | exact HB.out))))
     (case aL => have := LMc2.out; omega)
     intro v234 w9 ho hb hg hat
     rw [← Ny233.out] at ho
     have N0 := am (blk_grown (g := g228) (o := .cells #[I q aa0, J Aa1 la1.length ca1, J Aa2 la2.length ca2] 31 (0, 0)) (by (with_reducible repeat (first | apply bN | apply bd | apply ba)); exact B228.out) hg (Kd.R_ne O232.out B228.out (by decide)))
     have N1 := am (blk_grown (g := g229) (o := .cells #[I q 0, .slice none 0 0, .slice none 0 0] 31 (0, 0)) (by (with_reducible repeat (first | apply bN | apply bd | apply ba)); exact B229.out) hg (Kd.R_ne O232.out B229.out (by decide)))
     have N2 := am (blk_grown (g := g236) (o := .cells #[I q 0, .slice none 0 0, .slice none 0 0] 31 (0, 0)) (by (with_reducible repeat (first | apply bN | apply bd | apply ba)); exact B236.out) hg (Kd.R_ne O232.out B236.out (by decide)))
     have N3 := am (hb)
     have N4 := am (ho)
     clear B228
     clear B229
     clear B236
     clear HB
     clear O232
     have B228 := N0
     have B229 := N1
     have B236 := N2
     have HB := N3
     have O235 := N4
     clear N0 N1 N2 N3 N4
     clear ho hb hg hat
     obtain ⟨Ao10, co10, eo10⟩ := Kd.R_slice O235.out
     (first | subst eo10 | (injection eo10 with f1_ f2_ f3_; have f4_ := f1_.symm; have f5_ := f3_.symm; clear f1_ f2_ f3_; subst f4_; subst f5_))
     refine hK.out _ _ ⟨(bc B228.out 0).trans rfl, (bc B228.out 1).trans rfl, (bc B228.out 2).trans rfl⟩ (fun hHeld => ?_)
     clear hK K
     refine norm_ (a' := ?_) ?_ ?_
     rotate_left
     ·show Act.put _ (some 11) _ = _
      simp only [Act.put, List.setIfInBounds_toArray, List.set_cons_zero, List.set_cons_succ, i64_w, i32_w]
      rfl
     refine pure_ (i := 6) (N := some 12) (v := ?_) (a' := ?_) (Mk 9 255) rfl rfl (any_of HT_.out (by kernel_rfl)) (fun _ _ _ h => h) (Or.inl ⟨by rfl, ?_⟩) ?_ ?_
     rotate_left
     ·intro w'
      first | (go_simp; with_reducible rfl) | (go_simp; (try unfold Instr.field); go_simp; (try simp only [asAgg]); go_simp; with_reducible rfl)
     rotate_left
     ·simp only [Act.put, List.setIfInBounds_toArray, List.set_cons_zero, List.set_cons_succ, i64_w, i32_w]
      rfl
     exact norm_ (by simp only [putAll, Act.put, List.setIfInBounds_toArray, List.set_cons_zero, List.set_cons_succ]) (hCont (v231, J Ao10 y233.length co10, g236) _ ⟨hHeld, (by (with_reducible repeat (first | apply ra | apply rN | apply rd1)); exact O235.out), (by (with_reducible repeat (first | apply bN | apply bd | apply ba)); exact B228.out), (by (with_reducible repeat (first | apply bN | apply bd | apply ba)); exact B229.out), (by (with_reducible repeat (first | apply bN | apply bd | apply ba)); exact B236.out), GW236.out, E236.out, NB228_236.out, NB236_228.out, NB229_236.out, NB236_229.out, (by repeat (first | (with_reducible first | exact HB.out | apply pa | apply pN | apply p1 | refine bs ?_ E228.out | refine bs ?_ E229.out | refine bs ?_ E236.out) | exact HB.out))⟩)
   ·skip
    refine box_step ?hg (N := 3) ?hd (cs := #[I q 0, .slice none 0 0, .slice none 0 0]) (t := 31) ?hr ?_; (case hd => rfl); (case hg => rfl); (case hr => first | (go_simp; done) | (go_simp; rfl))
    intro g236 hg w6 hbox hb
    have N0 := am (bb (g := g228) (by (with_reducible repeat (first | apply bN | apply bd | apply ba)); exact B228.out) hb)
    have N1 := am (bb (g := g229) (by (with_reducible repeat (first | apply bN | apply bd | apply ba)); exact B229.out) hb)
    have N2 := am (bp (by repeat (first | (with_reducible first | exact HB.out | apply pa | apply pN | apply p1 | refine bs ?_ E228.out | refine bs ?_ E229.out) | exact HB.out)) hb)
    have N3 := am (hbox)
    have N4 := am ((by rw [hg]; exact (bz (by repeat (first | (with_reducible first | exact HB.out | apply pa | apply pN | apply p1 | refine bs ?_ E228.out | refine bs ?_ E229.out) | exact HB.out))) : w.heap.size ≤ g236))
    have N5 := am ((by rw [hg]; exact (bz (by repeat (first | (with_reducible first | exact HB.out | apply pa | apply pN | apply p1 | refine bs ?_ E228.out | refine bs ?_ E229.out) | exact HB.out))) : w.heap.size ≤ g236))
    have N6 := am ((by rw [hg]; exact Nat.ne_of_lt (bl (g := g228) (by (with_reducible repeat (first | apply bN | apply bd | apply ba)); exact B228.out)) : g228 ≠ g236))
    have N7 := am ((by rw [hg]; exact Nat.ne_of_gt (bl (g := g228) (by (with_reducible repeat (first | apply bN | apply bd | apply ba)); exact B228.out)) : g236 ≠ g228))
    have N8 := am ((by rw [hg]; exact Nat.ne_of_lt (bl (g := g229) (by (with_reducible repeat (first | apply bN | apply bd | apply ba)); exact B229.out)) : g229 ≠ g236))
    have N9 := am ((by rw [hg]; exact Nat.ne_of_gt (bl (g := g229) (by (with_reducible repeat (first | apply bN | apply bd | apply ba)); exact B229.out)) : g236 ≠ g229))
    clear B228
    clear B229
    clear HB
    have B228 := N0
    have B229 := N1
    have HB := N2
    have B236 := N3
    have GW236 := N4
    have E236 := N5
    have NB228_236 := N6
    have NB236_228 := N7
    have NB229_236 := N8
    have NB236_229 := N9
    clear N0 N1 N2 N3 N4 N5 N6 N7 N8 N9
    clear hb hbox hg
    refine hK.out _ _ ⟨(bc B228.out 0).trans rfl, (bc B228.out 1).trans rfl, (bc B228.out 2).trans rfl⟩ (fun hHeld => ?_)
    clear hK K
    refine norm_ (a' := ?_) ?_ ?_
    rotate_left
    ·show Act.put _ (some 3) _ = _
     simp only [Act.put, List.setIfInBounds_toArray, List.set_cons_zero, List.set_cons_succ, i64_w, i32_w]
     rfl
    refine one_ (i := 2) (N := some 8) (Mk 9 159) rfl rfl (one_of HT_.out (by kernel_rfl)) (by decide) (fun K hK => ?_)
    refine Kd.R_lit_step k36 _ 36 ?hg (N := 8) ?hd (xs := ([] : List (S36))) (inner := []) (ok := fun _ => True) (okp := fun _ => True) ?hr ?hp (fun _ hk => hk) trivial (Below.refl _ _) (Nat.le_refl _) (by simp) ?_; (case hd => rfl); (case hg => rfl); (case hr => first | (go_simp; done) | (go_simp; rfl)); (case hp => exact (Reps.none _ _))
    intro v231 w7 ho8 hb hg_ hnew_
    clear hg_ hnew_
    (first | rw [← Ny230.out] at ho8 | (simp only [Int.reduceToNat] at ho8; rw [← Ny230.out] at ho8))
    have N0 := am (rw1 ho8 (bz (by repeat (first | (with_reducible first | exact HB.out | apply pa | apply pN | apply p1 | refine bs ?_ E228.out | refine bs ?_ E229.out | refine bs ?_ E236.out) | exact HB.out))))
    have N1 := am (bb (g := g228) (by (with_reducible repeat (first | apply bN | apply bd | apply ba)); exact B228.out) hb)
    have N2 := am (bb (g := g229) (by (with_reducible repeat (first | apply bN | apply bd | apply ba)); exact B229.out) hb)
    have N3 := am (bb (g := g236) (by (with_reducible repeat (first | apply bN | apply bd | apply ba)); exact B236.out) hb)
    have N4 := am (bp (by repeat (first | (with_reducible first | exact HB.out | apply pa | apply pN | apply p1 | refine bs ?_ E228.out | refine bs ?_ E229.out | refine bs ?_ E236.out) | exact HB.out)) hb)
    clear B228
    clear B229
    clear B236
    clear HB
    have O232 := N0
    have B228 := N1
    have B229 := N2
    have B236 := N3
    have HB := N4
    clear N0 N1 N2 N3 N4
    clear hb ho8
    refine hK.out _ _ ⟨(bc B228.out 0).trans rfl, (bc B228.out 1).trans rfl, (bc B228.out 2).trans rfl⟩ (fun hHeld => ?_)
    clear hK K
    refine norm_ (a' := ?_) ?_ ?_
    rotate_left
    ·show Act.put _ (some 8) _ = _
     simp only [Act.put, List.setIfInBounds_toArray, List.set_cons_zero, List.set_cons_succ, i64_w, i32_w]
     rfl
    refine one_ (i := 5) (N := some 11) (Mk 9 191) rfl rfl (one_of HT_.out (by kernel_rfl)) (by decide) (fun K hK => ?_)
    refine Kd.R_append_rows_step k36 (w0 := w) w.heap.size (by rfl) (.tmp 8) (.tmp 10) 28 36 (.agg #[(I q 0), (I q 0), (I q 0), (I q 0), (.bool false)]) 40 rfl Try.underlying28 info36 rfl (by decide) (by omega) v231 y230 la1 _ _ _ (fun _ => True) (fun _ => False) rfl rfl ?aO ?aR (fun _ _ h => h) (fun _ h => h.elim) ?aF ?aB ?aS ?aL ?_
    (case aR => repeat (first | exact (Kd.C_below HR0_1.out HB.out) | (with_reducible refine ca ?_ _) | (with_reducible refine cN ?_ _) | (with_reducible refine cd1 ?_)))
    (case aB => exact (by repeat (first | (with_reducible first | exact HB.out | apply pa | apply pN | apply p1 | refine bs ?_ E228.out | refine bs ?_ E229.out | refine bs ?_ E236.out) | exact HB.out)))
    (case aF => exact (fun _ _ => trivial))
    (case aO => exact (by (with_reducible repeat (first | apply ra | apply rN | apply rd1)); exact O232.out))
    (case aS => exact (bz (by repeat (first | (with_reducible first | exact HB.out | apply pa | apply pN | apply p1 | refine bs ?_ E228.out | refine bs ?_ E229.out | refine bs ?_ E236.out) | exact HB.out))))
    (case aL => have := LMc2.out; omega)
    intro v234 w9 ho hb hg hat
    rw [← Ny233.out] at ho
    have N0 := am (blk_grown (g := g228) (o := .cells #[I q aa0, J Aa1 la1.length ca1, J Aa2 la2.length ca2] 31 (0, 0)) (by (with_reducible repeat (first | apply bN | apply bd | apply ba)); exact B228.out) hg (Kd.R_ne O232.out B228.out (by decide)))
    have N1 := am (blk_grown (g := g229) (o := .cells #[I q 0, .slice none 0 0, .slice none 0 0] 31 (0, 0)) (by (with_reducible repeat (first | apply bN | apply bd | apply ba)); exact B229.out) hg (Kd.R_ne O232.out B229.out (by decide)))
    have N2 := am (blk_grown (g := g236) (o := .cells #[I q 0, .slice none 0 0, .slice none 0 0] 31 (0, 0)) (by (with_reducible repeat (first | apply bN | apply bd | apply ba)); exact B236.out) hg (Kd.R_ne O232.out B236.out (by decide)))
    have N3 := am (hb)
    have N4 := am (ho)
    clear B228
    clear B229
    clear B236
    clear HB
    clear O232
    have B228 := N0
    have B229 := N1
    have B236 := N2
    have HB := N3
    have O235 := N4
    clear N0 N1 N2 N3 N4
    clear ho hb hg hat
    obtain ⟨Ao10, co10, eo10⟩ := Kd.R_slice O235.out
    (first | subst eo10 | (injection eo10 with f1_ f2_ f3_; have f4_ := f1_.symm; have f5_ := f3_.symm; clear f1_ f2_ f3_; subst f4_; subst f5_))
    refine hK.out _ _ ⟨(bc B228.out 0).trans rfl, (bc B228.out 1).trans rfl, (bc B228.out 2).trans rfl⟩ (fun hHeld => ?_)
    clear hK K
    refine norm_ (a' := ?_) ?_ ?_
    rotate_left
    ·show Act.put _ (some 11) _ = _
     simp only [Act.put, List.setIfInBounds_toArray, List.set_cons_zero, List.set_cons_succ, i64_w, i32_w]
     rfl
    refine pure_ (i := 6) (N := some 12) (v := ?_) (a' := ?_) (Mk 9 255) rfl rfl (any_of HT_.out (by kernel_rfl)) (fun _ _ _ h => h) (Or.inl ⟨by rfl, ?_⟩) ?_ ?_
    rotate_left
    ·intro w'
     first | (go_simp; with_reducible rfl) | (go_simp; (try unfold Instr.field); go_simp; (try simp only [asAgg]); go_simp; with_reducible rfl)
    rotate_left
    ·simp only [Act.put, List.setIfInBounds_toArray, List.set_cons_zero, List.set_cons_succ, i64_w, i32_w]
     rfl
    exact norm_ (by simp only [putAll, Act.put, List.setIfInBounds_toArray, List.set_cons_zero, List.set_cons_succ]) (hCont (v231, J Ao10 y233.length co10, g236) _ ⟨hHeld, (by (with_reducible repeat (first | apply ra | apply rN | apply rd1)); exact O235.out), (by (with_reducible repeat (first | apply bN | apply bd | apply ba)); exact B228.out), (by (with_reducible repeat (first | apply bN | apply bd | apply ba)); exact B229.out), (by (with_reducible repeat (first | apply bN | apply bd | apply ba)); exact B236.out), GW236.out, E236.out, NB228_236.out, NB236_228.out, NB229_236.out, NB236_229.out, (by repeat (first | (with_reducible first | exact HB.out | apply pa | apply pN | apply p1 | refine bs ?_ E228.out | refine bs ?_ E229.out | refine bs ?_ E236.out) | exact HB.out))⟩)
  rintro ⟨v231, v234, g236⟩ w11 ⟨hS_, h0_, h1_, h2_, h3_, h4_, h5_, h6_, h7_, h8_, h9_, h10_⟩
  have N0 : Aside0 (Kd.R k36 36 w11 w.heap.size (fun _ => True) v234 y233) := ⟨h0_⟩
  have N1 : Aside0 (w11.heap[g228]? = some (.cells #[I q aa0, J Aa1 la1.length ca1, J Aa2 la2.length ca2] 31 (0, 0))) := ⟨h1_⟩
  have N2 : Aside0 (w11.heap[g229]? = some (.cells #[I q 0, .slice none 0 0, .slice none 0 0] 31 (0, 0))) := ⟨h2_⟩
  have N3 : Aside0 (w11.heap[g236]? = some (.cells #[I q 0, .slice none 0 0, .slice none 0 0] 31 (0, 0))) := ⟨h3_⟩
  have N4 : Aside0 (w.heap.size ≤ g236) := ⟨h4_⟩
  have N5 : Aside0 (w.heap.size ≤ g236) := ⟨h5_⟩
  have N6 : Aside0 (g228 ≠ g236) := ⟨h6_⟩
  have N7 : Aside0 (g236 ≠ g228) := ⟨h7_⟩
  have N8 : Aside0 (g229 ≠ g236) := ⟨h8_⟩
  have N9 : Aside0 (g236 ≠ g229) := ⟨h9_⟩
  have N10 : Aside0 (Below w.heap.size w w11) := ⟨h10_⟩
  clear B228
  clear B229
  clear HB
  clear h0_ h1_ h2_ h3_ h4_ h5_ h6_ h7_ h8_ h9_ h10_
  have O235 := N0
  have B228 := N1
  have B229 := N2
  have B236 := N3
  have GW236 := N4
  have E236 := N5
  have NB228_236 := N6
  have NB236_228 := N7
  have NB229_236 := N8
  have NB236_229 := N9
  have HB := N10
  clear N0 N1 N2 N3 N4 N5 N6 N7 N8 N9 N10
  have hHeld : w11.cell? ⟨g228, 0, none⟩ = some (I q aa0) ∧ w11.cell? ⟨g228, 1, none⟩ = some (J Aa1 la1.length ca1) ∧ w11.cell? ⟨g228, 2, none⟩ = some (J Aa2 la2.length ca2) := hS_
  obtain ⟨Ao12, co12, eo12⟩ := Kd.R_slice O235.out
  (first | subst eo12 | (injection eo12 with f1_ f2_ f3_; have f4_ := f1_.symm; have f5_ := f3_.symm; clear f1_ f2_ f3_; subst f4_; subst f5_))
  refine norm_ (a' := ?_) ?_ ?_
  rotate_left
  ·simp only [putAll, Act.put, List.setIfInBounds_toArray, List.set_cons_zero, List.set_cons_succ]
   rfl
  refine one_ (i := 8) (N := none) (Mk 9 511) rfl rfl (one_of HT_.out (by kernel_rfl)) (by decide) (fun K hK => ?_)
  have hs13 : w11.cell? ⟨g236, 0, none⟩ = some (I q 0) := (bc B236.out 0).trans rfl
  have hfs13 := bf B236.out 0
  have hns13_0 := NB228_236.out
  have hns13_1 := NB229_236.out
  have hms13_0 := NB236_228.out
  have hms13_1 := NB236_229.out
  have hs14 : w11.cell? ⟨g236, 1, none⟩ = some (.slice none 0 0) := (bc B236.out 1).trans rfl
  have hfs14 := bf B236.out 1
  have hns14_0 := NB228_236.out
  have hns14_1 := NB229_236.out
  have hms14_0 := NB236_228.out
  have hms14_1 := NB236_229.out
  have hs15 : w11.cell? ⟨g236, 2, none⟩ = some (.slice none 0 0) := (bc B236.out 2).trans rfl
  have hfs15 := bf B236.out 2
  have hns15_0 := NB228_236.out
  have hns15_1 := NB229_236.out
  have hms15_0 := NB236_228.out
  have hms15_1 := NB236_229.out
  refine skip_ (w1 := ?_) (by rfl) rfl ?_ ?_
  rotate_left
  ·go_simp
   rfl
  refine hK.out _ _ ⟨((cell_far (p := ⟨g236, _, none⟩) NB228_236.out _).trans (((cell_far (p := ⟨g236, _, none⟩) NB228_236.out _).trans (((cell_far (p := ⟨g236, _, none⟩) NB228_236.out _).trans (hHeld.1)))))), ((cell_far (p := ⟨g236, _, none⟩) NB228_236.out _).trans (((cell_far (p := ⟨g236, _, none⟩) NB228_236.out _).trans (((cell_far (p := ⟨g236, _, none⟩) NB228_236.out _).trans (hHeld.2.1)))))), ((cell_far (p := ⟨g236, _, none⟩) NB228_236.out _).trans (((cell_far (p := ⟨g236, _, none⟩) NB228_236.out _).trans (((cell_far (p := ⟨g236, _, none⟩) NB228_236.out _).trans (hHeld.2.2))))))⟩ (fun hHeld => ?_)
  clear hK K
  refine done_ (done_of HT_.out (by kernel_rfl)) ?_
  try go_wp2
  go_loopg [4] k (fun kq v4 w' => ∃ (x4_1 : Int) (x237002_1 : List (S64)) (u237002 : Value), v4 = I q x4_1 ∧ Aside0 (spec_l5Copy.l0 kq x4_1 aa0 la1 la2 aa0 y233 x237002_1 = some (r1, r2, r3)) ∧ Aside0 (kq ≤ k) ∧ Aside0 (Kd.R k36 36 w' w.heap.size (fun _ => True) (J Ao12 y233.length co12) y233) ∧ Aside0 (Kd.S k64 64 w' w.heap.size (fun _ => True) u237002 x237002_1) ∧ Aside0 (w'.heap[g228]? = some (.cells #[I q aa0, (J Aa1 la1.length ca1), (J Aa2 la2.length ca2)] 31 (0, 0))) ∧ Aside0 (w'.heap[g229]? = some (.cells #[I q 0, (.slice none 0 0), (.slice none 0 0)] 31 (0, 0))) ∧ Aside0 (w'.heap[g236]? = some (.cells #[I q aa0, (J Ao12 y233.length co12), u237002] 31 (0, 0))) ∧ Aside0 (Below w.heap.size w w'))
  case atStart => exact ⟨(0), (([] : List (S64))), (.slice none 0 0), (by first | rfl | (simp; done) | (simp [*]; done)), H', ⟨Nat.le_refl _⟩, ⟨by (with_reducible repeat (first | apply ra | apply rN | apply rd1)); exact Kd.R_mono (rf (p := ⟨g236, 2, none⟩) (rf (p := ⟨g236, 1, none⟩) (rf (p := ⟨g236, 0, none⟩) (Kd.R_types O235.out B236.out (by decide)) (fun _ hk => hk.2) (I q aa0)) (fun _ hk => hk.2) (J Ao12 y233.length co12)) (fun _ hk => hk.2) (.slice none 0 0)) (fun _ hk => trivial)⟩, ⟨by first | exact Kd.S_nil _ _ _ _ _ | exact Kd.N_nil _ _ _ _ _ | exact Kd.V_nil _ _ _ _ _ | exact Kd.Q_nil _ _ _ _ _ | exact Kd.R_nil _ _ _ _ _⟩, ⟨by (iterate 3 ((with_reducible repeat (first | apply bN | apply bd | apply ba)); refine bq ?_ NB228_236.out _)); (with_reducible repeat (first | apply bN | apply bd | apply ba)); exact B228.out⟩, ⟨by (iterate 3 ((with_reducible repeat (first | apply bN | apply bd | apply ba)); refine bq ?_ NB229_236.out _)); (with_reducible repeat (first | apply bN | apply bd | apply ba)); exact B229.out⟩, ⟨by (with_reducible repeat (first | apply bN | apply bd | apply ba)); exact pu3a B236.out⟩, ⟨by repeat (first | (with_reducible first | exact HB.out | apply pa | apply pN | apply p1 | refine bs ?_ E228.out | refine bs ?_ E229.out | refine bs ?_ E236.out) | exact HB.out)⟩⟩
  case round =>
   clear H'
   try clear c2
   try clear p2
   try clear c9
   obtain ⟨x4_1, x237002_1, u237002, rfl, HA, HK1, o0, o1, B228, B229, B236, HB⟩ := hrel
   cases gk with
   | zero => exact absurd HA.out (by simp [spec_l5Copy.l0])
   | succ k1 =>
    have H := HA.out
    clear HA
    simp only [spec_l5Copy.l0] at H
    by_cases c16 : x4_1 < (la2.length : Int)
    ·rw [if_pos c16] at H
     have c16b0 : decide (x4_1 < (la2.length : Int)) = true := decide_eq_true c16
     clear c16
     by_cases c17 : 0 ≤ x4_1
     ·rw [if_pos c17] at H
      have c17b0 : decide (0 ≤ x4_1) = true := decide_eq_true c17
      clear c17
      obtain ⟨y239, hy239⟩ : ∃ y_ : List Int, y_ = (([] : List Int)) := ⟨_, rfl⟩
      replace H : (if y239.length + ((rd_T64 la2 x4_1).f3).length < 17592186044416 then (if x237002_1.length < 2932031007402 then (spec_l5Copy.l0 k1 (wrap64 (x4_1 + 1)) aa0 la1 la2 aa0 y233 (x237002_1 ++ [(⟨(rd_T64 la2 x4_1).f0, (rd_T64 la2 x4_1).f1, (rd_T64 la2 x4_1).f2, (y239 ++ ((rd_T64 la2 x4_1).f3))⟩ : S64)])) else (none)) else (none)) = some (r1, r2, r3) := by first | (rw [hy239]; with_reducible exact H) | (have H2_ := (Option.bind_some _ _).symm.trans H; rw [hy239]; with_reducible exact H2_) | (have H2_ := (Option.bind_some _ _).symm.trans H; with_reducible exact H2_) | with_reducible exact H | (rw [hy239]; exact H) | exact H
      have Ny239 := am hy239
      clear hy239
      by_cases c18 : y239.length + ((rd_T64 la2 x4_1).f3).length < 17592186044416
      ·rw [if_pos c18] at H
       have LMc18 := am c18
       clear c18
       obtain ⟨y242, hy242⟩ : ∃ y_ : List Int, y_ = (y239 ++ ((rd_T64 la2 x4_1).f3)) := ⟨_, rfl⟩
       replace H : (if x237002_1.length < 2932031007402 then (spec_l5Copy.l0 k1 (wrap64 (x4_1 + 1)) aa0 la1 la2 aa0 y233 (x237002_1 ++ [(⟨(rd_T64 la2 x4_1).f0, (rd_T64 la2 x4_1).f1, (rd_T64 la2 x4_1).f2, y242⟩ : S64)])) else (none)) = some (r1, r2, r3) := by first | (rw [hy242]; with_reducible exact H) | (have H2_ := (Option.bind_some _ _).symm.trans H; rw [hy242]; with_reducible exact H2_) | (have H2_ := (Option.bind_some _ _).symm.trans H; with_reducible exact H2_) | with_reducible exact H | (rw [hy242]; exact H) | exact H
       have Ny242 := am hy242
       clear hy242
       by_cases c19 : x237002_1.length < 2932031007402
       ·rw [if_pos c19] at H
        have LMc19 := am c19
        clear c19
        obtain ⟨y245, hy245⟩ : ∃ y_ : List (S64), y_ = (x237002_1 ++ [(⟨(rd_T64 la2 x4_1).f0, (rd_T64 la2 x4_1).f1, (rd_T64 la2 x4_1).f2, y242⟩ : S64)]) := ⟨_, rfl⟩
        replace H : (spec_l5Copy.l0 k1 (wrap64 (x4_1 + 1)) aa0 la1 la2 aa0 y233 y245) = some (r1, r2, r3) := by first | (rw [hy245]; with_reducible exact H) | (have H2_ := (Option.bind_some _ _).symm.trans H; rw [hy245]; with_reducible exact H2_) | (have H2_ := (Option.bind_some _ _).symm.trans H; with_reducible exact H2_) | with_reducible exact H | (rw [hy245]; exact H) | exact H
        have Ny245 := am hy245
        clear hy245
        have H' := am H
        clear H
        have hnb20 := NB228_229.out
        have hnc20 := NB229_228.out
        have hnb21 := NB228_236.out
        have hnc21 := NB236_228.out
        have hcz22_0 : wr.cell? ⟨g228, 0, none⟩ = some (I q aa0) := (bc B228.out 0).trans rfl
        have hcz22_1 : wr.cell? ⟨g228, 1, none⟩ = some (J Aa1 la1.length ca1) := (bc B228.out 1).trans rfl
        have hcz22_2 : wr.cell? ⟨g228, 2, none⟩ = some (J Aa2 la2.length ca2) := (bc B228.out 2).trans rfl
        have hfz22_0 := bf B228.out 0
        have hfz22_1 := bf B228.out 1
        have hfz22_2 := bf B228.out 2
        have p237 : 0 ≤ (x4_1 : Int) := of_decide_eq_true (by first | (with_reducible assumption) | assumption)
        have q237 : x4_1 < (la2.length : Int) := of_decide_eq_true (by first | (with_reducible assumption) | assumption)
        obtain ⟨ad237, A237_3, c237_3, e237, hx237_0, hx237_1, hx237_2, hx237_3, hl237_3, hi237_3⟩ := at_T64 HR0_2.out x4_1 p237 q237
        cases e237
        replace hx237_0 := (HB.out.cell (World.block_lt_of_cell? w _ hx237_0)).trans hx237_0
        replace hx237_1 := (HB.out.cell (World.block_lt_of_cell? w _ hx237_1)).trans hx237_1
        replace hx237_2 := (HB.out.cell (World.block_lt_of_cell? w _ hx237_2)).trans hx237_2
        replace hx237_3 := (HB.out.cell (World.block_lt_of_cell? w _ hx237_3)).trans hx237_3
        have HR237_3 := am hi237_3
        have HC237_3 := am hl237_3
        clear hi237_3 hl237_3
        replace p237 := eq_true p237
        replace q237 := eq_true q237
        go_wp2_with (first | ((with_reducible refine gate_dst (N := 5) rfl ?_); refine box_event ?hg (N := 5) ?hd (cs := #[I q 0, I q 0, I q 0, .slice none 0 0]) (t := 64) ?hr ?_; (case hd => rfl); (case hg => rfl); (case hr => first | (go_simp; done) | (go_simp; rfl)); intro g238 hg w23 hbox hb; have N0 := am (rb (by (with_reducible repeat (first | apply ra | apply rN | apply rd1)); exact o0.out) hb); have N1 := am (Kd.S_below (Kd.S_elderB (by (with_reducible repeat (first | apply sa | apply sN | apply sd)); exact o1.out) g238 (Nat.le_of_eq hg.symm)) hb); have N2 := am (bb (g := g228) (by (with_reducible repeat (first | apply bN | apply bd | apply ba)); exact B228.out) hb); have N3 := am (bb (g := g229) (by (with_reducible repeat (first | apply bN | apply bd | apply ba)); exact B229.out) hb); have N4 := am (bb (g := g236) (by (with_reducible repeat (first | apply bN | apply bd | apply ba)); exact B236.out) hb); have N5 := am (bp (by repeat (first | (with_reducible first | exact HB.out | apply pa | apply pN | apply p1 | refine bs ?_ E228.out | refine bs ?_ E229.out | refine bs ?_ E236.out) | exact HB.out)) hb); have N6 := am (hbox); have N7 := am ((by rw [hg]; exact (bz (by repeat (first | (with_reducible first | exact HB.out | apply pa | apply pN | apply p1 | refine bs ?_ E228.out | refine bs ?_ E229.out | refine bs ?_ E236.out) | exact HB.out))) : w.heap.size ≤ g238)); have N8 := am ((by rw [hg]; exact (bz (by repeat (first | (with_reducible first | exact HB.out | apply pa | apply pN | apply p1 | refine bs ?_ E228.out | refine bs ?_ E229.out | refine bs ?_ E236.out) | exact HB.out))) : w.heap.size ≤ g238)); have N9 := am ((by rw [hg]; exact Nat.ne_of_lt (bl (g := g228) (by (with_reducible repeat (first | apply bN | apply bd | apply ba)); exact B228.out)) : g228 ≠ g238)); have N10 := am ((by rw [hg]; exact Nat.ne_of_gt (bl (g := g228) (by (with_reducible repeat (first | apply bN | apply bd | apply ba)); exact B228.out)) : g238 ≠ g228)); have N11 := am ((by rw [hg]; exact Nat.ne_of_lt (bl (g := g229) (by (with_reducible repeat (first | apply bN | apply bd | apply ba)); exact B229.out)) : g229 ≠ g238)); have N12 := am ((by rw [hg]; exact Nat.ne_of_gt (bl (g := g229) (by (with_reducible repeat (first | apply bN | apply bd | apply ba)); exact B229.out)) : g238 ≠ g229)); have N13 := am ((by rw [hg]; exact Nat.ne_of_lt (bl (g := g236) (by (with_reducible repeat (first | apply bN | apply bd | apply ba)); exact B236.out)) : g236 ≠ g238)); have N14 := am ((by rw [hg]; exact Nat.ne_of_gt (bl (g := g236) (by (with_reducible repeat (first | apply bN | apply bd | apply ba)); exact B236.out)) : g238 ≠ g236)); clear o0 o1 B228 B229 B236 HB; have o0 := N0; have o1 := N1; have B228 := N2; have B229 := N3; have B236 := N4; have HB := N5; have B238 := N6; have GW238 := N7; have E238 := N8; have NB228_238 := N9; have NB238_228 := N10; have NB229_238 := N11; have NB238_229 := N12; have NB236_238 := N13; have NB238_236 := N14; clear N0 N1 N2 N3 N4 N5 N6 N7 N8 N9 N10 N11 N12 N13 N14 hb hbox hg; have hnb24 := NB238_228.out; have hnc24 := NB228_238.out; have hnb25 := NB238_229.out; have hnc25 := NB229_238.out; have hnb26 := NB238_236.out; have hnc26 := NB236_238.out; have hcz27_0 : w23.cell? ⟨g238, 0, none⟩ = some (I q 0) := (bc B238.out 0).trans rfl; have hcz27_1 : w23.cell? ⟨g238, 1, none⟩ = some (I q 0) := (bc B238.out 1).trans rfl; have hcz27_2 : w23.cell? ⟨g238, 2, none⟩ = some (I q 0) := (bc B238.out 2).trans rfl; have hcz27_3 : w23.cell? ⟨g238, 3, none⟩ = some (.slice none 0 0) := (bc B238.out 3).trans rfl; have hfz27_0 := bf B238.out 0; have hfz27_1 := bf B238.out 1; have hfz27_2 := bf B238.out 2; have hfz27_3 := bf B238.out 3) | ((with_reducible refine gate_dst (N := 25) rfl ?_); refine Kd.R_lit (Kd.int .i64) _ 2 ?hg (N := 25) ?hd (xs := ([] : List Int)) (inner := []) (ok := fun _ => True) (okp := fun _ => True) ?hr ?hp (fun _ hk => hk) trivial (Below.refl _ _) (Nat.le_refl _) (by simp) ?_; (case hd => rfl); (case hg => rfl); (case hr => first | (go_simp; done) | (go_simp; rfl)); (case hp => exact (Reps.none _ _)); intro v240 w28 ho29 hb hg_ hnew_; clear hg_ hnew_; (first | rw [← Ny239.out] at ho29 | (simp only [Int.reduceToNat] at ho29; rw [← Ny239.out] at ho29)); have N0 := am (rb (by (with_reducible repeat (first | apply ra | apply rN | apply rd1)); exact (Kd.R_mono (rf (p := ⟨g238, 3, none⟩) (rf (p := ⟨g238, 2, none⟩) (rf (p := ⟨g238, 1, none⟩) (rf (p := ⟨g238, 0, none⟩) (Kd.R_types o0.out B238.out (by decide)) (fun _ hk => hk.2) (I q ((rd_T64 la2 x4_1).f0))) (fun _ hk => hk.2) (I q ((rd_T64 la2 x4_1).f1))) (fun _ hk => hk.2) (I q ((rd_T64 la2 x4_1).f2))) (fun _ hk => hk.2) (J A237_3 ((rd_T64 la2 x4_1).f3).length c237_3)) (fun _ h_ => h_.1))) hb); have N1 := am (Kd.S_elder' (by (with_reducible repeat (first | apply sa | apply sN | apply sd)); exact (sm (sf (p := ⟨g238, 3, none⟩) (sf (p := ⟨g238, 2, none⟩) (sf (p := ⟨g238, 1, none⟩) (sf (p := ⟨g238, 0, none⟩) (sm o1.out (fun k_ hk => (⟨hk, hk.2⟩ : _ ∧ k_ ≠ g238))) (fun _ hk => hk.2) (I q ((rd_T64 la2 x4_1).f0))) (fun _ hk => hk.2) (I q ((rd_T64 la2 x4_1).f1))) (fun _ hk => hk.2) (I q ((rd_T64 la2 x4_1).f2))) (fun _ hk => hk.2) (J A237_3 ((rd_T64 la2 x4_1).f3).length c237_3)) (fun _ h_ => h_.1))) (Kd.R_base ho29) hb); have N2 := am (rw1 ho29 (bz (by repeat (first | (with_reducible first | exact HB.out | apply pa | apply pN | apply p1 | refine bs ?_ E228.out | refine bs ?_ E229.out | refine bs ?_ E236.out | refine bs ?_ E238.out) | exact HB.out)))); have N3 := am (bb (g := g228) (o := .cells #[I q aa0, J Aa1 la1.length ca1, .slice (some ad237) la2.length ca2] 31 (0, 0)) (by (iterate 4 ((with_reducible repeat (first | apply bN | apply bd | apply ba)); refine bq ?_ NB228_238.out _)); (with_reducible repeat (first | apply bN | apply bd | apply ba)); exact B228.out) hb); have N4 := am (bb (g := g229) (o := .cells #[I q 0, .slice none 0 0, .slice none 0 0] 31 (0, 0)) (by (iterate 4 ((with_reducible repeat (first | apply bN | apply bd | apply ba)); refine bq ?_ NB229_238.out _)); (with_reducible repeat (first | apply bN | apply bd | apply ba)); exact B229.out) hb); have N5 := am (bb (g := g236) (o := .cells #[I q aa0, J Ao12 y233.length co12, u237002] 31 (0, 0)) (by (iterate 4 ((with_reducible repeat (first | apply bN | apply bd | apply ba)); refine bq ?_ NB236_238.out _)); (with_reducible repeat (first | apply bN | apply bd | apply ba)); exact B236.out) hb); have N6 := am (bb (g := g238) (o := .cells #[I q ((rd_T64 la2 x4_1).f0), I q ((rd_T64 la2 x4_1).f1), I q ((rd_T64 la2 x4_1).f2), J A237_3 ((rd_T64 la2 x4_1).f3).length c237_3] 64 (0, 0)) (by (with_reducible repeat (first | apply bN | apply bd | apply ba)); exact pu4a B238.out) hb); have N7 := am (bp (by repeat (first | (with_reducible first | exact HB.out | apply pa | apply pN | apply p1 | refine bs ?_ E228.out | refine bs ?_ E229.out | refine bs ?_ E236.out | refine bs ?_ E238.out) | exact HB.out)) hb); clear o0 o1 B228 B229 B236 B238 HB; have o0 := N0; have o1 := N1; have O241 := N2; have B228 := N3; have B229 := N4; have B236 := N5; have B238 := N6; have HB := N7; clear N0 N1 N2 N3 N4 N5 N6 N7 hb ho29; have hcz30_0 : w28.cell? ⟨g238, 0, none⟩ = some (I q ((rd_T64 la2 x4_1).f0)) := (bc B238.out 0).trans rfl; have hcz30_1 : w28.cell? ⟨g238, 1, none⟩ = some (I q ((rd_T64 la2 x4_1).f1)) := (bc B238.out 1).trans rfl; have hcz30_2 : w28.cell? ⟨g238, 2, none⟩ = some (I q ((rd_T64 la2 x4_1).f2)) := (bc B238.out 2).trans rfl; have hcz30_3 : w28.cell? ⟨g238, 3, none⟩ = some (J A237_3 ((rd_T64 la2 x4_1).f3).length c237_3) := (bc B238.out 3).trans rfl; have hfz30_0 := bf B238.out 0; have hfz30_1 := bf B238.out 1; have hfz30_2 := bf B238.out 2; have hfz30_3 := bf B238.out 3) | ((with_reducible refine gate_builtin (b := .append) (xs := #[.tmp 25, .tmp 27]) rfl ?_); at_builtin; refine Kd.R_append_rows (Kd.int .i64) (w0 := w) w.heap.size rfl (.tmp 25) (.tmp 27) 62 2 (I q 0) 8 rfl Try.underlying62 info2 rfl (by decide) (by omega) v240 y239 ((rd_T64 la2 x4_1).f3) _ _ _ (fun _ => True) (fun _ => False) rfl rfl ?aO ?aR (fun _ _ h => h) (fun _ h => h.elim) ?aF ?aB ?aS ?aL ?_; (case aR => repeat (first | exact (Kd.C_below HR237_3.out HB.out) | (with_reducible refine ca ?_ _) | (with_reducible refine cN ?_ _) | (with_reducible refine cd1 ?_))); (case aB => exact (by repeat (first | (with_reducible first | exact HB.out | apply pa | apply pN | apply p1 | refine bs ?_ E228.out | refine bs ?_ E229.out | refine bs ?_ E236.out | refine bs ?_ E238.out) | exact HB.out))); (case aF => exact (fun _ _ => trivial)); (case aO => exact (by (with_reducible repeat (first | apply ra | apply rN | apply rd1)); exact O241.out)); (case aS => exact (bz (by repeat (first | (with_reducible first | exact HB.out | apply pa | apply pN | apply p1 | refine bs ?_ E228.out | refine bs ?_ E229.out | refine bs ?_ E236.out | refine bs ?_ E238.out) | exact HB.out)))); (case aL => have := LMc18.out; omega); intro v243 w31 ho hb hg hat; rw [← Ny242.out] at ho; have N0 := am (Kd.R_over' (by (with_reducible repeat (first | apply ra | apply rN | apply rd1)); exact o0.out) (Kd.R_typed (by (with_reducible repeat (first | apply ra | apply rN | apply rd1)); exact O241.out)) (by decide) hg); have N1 := am (Kd.S_after (ok := (fun k_ => k_ ≠ g238)) (by (with_reducible repeat (first | apply sa | apply sN | apply sd)); exact sm o1.out (fun _ hk => ⟨hk.1.2, hk.2⟩)) hg hat); have N2 := am (blk_grown (g := g228) (o := .cells #[I q aa0, J Aa1 la1.length ca1, .slice (some ad237) la2.length ca2] 31 (0, 0)) (by (with_reducible repeat (first | apply bN | apply bd | apply ba)); exact B228.out) hg (Kd.R_ne O241.out B228.out (by decide))); have N3 := am (blk_grown (g := g229) (o := .cells #[I q 0, .slice none 0 0, .slice none 0 0] 31 (0, 0)) (by (with_reducible repeat (first | apply bN | apply bd | apply ba)); exact B229.out) hg (Kd.R_ne O241.out B229.out (by decide))); have N4 := am (blk_grown (g := g236) (o := .cells #[I q aa0, J Ao12 y233.length co12, u237002] 31 (0, 0)) (by (with_reducible repeat (first | apply bN | apply bd | apply ba)); exact B236.out) hg (Kd.R_ne O241.out B236.out (by decide))); have N5 := am (blk_grown (g := g238) (o := .cells #[I q ((rd_T64 la2 x4_1).f0), I q ((rd_T64 la2 x4_1).f1), I q ((rd_T64 la2 x4_1).f2), J A237_3 ((rd_T64 la2 x4_1).f3).length c237_3] 64 (0, 0)) (by (with_reducible repeat (first | apply bN | apply bd | apply ba)); exact B238.out) hg (Kd.R_ne O241.out B238.out (by decide))); have N6 := am (hb); have N7 := am (ho); clear o0 o1 B228 B229 B236 B238 HB O241; have o0 := N0; have o1 := N1; have B228 := N2; have B229 := N3; have B236 := N4; have B238 := N5; have HB := N6; have O244 := N7; clear N0 N1 N2 N3 N4 N5 N6 N7 ho hb hg hat; obtain ⟨Ao32, co32, eo32⟩ := Kd.R_slice O244.out; subst eo32; have hcz33_0 : w31.cell? ⟨g238, 0, none⟩ = some (I q ((rd_T64 la2 x4_1).f0)) := (bc B238.out 0).trans rfl; have hcz33_1 : w31.cell? ⟨g238, 1, none⟩ = some (I q ((rd_T64 la2 x4_1).f1)) := (bc B238.out 1).trans rfl; have hcz33_2 : w31.cell? ⟨g238, 2, none⟩ = some (I q ((rd_T64 la2 x4_1).f2)) := (bc B238.out 2).trans rfl; have hcz33_3 : w31.cell? ⟨g238, 3, none⟩ = some (J A237_3 ((rd_T64 la2 x4_1).f3).length c237_3) := (bc B238.out 3).trans rfl; have hfz33_0 := bf B238.out 0; have hfz33_1 := bf B238.out 1; have hfz33_2 := bf B238.out 2; have hfz33_3 := bf B238.out 3) | ((with_reducible refine gate_store (t := 62) (p := 29) rfl ?_); refine store_event (t := 62) (p := 29) (v := ?vo_w34) (w1 := (w31.setCell ⟨g238, 3, none⟩ (J Ao32 y242.length co32))) ?hg ?ho ?hn ?hr ?_; (case ho => rfl); (case hg => rfl); (case hn => rfl); (case hr => first | (go_simp; done) | (go_simp; rfl)); intro w34 hw; have N0 : Aside0 (Kd.R k36 36 w34 w.heap.size (fun _ => True) (J Ao12 y233.length co12) y233) := ⟨(by rw [hw]; exact (by (with_reducible repeat (first | apply ra | apply rN | apply rd1)); exact Kd.R_mono (rf (p := ⟨g238, 3, none⟩) (Kd.R_types o0.out B238.out (by decide)) (fun _ hk => hk.2) (J Ao32 y242.length co32)) (fun _ hk => trivial)))⟩; have N1 : Aside0 (Kd.S k64 64 w34 w.heap.size (fun k_ => some k_ ≠ (J Ao32 y242.length co32 : Value).ownBlock ∧ k_ ≠ g238) u237002 x237002_1) := ⟨(by rw [hw]; exact (by (with_reducible repeat (first | apply sa | apply sN | apply sd)); exact sm (sf (p := ⟨g238, 3, none⟩) (sm o1.out (fun k_ hk => (⟨hk, hk.1⟩ : _ ∧ k_ ≠ g238))) (fun _ hk => hk.2) (J Ao32 y242.length co32)) (fun _ hk => ⟨hk.1.2, hk.1.1⟩)))⟩; have N2 : Aside0 (Kd.R (Kd.int .i64) 2 w34 w.heap.size (fun _ => True) (J Ao32 y242.length co32) y242) := ⟨(by rw [hw]; exact (by (with_reducible repeat (first | apply ra | apply rN | apply rd1)); exact Kd.R_mono (rf (p := ⟨g238, 3, none⟩) (Kd.R_types O244.out B238.out (by decide)) (fun _ hk => hk.2) (J Ao32 y242.length co32)) (fun _ hk => trivial)))⟩; have N3 : Aside0 (w34.heap[g228]? = some (.cells #[I q aa0, J Aa1 la1.length ca1, .slice (some ad237) la2.length ca2] 31 (0, 0))) := ⟨(by rw [hw]; exact (by (with_reducible repeat (first | apply bN | apply bd | apply ba)); refine bq ?_ NB228_238.out _; (with_reducible repeat (first | apply bN | apply bd | apply ba)); exact B228.out))⟩; have N4 : Aside0 (w34.heap[g229]? = some (.cells #[I q 0, .slice none 0 0, .slice none 0 0] 31 (0, 0))) := ⟨(by rw [hw]; exact (by (with_reducible repeat (first | apply bN | apply bd | apply ba)); refine bq ?_ NB229_238.out _; (with_reducible repeat (first | apply bN | apply bd | apply ba)); exact B229.out))⟩; have N5 : Aside0 (w34.heap[g236]? = some (.cells #[I q aa0, J Ao12 y233.length co12, u237002] 31 (0, 0))) := ⟨(by rw [hw]; exact (by (with_reducible repeat (first | apply bN | apply bd | apply ba)); refine bq ?_ NB236_238.out _; (with_reducible repeat (first | apply bN | apply bd | apply ba)); exact B236.out))⟩; have N6 : Aside0 (w34.heap[g238]? = some (.cells #[I q ((rd_T64 la2 x4_1).f0), I q ((rd_T64 la2 x4_1).f1), I q ((rd_T64 la2 x4_1).f2), J Ao32 y242.length co32] 64 (0, 0))) := ⟨(by rw [hw]; exact (by (with_reducible repeat (first | apply bN | apply bd | apply ba)); refine blk_put (cs := #[I q ((rd_T64 la2 x4_1).f0), I q ((rd_T64 la2 x4_1).f1), I q ((rd_T64 la2 x4_1).f2), J A237_3 ((rd_T64 la2 x4_1).f3).length c237_3]) ?_ 3 _ rfl; (with_reducible repeat (first | apply bN | apply bd | apply ba)); exact B238.out))⟩; have N7 : Aside0 (Below w.heap.size w w34) := ⟨(by rw [hw]; exact (by repeat (first | (with_reducible first | exact HB.out | apply pa | apply pN | apply p1 | refine bs ?_ E228.out | refine bs ?_ E229.out | refine bs ?_ E236.out | refine bs ?_ E238.out) | exact HB.out)))⟩; clear hw o0 o1 O244 B228 B229 B236 B238 HB; have o0 := N0; have o1 := N1; have O244 := N2; have B228 := N3; have B229 := N4; have B236 := N5; have B238 := N6; have HB := N7; clear N0 N1 N2 N3 N4 N5 N6 N7; have hnb35 := NB236_229.out; have hnc35 := NB229_236.out; have hcz36_0 : w34.cell? ⟨g236, 0, none⟩ = some (I q aa0) := (bc B236.out 0).trans rfl; have hcz36_1 : w34.cell? ⟨g236, 1, none⟩ = some (J Ao12 y233.length co12) := (bc B236.out 1).trans rfl; have hcz36_2 : w34.cell? ⟨g236, 2, none⟩ = some (u237002) := (bc B236.out 2).trans rfl; have hfz36_0 := bf B236.out 0; have hfz36_1 := bf B236.out 1; have hfz36_2 := bf B236.out 2; have hcz37_0 : w34.cell? ⟨g238, 0, none⟩ = some (I q ((rd_T64 la2 x4_1).f0)) := (bc B238.out 0).trans rfl; have hcz37_1 : w34.cell? ⟨g238, 1, none⟩ = some (I q ((rd_T64 la2 x4_1).f1)) := (bc B238.out 1).trans rfl; have hcz37_2 : w34.cell? ⟨g238, 2, none⟩ = some (I q ((rd_T64 la2 x4_1).f2)) := (bc B238.out 2).trans rfl; have hcz37_3 : w34.cell? ⟨g238, 3, none⟩ = some (J Ao32 y242.length co32) := (bc B238.out 3).trans rfl; have hfz37_0 := bf B238.out 0; have hfz37_1 := bf B238.out 1; have hfz37_2 := bf B238.out 2; have hfz37_3 := bf B238.out 3) | ((with_reducible refine gate_builtin (b := .append) (xs := #[.tmp 31, .tmp 33]) rfl ?_); at_builtin; refine Kd.S_append k64 (w0 := w) w.heap.size rfl (.tmp 31) (.tmp 33) 29 64 (.agg #[(I q 0), (I q 0), (I q 0), (.slice none 0 0)]) 48 rfl Try.underlying29 info64 rfl (by decide) (by omega) u237002 x237002_1 (⟨(rd_T64 la2 x4_1).f0, (rd_T64 la2 x4_1).f1, (rd_T64 la2 x4_1).f2, y242⟩ : S64) [I q ((rd_T64 la2 x4_1).f0), I q ((rd_T64 la2 x4_1).f1), I q ((rd_T64 la2 x4_1).f2), J Ao32 y242.length co32] (fun k_ => k_ ≠ g238) (fun k_ => some k_ = (J Ao32 y242.length co32 : Value).ownBlock) rfl rfl ?aP (fun k_ hk_ => ((Kd.R_mono (ok' := fun k_ => ((fun k_ => k_ ≠ g238)) k_ ∧ some k_ ≠ (u237002 : Value).ownBlock) (Kd.R_types (Kd.R_apart' (O244.out) (Kd.S_typed o1.out) (by decide)) B238.out (by decide)) (fun k_ hk => ⟨hk.2, hk.1.2⟩))).1 k_ hk_.symm) ?aF ?aO ?aB ?aS ?aL ?_; (case aP => exact k64_mkM _ _ _ (⟨(rd_T64 la2 x4_1).f0, (rd_T64 la2 x4_1).f1, (rd_T64 la2 x4_1).f2, y242⟩ : S64) (Kd.R_mono (Kd.R_tight rfl (Kd.R_mono (ok' := fun k_ => ((fun k_ => k_ ≠ g238)) k_ ∧ some k_ ≠ (u237002 : Value).ownBlock) (Kd.R_types (Kd.R_apart' (O244.out) (Kd.S_typed o1.out) (by decide)) B238.out (by decide)) (fun k_ hk => ⟨hk.2, hk.1.2⟩))) (fun _ h_ => h_))); (case aB => exact (by repeat (first | (with_reducible first | exact HB.out | apply pa | apply pN | apply p1 | refine bs ?_ E228.out | refine bs ?_ E229.out | refine bs ?_ E236.out | refine bs ?_ E238.out) | exact HB.out))); (case aF => exact (fun k_ hk => Kd.freshB (g := g238) (o := .cells #[I q ((rd_T64 la2 x4_1).f0), I q ((rd_T64 la2 x4_1).f1), I q ((rd_T64 la2 x4_1).f2), J Ao32 y242.length co32] 64 (0, 0)) (by (with_reducible repeat (first | apply bN | apply bd | apply ba)); exact B238.out) k_ hk)); (case aO => exact (by (with_reducible repeat (first | apply sa | apply sN | apply sd)); exact sm o1.out (fun k_ hk => ⟨hk.2, fun e_ => hk.1 e_⟩))); (case aS => exact (bz (by repeat (first | (with_reducible first | exact HB.out | apply pa | apply pN | apply p1 | refine bs ?_ E228.out | refine bs ?_ E229.out | refine bs ?_ E236.out | refine bs ?_ E238.out) | exact HB.out)))); (case aL => have := LMc19.out; omega); intro v246 w38 ho hb hg hat; rw [← Ny245.out] at ho; have N0 := am (Kd.R_over' (by (with_reducible repeat (first | apply ra | apply rN | apply rd1)); exact o0.out) (Kd.S_typed (by (with_reducible repeat (first | apply sa | apply sN | apply sd)); exact o1.out)) (by decide) hg); have N1 := am (blk_grown (g := g228) (o := .cells #[I q aa0, J Aa1 la1.length ca1, .slice (some ad237) la2.length ca2] 31 (0, 0)) (by (with_reducible repeat (first | apply bN | apply bd | apply ba)); exact B228.out) hg (Kd.S_ne o1.out B228.out (by decide))); have N2 := am (blk_grown (g := g229) (o := .cells #[I q 0, .slice none 0 0, .slice none 0 0] 31 (0, 0)) (by (with_reducible repeat (first | apply bN | apply bd | apply ba)); exact B229.out) hg (Kd.S_ne o1.out B229.out (by decide))); have N3 := am (blk_grown (g := g236) (o := .cells #[I q aa0, J Ao12 y233.length co12, u237002] 31 (0, 0)) (by (with_reducible repeat (first | apply bN | apply bd | apply ba)); exact B236.out) hg (Kd.S_ne o1.out B236.out (by decide))); have N4 := am (blk_grown (g := g238) (o := .cells #[I q ((rd_T64 la2 x4_1).f0), I q ((rd_T64 la2 x4_1).f1), I q ((rd_T64 la2 x4_1).f2), J Ao32 y242.length co32] 64 (0, 0)) (by (with_reducible repeat (first | apply bN | apply bd | apply ba)); exact B238.out) hg (Kd.S_away o1.out (fun _ hk => hk.2))); have N5 := am (hb); have N6 := am (ho); clear o0 B228 B229 B236 B238 HB o1 O244; have o0 := N0; have B228 := N1; have B229 := N2; have B236 := N3; have B238 := N4; have HB := N5; have O247 := N6; clear N0 N1 N2 N3 N4 N5 N6 ho hb hg hat; obtain ⟨Ao39, co39, eo39⟩ := Kd.S_slice O247.out; subst eo39; have hcz40_0 : w38.cell? ⟨g236, 0, none⟩ = some (I q aa0) := (bc B236.out 0).trans rfl; have hcz40_1 : w38.cell? ⟨g236, 1, none⟩ = some (J Ao12 y233.length co12) := (bc B236.out 1).trans rfl; have hcz40_2 : w38.cell? ⟨g236, 2, none⟩ = some (u237002) := (bc B236.out 2).trans rfl; have hfz40_0 := bf B236.out 0; have hfz40_1 := bf B236.out 1; have hfz40_2 := bf B236.out 2))
        go_roundg k1
        case measure => have := HK1.out; omega
        case rel => exact ⟨(wrap64 (x4_1 + 1)), (y245), (J Ao39 y245.length co39), (by first | rfl | (simp; done) | (simp [*]; done)), H', ⟨by have := HK1.out; omega⟩, ⟨by (with_reducible repeat (first | apply ra | apply rN | apply rd1)); exact Kd.R_mono (rf (p := ⟨g236, 2, none⟩) (Kd.R_types o0.out B236.out (by decide)) (fun _ hk => hk.2) (J Ao39 y245.length co39)) (fun _ hk => trivial)⟩, ⟨by (with_reducible repeat (first | apply sa | apply sN | apply sd)); exact sm (sf (p := ⟨g236, 2, none⟩) (st O247.out B236.out (by decide)) (fun _ hk => hk.2) (J Ao39 y245.length co39)) (fun _ hk => trivial)⟩, ⟨by (with_reducible repeat (first | apply bN | apply bd | apply ba)); refine bq ?_ NB228_236.out _; (with_reducible repeat (first | apply bN | apply bd | apply ba)); exact B228.out⟩, ⟨by (with_reducible repeat (first | apply bN | apply bd | apply ba)); refine bq ?_ NB229_236.out _; (with_reducible repeat (first | apply bN | apply bd | apply ba)); exact B229.out⟩, ⟨by (with_reducible repeat (first | apply bN | apply bd | apply ba)); refine blk_put (cs := #[I q aa0, J Ao12 y233.length co12, u237002]) ?_ 2 _ rfl; (with_reducible repeat (first | apply bN | apply bd | apply ba)); exact B236.out⟩, ⟨by repeat (first | (with_reducible first | exact HB.out | apply pa | apply pN | apply p1 | refine bs ?_ E228.out | refine bs ?_ E229.out | refine bs ?_ E236.out | refine bs ?_ E238.out) | exact HB.out)⟩⟩
       ·rw [if_neg c19] at H
        exact absurd H (by simp)
      ·rw [if_neg c18] at H
       exact absurd H (by simp)
     ·rw [if_neg c17] at H
      exact absurd H (by simp)
    ·rw [if_neg c16] at H
     have c16b0 : decide (x4_1 < (la2.length : Int)) = false := decide_eq_false c16
     clear c16
     simp only [Option.some.injEq, Prod.mk.injEq] at H
     obtain ⟨rfl, rfl, rfl⟩ := H
     have hnb41 := NB228_229.out
     have hnc41 := NB229_228.out
     have hnb42 := NB228_236.out
     have hnc42 := NB236_228.out
     have hcz43_0 : wr.cell? ⟨g228, 0, none⟩ = some (I q aa0) := (bc B228.out 0).trans rfl
     have hcz43_1 : wr.cell? ⟨g228, 1, none⟩ = some (J Aa1 la1.length ca1) := (bc B228.out 1).trans rfl
     have hcz43_2 : wr.cell? ⟨g228, 2, none⟩ = some (J Aa2 la2.length ca2) := (bc B228.out 2).trans rfl
     have hfz43_0 := bf B228.out 0
     have hfz43_1 := bf B228.out 1
     have hfz43_2 := bf B228.out 2
     have hnb44 := NB236_229.out
     have hnc44 := NB229_236.out
     have hcz45_0 : wr.cell? ⟨g236, 0, none⟩ = some (I q aa0) := (bc B236.out 0).trans rfl
     have hcz45_1 : wr.cell? ⟨g236, 1, none⟩ = some (J Ao12 y233.length co12) := (bc B236.out 1).trans rfl
     have hcz45_2 : wr.cell? ⟨g236, 2, none⟩ = some (u237002) := (bc B236.out 2).trans rfl
     have hfz45_0 := bf B236.out 0
     have hfz45_1 := bf B236.out 1
     have hfz45_2 := bf B236.out 2
     have hcz46_0 : wr.cell? ⟨g229, 0, none⟩ = some (I q 0) := (bc B229.out 0).trans rfl
     have hcz46_1 : wr.cell? ⟨g229, 1, none⟩ = some (.slice none 0 0) := (bc B229.out 1).trans rfl
     have hcz46_2 : wr.cell? ⟨g229, 2, none⟩ = some (.slice none 0 0) := (bc B229.out 2).trans rfl
     have hfz46_0 := bf B229.out 0
     have hfz46_1 := bf B229.out 1
     have hfz46_2 := bf B229.out 2
     obtain ⟨Ao47, co47, eo47⟩ := Kd.S_slice o1.out
     subst eo47
     go_wp2
     refine bodyPost_ret (results_cell_row rfl _ _ g229 31 #[I q aa0, J Ao12 y233.length co12, J Ao47 x237002_1.length co47] (0, 0) _ rfl (by (with_reducible repeat (first | apply bN | apply bd | apply ba)); exact pu3a B229.out) Try.underlying31 rfl (by kernel_rfl)) rfl ?_
     exact ⟨_, _, by first | rfl | (simp [errW_none, errW_some] <;> rfl) | (simp [*, errW_none, errW_some] <;> rfl), by (with_reducible repeat (first | apply ra | apply rN | apply rd1)); exact Kd.R_mono (rf (p := ⟨g229, 2, none⟩) (rf (p := ⟨g229, 1, none⟩) (rf (p := ⟨g229, 0, none⟩) (Kd.R_types o0.out B229.out (by decide)) (fun _ hk => hk.2) (I q aa0)) (fun _ hk => hk.2) (J Ao12 y233.length co12)) (fun _ hk => hk.2) (J Ao47 x237002_1.length co47)) (fun _ hk => trivial), by (with_reducible repeat (first | apply sa | apply sN | apply sd)); exact sm (sf (p := ⟨g229, 2, none⟩) (sf (p := ⟨g229, 1, none⟩) (sf (p := ⟨g229, 0, none⟩) (st o1.out B229.out (by decide)) (fun _ hk => hk.2) (I q aa0)) (fun _ hk => hk.2) (J Ao12 y233.length co12)) (fun _ hk => hk.2) (J Ao47 x237002_1.length co47)) (fun _ hk => trivial), by repeat (first | (with_reducible first | exact HB.out | apply pa | apply pN | apply p1 | refine bs ?_ E228.out | refine bs ?_ E229.out | refine bs ?_ E236.out) | exact HB.out)⟩
 ·rw [if_neg c2] at H
  exact absurd H (by simp)

-- NOT PRINTED: function 90 (spec_l1Rise)

/-! ### spec_l1Has: function 159 -/
def spec_l1Has.l0 : Nat → List Int → Int → Int → Option (Bool)
 | 0, _, _, _ => none
 | k + 1, x0, x1, x5 => if x5 < (x0.length : Int) then (if 0 ≤ x5 then (if (rd x0 x5) = x1 then (some true) else (spec_l1Has.l0 k x0 x1 (wrap64 (x5 + 1)))) else (none)) else (some false)
def spec_l1Has.f (k : Nat) (l0 : List Int) (a1 : Int) : Option (Bool) := spec_l1Has.l0 k l0 a1 0
theorem spec_l1Has.mono_l : ∀ k, (∀ y0 y1 y2, LeO (spec_l1Has.l0 k y0 y1 y2) (spec_l1Has.l0 (k + 1) y0 y1 y2))
 | 0 => fun _ _ _ r h => by simp [spec_l1Has.l0] at h
 | k + 1 => by
  have ih0 := spec_l1Has.mono_l k
  ·intro y0 y1 y2
   unfold spec_l1Has.l0
   repeat' first
   | (with_reducible exact ih0 _ _ _)
   | (with_reducible exact LeO.refl _)
   | (with_reducible exact LeO.none _)
   | (with_reducible refine LeO.ite ?_ ?_)
   | (with_reducible refine LeO.bind ?_ (fun _ => ?_))
   | exact ih0 _ _ _
   | exact LeO.none _
   | refine LeO.ite ?_ ?_
   | refine LeO.bind ?_ (fun _ => ?_)
theorem spec_l1Has.mono : ∀ a0 a1 k, LeO (spec_l1Has.f k a0 a1) (spec_l1Has.f (k + 1) a0 a1) := by
 intro a0 a1 k
 have ih0 := spec_l1Has.mono_l k
 unfold spec_l1Has.f
 repeat' first
   | (with_reducible exact ih0 _ _ _)
   | (with_reducible exact LeO.refl _)
   | (with_reducible exact LeO.none _)
   | (with_reducible refine LeO.ite ?_ ?_)
   | (with_reducible refine LeO.bind ?_ (fun _ => ?_))
   | exact ih0 _ _ _
   | exact LeO.none _
   | refine LeO.ite ?_ ?_
   | refine LeO.bind ?_ (fun _ => ?_)
set_option maxHeartbeats 8000000 in
set_option maxRecDepth 100000 in
theorem spec_l1Has.calls (k : Nat) (A0 : Option Addr) (c0 : Nat) (l0 : List Int) (a1 : Int) (r : Bool) (w : World) (hr0 : Kd.C (Kd.int .i64) w A0 l0.length l0) (hc0 : l0.length ≤ c0) (h : spec_l1Has.f k l0 a1 = some r) :
  Calls Try.prog 159 #[J A0 l0.length c0, I q a1] w fun e w' => e = .returned (.bool r) ∧ Drawn0 w w' := by
 have HR0 := am hr0
 have HC0 := am hc0
 clear hr0 hc0
 have H : (spec_l1Has.l0 k l0 a1 0) = some r := h
 clear h
 have H' := am H
 clear H
 go_enter Try.func159, Try.ntmps159
 go_wp2
 go_loopg [5] k (fun kq v5 w' => ∃ (x5_1 : Int), v5 = I q x5_1 ∧ Aside0 (spec_l1Has.l0 kq l0 a1 x5_1 = some r) ∧ Aside0 (kq ≤ k) ∧ Drawn0 w w')
 case atStart => exact ⟨(0), (by first | rfl | (simp; done) | (simp [*]; done)), H', ⟨Nat.le_refl _⟩, by repeat (first | exact Drawn0.refl _ | apply Drawn0.step)⟩
 case round =>
  clear H'
  try clear c1
  try clear p2
  obtain ⟨x5_1, rfl, HA, HK1, ⟨m1, rfl⟩⟩ := hrel
  cases gk with
  | zero => exact absurd HA.out (by simp [spec_l1Has.l0])
  | succ k1 =>
   have H := HA.out
   clear HA
   simp only [spec_l1Has.l0] at H
   by_cases c3 : x5_1 < (l0.length : Int)
   ·rw [if_pos c3] at H
    have c3b0 : decide (x5_1 < (l0.length : Int)) = true := decide_eq_true c3
    clear c3
    by_cases c4 : 0 ≤ x5_1
    ·rw [if_pos c4] at H
     have c4b0 : decide (0 ≤ x5_1) = true := decide_eq_true c4
     clear c4
     by_cases c5 : (rd l0 x5_1) = a1
     ·rw [if_pos c5] at H
      have c5b0 : ((rd l0 x5_1) == a1) = true := beq_iff_eq.mpr c5
      have c5b1 : ((rd l0 x5_1) != a1) = false := bne_eq_false_iff_eq.mpr c5
      clear c5
      obtain rfl := Option.some.inj H
      have p299 : 0 ≤ (x5_1 : Int) := of_decide_eq_true (by first | (with_reducible assumption) | assumption)
      have q299 : x5_1 < (l0.length : Int) := of_decide_eq_true (by first | (with_reducible assumption) | assumption)
      obtain ⟨ad299, e299, hx299_0⟩ := Kd.at_int HR0.out x5_1 p299 q299
      cases e299
      replace p299 := eq_true p299
      replace q299 := eq_true q299
      go_wp2
      go_ret
      exact ⟨by first | rfl | (simp; done) | (simp [*]; done), by repeat (first | exact Drawn0.refl _ | apply Drawn0.step)⟩
     ·rw [if_neg c5] at H
      have c5b0 : ((rd l0 x5_1) == a1) = false := beq_eq_false_iff_ne.mpr c5
      have c5b1 : ((rd l0 x5_1) != a1) = true := bne_iff_ne.mpr c5
      have H' := am H
      clear H
      have p299 : 0 ≤ (x5_1 : Int) := of_decide_eq_true (by first | (with_reducible assumption) | assumption)
      have q299 : x5_1 < (l0.length : Int) := of_decide_eq_true (by first | (with_reducible assumption) | assumption)
      obtain ⟨ad299, e299, hx299_0⟩ := Kd.at_int HR0.out x5_1 p299 q299
      cases e299
      replace p299 := eq_true p299
      replace q299 := eq_true q299
      go_wp2
      go_roundg k1
      case measure => have := HK1.out; omega
      case rel => exact ⟨(wrap64 (x5_1 + 1)), (by first | rfl | (simp; done) | (simp [*]; done)), H', ⟨by have := HK1.out; omega⟩, by repeat (first | exact Drawn0.refl _ | apply Drawn0.step)⟩
    ·rw [if_neg c4] at H
     exact absurd H (by simp)
   ·rw [if_neg c3] at H
    have c3b0 : decide (x5_1 < (l0.length : Int)) = false := decide_eq_false c3
    clear c3
    obtain rfl := Option.some.inj H
    go_wp2
    go_ret
    exact ⟨by first | rfl | (simp; done) | (simp [*]; done), by repeat (first | exact Drawn0.refl _ | apply Drawn0.step)⟩

-- NOT PRINTED: function 151 (spec_l5TurnVip)

namespace Dl
theorem bound_new {n : Nat} {W : World} {v : Value} (h : ∃ b, v.ownBlock = some b ∧ W.heap.size ≤ b) (hs : n ≤ W.heap.size) : ∀ k, v.ownBlock = some k → n ≤ k := by
 obtain ⟨b, e, hb⟩ := h
 intro k hk
 rw [e] at hk
 injection hk with hk
 omega
theorem bound_at {n : Nat} {W : World} {v v1 : Value} (hv : ∀ k, v.ownBlock = some k → n ≤ k) (hs : n ≤ W.heap.size) (hat : v1.ownBlock = v.ownBlock ∨ ∃ b, v1.ownBlock = some b ∧ W.heap.size ≤ b) : ∀ k, v1.ownBlock = some k → n ≤ k := by
 rcases hat with e | h
 ·intro k hk
  exact hv k (e ▸ hk)
 ·exact bound_new h hs
theorem C_len {α : Type} {d : Kd α} {W : World} {A : Option Addr} {m : Nat} {ys : List α} (hm : ys.length = m) (h : d.C W A ys.length ys) : d.C W A m ys := by rw [← hm]; exact h
theorem cutdrop {P : Program} {α : Type} (d : Kd α) {w : World} {A : Option Addr} {c : Nat} {xs : List α} (h : d.C w A xs.length xs) (hc : xs.length ≤ c) (m : Nat) (hm : m ≤ xs.length) (t e : TypeId) {i : TypeInfo} (ht : P.underlying t = some (.slice e)) (hi : P.info? e = some i) (hsz : i.size = d.sz) :
  ∃ A2, (∀ W : World, (Instr.slice t (J A xs.length c) (some (I q (m : Int))) none none).run P W = .ok (J A2 (xs.length - m) (c - m)) W) ∧ d.C w A2 (xs.drop m).length (xs.drop m) := by
 refine ⟨_, fun W => ?_, Kd.C_drop (m := m) h hm hc⟩
 have := cut_from (P := P) t e .i64 ht hi d.sz hsz A xs.length c (m : Int) (by omega) (by omega) W
 simpa using this
/-- How many numbers at the head are less. -/
def rk (n : Int) : List Int → Nat
 | [] => 0
 | x :: l => if x < n then rk n l + 1 else 0
def rise (n : Int) (l : List Int) : List Int := if l[rk n l]? = some n then l else l.take (rk n l) ++ n :: l.drop (rk n l)
theorem rk_le (n : Int) : ∀ l, rk n l ≤ l.length
 | [] => Nat.le_refl _
 | x :: l => by
  have := rk_le n l
  unfold rk
  split <;> simp <;> omega
theorem rk_is (n : Int) : ∀ (l : List Int) (k : Nat), k ≤ l.length → (∀ j, j < k → l.getD j 0 < n) → (k < l.length → ¬ l.getD k 0 < n) → rk n l = k
 | [], k, hk, _, _ => by simp at hk; simp [rk, hk]
 | x :: l, 0, _, _, h => by
  have := h (by simp)
  simp only [List.getD_cons_zero] at this
  unfold rk
  rw [if_neg this]
 | x :: l, k + 1, hk, ha, h => by
  have h0 := ha 0 (by omega)
  simp only [List.getD_cons_zero] at h0
  unfold rk
  rw [if_pos h0, rk_is n l k (by simpa using hk) (fun j hj => by have := ha (j + 1) (by omega); simpa using this) (fun hlt => by have := h (by simpa using hlt); simpa using this)]
end Dl
set_option maxHeartbeats 8000000 in
set_option maxRecDepth 100000 in
/-- A number laid into a rising row: the row itself where it is there, a new row else. -/
theorem spec_l1Rise.cf (A : Option Addr) (c : Nat) (l : List Int) (n : Int) (w : World) (hr : Kd.C (Kd.int .i64) w A l.length l) (hc : l.length ≤ c) (hl : l.length ≤ 1000000) :
  Calls Try.prog 90 #[J A l.length c, I q n] w fun e w' => ∃ u, e = .returned u ∧ ((u = J A l.length c ∧ Dl.rise n l = l) ∨ Kd.R (Kd.int .i64) 2 w' w.heap.size (fun _ => True) u (Dl.rise n l)) ∧ Below w.heap.size w w' := by
 have HN := am hr
 have HC := am hc
 clear hr hc
 go_enter Try.func90, Try.ntmps90
 go_wp2
 go_loopg [5] l.length (fun gg s5 wr => ∃ kk : Nat, kk ≤ l.length ∧ l.length - kk ≤ gg ∧ s5 = I q kk ∧ Aside0 (∀ j, j < kk → l.getD j 0 < n) ∧ wr = w)
 case atStart => exact ⟨0, Nat.zero_le _, by omega, rfl, ⟨fun j hj => absurd hj (Nat.not_lt_zero _)⟩, rfl⟩
 case round =>
 obtain ⟨kk, hkk, hg, rfl, HA, rfl⟩ := hrel
 have hrise : (kk < l.length → ¬ l.getD kk 0 < n) → Dl.rk n l = kk := fun h => Dl.rk_is n l kk hkk HA.out h
 by_cases hlt : kk < l.length
 ·have hltz : (kk : Int) < (l.length : Int) := by omega
  obtain ⟨ad, eA, hx⟩ := Kd.at_int HN.out (kk : Int) (by omega) hltz
  cases eA
  simp only [Int.toNat_natCast] at hx
  have hrn : rd l (kk : Int) = l.getD kk 0 := by simp [rd]
  rw [hrn] at hx
  have hq : l[kk]? = some (l.getD kk 0) := by simp [List.getD, hlt]
  obtain ⟨x, hxe⟩ : ∃ x, x = l.getD kk 0 := ⟨_, rfl⟩
  rw [← hxe] at hx hq hrise
  have HX := am hxe
  clear hxe hrn
  by_cases hless : x < n
  ·have hb1 : decide (x < n) = true := decide_eq_true hless
   clear hrise hq
   go_wp2
   go_roundg (l.length - kk - 1)
   case measure => omega
   case rel => exact ⟨kk + 1, by omega, by omega, by go_num, ⟨fun j hj => by
    by_cases e : j = kk
    ·subst e; rw [← HX.out]; exact hless
    ·exact HA.out j (by omega)⟩, rfl⟩
  ·have hb1 : decide (x < n) = false := decide_eq_false hless
   have hrk := am (hrise (fun _ => hless))
   have HQ := am hq
   clear hrise hq
   by_cases heq : x = n
   ·have hb2 : (x == n) = true := beq_iff_eq.mpr heq
    go_wp2
    go_ret
    refine ⟨_, rfl, .inl ⟨rfl, ?_⟩, Below.refl _ _⟩
    unfold Dl.rise
    rw [hrk.out, HQ.out, heq, if_pos rfl]
   ·have hb2 : (x == n) = false := beq_eq_false_iff_ne.mpr heq
    have HR : Aside0 (Dl.rise n l = [] ++ l.take kk ++ [n] ++ l.drop kk) := ⟨by unfold Dl.rise; rw [hrk.out, HQ.out, if_neg (by simpa using heq)]; simp⟩
    clear hrk HQ HX
    go_wp2
    have hbs : wr.heap.size ≤ wr.heap.size := Nat.le_refl _
    have hCt := Kd.C_take (m := kk) HN.out hkk
    obtain ⟨i0_, hi0_, _, hsz_, _⟩ := info_parts info2
    have hcut1 := cut_to (P := Try.prog) 62 2 .i64 Try.underlying62 hi0_ (some ad) l.length c (kk : Int) (by omega) (by omega) HC.out
    obtain ⟨A2_, hcut2, hCd⟩ := Dl.cutdrop (P := Try.prog) (Kd.int .i64) HN.out HC.out kk hkk 62 2 Try.underlying62 hi0_ hsz_
    simp only [Int.toNat_natCast] at hcut1
    have hlt_ : (l.take kk).length = kk := by rw [List.length_take]; omega
    have hld_ : (l.drop kk).length = l.length - kk := List.length_drop
    obtain ⟨yc, hyc_⟩ : ∃ y : List Int, y = [n] := ⟨_, rfl⟩
    have hyc := am hyc_
    have hycl : yc.length ≤ 1 := by rw [hyc_]; exact Nat.le_refl 1
    clear hyc_
    have HS_ : ∀ W, Below wr.heap.size wr W → (True) := fun W hW => trivial
    have hd : Below wr.heap.size wr wr.drew := p1 (Below.refl _ _)
    refine start_ (n := 13) (S := fun w' => True) (ds := []) (Mk 13 0) (by kernel_rfl) rfl rfl (HS_ _ hd) (fun hHeld => ?_)
    generalize wr.drew = wd at hd hHeld ⊢
    refine pure_ (i := 1) (N := some 34) (v := ?_) (a' := ?_) (Mk 13 2) rfl rfl (by kernel_rfl) (fun _ _ _ h => h) (Or.inl ⟨by rfl, ?_⟩) ?_ ?_
    rotate_left
    ·intro w'
     first | (go_simp; with_reducible rfl) | (go_simp; (try unfold Instr.field); go_simp; (try simp only [asAgg]); go_simp; with_reducible rfl)
    rotate_left
    ·simp only [Act.put, List.setIfInBounds_toArray, List.set_cons_zero, List.set_cons_succ, i64_w, i32_w]
     rfl
    refine pure_ (i := 2) (N := some 35) (v := ?_) (a' := ?_) (Mk 13 6) rfl rfl (by kernel_rfl) (fun _ _ _ h => h) (Or.inl ⟨by rfl, ?_⟩) ?_ ?_
    rotate_left
    ·intro w'
     first | (go_simp; with_reducible rfl) | (go_simp; (try unfold Instr.field); go_simp; (try simp only [asAgg]); go_simp; with_reducible rfl)
    rotate_left
    ·simp only [Act.put, List.setIfInBounds_toArray, List.set_cons_zero, List.set_cons_succ, i64_w, i32_w]
     rfl
    refine pure_ (i := 3) (N := some 36) (v := ?_) (a' := ?_) (Mk 13 14) rfl rfl (by kernel_rfl) (fun _ _ _ h => h) (Or.inl ⟨by rfl, ?_⟩) ?_ ?_
    rotate_left
    ·intro w'
     first | (go_simp; with_reducible rfl) | (go_simp; (try unfold Instr.field); go_simp; (try simp only [asAgg]); go_simp; with_reducible rfl)
    rotate_left
    ·simp only [Act.put, List.setIfInBounds_toArray, List.set_cons_zero, List.set_cons_succ, i64_w, i32_w]
     rfl
    refine pure_ (i := 5) (N := some 38) (v := ?_) (a' := ?_) (Mk 13 46) rfl rfl (by kernel_rfl) (fun _ _ _ h => h) (Or.inl ⟨by rfl, ?_⟩) ?_ ?_
    rotate_left
    ·intro w'
     first | (go_simp; with_reducible rfl) | (go_simp; (try unfold Instr.field); go_simp; (try simp only [asAgg]); go_simp; with_reducible rfl)
    rotate_left
    ·simp only [Act.put, List.setIfInBounds_toArray, List.set_cons_zero, List.set_cons_succ, i64_w, i32_w]
     rfl
    refine pure_ (i := 8) (N := some 41) (v := ?_) (a' := ?_) (Mk 13 302) rfl rfl (by kernel_rfl) (fun _ _ _ h => h) (Or.inl ⟨by rfl, ?_⟩) ?_ ?_
    rotate_left
    ·intro w'
     first | (go_simp; with_reducible rfl) | (go_simp; (try unfold Instr.field); go_simp; (try simp only [asAgg]); go_simp; with_reducible rfl)
    rotate_left
    ·simp only [Act.put, List.setIfInBounds_toArray, List.set_cons_zero, List.set_cons_succ, i64_w, i32_w]
     rfl
    refine pure_ (i := 9) (N := some 42) (v := ?_) (a' := ?_) (Mk 13 814) rfl rfl (by kernel_rfl) (fun _ _ _ h => h) (Or.inl ⟨by rfl, ?_⟩) ?_ ?_
    rotate_left
    ·intro w'
     first | (go_simp; with_reducible rfl) | (go_simp; (try unfold Instr.field); go_simp; (try simp only [asAgg]); go_simp; with_reducible rfl)
    rotate_left
    ·simp only [Act.put, List.setIfInBounds_toArray, List.set_cons_zero, List.set_cons_succ, i64_w, i32_w]
     rfl
    refine pure_ (i := 10) (N := some 43) (v := ?_) (a' := ?_) (Mk 13 1838) rfl rfl (by kernel_rfl) (fun _ _ _ h => h) (Or.inl ⟨by rfl, ?_⟩) ?_ ?_
    rotate_left
    ·intro w'
     first | (go_simp; with_reducible rfl) | (go_simp; (try unfold Instr.field); go_simp; (try simp only [asAgg]); go_simp; with_reducible rfl)
    rotate_left
    ·simp only [Act.put, List.setIfInBounds_toArray, List.set_cons_zero, List.set_cons_succ, i64_w, i32_w]
     rfl
    refine join_ (σ := Value × Value × Value) 3 (Mk 13 1919) (fun s_ => [(33, s_.1), (37, s_.2.1), (39, s_.2.2)]) (fun s_ w' => Below wr.heap.size wr w' ∧ Kd.R (Kd.int .i64) 2 w' (wr.heap.size) (fun k_ => some k_ ≠ s_.2.2.ownBlock) s_.2.1 ([] ++ (l.take kk)) ∧ Kd.R (Kd.int .i64) 2 w' (wr.heap.size) (fun k_ => some k_ ≠ s_.2.1.ownBlock) s_.2.2 yc ∧ (∀ k_, s_.2.1.ownBlock = some k_ → wr.heap.size ≤ k_)) ?_ ?_
    rotate_left
    ·intro hCont
     refine two_ (i := 0) (j := 6) (Ni := some 33) (Nj := some 39) (Mk 13 1839) (Mk 13 1902) rfl rfl rfl rfl (by kernel_rfl) (by decide) (by decide) (fun K hK => ?_) (fun K hK => ?_)
     ·skip
      skip
      refine Kd.R_lit_step (Kd.int .i64) _ 2 ?hg (N := 33) ?hd (xs := ([] : List (Int))) (inner := []) (ok := fun _ => True) (okp := fun _ => True) ?hr ?hp (fun _ hk => hk) trivial (Below.refl _ _) (Nat.le_refl _) (by simp) ?_; (case hd => rfl); (case hg => rfl); (case hr => first | (go_simp; done) | (go_simp; rfl)); (case hp => exact (Reps.none _ _))
      intro va wa hoA hbA hgA_ hn_
      have hbdA := Dl.bound_new (v := va) hn_ hd.size
      have hA := rw1 hoA (Nat.le_trans hbs hd.size)
      replace hd := hd.trans (hbA.mono hd.size)
      clear hoA hbA hgA_ hn_ hHeld
      refine hK.out _ _ (HS_ _ hd) (fun hHeld => ?_)
      clear hK K
      refine norm_ (a' := ?_) ?_ ?_
      rotate_left
      ·show Act.put _ (some 33) _ = _
       simp only [Act.put, List.setIfInBounds_toArray, List.set_cons_zero, List.set_cons_succ, i64_w, i32_w]
       rfl
      refine two_ (i := 4) (j := 6) (Ni := some 37) (Nj := some 39) (Mk 13 1855) (Mk 13 1903) rfl rfl rfl rfl (by kernel_rfl) (by decide) (by decide) (fun K hK => ?_) (fun K hK => ?_)
      ·skip
       skip
       refine Kd.R_append_rows_step (Kd.int .i64) (w0 := wr) (wr.heap.size) (by rfl) (.tmp 33) (.tmp 36) 62 2 (I q 0) 8 rfl Try.underlying62 info2 rfl (by decide) (by omega) va [] (l.take kk) _ _ _ (fun _ => True) (fun _ => False) rfl rfl ?aO ?aR (fun _ _ h => h) (fun _ h => h.elim) ?aF ?aB ?aS ?aL ?_
       (case aR => exact Dl.C_len hlt_ (Kd.C_below hCt hd))
       (case aB => exact hd.mono hbs)
       (case aF => exact (fun _ _ => trivial))
       (case aO => exact hA)
       (case aS => exact Nat.le_trans hbs hd.size)
       (case aL => simp only [List.length_nil]; omega)
       intro vb wb hoB hbB_ hgB hatB
       have hbdB := Dl.bound_at hbdA hd.size hatB
       replace hd := hd.grown hgB hd.size hbdA
       clear hbB_ hgB hatB hHeld hA hbdA
       have hA := hoB
       have hbdA := hbdB
       clear hoB hbdB
       refine hK.out _ _ (HS_ _ hd) (fun hHeld => ?_)
       clear hK K
       refine norm_ (a' := ?_) ?_ ?_
       rotate_left
       ·show Act.put _ (some 37) _ = _
        simp only [Act.put, List.setIfInBounds_toArray, List.set_cons_zero, List.set_cons_succ, i64_w, i32_w]
        rfl
       refine one_ (i := 6) (N := some 39) (Mk 13 1919) rfl rfl (by kernel_rfl) (by decide) (fun K hK => ?_)
       refine Kd.R_lit_step (Kd.int .i64) _ 2 ?hg (N := 39) ?hd (xs := ([n] : List Int)) (inner := [I q n]) (ok := fun _ => True) (okp := fun _ => True) ?hr ?hp (fun _ hk => hk) trivial (Below.refl _ _) (Nat.le_refl _) (by simp) ?_; (case hd => rfl); (case hg => rfl); (case hr => first | (go_simp; done) | (go_simp; rfl)); (case hp => exact (Reps.one (show Kd.M (Kd.int .i64) _ _ _ n [I q n] from rfl) (Reps.none _ _)))
       intro vc wc hoC hbC hgC_ hn_
       rw [← hyc.out] at hoC
       have hbdC := Dl.bound_new (v := vc) hn_ hd.size
       have hC := Kd.R_mono (rw1 (rn hoC (rl hA)) (Nat.le_trans hbs hd.size)) (ok' := fun k_ => some k_ ≠ vb.ownBlock) (fun _ h_ => h_.2)
       replace hA := Kd.R_mono (re hA (Kd.R_base hoC) hbC) (ok' := fun k_ => some k_ ≠ vc.ownBlock) (fun _ h_ => h_.2)
       replace hd := hd.trans (hbC.mono hd.size)
       clear hoC hbC hgC_ hn_ hHeld
       refine hK.out _ _ (HS_ _ hd) (fun hHeld => ?_)
       clear hK K
       refine norm_ (a' := ?_) ?_ ?_
       rotate_left
       ·show Act.put _ (some 39) _ = _
        simp only [Act.put, List.setIfInBounds_toArray, List.set_cons_zero, List.set_cons_succ, i64_w, i32_w]
        rfl
       exact norm_ (by simp only [putAll, Act.put, List.setIfInBounds_toArray, List.set_cons_zero, List.set_cons_succ]) (hCont (va, vb, vc) _ ⟨hd, hA, hC, hbdA⟩)
      ·skip
       skip
       refine Kd.R_lit_step (Kd.int .i64) _ 2 ?hg (N := 39) ?hd (xs := ([n] : List Int)) (inner := [I q n]) (ok := fun _ => True) (okp := fun _ => True) ?hr ?hp (fun _ hk => hk) trivial (Below.refl _ _) (Nat.le_refl _) (by simp) ?_; (case hd => rfl); (case hg => rfl); (case hr => first | (go_simp; done) | (go_simp; rfl)); (case hp => exact (Reps.one (show Kd.M (Kd.int .i64) _ _ _ n [I q n] from rfl) (Reps.none _ _)))
       intro vc wc hoC hbC hgC_ hn_
       rw [← hyc.out] at hoC
       have hbdC := Dl.bound_new (v := vc) hn_ hd.size
       have hC := Kd.R_mono (rw1 (rn hoC (rl hA)) (Nat.le_trans hbs hd.size)) (ok' := fun k_ => some k_ ≠ va.ownBlock) (fun _ h_ => h_.2)
       replace hA := Kd.R_mono (re hA (Kd.R_base hoC) hbC) (ok' := fun k_ => some k_ ≠ vc.ownBlock) (fun _ h_ => h_.2)
       replace hd := hd.trans (hbC.mono hd.size)
       clear hoC hbC hgC_ hn_ hHeld
       refine hK.out _ _ (HS_ _ hd) (fun hHeld => ?_)
       clear hK K
       refine norm_ (a' := ?_) ?_ ?_
       rotate_left
       ·show Act.put _ (some 39) _ = _
        simp only [Act.put, List.setIfInBounds_toArray, List.set_cons_zero, List.set_cons_succ, i64_w, i32_w]
        rfl
       refine one_ (i := 4) (N := some 37) (Mk 13 1919) rfl rfl (by kernel_rfl) (by decide) (fun K hK => ?_)
       refine Kd.R_append_rows_step (Kd.int .i64) (w0 := wr) (wr.heap.size) (by rfl) (.tmp 33) (.tmp 36) 62 2 (I q 0) 8 rfl Try.underlying62 info2 rfl (by decide) (by omega) va [] (l.take kk) _ _ _ (fun k_ => some k_ ≠ (vc : Value).ownBlock) (fun _ => False) rfl rfl ?aO ?aR (fun _ _ h => h) (fun _ h => h.elim) ?aF ?aB ?aS ?aL ?_
       (case aR => exact Dl.C_len hlt_ (Kd.C_below hCt hd))
       (case aB => exact hd.mono hbs)
       (case aF => exact (fun k_ hk => Kd.fresh' (rl hC) k_ hk))
       (case aO => exact hA)
       (case aS => exact Nat.le_trans hbs hd.size)
       (case aL => simp only [List.length_nil]; omega)
       intro vb wb hoB hbB_ hgB hatB
       have hbdB := Dl.bound_at hbdA hd.size hatB
       replace hC := Kd.R_mono (Kd.R_after (ok := (fun _ => True)) (Kd.R_mono hC (fun _ hk => ⟨trivial, hk⟩)) hgB hatB) (ok' := fun k_ => some k_ ≠ vb.ownBlock) (fun _ h_ => h_.2)
       replace hd := hd.grown hgB hd.size hbdA
       clear hbB_ hgB hatB hHeld hA hbdA
       have hA := hoB
       have hbdA := hbdB
       clear hoB hbdB
       refine hK.out _ _ (HS_ _ hd) (fun hHeld => ?_)
       clear hK K
       refine norm_ (a' := ?_) ?_ ?_
       rotate_left
       ·show Act.put _ (some 37) _ = _
        simp only [Act.put, List.setIfInBounds_toArray, List.set_cons_zero, List.set_cons_succ, i64_w, i32_w]
        rfl
       exact norm_ (by simp only [putAll, Act.put, List.setIfInBounds_toArray, List.set_cons_zero, List.set_cons_succ]) (hCont (va, vb, vc) _ ⟨hd, hA, hC, hbdA⟩)
     ·skip
      skip
      refine Kd.R_lit_step (Kd.int .i64) _ 2 ?hg (N := 39) ?hd (xs := ([n] : List Int)) (inner := [I q n]) (ok := fun _ => True) (okp := fun _ => True) ?hr ?hp (fun _ hk => hk) trivial (Below.refl _ _) (Nat.le_refl _) (by simp) ?_; (case hd => rfl); (case hg => rfl); (case hr => first | (go_simp; done) | (go_simp; rfl)); (case hp => exact (Reps.one (show Kd.M (Kd.int .i64) _ _ _ n [I q n] from rfl) (Reps.none _ _)))
      intro vc wc hoC hbC hgC_ hn_
      rw [← hyc.out] at hoC
      have hbdC := Dl.bound_new (v := vc) hn_ hd.size
      have hC := rw1 hoC (Nat.le_trans hbs hd.size)
      replace hd := hd.trans (hbC.mono hd.size)
      clear hoC hbC hgC_ hn_ hHeld
      refine hK.out _ _ (HS_ _ hd) (fun hHeld => ?_)
      clear hK K
      refine norm_ (a' := ?_) ?_ ?_
      rotate_left
      ·show Act.put _ (some 39) _ = _
       simp only [Act.put, List.setIfInBounds_toArray, List.set_cons_zero, List.set_cons_succ, i64_w, i32_w]
       rfl
      refine one_ (i := 0) (N := some 33) (Mk 13 1903) rfl rfl (by kernel_rfl) (by decide) (fun K hK => ?_)
      refine Kd.R_lit_step (Kd.int .i64) _ 2 ?hg (N := 33) ?hd (xs := ([] : List (Int))) (inner := []) (ok := fun _ => True) (okp := fun _ => True) ?hr ?hp (fun _ hk => hk) trivial (Below.refl _ _) (Nat.le_refl _) (by simp) ?_; (case hd => rfl); (case hg => rfl); (case hr => first | (go_simp; done) | (go_simp; rfl)); (case hp => exact (Reps.none _ _))
      intro va wa hoA hbA hgA_ hn_
      have hbdA := Dl.bound_new (v := va) hn_ hd.size
      have hA := Kd.R_mono (rw1 (rn hoA (rl hC)) (Nat.le_trans hbs hd.size)) (ok' := fun k_ => some k_ ≠ vc.ownBlock) (fun _ h_ => h_.2)
      replace hC := Kd.R_mono (re hC (Kd.R_base hoA) hbA) (ok' := fun k_ => some k_ ≠ va.ownBlock) (fun _ h_ => h_.2)
      replace hd := hd.trans (hbA.mono hd.size)
      clear hoA hbA hgA_ hn_ hHeld
      refine hK.out _ _ (HS_ _ hd) (fun hHeld => ?_)
      clear hK K
      refine norm_ (a' := ?_) ?_ ?_
      rotate_left
      ·show Act.put _ (some 33) _ = _
       simp only [Act.put, List.setIfInBounds_toArray, List.set_cons_zero, List.set_cons_succ, i64_w, i32_w]
       rfl
      refine one_ (i := 4) (N := some 37) (Mk 13 1919) rfl rfl (by kernel_rfl) (by decide) (fun K hK => ?_)
      refine Kd.R_append_rows_step (Kd.int .i64) (w0 := wr) (wr.heap.size) (by rfl) (.tmp 33) (.tmp 36) 62 2 (I q 0) 8 rfl Try.underlying62 info2 rfl (by decide) (by omega) va [] (l.take kk) _ _ _ (fun k_ => some k_ ≠ (vc : Value).ownBlock) (fun _ => False) rfl rfl ?aO ?aR (fun _ _ h => h) (fun _ h => h.elim) ?aF ?aB ?aS ?aL ?_
      (case aR => exact Dl.C_len hlt_ (Kd.C_below hCt hd))
      (case aB => exact hd.mono hbs)
      (case aF => exact (fun k_ hk => Kd.fresh' (rl hC) k_ hk))
      (case aO => exact hA)
      (case aS => exact Nat.le_trans hbs hd.size)
      (case aL => simp only [List.length_nil]; omega)
      intro vb wb hoB hbB_ hgB hatB
      have hbdB := Dl.bound_at hbdA hd.size hatB
      replace hC := Kd.R_mono (Kd.R_after (ok := (fun _ => True)) (Kd.R_mono hC (fun _ hk => ⟨trivial, hk⟩)) hgB hatB) (ok' := fun k_ => some k_ ≠ vb.ownBlock) (fun _ h_ => h_.2)
      replace hd := hd.grown hgB hd.size hbdA
      clear hbB_ hgB hatB hHeld hA hbdA
      have hA := hoB
      have hbdA := hbdB
      clear hoB hbdB
      refine hK.out _ _ (HS_ _ hd) (fun hHeld => ?_)
      clear hK K
      refine norm_ (a' := ?_) ?_ ?_
      rotate_left
      ·show Act.put _ (some 37) _ = _
       simp only [Act.put, List.setIfInBounds_toArray, List.set_cons_zero, List.set_cons_succ, i64_w, i32_w]
       rfl
      exact norm_ (by simp only [putAll, Act.put, List.setIfInBounds_toArray, List.set_cons_zero, List.set_cons_succ]) (hCont (va, vb, vc) _ ⟨hd, hA, hC, hbdA⟩)
    clear hHeld hd
    rintro ⟨v0_, va, vc⟩ wj ⟨hd, hA, hC, hbdA⟩
    have hHeld := HS_ _ hd
    obtain ⟨Ac_, cc_, ec_⟩ := Kd.R_slice hC
    subst ec_
    refine norm_ (a' := ?_) ?_ ?_
    rotate_left
    ·simp only [putAll, Act.put, List.setIfInBounds_toArray, List.set_cons_zero, List.set_cons_succ]
     rfl
    refine one_ (i := 7) (N := some 40) (Mk 13 2047) rfl rfl (by kernel_rfl) (by decide) (fun K hK => ?_)
    refine Kd.R_append_rows_step (Kd.int .i64) (w0 := wr) (wr.heap.size) (by rfl) (.tmp 37) (.tmp 39) 62 2 (I q 0) 8 rfl Try.underlying62 info2 rfl (by decide) (by omega) va ([] ++ (l.take kk)) yc _ _ _ (fun k_ => some k_ ≠ (J Ac_ yc.length cc_ : Value).ownBlock) (fun _ => False) rfl rfl ?aO ?aR (fun _ _ h => h) (fun _ h => h.elim) ?aF ?aB ?aS ?aL ?_
    (case aR => exact (Kd.R_reads' hC).2.2)
    (case aB => exact hd.mono hbs)
    (case aF => exact (fun k_ hk => Kd.fresh' (rl hC) k_ hk))
    (case aO => exact hA)
    (case aS => exact Nat.le_trans hbs hd.size)
    (case aL => have := hycl; simp only [List.nil_append]; omega)
    intro vb wb hoB hbB_ hgB hatB
    have hbdB := Dl.bound_at hbdA hd.size hatB
    replace hC := Kd.R_mono (Kd.R_after (ok := (fun _ => True)) (Kd.R_mono hC (fun _ hk => ⟨trivial, hk⟩)) hgB hatB) (ok' := fun k_ => some k_ ≠ vb.ownBlock) (fun _ h_ => h_.2)
    replace hd := hd.grown hgB hd.size hbdA
    clear hbB_ hgB hatB hHeld hA hbdA
    have hA := hoB
    have hbdA := hbdB
    clear hoB hbdB
    refine hK.out _ _ (HS_ _ hd) (fun hHeld => ?_)
    clear hK K
    refine norm_ (a' := ?_) ?_ ?_
    rotate_left
    ·show Act.put _ (some 40) _ = _
     simp only [Act.put, List.setIfInBounds_toArray, List.set_cons_zero, List.set_cons_succ, i64_w, i32_w]
     rfl
    replace hA := Kd.R_mono hA (ok' := fun _ => True) (fun _ _ => trivial)
    refine one_ (i := 11) (N := some 44) (Mk 13 4095) rfl rfl (by kernel_rfl) (by decide) (fun K hK => ?_)
    refine Kd.R_append_rows_step (Kd.int .i64) (w0 := wr) (wr.heap.size) (by rfl) (.tmp 40) (.tmp 43) 62 2 (I q 0) 8 rfl Try.underlying62 info2 rfl (by decide) (by omega) vb ([] ++ (l.take kk) ++ yc) (l.drop kk) _ _ _ (fun _ => True) (fun _ => False) rfl rfl ?aO ?aR (fun _ _ h => h) (fun _ h => h.elim) ?aF ?aB ?aS ?aL ?_
    (case aR => exact Dl.C_len hld_ (Kd.C_below hCd hd))
    (case aB => exact hd.mono hbs)
    (case aF => exact (fun _ _ => trivial))
    (case aO => exact hA)
    (case aS => exact Nat.le_trans hbs hd.size)
    (case aL => have := hycl; simp only [List.nil_append, List.length_append]; omega)
    intro vb wb hoB hbB_ hgB hatB
    have hbdB := Dl.bound_at hbdA hd.size hatB
    replace hd := hd.grown hgB hd.size hbdA
    clear hbB_ hgB hatB hHeld
    have hA := hoB
    have hbdA := hbdB
    clear hoB hbdB
    refine hK.out _ _ (HS_ _ hd) (fun hHeld => ?_)
    clear hK K
    refine norm_ (a' := ?_) ?_ ?_
    rotate_left
    ·show Act.put _ (some 44) _ = _
     simp only [Act.put, List.setIfInBounds_toArray, List.set_cons_zero, List.set_cons_succ, i64_w, i32_w]
     rfl
    refine pure_ (i := 12) (N := some 4) (v := ?_) (a' := ?_) (Mk 13 8191) rfl rfl (by kernel_rfl) (fun _ _ _ h => h) (Or.inl ⟨by rfl, ?_⟩) ?_ ?_
    rotate_left
    ·intro w'
     first | (go_simp; with_reducible rfl) | (go_simp; (try unfold Instr.field); go_simp; (try simp only [asAgg]); go_simp; with_reducible rfl)
    rotate_left
    ·simp only [Act.put, List.setIfInBounds_toArray, List.set_cons_zero, List.set_cons_succ, i64_w, i32_w]
     rfl
    refine done_ (by kernel_rfl) ?_
    go_wp2
    go_ret
    refine ⟨_, rfl, .inr ?_, hd⟩
    rw [HR.out, ← hyc.out]
    exact hA
 ·have hltz : ¬ (kk : Int) < (l.length : Int) := by omega
  have hrk := hrise (fun h => absurd h hlt)
  have HR : Aside0 (Dl.rise n l = [] ++ l.take kk ++ [n] ++ l.drop kk) := ⟨by unfold Dl.rise; rw [hrk, List.getElem?_eq_none (by omega), if_neg (by simp)]; simp⟩
  clear hrise hrk
  go_wp2
  have hbs : wr.heap.size ≤ wr.heap.size := Nat.le_refl _
  have hCt := Kd.C_take (m := kk) HN.out hkk
  obtain ⟨i0_, hi0_, _, hsz_, _⟩ := info_parts info2
  have hcut1 := cut_to (P := Try.prog) 62 2 .i64 Try.underlying62 hi0_ A l.length c (kk : Int) (by omega) (by omega) HC.out
  obtain ⟨A2_, hcut2, hCd⟩ := Dl.cutdrop (P := Try.prog) (Kd.int .i64) HN.out HC.out kk hkk 62 2 Try.underlying62 hi0_ hsz_
  simp only [Int.toNat_natCast] at hcut1
  have hlt_ : (l.take kk).length = kk := by rw [List.length_take]; omega
  have hld_ : (l.drop kk).length = l.length - kk := List.length_drop
  obtain ⟨yc, hyc_⟩ : ∃ y : List Int, y = [n] := ⟨_, rfl⟩
  have hyc := am hyc_
  have hycl : yc.length ≤ 1 := by rw [hyc_]; exact Nat.le_refl 1
  clear hyc_
  have HS_ : ∀ W, Below wr.heap.size wr W → (True) := fun W hW => trivial
  have hd : Below wr.heap.size wr wr.drew := p1 (Below.refl _ _)
  refine start_ (n := 13) (S := fun w' => True) (ds := []) (Mk 13 0) (by kernel_rfl) rfl rfl (HS_ _ hd) (fun hHeld => ?_)
  generalize wr.drew = wd at hd hHeld ⊢
  refine pure_ (i := 1) (N := some 34) (v := ?_) (a' := ?_) (Mk 13 2) rfl rfl (by kernel_rfl) (fun _ _ _ h => h) (Or.inl ⟨by rfl, ?_⟩) ?_ ?_
  rotate_left
  ·intro w'
   first | (go_simp; with_reducible rfl) | (go_simp; (try unfold Instr.field); go_simp; (try simp only [asAgg]); go_simp; with_reducible rfl)
  rotate_left
  ·simp only [Act.put, List.setIfInBounds_toArray, List.set_cons_zero, List.set_cons_succ, i64_w, i32_w]
   rfl
  refine pure_ (i := 2) (N := some 35) (v := ?_) (a' := ?_) (Mk 13 6) rfl rfl (by kernel_rfl) (fun _ _ _ h => h) (Or.inl ⟨by rfl, ?_⟩) ?_ ?_
  rotate_left
  ·intro w'
   first | (go_simp; with_reducible rfl) | (go_simp; (try unfold Instr.field); go_simp; (try simp only [asAgg]); go_simp; with_reducible rfl)
  rotate_left
  ·simp only [Act.put, List.setIfInBounds_toArray, List.set_cons_zero, List.set_cons_succ, i64_w, i32_w]
   rfl
  refine pure_ (i := 3) (N := some 36) (v := ?_) (a' := ?_) (Mk 13 14) rfl rfl (by kernel_rfl) (fun _ _ _ h => h) (Or.inl ⟨by rfl, ?_⟩) ?_ ?_
  rotate_left
  ·intro w'
   first | (go_simp; with_reducible rfl) | (go_simp; (try unfold Instr.field); go_simp; (try simp only [asAgg]); go_simp; with_reducible rfl)
  rotate_left
  ·simp only [Act.put, List.setIfInBounds_toArray, List.set_cons_zero, List.set_cons_succ, i64_w, i32_w]
   rfl
  refine pure_ (i := 5) (N := some 38) (v := ?_) (a' := ?_) (Mk 13 46) rfl rfl (by kernel_rfl) (fun _ _ _ h => h) (Or.inl ⟨by rfl, ?_⟩) ?_ ?_
  rotate_left
  ·intro w'
   first | (go_simp; with_reducible rfl) | (go_simp; (try unfold Instr.field); go_simp; (try simp only [asAgg]); go_simp; with_reducible rfl)
  rotate_left
  ·simp only [Act.put, List.setIfInBounds_toArray, List.set_cons_zero, List.set_cons_succ, i64_w, i32_w]
   rfl
  refine pure_ (i := 8) (N := some 41) (v := ?_) (a' := ?_) (Mk 13 302) rfl rfl (by kernel_rfl) (fun _ _ _ h => h) (Or.inl ⟨by rfl, ?_⟩) ?_ ?_
  rotate_left
  ·intro w'
   first | (go_simp; with_reducible rfl) | (go_simp; (try unfold Instr.field); go_simp; (try simp only [asAgg]); go_simp; with_reducible rfl)
  rotate_left
  ·simp only [Act.put, List.setIfInBounds_toArray, List.set_cons_zero, List.set_cons_succ, i64_w, i32_w]
   rfl
  refine pure_ (i := 9) (N := some 42) (v := ?_) (a' := ?_) (Mk 13 814) rfl rfl (by kernel_rfl) (fun _ _ _ h => h) (Or.inl ⟨by rfl, ?_⟩) ?_ ?_
  rotate_left
  ·intro w'
   first | (go_simp; with_reducible rfl) | (go_simp; (try unfold Instr.field); go_simp; (try simp only [asAgg]); go_simp; with_reducible rfl)
  rotate_left
  ·simp only [Act.put, List.setIfInBounds_toArray, List.set_cons_zero, List.set_cons_succ, i64_w, i32_w]
   rfl
  refine pure_ (i := 10) (N := some 43) (v := ?_) (a' := ?_) (Mk 13 1838) rfl rfl (by kernel_rfl) (fun _ _ _ h => h) (Or.inl ⟨by rfl, ?_⟩) ?_ ?_
  rotate_left
  ·intro w'
   first | (go_simp; with_reducible rfl) | (go_simp; (try unfold Instr.field); go_simp; (try simp only [asAgg]); go_simp; with_reducible rfl)
  rotate_left
  ·simp only [Act.put, List.setIfInBounds_toArray, List.set_cons_zero, List.set_cons_succ, i64_w, i32_w]
   rfl
  refine join_ (σ := Value × Value × Value) 3 (Mk 13 1919) (fun s_ => [(33, s_.1), (37, s_.2.1), (39, s_.2.2)]) (fun s_ w' => Below wr.heap.size wr w' ∧ Kd.R (Kd.int .i64) 2 w' (wr.heap.size) (fun k_ => some k_ ≠ s_.2.2.ownBlock) s_.2.1 ([] ++ (l.take kk)) ∧ Kd.R (Kd.int .i64) 2 w' (wr.heap.size) (fun k_ => some k_ ≠ s_.2.1.ownBlock) s_.2.2 yc ∧ (∀ k_, s_.2.1.ownBlock = some k_ → wr.heap.size ≤ k_)) ?_ ?_
  rotate_left
  ·intro hCont
   refine two_ (i := 0) (j := 6) (Ni := some 33) (Nj := some 39) (Mk 13 1839) (Mk 13 1902) rfl rfl rfl rfl (by kernel_rfl) (by decide) (by decide) (fun K hK => ?_) (fun K hK => ?_)
   ·skip
    skip
    refine Kd.R_lit_step (Kd.int .i64) _ 2 ?hg (N := 33) ?hd (xs := ([] : List (Int))) (inner := []) (ok := fun _ => True) (okp := fun _ => True) ?hr ?hp (fun _ hk => hk) trivial (Below.refl _ _) (Nat.le_refl _) (by simp) ?_; (case hd => rfl); (case hg => rfl); (case hr => first | (go_simp; done) | (go_simp; rfl)); (case hp => exact (Reps.none _ _))
    intro va wa hoA hbA hgA_ hn_
    have hbdA := Dl.bound_new (v := va) hn_ hd.size
    have hA := rw1 hoA (Nat.le_trans hbs hd.size)
    replace hd := hd.trans (hbA.mono hd.size)
    clear hoA hbA hgA_ hn_ hHeld
    refine hK.out _ _ (HS_ _ hd) (fun hHeld => ?_)
    clear hK K
    refine norm_ (a' := ?_) ?_ ?_
    rotate_left
    ·show Act.put _ (some 33) _ = _
     simp only [Act.put, List.setIfInBounds_toArray, List.set_cons_zero, List.set_cons_succ, i64_w, i32_w]
     rfl
    refine two_ (i := 4) (j := 6) (Ni := some 37) (Nj := some 39) (Mk 13 1855) (Mk 13 1903) rfl rfl rfl rfl (by kernel_rfl) (by decide) (by decide) (fun K hK => ?_) (fun K hK => ?_)
    ·skip
     skip
     refine Kd.R_append_rows_step (Kd.int .i64) (w0 := wr) (wr.heap.size) (by rfl) (.tmp 33) (.tmp 36) 62 2 (I q 0) 8 rfl Try.underlying62 info2 rfl (by decide) (by omega) va [] (l.take kk) _ _ _ (fun _ => True) (fun _ => False) rfl rfl ?aO ?aR (fun _ _ h => h) (fun _ h => h.elim) ?aF ?aB ?aS ?aL ?_
     (case aR => exact Dl.C_len hlt_ (Kd.C_below hCt hd))
     (case aB => exact hd.mono hbs)
     (case aF => exact (fun _ _ => trivial))
     (case aO => exact hA)
     (case aS => exact Nat.le_trans hbs hd.size)
     (case aL => simp only [List.length_nil]; omega)
     intro vb wb hoB hbB_ hgB hatB
     have hbdB := Dl.bound_at hbdA hd.size hatB
     replace hd := hd.grown hgB hd.size hbdA
     clear hbB_ hgB hatB hHeld hA hbdA
     have hA := hoB
     have hbdA := hbdB
     clear hoB hbdB
     refine hK.out _ _ (HS_ _ hd) (fun hHeld => ?_)
     clear hK K
     refine norm_ (a' := ?_) ?_ ?_
     rotate_left
     ·show Act.put _ (some 37) _ = _
      simp only [Act.put, List.setIfInBounds_toArray, List.set_cons_zero, List.set_cons_succ, i64_w, i32_w]
      rfl
     refine one_ (i := 6) (N := some 39) (Mk 13 1919) rfl rfl (by kernel_rfl) (by decide) (fun K hK => ?_)
     refine Kd.R_lit_step (Kd.int .i64) _ 2 ?hg (N := 39) ?hd (xs := ([n] : List Int)) (inner := [I q n]) (ok := fun _ => True) (okp := fun _ => True) ?hr ?hp (fun _ hk => hk) trivial (Below.refl _ _) (Nat.le_refl _) (by simp) ?_; (case hd => rfl); (case hg => rfl); (case hr => first | (go_simp; done) | (go_simp; rfl)); (case hp => exact (Reps.one (show Kd.M (Kd.int .i64) _ _ _ n [I q n] from rfl) (Reps.none _ _)))
     intro vc wc hoC hbC hgC_ hn_
     rw [← hyc.out] at hoC
     have hbdC := Dl.bound_new (v := vc) hn_ hd.size
     have hC := Kd.R_mono (rw1 (rn hoC (rl hA)) (Nat.le_trans hbs hd.size)) (ok' := fun k_ => some k_ ≠ vb.ownBlock) (fun _ h_ => h_.2)
     replace hA := Kd.R_mono (re hA (Kd.R_base hoC) hbC) (ok' := fun k_ => some k_ ≠ vc.ownBlock) (fun _ h_ => h_.2)
     replace hd := hd.trans (hbC.mono hd.size)
     clear hoC hbC hgC_ hn_ hHeld
     refine hK.out _ _ (HS_ _ hd) (fun hHeld => ?_)
     clear hK K
     refine norm_ (a' := ?_) ?_ ?_
     rotate_left
     ·show Act.put _ (some 39) _ = _
      simp only [Act.put, List.setIfInBounds_toArray, List.set_cons_zero, List.set_cons_succ, i64_w, i32_w]
      rfl
     exact norm_ (by simp only [putAll, Act.put, List.setIfInBounds_toArray, List.set_cons_zero, List.set_cons_succ]) (hCont (va, vb, vc) _ ⟨hd, hA, hC, hbdA⟩)
    ·skip
     skip
     refine Kd.R_lit_step (Kd.int .i64) _ 2 ?hg (N := 39) ?hd (xs := ([n] : List Int)) (inner := [I q n]) (ok := fun _ => True) (okp := fun _ => True) ?hr ?hp (fun _ hk => hk) trivial (Below.refl _ _) (Nat.le_refl _) (by simp) ?_; (case hd => rfl); (case hg => rfl); (case hr => first | (go_simp; done) | (go_simp; rfl)); (case hp => exact (Reps.one (show Kd.M (Kd.int .i64) _ _ _ n [I q n] from rfl) (Reps.none _ _)))
     intro vc wc hoC hbC hgC_ hn_
     rw [← hyc.out] at hoC
     have hbdC := Dl.bound_new (v := vc) hn_ hd.size
     have hC := Kd.R_mono (rw1 (rn hoC (rl hA)) (Nat.le_trans hbs hd.size)) (ok' := fun k_ => some k_ ≠ va.ownBlock) (fun _ h_ => h_.2)
     replace hA := Kd.R_mono (re hA (Kd.R_base hoC) hbC) (ok' := fun k_ => some k_ ≠ vc.ownBlock) (fun _ h_ => h_.2)
     replace hd := hd.trans (hbC.mono hd.size)
     clear hoC hbC hgC_ hn_ hHeld
     refine hK.out _ _ (HS_ _ hd) (fun hHeld => ?_)
     clear hK K
     refine norm_ (a' := ?_) ?_ ?_
     rotate_left
     ·show Act.put _ (some 39) _ = _
      simp only [Act.put, List.setIfInBounds_toArray, List.set_cons_zero, List.set_cons_succ, i64_w, i32_w]
      rfl
     refine one_ (i := 4) (N := some 37) (Mk 13 1919) rfl rfl (by kernel_rfl) (by decide) (fun K hK => ?_)
     refine Kd.R_append_rows_step (Kd.int .i64) (w0 := wr) (wr.heap.size) (by rfl) (.tmp 33) (.tmp 36) 62 2 (I q 0) 8 rfl Try.underlying62 info2 rfl (by decide) (by omega) va [] (l.take kk) _ _ _ (fun k_ => some k_ ≠ (vc : Value).ownBlock) (fun _ => False) rfl rfl ?aO ?aR (fun _ _ h => h) (fun _ h => h.elim) ?aF ?aB ?aS ?aL ?_
     (case aR => exact Dl.C_len hlt_ (Kd.C_below hCt hd))
     (case aB => exact hd.mono hbs)
     (case aF => exact (fun k_ hk => Kd.fresh' (rl hC) k_ hk))
     (case aO => exact hA)
     (case aS => exact Nat.le_trans hbs hd.size)
     (case aL => simp only [List.length_nil]; omega)
     intro vb wb hoB hbB_ hgB hatB
     have hbdB := Dl.bound_at hbdA hd.size hatB
     replace hC := Kd.R_mono (Kd.R_after (ok := (fun _ => True)) (Kd.R_mono hC (fun _ hk => ⟨trivial, hk⟩)) hgB hatB) (ok' := fun k_ => some k_ ≠ vb.ownBlock) (fun _ h_ => h_.2)
     replace hd := hd.grown hgB hd.size hbdA
     clear hbB_ hgB hatB hHeld hA hbdA
     have hA := hoB
     have hbdA := hbdB
     clear hoB hbdB
     refine hK.out _ _ (HS_ _ hd) (fun hHeld => ?_)
     clear hK K
     refine norm_ (a' := ?_) ?_ ?_
     rotate_left
     ·show Act.put _ (some 37) _ = _
      simp only [Act.put, List.setIfInBounds_toArray, List.set_cons_zero, List.set_cons_succ, i64_w, i32_w]
      rfl
     exact norm_ (by simp only [putAll, Act.put, List.setIfInBounds_toArray, List.set_cons_zero, List.set_cons_succ]) (hCont (va, vb, vc) _ ⟨hd, hA, hC, hbdA⟩)
   ·skip
    skip
    refine Kd.R_lit_step (Kd.int .i64) _ 2 ?hg (N := 39) ?hd (xs := ([n] : List Int)) (inner := [I q n]) (ok := fun _ => True) (okp := fun _ => True) ?hr ?hp (fun _ hk => hk) trivial (Below.refl _ _) (Nat.le_refl _) (by simp) ?_; (case hd => rfl); (case hg => rfl); (case hr => first | (go_simp; done) | (go_simp; rfl)); (case hp => exact (Reps.one (show Kd.M (Kd.int .i64) _ _ _ n [I q n] from rfl) (Reps.none _ _)))
    intro vc wc hoC hbC hgC_ hn_
    rw [← hyc.out] at hoC
    have hbdC := Dl.bound_new (v := vc) hn_ hd.size
    have hC := rw1 hoC (Nat.le_trans hbs hd.size)
    replace hd := hd.trans (hbC.mono hd.size)
    clear hoC hbC hgC_ hn_ hHeld
    refine hK.out _ _ (HS_ _ hd) (fun hHeld => ?_)
    clear hK K
    refine norm_ (a' := ?_) ?_ ?_
    rotate_left
    ·show Act.put _ (some 39) _ = _
     simp only [Act.put, List.setIfInBounds_toArray, List.set_cons_zero, List.set_cons_succ, i64_w, i32_w]
     rfl
    refine one_ (i := 0) (N := some 33) (Mk 13 1903) rfl rfl (by kernel_rfl) (by decide) (fun K hK => ?_)
    refine Kd.R_lit_step (Kd.int .i64) _ 2 ?hg (N := 33) ?hd (xs := ([] : List (Int))) (inner := []) (ok := fun _ => True) (okp := fun _ => True) ?hr ?hp (fun _ hk => hk) trivial (Below.refl _ _) (Nat.le_refl _) (by simp) ?_; (case hd => rfl); (case hg => rfl); (case hr => first | (go_simp; done) | (go_simp; rfl)); (case hp => exact (Reps.none _ _))
    intro va wa hoA hbA hgA_ hn_
    have hbdA := Dl.bound_new (v := va) hn_ hd.size
    have hA := Kd.R_mono (rw1 (rn hoA (rl hC)) (Nat.le_trans hbs hd.size)) (ok' := fun k_ => some k_ ≠ vc.ownBlock) (fun _ h_ => h_.2)
    replace hC := Kd.R_mono (re hC (Kd.R_base hoA) hbA) (ok' := fun k_ => some k_ ≠ va.ownBlock) (fun _ h_ => h_.2)
    replace hd := hd.trans (hbA.mono hd.size)
    clear hoA hbA hgA_ hn_ hHeld
    refine hK.out _ _ (HS_ _ hd) (fun hHeld => ?_)
    clear hK K
    refine norm_ (a' := ?_) ?_ ?_
    rotate_left
    ·show Act.put _ (some 33) _ = _
     simp only [Act.put, List.setIfInBounds_toArray, List.set_cons_zero, List.set_cons_succ, i64_w, i32_w]
     rfl
    refine one_ (i := 4) (N := some 37) (Mk 13 1919) rfl rfl (by kernel_rfl) (by decide) (fun K hK => ?_)
    refine Kd.R_append_rows_step (Kd.int .i64) (w0 := wr) (wr.heap.size) (by rfl) (.tmp 33) (.tmp 36) 62 2 (I q 0) 8 rfl Try.underlying62 info2 rfl (by decide) (by omega) va [] (l.take kk) _ _ _ (fun k_ => some k_ ≠ (vc : Value).ownBlock) (fun _ => False) rfl rfl ?aO ?aR (fun _ _ h => h) (fun _ h => h.elim) ?aF ?aB ?aS ?aL ?_
    (case aR => exact Dl.C_len hlt_ (Kd.C_below hCt hd))
    (case aB => exact hd.mono hbs)
    (case aF => exact (fun k_ hk => Kd.fresh' (rl hC) k_ hk))
    (case aO => exact hA)
    (case aS => exact Nat.le_trans hbs hd.size)
    (case aL => simp only [List.length_nil]; omega)
    intro vb wb hoB hbB_ hgB hatB
    have hbdB := Dl.bound_at hbdA hd.size hatB
    replace hC := Kd.R_mono (Kd.R_after (ok := (fun _ => True)) (Kd.R_mono hC (fun _ hk => ⟨trivial, hk⟩)) hgB hatB) (ok' := fun k_ => some k_ ≠ vb.ownBlock) (fun _ h_ => h_.2)
    replace hd := hd.grown hgB hd.size hbdA
    clear hbB_ hgB hatB hHeld hA hbdA
    have hA := hoB
    have hbdA := hbdB
    clear hoB hbdB
    refine hK.out _ _ (HS_ _ hd) (fun hHeld => ?_)
    clear hK K
    refine norm_ (a' := ?_) ?_ ?_
    rotate_left
    ·show Act.put _ (some 37) _ = _
     simp only [Act.put, List.setIfInBounds_toArray, List.set_cons_zero, List.set_cons_succ, i64_w, i32_w]
     rfl
    exact norm_ (by simp only [putAll, Act.put, List.setIfInBounds_toArray, List.set_cons_zero, List.set_cons_succ]) (hCont (va, vb, vc) _ ⟨hd, hA, hC, hbdA⟩)
  clear hHeld hd
  rintro ⟨v0_, va, vc⟩ wj ⟨hd, hA, hC, hbdA⟩
  have hHeld := HS_ _ hd
  obtain ⟨Ac_, cc_, ec_⟩ := Kd.R_slice hC
  subst ec_
  refine norm_ (a' := ?_) ?_ ?_
  rotate_left
  ·simp only [putAll, Act.put, List.setIfInBounds_toArray, List.set_cons_zero, List.set_cons_succ]
   rfl
  refine one_ (i := 7) (N := some 40) (Mk 13 2047) rfl rfl (by kernel_rfl) (by decide) (fun K hK => ?_)
  refine Kd.R_append_rows_step (Kd.int .i64) (w0 := wr) (wr.heap.size) (by rfl) (.tmp 37) (.tmp 39) 62 2 (I q 0) 8 rfl Try.underlying62 info2 rfl (by decide) (by omega) va ([] ++ (l.take kk)) yc _ _ _ (fun k_ => some k_ ≠ (J Ac_ yc.length cc_ : Value).ownBlock) (fun _ => False) rfl rfl ?aO ?aR (fun _ _ h => h) (fun _ h => h.elim) ?aF ?aB ?aS ?aL ?_
  (case aR => exact (Kd.R_reads' hC).2.2)
  (case aB => exact hd.mono hbs)
  (case aF => exact (fun k_ hk => Kd.fresh' (rl hC) k_ hk))
  (case aO => exact hA)
  (case aS => exact Nat.le_trans hbs hd.size)
  (case aL => have := hycl; simp only [List.nil_append]; omega)
  intro vb wb hoB hbB_ hgB hatB
  have hbdB := Dl.bound_at hbdA hd.size hatB
  replace hC := Kd.R_mono (Kd.R_after (ok := (fun _ => True)) (Kd.R_mono hC (fun _ hk => ⟨trivial, hk⟩)) hgB hatB) (ok' := fun k_ => some k_ ≠ vb.ownBlock) (fun _ h_ => h_.2)
  replace hd := hd.grown hgB hd.size hbdA
  clear hbB_ hgB hatB hHeld hA hbdA
  have hA := hoB
  have hbdA := hbdB
  clear hoB hbdB
  refine hK.out _ _ (HS_ _ hd) (fun hHeld => ?_)
  clear hK K
  refine norm_ (a' := ?_) ?_ ?_
  rotate_left
  ·show Act.put _ (some 40) _ = _
   simp only [Act.put, List.setIfInBounds_toArray, List.set_cons_zero, List.set_cons_succ, i64_w, i32_w]
   rfl
  replace hA := Kd.R_mono hA (ok' := fun _ => True) (fun _ _ => trivial)
  refine one_ (i := 11) (N := some 44) (Mk 13 4095) rfl rfl (by kernel_rfl) (by decide) (fun K hK => ?_)
  refine Kd.R_append_rows_step (Kd.int .i64) (w0 := wr) (wr.heap.size) (by rfl) (.tmp 40) (.tmp 43) 62 2 (I q 0) 8 rfl Try.underlying62 info2 rfl (by decide) (by omega) vb ([] ++ (l.take kk) ++ yc) (l.drop kk) _ _ _ (fun _ => True) (fun _ => False) rfl rfl ?aO ?aR (fun _ _ h => h) (fun _ h => h.elim) ?aF ?aB ?aS ?aL ?_
  (case aR => exact Dl.C_len hld_ (Kd.C_below hCd hd))
  (case aB => exact hd.mono hbs)
  (case aF => exact (fun _ _ => trivial))
  (case aO => exact hA)
  (case aS => exact Nat.le_trans hbs hd.size)
  (case aL => have := hycl; simp only [List.nil_append, List.length_append]; omega)
  intro vb wb hoB hbB_ hgB hatB
  have hbdB := Dl.bound_at hbdA hd.size hatB
  replace hd := hd.grown hgB hd.size hbdA
  clear hbB_ hgB hatB hHeld
  have hA := hoB
  have hbdA := hbdB
  clear hoB hbdB
  refine hK.out _ _ (HS_ _ hd) (fun hHeld => ?_)
  clear hK K
  refine norm_ (a' := ?_) ?_ ?_
  rotate_left
  ·show Act.put _ (some 44) _ = _
   simp only [Act.put, List.setIfInBounds_toArray, List.set_cons_zero, List.set_cons_succ, i64_w, i32_w]
   rfl
  refine pure_ (i := 12) (N := some 4) (v := ?_) (a' := ?_) (Mk 13 8191) rfl rfl (by kernel_rfl) (fun _ _ _ h => h) (Or.inl ⟨by rfl, ?_⟩) ?_ ?_
  rotate_left
  ·intro w'
   first | (go_simp; with_reducible rfl) | (go_simp; (try unfold Instr.field); go_simp; (try simp only [asAgg]); go_simp; with_reducible rfl)
  rotate_left
  ·simp only [Act.put, List.setIfInBounds_toArray, List.set_cons_zero, List.set_cons_succ, i64_w, i32_w]
   rfl
  refine done_ (by kernel_rfl) ?_
  go_wp2
  go_ret
  refine ⟨_, rfl, .inr ?_, hd⟩
  rw [HR.out, ← hyc.out]
  exact hA
/-! #### what the draws of configurations stand on: walks by hand -/
namespace Dr
theorem up {w0 w w' : World} (h : Below w0.heap.size w0 w) (h' : Below w.heap.size w w') : Below w0.heap.size w0 w' := h.trans (h'.mono h.size)
theorem has_l0 (l : List Int) (a : Int) (hn : l.length ≤ 9223372036854775807) : ∀ (d k i : Nat), i + d = l.length → d < k → ∃ b, spec_l1Has.l0 k l a (i : Int) = some b
 | 0, k, i, hi, hk => by
  obtain ⟨k, rfl⟩ : ∃ j, k = j + 1 := ⟨k - 1, by omega⟩
  simp only [spec_l1Has.l0]
  rw [if_neg (by omega)]
  exact ⟨_, rfl⟩
 | d + 1, k, i, hi, hk => by
  obtain ⟨k, rfl⟩ : ∃ j, k = j + 1 := ⟨k - 1, by omega⟩
  simp only [spec_l1Has.l0]
  rw [if_pos (by omega), if_pos (by omega)]
  split
  ·exact ⟨_, rfl⟩
  ·rw [show wrap64 ((i : Int) + 1) = ((i + 1 : Nat) : Int) by unfold wrap64; omega]
   exact has_l0 l a hn d k (i + 1) (by omega) (by omega)
theorem has_tot (l : List Int) (a : Int) (hn : l.length ≤ 9223372036854775807) : ∃ b, spec_l1Has.f (l.length + 1) l a = some b := by
 unfold spec_l1Has.f
 exact has_l0 l a hn l.length _ 0 (by omega) (by omega)
theorem has (A : Option Addr) (c : Nat) (l : List Int) (a : Int) (w : World) (hr : Kd.C (Kd.int .i64) w A l.length l) (hc : l.length ≤ c) : ∃ b, Calls Try.prog 159 #[J A l.length c, I q a] w fun e w' => e = .returned (.bool b) ∧ Below w.heap.size w w' := by
 have hn : l.length ≤ 9223372036854775807 := by have := hr.2.1; have hs : (Kd.int .i64).sz = 1 := rfl; (try simp only [maxLen] at this); (try rw [hs] at this); omega
 obtain ⟨b, hb⟩ := has_tot l a hn
 exact ⟨b, (spec_l1Has.calls _ A c l a b w hr hc hb).mono (fun _ _ h => ⟨h.1, h.2.below⟩)⟩
theorem big64 {w : World} {A : Option Addr} {l : List S64} (hr : Kd.C k64 w A l.length l) : l.length ≤ 9223372036854775807 := by
 have := hr.2.1; have hs : (k64).sz = 4 := rfl; (try simp only [maxLen] at this); (try rw [hs] at this); omega
theorem bigI {w : World} {A : Option Addr} {l : List Int} (hr : Kd.C (Kd.int .i64) w A l.length l) : l.length ≤ 9223372036854775807 := by
 have := hr.2.1; have hs : (Kd.int .i64).sz = 1 := rfl; (try simp only [maxLen] at this); (try rw [hs] at this); omega
end Dr
set_option maxHeartbeats 2000000 in
/-- Has a vip a name? -/
theorem spec_l5Serves.cf (g : Nat) (A1 : Option Addr) (n1 c1 : Nat) (A2 : Option Addr) (c2 : Nat) (l2 : List S64) (v name : Int) (w : World) (hb : w.heap[g]? = some (.cells #[I q v, J A1 n1 c1, J A2 l2.length c2] 31 (0, 0))) (hr2 : Kd.C k64 w A2 l2.length l2) :
  Calls Try.prog 160 #[.pointer (some ⟨g, 0, none⟩), I q name] w fun e w' => (∃ b, e = .returned (.bool b)) ∧ Below w.heap.size w w' := by
 have hbig := Dr.big64 hr2
 go_enter Try.func160, Try.ntmps160
 go_wp2
 go_loopg [5] l2.length (fun gg s5 wr => ∃ kk : Nat, kk ≤ l2.length ∧ l2.length - kk ≤ gg ∧ s5 = I q kk ∧ Aside (Below w.heap.size w wr))
 case atStart => exact ⟨0, Nat.zero_le _, by omega, rfl, Below.refl _ w⟩
 case round =>
  obtain ⟨kk, hkk, hg, rfl, BW⟩ := hrel
  have bk := bb hb BW.out
  have hz2 : wr.cell? ⟨g, 2, none⟩ = some (J A2 l2.length c2) := bc bk 2
  clear bk
  by_cases hlt : kk < l2.length
  ·have hltz : (kk : Int) < (l2.length : Int) := by omega
   obtain ⟨ad, A3, c3, eA, hx_0, hx_1, hx_2, hx_3, hl3, hC3⟩ := at_T64 (Kd.C_below hr2 BW.out) (kk : Int) (by omega) hltz
   cases eA
   generalize rd_T64 l2 (kk : Int) = y at hx_0 hx_1 hx_2 hx_3 hl3 hC3
   simp only [Int.toNat_natCast] at hx_0 hx_1 hx_2 hx_3
   obtain ⟨b, hcall⟩ := Dr.has A3 c3 y.f3 name wr hC3 hl3
   have hy3 := Dr.bigI hC3
   cases b with
   | true =>
    go_wp2_with (go_at_call 159; refine hcall.mono ?_; rintro e w2 ⟨rfl, hb2⟩)
    go_ret
    exact ⟨⟨_, rfl⟩, Dr.up BW.out hb2⟩
   | false =>
    go_wp2_with (go_at_call 159; refine hcall.mono ?_; rintro e w2 ⟨rfl, hb2⟩)
    go_roundg (l2.length - (kk + 1))
    case measure => omega
    case rel => exact ⟨kk + 1, by omega, by omega, by go_num, Dr.up BW.out hb2⟩
  ·have hltz : ¬ (kk : Int) < (l2.length : Int) := by omega
   go_wp2
   go_ret
   exact ⟨.inl rfl, BW.out⟩
set_option maxHeartbeats 4000000 in
/-- The place of a command's vip. -/
theorem spec_l5Find.cf (g : Nat) (A1 : Option Addr) (n1 c1 : Nat) (A2 : Option Addr) (c2 : Nat) (l2 : List S64) (v x0 x1 x2 x3 x4 x5 : Int) (w : World) (hb : w.heap[g]? = some (.cells #[I q v, J A1 n1 c1, J A2 l2.length c2] 31 (0, 0))) (hr2 : Kd.C k64 w A2 l2.length l2) :
  Calls Try.prog 158 #[.pointer (some ⟨g, 0, none⟩), .agg #[I q x0, I q x1, I q x2, I q x3, I q x4, I q x5]] w fun e w' => (∃ r : Int, e = .returned (I q r) ∧ r < (l2.length : Int)) ∧ Below w.heap.size w w' := by
 have hbig := Dr.big64 hr2
 have hu128 := Try.underlying128
 have hu64 := Try.underlying64
 obtain ⟨w1, hw1⟩ : ∃ W, W = w.alloc (.cells #[I q x0, I q x1, I q x2, I q x3, I q x4, I q x5] 128) := ⟨_, rfl⟩
 have hB1 : Below w.heap.size w w1 := by rw [hw1]; exact (Below.refl _ w).alloc (Nat.le_refl _) _
 have bx1 : w1.heap[w.heap.size]? = some (.cells #[I q x0, I q x1, I q x2, I q x3, I q x4, I q x5] 128 (0, 0)) := by rw [hw1]; exact blk_new w _
 have bg1 := bb hb hB1
 have hr21 := Kd.C_below hr2 hB1
 have DB := am hB1
 have DX := am bx1
 have DG := am bg1
 have DR := am hr21
 clear hB1 bx1 bg1 hr21 hb hr2
 go_enter Try.func158, Try.ntmps158
 go_wp2
 rw [← hw1]
 go_loopg [5] l2.length (fun gg s5 wr => ∃ kk : Nat, kk ≤ l2.length ∧ l2.length - kk ≤ gg ∧ s5 = I q kk ∧ Aside (Below w1.heap.size w1 wr))
 case atStart => exact ⟨0, Nat.zero_le _, by omega, rfl, Below.refl _ w1⟩
 case round =>
  obtain ⟨kk, hkk, hg, rfl, BW⟩ := hrel
  have bk := bb DG.out BW.out
  have bx := bb DX.out BW.out
  have hz2 : wr.cell? ⟨g, 2, none⟩ = some (J A2 l2.length c2) := bc bk 2
  by_cases hlt : kk < l2.length
  ·have hltz : (kk : Int) < (l2.length : Int) := by omega
   obtain ⟨ad, A3, c3, eA, hx_0, hx_1, hx_2, hx_3, hl3, hC3⟩ := at_T64 (Kd.C_below DR.out BW.out) (kk : Int) (by omega) hltz
   cases eA
   generalize rd_T64 l2 (kk : Int) = y at hx_0 hx_1 hx_2 hx_3 hl3 hC3
   simp only [Int.toNat_natCast] at hx_0 hx_1 hx_2 hx_3
   obtain ⟨W, hW⟩ : ∃ W, W = wr.alloc (.cells #[I q y.f0, I q y.f1, I q y.f2, J A3 y.f3.length c3] 64) := ⟨_, rfl⟩
   have hBW : Below wr.heap.size wr W := by rw [hW]; exact (Below.refl _ wr).alloc (Nat.le_refl _) _
   have by_ : W.heap[wr.heap.size]? = some (.cells #[I q y.f0, I q y.f1, I q y.f2, J A3 y.f3.length c3] 64 (0, 0)) := by rw [hW]; exact blk_new wr _
   have bxW := bb bx hBW
   rw [hW] at by_ bxW
   have q0 := bc by_ 0
   have q1 := bc by_ 1
   have q2 := bc by_ 2
   have p3 := bc bxW 3
   have p4 := bc bxW 4
   have p5 := bc bxW 5
   have DW := am hBW
   clear bk bx by_ bxW hBW hl3 hC3
   cases e0 : (y.f0 == x3) <;> cases e1 : (y.f1 == x4) <;> cases e2 : (y.f2 == x5)
   case true.true.true =>
    go_wp2
    go_ret
    exact ⟨⟨_, rfl, by omega⟩, by rw [← hW]; exact Dr.up DB.out (Dr.up BW.out DW.out)⟩
   all_goals
    go_wp2
    go_roundg (l2.length - (kk + 1))
    case measure => omega
    case rel => exact ⟨kk + 1, by omega, by omega, by go_num, (show Aside _ from by rw [← hW]; exact Dr.up BW.out DW.out)⟩
  ·have hltz : ¬ (kk : Int) < (l2.length : Int) := by omega
   clear bk bx
   go_wp2
   go_ret
   exact ⟨⟨_, rfl, by omega⟩, Dr.up DB.out BW.out⟩
end Go.Proofs.Ytfmlhpoaipeoeaa.QFnDrained
