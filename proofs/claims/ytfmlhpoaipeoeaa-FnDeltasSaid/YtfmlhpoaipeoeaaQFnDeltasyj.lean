-- MADE BY PROGRAM (wip/dr/assemble2.py) out of walks by hand. Lean checks it.
import Derived.Test.YtfmlhpoaipeoeaaQFnDeltasyi
import Derived.Test.YtfmlhpoaipeoeaaIx
import Derived.StillTailTactics
namespace Go.Proofs.Ytfmlhpoaipeoeaa.QFnDeltas
open Go.RowKit Go.Proofs.YtfmlhpoaipeoeaaW.PrintWords Go.Proofs.YtfmlhpoaipeoeaaW.PrintLast Go.Proofs.YtfmlhpoaipeoeaaW.PrintMore
attribute [local go_sem] max2_int min2_int max_two min_two max_three min_three max_four min_four   -- for this text's walks alone
set_option linter.unusedVariables false
set_option linter.unusedSimpArgs false
namespace Dr
theorem below_of_none {W W' : World} (h : W.grownBy W' none) : Below W.heap.size W W' := (Below.refl _ W).grown h (Nat.le_refl _) (fun k h => by cases h)
/-- A row of numbers stands apart from a row of structs. -/
theorem offRow {w : World} {base base' : Nat} {ok : Nat → Prop} {s v : Value} {l2 : List S64} {xs : List Int} (h : Kd.R (Kd.int .i64) 2 w base (fun _ => True) s xs) (h2 : Kd.R k64 64 w base' ok v l2) : Kd.R (Kd.int .i64) 2 w base (fun k => some k ≠ v.ownBlock) s xs := by
 cases hv : v.ownBlock with
 | none => exact Kd.R_mono h (fun _ _ => by simp)
 | some b =>
  obtain ⟨cells, hc⟩ := Kd.R_typed h2 b hv
  exact Kd.R_mono (Kd.R_types h hc (by decide)) (fun k hk he => hk.2 (by injection he))
theorem fitA {a b : Nat} (ha : a ≤ 8) (hb : b ≤ 1) : (a + b) * 40 ≤ 140737488355328 := by omega
theorem fitB {a b : Nat} (ha : a ≤ 4) (hb : b ≤ 1) : (a + b) * 48 ≤ 140737488355328 := by omega
section
variable {w0 w W W' : World} {g : Nat} {code : List Int} {b c : Nat} {v : Int} {s1 s2 : Value} {l1 : List S36} {l2 : List S64} {N1 N2 M : Nat}
theorem Cg.row1 (h : Cg w0 w W g code b c v s1 s2 l1 l2 N1 N2 M) : ∀ k, s1.ownBlock = some k → w.heap.size ≤ k := Kd.R_base h.2.2.2.2.2.2.1
theorem Cg.row2 (h : Cg w0 w W g code b c v s1 s2 l1 l2 N1 N2 M) : ∀ k, s2.ownBlock = some k → w.heap.size ≤ k := Kd.R_base h.2.2.2.2.2.2.2.1
theorem blk_gr {w w' : World} {a : Nat} {cs : Array Value} {t e : TypeId} {v : Value} (h : w.heap[a]? = some (.cells cs t (0, 0))) (hv : ∀ k, v.ownBlock = some k → ∃ cells, w.heap[k]? = some (.cells cells e (0, 0))) (ht : e ≠ t) (hg : w.grownBy w' v.ownBlock) : w'.heap[a]? = some (.cells cs t (0, 0)) := by
 rw [hg.block a (blk_lt h) ?_]
 ·exact h
 ·intro he
  obtain ⟨cells, hc⟩ := hv a he.symm
  exact ne_ty hc h ht rfl
theorem Sr.grown {row : Option Nat} (h : Sr w0 W g code b) (hg : W.grownBy W' row) (hne : some g ≠ row) (hr : ∀ k, row = some k → w0.heap.size ≤ k) : Sr w0 W' g code b := by
 obtain ⟨h1, h2, h3, a, h4, h5⟩ := h
 exact ⟨h1, h2, h3.grown hg h3.size hr, a, h4.grown hg hne, h5⟩
theorem Sr.ne_row {e : TypeId} {v' : Value} (h : Sr w0 W g code b) (hv : ∀ k, v'.ownBlock = some k → ∃ cells, W.heap[k]? = some (.cells cells e (0, 0))) (ht : e ≠ 148) : some g ≠ v'.ownBlock := by
 intro he
 obtain ⟨cells, hc⟩ := hv g he.symm
 exact h.ne_blk hc ht rfl
theorem keep_gr {row : Option Nat} (h : KeepBut w W g none) (hg : W.grownBy W' row) (hr : ∀ k, row = some k → w.heap.size ≤ k) : KeepBut w W' g none :=
 h.trans (KeepBut.of_grown hg g) (by
  cases row with
  | none => exact .inl rfl
  | some k => exact .inr ⟨k, rfl, hr k rfl⟩)
/-- The backends' row grown by an append, and the new row put in its place. -/
theorem Cg.app1 {s1' : Value} {l1' : List S36} {N1' : Nat} (h : Cg w0 w W g code b c v s1 s2 l1 l2 N1 N2 M) (hR : Kd.R k36 36 W' w.heap.size (fun _ => True) s1' l1') (hg : W.grownBy W' s1.ownBlock) (hl : l1'.length ≤ N1') :
  W'.heap[c]? = some (.cells #[.int .i64 v, s1, s2] 31 (0, 0)) ∧ Cg w0 w (W'.setCell ⟨c, 1, none⟩ s1') g code b c v s1' s2 l1' l2 N1' N2 M := by
 have hb := box_ne h
 have r1 := Cg.row1 h
 obtain ⟨h1, h2, h3, h4, h5, h6, h7, h8, h9, h10⟩ := h
 have ty := Kd.R_typed h7
 have b6 := blk_gr h6 ty (by decide) hg
 have b5 := blk_gr h5 ty (by decide) hg
 have k2 := keep_gr h2 hg r1
 have k1 : Sr w0 W' g code b := h1.grown hg (h1.ne_row ty (by decide)) (fun k hk => Nat.le_trans h3 (r1 k hk))
 have k8 := Kd.R_over' h8 ty (by decide) hg
 refine ⟨b6, ?_⟩
 exact ⟨k1.far hb.1 hb.2.2.1 _, keep_far k2 hb.2.2.2 _, h3, h4, blk_far b5 hb.2.1 _, blk_put (cs := #[.int .i64 v, s1, s2]) b6 1 _ rfl, Kd.R_set hR b6 (by decide) 1 _, Kd.R_set k8 b6 (by decide) 1 _, hl, h10⟩
/-- The vips' row grown by an append, and the new row put in its place. -/
theorem Cg.app2 {s2' : Value} {l2' : List S64} {N2' M' : Nat} (h : Cg w0 w W g code b c v s1 s2 l1 l2 N1 N2 M) (hR : Kd.R k64 64 W' w.heap.size (fun _ => True) s2' l2') (hg : W.grownBy W' s2.ownBlock) (hl : l2'.length ≤ N2') (hm : ∀ y, y ∈ l2' → y.f3.length ≤ M') :
  W'.heap[c]? = some (.cells #[.int .i64 v, s1, s2] 31 (0, 0)) ∧ Cg w0 w (W'.setCell ⟨c, 2, none⟩ s2') g code b c v s1 s2' l1 l2' N1 N2' M' := by
 have hb := box_ne h
 have r2 := Cg.row2 h
 obtain ⟨h1, h2, h3, h4, h5, h6, h7, h8, h9, h10⟩ := h
 have ty := Kd.R_typed h8
 have b6 := blk_gr h6 ty (by decide) hg
 have b5 := blk_gr h5 ty (by decide) hg
 have k2 := keep_gr h2 hg r2
 have k1 : Sr w0 W' g code b := h1.grown hg (h1.ne_row ty (by decide)) (fun k hk => Nat.le_trans h3 (r2 k hk))
 have k7 := Kd.R_over' h7 ty (by decide) hg
 refine ⟨b6, ?_⟩
 exact ⟨k1.far hb.1 hb.2.2.1 _, keep_far k2 hb.2.2.2 _, h3, h4, blk_far b5 hb.2.1 _, blk_put (cs := #[.int .i64 v, s1, s2]) b6 2 _ rfl, Kd.R_set k7 b6 (by decide) 2 _, Kd.R_set hR b6 (by decide) 2 _, h9, hl, hm⟩
end
end Dr
namespace Dr
/-- The drawn configuration put into a box. -/
theorem Cg.start {w0 w w1 w2 : World} {g : Nat} {code : List Int} {b b' : Nat} {v : Int} {s1 s2 : Value} {l1 : List S36} {l2 : List S64} {N1 N2 M : Nat} (h1 : Sr w0 w1 g code b) (hB : Below w.heap.size w w1) (hs : w.heap.size < w1.heap.size) (h0 : w0.heap.size ≤ w.heap.size) (b1 : w1.heap[w.heap.size]? = some (.cells #[.int .i64 0, .slice none 0 0, .slice none 0 0] 31 (0, 0))) (hR : Rs w1 w2 s1 s2 l1 l2 N1 N2 M) (h2 : Sr w0 w2 g code b') (hk : KeepBut w1 w2 g none) :
  Cg w0 w (w2.alloc (.cells #[.int .i64 v, s1, s2] 31)) g code b' w2.heap.size v s1 s2 l1 l2 N1 N2 M := by
 have ha := below_alloc (Below.refl w2.heap.size w2) (.cells #[.int .i64 v, s1, s2] 31)
 have hsz := hk.1
 refine ⟨h2.below ha, ?_, h0, by omega, blk_below (keepB h1 b1 (by decide) hk) ha, blk_new w2 _, Kd.R_below (Kd.R_lower hR.1 (by omega)) ha, Kd.R_below (Kd.R_lower hR.2.1 (by omega)) ha, hR.2.2⟩
 exact ((KeepBut.of_below hB g none).trans hk (.inl rfl)).trans (KeepBut.of_below ha g none) (.inl rfl)
end Dr
namespace Dr
theorem RPost.le {w0 w : World} {g : Nat} {code : List Int} {b b' N1 N1' N2 N2' M : Nat} {e : Ending} {w' : World} (h : RPost w0 w g code b N1 N2 M e w') (hb : b ≤ b') (h1 : N1 ≤ N1') (h2 : N2 ≤ N2') : RPost w0 w g code b' N1' N2' M e w' := by
 obtain ⟨v, s1, s2, l1, l2, e1, ⟨r1, r2, r3, r4, r5⟩, hs, hk⟩ := h
 exact ⟨v, s1, s2, l1, l2, e1, ⟨r1, r2, Nat.le_trans r3 h1, Nat.le_trans r4 h2, r5⟩, hs.le hb, hk⟩
end Dr
set_option maxHeartbeats 32000000 in
set_option maxRecDepth 100000 in
/-- A configuration is drawn, right or bent. -/
theorem spec_l5Bent.cf (g : Nat) (code : List Int) (b : Nat) (w0 w : World) (hs : Dr.Sr w0 w g code b) (hb : b ≤ 50000) :
  Calls Try.prog 80 #[.pointer (some ⟨g, 0, none⟩)] w fun e w' => Dr.RPost w0 w g code (b + 246) 9 5 24 e w' := by
 have hu31 := Try.underlying31
 have hu36 := Try.underlying36
 have hu64 := Try.underlying64
 obtain ⟨w1, hw1⟩ : ∃ W, W = w.alloc (.cells #[.int .i64 0, .slice none 0 0, .slice none 0 0] 31) := ⟨_, rfl⟩
 have hB1 : Below w.heap.size w w1 := by rw [hw1]; exact (Below.refl _ w).alloc (Nat.le_refl _) _
 have b1 := Aside0.mk (show w1.heap[w.heap.size]? = some (.cells #[.int .i64 0, .slice none 0 0, .slice none 0 0] 31 (0, 0)) from by rw [hw1]; exact blk_new w _)
 have hs0 : w.heap.size < w1.heap.size := by rw [hw1]; simp
 have hright := spec_l5Right.cf g code b w0 w1 (hs.below hB1) (by omega)
 rw [hw1] at hright
 have HS1 := Aside0.mk (hs.below hB1)
 have HB1 := Aside0.mk hB1
 have hsz := hs.2.2.1.size
 clear hs hB1
 go_enter Try.func80, Try.ntmps80
 go_wp2_with (go_at_call 119; refine hright.mono ?_; rintro e w2 ⟨v, s1, s2, l1, l2, rfl, hR, hs2, hk2⟩; rw [← hw1] at hR hk2; clear hright; obtain ⟨A1, c1, t1⟩ := Kd.R_slice hR.1; subst t1; obtain ⟨A2, c2, t2⟩ := Kd.R_slice hR.2.1; subst t2; have HC2 := Aside0.mk (Dr.Cg.start (v := v) HS1.out HB1.out hs0 hsz b1.out hR hs2 hk2); clear hR hs2 hk2)
 refine (Dr.next HC2.out.1 (by omega) 20 (by omega)).mono ?_
 rintro e w3 ⟨r, rfl, hr0, hr1, hs3, hk3⟩
 have HC3 := Aside0.mk (Dr.Cg.keep HC2.out hs3 hk3)
 clear HC2 hs3 hk3
 obtain ⟨c, hc⟩ : ∃ c, c = w2.heap.size := ⟨_, rfl⟩
 rw [← hc] at HC3 ⊢
 clear hc hr0 hr1
 by_cases hr0 : r = 0
 ·have e0 : (r == 0) = true := beq_iff_eq.mpr hr0
  clear hr0
  obtain ⟨y11, hy11_⟩ : ∃ y : List Int, y = [(-1), 1000000, 1000001] := ⟨_, rfl⟩
  have hl11 : 0 < y11.length ∧ y11.length ≤ 1000 := by rw [hy11_]; decide
  have hy11 := Aside0.mk hy11_
  clear hy11_
  go_wp2_with (first | ((with_reducible refine gate_dst (N := 11) rfl ?_); refine Kd.R_lit (Kd.int .i64) _ 2 ?hg (N := 11) ?hd (xs := ([(-1), 1000000, 1000001] : List Int)) (inner := [.int .i64 (-1), .int .i64 1000000, .int .i64 1000001]) (ok := fun _ => True) (okp := fun _ => True) ?hr ?hp (fun _ hk => hk) trivial (Below.refl _ _) (Nat.le_refl _) (by simp) ?_; (case hd => rfl); (case hg => rfl); (case hr => first | (go_simp; done) | (go_simp; rfl)); (case hp => exact (Reps.one (show Kd.M (Kd.int .i64) _ _ _ (-1) [.int .i64 (-1)] from rfl) (Reps.one (show Kd.M (Kd.int .i64) _ _ _ 1000000 [.int .i64 1000000] from rfl) (Reps.one (show Kd.M (Kd.int .i64) _ _ _ 1000001 [.int .i64 1000001] from rfl) (Reps.none _ _))))); intro v11 w4 hR11 hb_ _ _; rw [← hy11.out] at hR11; obtain ⟨A11_, c11_, e11_⟩ := Kd.R_slice hR11; subst e11_; have HR11 := Aside0.mk hR11; have HC4 := Aside0.mk (Dr.Cg.below HC3.out hb_); clear hb_ hR11) | (go_at_call 81; refine (Dr.pick' HC4.out.1 (by omega) HR11.out hl11.1 hl11.2).mono ?_; rintro e_ w5 ⟨p12, rfl, hs_, hk_⟩; have hC5 := Dr.Cg.keep HC4.out hs_ hk_; clear hs_ hk_; have z0 := blk_cell hC5.2.2.2.2.2.1 0; have zf0 := blk_frozen hC5.2.2.2.2.2.1 0; have HC9 := Aside0.mk (Dr.Cg.le (Dr.Cg.set0 hC5 p12) (b' := b + 246) (M' := 24) (by omega) (by omega)); clear hC5; obtain ⟨w9, hw9⟩ : ∃ W, W = w5.setCell ⟨c, 0, none⟩ (.int .i64 p12) := ⟨_, rfl⟩; rw [← hw9] at HC9; obtain ⟨z0_, z1_, z2_⟩ := Dr.Cg.held HC9.out; have r0_ := blk_cell HC9.out.2.2.2.2.1 0; have f0_ := blk_frozen HC9.out.2.2.2.2.1 0; have r1_ := blk_cell HC9.out.2.2.2.2.1 1; have f1_ := blk_frozen HC9.out.2.2.2.2.1 1; have r2_ := blk_cell HC9.out.2.2.2.2.1 2; have f2_ := blk_frozen HC9.out.2.2.2.2.1 2; rw [hw9] at z0_ z1_ z2_ r0_ r1_ r2_ f0_ f1_ f2_))
  rw [← hw9]
  refine bodyPost_ret (results_cell_row rfl _ _ w.heap.size 31 #[.int .i64 _, .slice A1 l1.length c1, .slice A2 l2.length c2] (0, 0) _ rfl (by exact Dr.put3 HC9.out.2.2.2.2.1 _ _ _) Try.underlying31 rfl (by kernel_rfl)) rfl ?_
  exact Dr.RPost.le (Dr.Cg.post HC9.out) (by omega) (by omega) (by omega)
 have e0 : (r == 0) = false := beq_eq_false_iff_ne.mpr hr0
 by_cases hr1 : r = 1
 ·have e1 : (r == 1) = true := beq_iff_eq.mpr hr1
  clear hr1
  go_wp2
  obtain ⟨y3, hy3_⟩ : ∃ y : List Int, y = [1, 999, 0] := ⟨_, rfl⟩
  have hl3 : 0 < y3.length ∧ y3.length ≤ 1000 := by rw [hy3_]; decide
  have hy3 := Aside0.mk hy3_
  clear hy3_
  obtain ⟨y6, hy6_⟩ : ∃ y : List Int, y = [0, 10] := ⟨_, rfl⟩
  have hl6 : 0 < y6.length ∧ y6.length ≤ 1000 := by rw [hy6_]; decide
  have hy6 := Aside0.mk hy6_
  clear hy6_
  have hC := Dr.Cg.below HC3.out (below_drew1 (Below.refl _ _))
  refine start_ (n := 15) (S := fun w' => w'.cell? ⟨c, 0, none⟩ = some (.int .i64 v) ∧ w'.cell? ⟨c, 1, none⟩ = some (.slice A1 l1.length c1) ∧ w'.cell? ⟨c, 2, none⟩ = some (.slice A2 l2.length c2)) (ds := [14]) (Mk 15 0) (by kernel_rfl) rfl rfl (Dr.Cg.held hC) (fun hHeld => ?_)
  generalize w3.drew = wd at hC hHeld ⊢
  clear HC3
  refine pure_ (i := 0) (N := some 16) (v := ?_) (a' := ?_) (Mk 15 1) rfl rfl (by kernel_rfl) (fun _ _ _ h => h) (Or.inl ⟨by rfl, ?_⟩) ?_ ?_
  rotate_left
  ·intro w'
   first | (go_simp; with_reducible rfl) | (go_simp; (try unfold Instr.field); go_simp; (try simp only [asAgg]); go_simp; with_reducible rfl)
  rotate_left
  ·simp only [Act.put, List.setIfInBounds_toArray, List.set_cons_zero, List.set_cons_succ, i64_w, i32_w]
   rfl
  refine take_ (i := 1) (N := some 17) (v := ?_) (a' := ?_) (Mk 15 3) rfl rfl (by kernel_rfl) (fun _ _ _ h => h) (Or.inl ⟨by rfl, ?_⟩) hHeld ?_ ?_
  rotate_left
  ·rintro w' ⟨s0, s1, s2⟩
   go_simp
   with_reducible rfl
  rotate_left
  ·simp only [Act.put, List.setIfInBounds_toArray, List.set_cons_zero, List.set_cons_succ, i64_w, i32_w]
   rfl
  refine pure_ (i := 2) (N := some 18) (v := ?_) (a' := ?_) (Mk 15 7) rfl rfl (by kernel_rfl) (fun _ _ _ h => h) (Or.inl ⟨by rfl, ?_⟩) ?_ ?_
  rotate_left
  ·intro w'
   first | (go_simp; with_reducible rfl) | (go_simp; (try unfold Instr.field); go_simp; (try simp only [asAgg]); go_simp; with_reducible rfl)
  rotate_left
  ·simp only [Act.put, List.setIfInBounds_toArray, List.set_cons_zero, List.set_cons_succ, i64_w, i32_w]
   rfl
  refine pure_ (i := 5) (N := some 21) (v := ?_) (a' := ?_) (Mk 15 39) rfl rfl (by kernel_rfl) (fun _ _ _ h => h) (Or.inl ⟨by rfl, ?_⟩) ?_ ?_
  rotate_left
  ·intro w'
   first | (go_simp; with_reducible rfl) | (go_simp; (try unfold Instr.field); go_simp; (try simp only [asAgg]); go_simp; with_reducible rfl)
  rotate_left
  ·simp only [Act.put, List.setIfInBounds_toArray, List.set_cons_zero, List.set_cons_succ, i64_w, i32_w]
   rfl
  refine pure_ (i := 8) (N := some 24) (v := ?_) (a' := ?_) (Mk 15 295) rfl rfl (by kernel_rfl) (fun _ _ _ h => h) (Or.inl ⟨by rfl, ?_⟩) ?_ ?_
  rotate_left
  ·intro w'
   first | (go_simp; with_reducible rfl) | (go_simp; (try unfold Instr.field); go_simp; (try simp only [asAgg]); go_simp; with_reducible rfl)
  rotate_left
  ·simp only [Act.put, List.setIfInBounds_toArray, List.set_cons_zero, List.set_cons_succ, i64_w, i32_w]
   rfl
  refine join_ (σ := Value × Value × Value) 7 (Mk 15 383) (fun s_ => [(19, s_.1), (20, s_.2.1), (22, s_.2.2)]) (fun s_ w' => Dr.Cg w0 w w' g code (b + 242 + 1) c v (.slice A1 l1.length c1) (.slice A2 l2.length c2) l1 l2 8 4 24 ∧ (∃ p4 : Int, s_.2.1 = .int .i64 p4) ∧ ∃ A6_ c6_, s_.2.2 = .slice A6_ y6.length c6_ ∧ Kd.R (Kd.int .i64) 2 w' w.heap.size (fun _ => True) (.slice A6_ y6.length c6_) y6) ?_ ?_
  rotate_left
  ·intro hCont
   refine two_ (i := 3) (j := 6) (Ni := some 19) (Nj := some 22) (Mk 15 303) (Mk 15 359) rfl rfl rfl rfl (by kernel_rfl) (by decide) (by decide) (fun K hK => ?_) (fun K hK => ?_)
   ·skip
    refine Kd.R_lit_step (Kd.int .i64) _ 2 ?hg (N := 19) ?hd (xs := ([1, 999, 0] : List Int)) (inner := [.int .i64 1, .int .i64 999, .int .i64 0]) (ok := fun _ => True) (okp := fun _ => True) ?hr ?hp (fun _ hk => hk) trivial (Below.refl _ _) (Nat.le_refl _) (by simp) ?_; (case hd => rfl); (case hg => rfl); (case hr => first | (go_simp; done) | (go_simp; rfl)); (case hp => exact (Reps.one (show Kd.M (Kd.int .i64) _ _ _ 1 [.int .i64 1] from rfl) (Reps.one (show Kd.M (Kd.int .i64) _ _ _ 999 [.int .i64 999] from rfl) (Reps.one (show Kd.M (Kd.int .i64) _ _ _ 0 [.int .i64 0] from rfl) (Reps.none _ _)))))
    intro v3 wc hR3 hb_ _ _
    rw [← hy3.out] at hR3
    replace hR3 := Kd.R_lower hR3 hC.2.1.1
    obtain ⟨A3_, c3_, e3_⟩ := Kd.R_slice hR3
    subst e3_
    replace hC := Dr.Cg.below hC hb_
    clear hb_
    refine hK.out _ _ (Dr.Cg.held hC) (fun hHeld => ?_)
    clear hK K
    refine norm_ (a' := ?_) ?_ ?_
    rotate_left
    ·show Act.put _ (some 19) _ = _
     simp only [Act.put, List.setIfInBounds_toArray, List.set_cons_zero, List.set_cons_succ, i64_w, i32_w]
     rfl
    refine two_ (i := 4) (j := 6) (Ni := some 20) (Nj := some 22) (Mk 15 319) (Mk 15 367) rfl rfl rfl rfl (by kernel_rfl) (by decide) (by decide) (fun K hK => ?_) (fun K hK => ?_)
    ·skip
     refine goes_ Try.func81 (by kernel_rfl) rfl #[.pointer (some ⟨g, 0, none⟩), .slice A3_ y3.length c3_] (by rfl) rfl rfl (by (try simp only [List.map_toArray, List.map_cons, List.map_nil]); first | done | rfl) ?_
     refine (Dr.pick' hC.1 (by omega) hR3 hl3.1 hl3.2).mono ?_
     rintro e_ wc ⟨p4, rfl, hs_, hk_⟩
     refine ⟨_, rfl, ?_⟩
     replace hC := Dr.Cg.keep hC hs_ hk_
     clear hs_ hk_ hR3
     refine hK.out _ _ (Dr.Cg.held hC) (fun hHeld => ?_)
     clear hK K
     refine norm_ (a' := ?_) ?_ ?_
     rotate_left
     ·show Act.put _ (some 20) _ = _
      simp only [Act.put, List.setIfInBounds_toArray, List.set_cons_zero, List.set_cons_succ, i64_w, i32_w]
      rfl
     refine one_ (i := 6) (N := some 22) (Mk 15 383) rfl rfl (by kernel_rfl) (by decide) (fun K hK => ?_)
     refine Kd.R_lit_step (Kd.int .i64) _ 2 ?hg (N := 22) ?hd (xs := ([0, 10] : List Int)) (inner := [.int .i64 0, .int .i64 10]) (ok := fun _ => True) (okp := fun _ => True) ?hr ?hp (fun _ hk => hk) trivial (Below.refl _ _) (Nat.le_refl _) (by simp) ?_; (case hd => rfl); (case hg => rfl); (case hr => first | (go_simp; done) | (go_simp; rfl)); (case hp => exact (Reps.one (show Kd.M (Kd.int .i64) _ _ _ 0 [.int .i64 0] from rfl) (Reps.one (show Kd.M (Kd.int .i64) _ _ _ 10 [.int .i64 10] from rfl) (Reps.none _ _))))
     intro v6 wc hR6 hb_ _ _
     rw [← hy6.out] at hR6
     replace hR6 := Kd.R_lower hR6 hC.2.1.1
     obtain ⟨A6_, c6_, e6_⟩ := Kd.R_slice hR6
     subst e6_
     replace hC := Dr.Cg.below hC hb_
     clear hb_
     refine hK.out _ _ (Dr.Cg.held hC) (fun hHeld => ?_)
     clear hK K
     refine norm_ (a' := ?_) ?_ ?_
     rotate_left
     ·show Act.put _ (some 22) _ = _
      simp only [Act.put, List.setIfInBounds_toArray, List.set_cons_zero, List.set_cons_succ, i64_w, i32_w]
      rfl
     exact norm_ (by simp only [putAll, Act.put, List.setIfInBounds_toArray, List.set_cons_zero, List.set_cons_succ]) (hCont (.slice A3_ y3.length c3_, .int .i64 p4, .slice A6_ y6.length c6_) _ ⟨hC, ⟨p4, rfl⟩, ⟨A6_, c6_, rfl, hR6⟩⟩)
    ·skip
     refine Kd.R_lit_step (Kd.int .i64) _ 2 ?hg (N := 22) ?hd (xs := ([0, 10] : List Int)) (inner := [.int .i64 0, .int .i64 10]) (ok := fun _ => True) (okp := fun _ => True) ?hr ?hp (fun _ hk => hk) trivial (Below.refl _ _) (Nat.le_refl _) (by simp) ?_; (case hd => rfl); (case hg => rfl); (case hr => first | (go_simp; done) | (go_simp; rfl)); (case hp => exact (Reps.one (show Kd.M (Kd.int .i64) _ _ _ 0 [.int .i64 0] from rfl) (Reps.one (show Kd.M (Kd.int .i64) _ _ _ 10 [.int .i64 10] from rfl) (Reps.none _ _))))
     intro v6 wc hR6 hb_ _ _
     rw [← hy6.out] at hR6
     replace hR6 := Kd.R_lower hR6 hC.2.1.1
     obtain ⟨A6_, c6_, e6_⟩ := Kd.R_slice hR6
     subst e6_
     replace hR3 := Kd.R_below hR3 hb_
     replace hC := Dr.Cg.below hC hb_
     clear hb_
     refine hK.out _ _ (Dr.Cg.held hC) (fun hHeld => ?_)
     clear hK K
     refine norm_ (a' := ?_) ?_ ?_
     rotate_left
     ·show Act.put _ (some 22) _ = _
      simp only [Act.put, List.setIfInBounds_toArray, List.set_cons_zero, List.set_cons_succ, i64_w, i32_w]
      rfl
     refine one_ (i := 4) (N := some 20) (Mk 15 383) rfl rfl (by kernel_rfl) (by decide) (fun K hK => ?_)
     refine goes_ Try.func81 (by kernel_rfl) rfl #[.pointer (some ⟨g, 0, none⟩), .slice A3_ y3.length c3_] (by rfl) rfl rfl (by (try simp only [List.map_toArray, List.map_cons, List.map_nil]); first | done | rfl) ?_
     refine (Dr.pick' hC.1 (by omega) hR3 hl3.1 hl3.2).mono ?_
     rintro e_ wc ⟨p4, rfl, hs_, hk_⟩
     refine ⟨_, rfl, ?_⟩
     replace hR6 := Dr.keepR hC.1 hR6 (by decide) hk_
     replace hC := Dr.Cg.keep hC hs_ hk_
     clear hs_ hk_ hR3
     refine hK.out _ _ (Dr.Cg.held hC) (fun hHeld => ?_)
     clear hK K
     refine norm_ (a' := ?_) ?_ ?_
     rotate_left
     ·show Act.put _ (some 20) _ = _
      simp only [Act.put, List.setIfInBounds_toArray, List.set_cons_zero, List.set_cons_succ, i64_w, i32_w]
      rfl
     exact norm_ (by simp only [putAll, Act.put, List.setIfInBounds_toArray, List.set_cons_zero, List.set_cons_succ]) (hCont (.slice A3_ y3.length c3_, .int .i64 p4, .slice A6_ y6.length c6_) _ ⟨hC, ⟨p4, rfl⟩, ⟨A6_, c6_, rfl, hR6⟩⟩)
   ·skip
    refine Kd.R_lit_step (Kd.int .i64) _ 2 ?hg (N := 22) ?hd (xs := ([0, 10] : List Int)) (inner := [.int .i64 0, .int .i64 10]) (ok := fun _ => True) (okp := fun _ => True) ?hr ?hp (fun _ hk => hk) trivial (Below.refl _ _) (Nat.le_refl _) (by simp) ?_; (case hd => rfl); (case hg => rfl); (case hr => first | (go_simp; done) | (go_simp; rfl)); (case hp => exact (Reps.one (show Kd.M (Kd.int .i64) _ _ _ 0 [.int .i64 0] from rfl) (Reps.one (show Kd.M (Kd.int .i64) _ _ _ 10 [.int .i64 10] from rfl) (Reps.none _ _))))
    intro v6 wc hR6 hb_ _ _
    rw [← hy6.out] at hR6
    replace hR6 := Kd.R_lower hR6 hC.2.1.1
    obtain ⟨A6_, c6_, e6_⟩ := Kd.R_slice hR6
    subst e6_
    replace hC := Dr.Cg.below hC hb_
    clear hb_
    refine hK.out _ _ (Dr.Cg.held hC) (fun hHeld => ?_)
    clear hK K
    refine norm_ (a' := ?_) ?_ ?_
    rotate_left
    ·show Act.put _ (some 22) _ = _
     simp only [Act.put, List.setIfInBounds_toArray, List.set_cons_zero, List.set_cons_succ, i64_w, i32_w]
     rfl
    refine one_ (i := 3) (N := some 19) (Mk 15 367) rfl rfl (by kernel_rfl) (by decide) (fun K hK => ?_)
    refine Kd.R_lit_step (Kd.int .i64) _ 2 ?hg (N := 19) ?hd (xs := ([1, 999, 0] : List Int)) (inner := [.int .i64 1, .int .i64 999, .int .i64 0]) (ok := fun _ => True) (okp := fun _ => True) ?hr ?hp (fun _ hk => hk) trivial (Below.refl _ _) (Nat.le_refl _) (by simp) ?_; (case hd => rfl); (case hg => rfl); (case hr => first | (go_simp; done) | (go_simp; rfl)); (case hp => exact (Reps.one (show Kd.M (Kd.int .i64) _ _ _ 1 [.int .i64 1] from rfl) (Reps.one (show Kd.M (Kd.int .i64) _ _ _ 999 [.int .i64 999] from rfl) (Reps.one (show Kd.M (Kd.int .i64) _ _ _ 0 [.int .i64 0] from rfl) (Reps.none _ _)))))
    intro v3 wc hR3 hb_ _ _
    rw [← hy3.out] at hR3
    replace hR3 := Kd.R_lower hR3 hC.2.1.1
    obtain ⟨A3_, c3_, e3_⟩ := Kd.R_slice hR3
    subst e3_
    replace hR6 := Kd.R_below hR6 hb_
    replace hC := Dr.Cg.below hC hb_
    clear hb_
    refine hK.out _ _ (Dr.Cg.held hC) (fun hHeld => ?_)
    clear hK K
    refine norm_ (a' := ?_) ?_ ?_
    rotate_left
    ·show Act.put _ (some 19) _ = _
     simp only [Act.put, List.setIfInBounds_toArray, List.set_cons_zero, List.set_cons_succ, i64_w, i32_w]
     rfl
    refine one_ (i := 4) (N := some 20) (Mk 15 383) rfl rfl (by kernel_rfl) (by decide) (fun K hK => ?_)
    refine goes_ Try.func81 (by kernel_rfl) rfl #[.pointer (some ⟨g, 0, none⟩), .slice A3_ y3.length c3_] (by rfl) rfl rfl (by (try simp only [List.map_toArray, List.map_cons, List.map_nil]); first | done | rfl) ?_
    refine (Dr.pick' hC.1 (by omega) hR3 hl3.1 hl3.2).mono ?_
    rintro e_ wc ⟨p4, rfl, hs_, hk_⟩
    refine ⟨_, rfl, ?_⟩
    replace hR6 := Dr.keepR hC.1 hR6 (by decide) hk_
    replace hC := Dr.Cg.keep hC hs_ hk_
    clear hs_ hk_ hR3
    refine hK.out _ _ (Dr.Cg.held hC) (fun hHeld => ?_)
    clear hK K
    refine norm_ (a' := ?_) ?_ ?_
    rotate_left
    ·show Act.put _ (some 20) _ = _
     simp only [Act.put, List.setIfInBounds_toArray, List.set_cons_zero, List.set_cons_succ, i64_w, i32_w]
     rfl
    exact norm_ (by simp only [putAll, Act.put, List.setIfInBounds_toArray, List.set_cons_zero, List.set_cons_succ]) (hCont (.slice A3_ y3.length c3_, .int .i64 p4, .slice A6_ y6.length c6_) _ ⟨hC, ⟨p4, rfl⟩, ⟨A6_, c6_, rfl, hR6⟩⟩)
  clear hHeld hC
  rintro ⟨t19, t20, t22⟩ wj ⟨hC, ⟨p4, e20⟩, ⟨A6_, c6_, e22, hR6⟩⟩
  simp only at e20 e22
  subst e20
  subst e22
  have hHeld := Dr.Cg.held hC
  refine norm_ (a' := ?_) ?_ ?_
  rotate_left
  ·simp only [putAll, Act.put, List.setIfInBounds_toArray, List.set_cons_zero, List.set_cons_succ]
   rfl
  refine one_ (i := 7) (N := some 23) (Mk 15 511) rfl rfl (by kernel_rfl) (by decide) (fun K hK => ?_)
  refine goes_ Try.func81 (by kernel_rfl) rfl #[.pointer (some ⟨g, 0, none⟩), .slice A6_ y6.length c6_] (by rfl) rfl rfl (by (try simp only [List.map_toArray, List.map_cons, List.map_nil]); first | done | rfl) ?_
  refine (Dr.pick' hC.1 (by omega) hR6 hl6.1 hl6.2).mono ?_
  rintro e_ wc ⟨p7, rfl, hs_, hk_⟩
  refine ⟨_, rfl, ?_⟩
  replace hC := Dr.Cg.keep hC hs_ hk_
  clear hs_ hk_ hR6
  refine hK.out _ _ (Dr.Cg.held hC) (fun hHeld => ?_)
  clear hK K
  refine norm_ (a' := ?_) ?_ ?_
  rotate_left
  ·show Act.put _ (some 23) _ = _
   simp only [Act.put, List.setIfInBounds_toArray, List.set_cons_zero, List.set_cons_succ, i64_w, i32_w]
   rfl
  refine one_ (i := 9) (N := some 25) (Mk 15 1023) rfl rfl (by kernel_rfl) (by decide) (fun K hK => ?_)
  refine goes_ Try.func120 (by kernel_rfl) rfl #[.pointer (some ⟨g, 0, none⟩), .int .i64 5] (by rfl) rfl rfl (by (try simp only [List.map_toArray, List.map_cons, List.map_nil]); first | done | rfl) ?_
  refine (Dr.next hC.1 (by omega) 5 (by omega)).mono ?_
  rintro e_ wc ⟨p9, rfl, _, _, hs_, hk_⟩
  refine ⟨_, rfl, ?_⟩
  replace hC := Dr.Cg.keep hC hs_ hk_
  clear hs_ hk_
  refine hK.out _ _ (Dr.Cg.held hC) (fun hHeld => ?_)
  clear hK K
  refine norm_ (a' := ?_) ?_ ?_
  rotate_left
  ·show Act.put _ (some 25) _ = _
   simp only [Act.put, List.setIfInBounds_toArray, List.set_cons_zero, List.set_cons_succ, i64_w, i32_w]
   rfl
  refine pure_ (i := 10) (N := some 26) (v := ?_) (a' := ?_) (Mk 15 2047) rfl rfl (by kernel_rfl) (fun _ _ _ h => h) (Or.inl ⟨by rfl, ?_⟩) ?_ ?_
  rotate_left
  ·intro w'
   first | (go_simp; with_reducible rfl) | (go_simp; (try unfold Instr.field); go_simp; (try simp only [asAgg]); go_simp; with_reducible rfl)
  rotate_left
  ·simp only [Act.put, List.setIfInBounds_toArray, List.set_cons_zero, List.set_cons_succ, i64_w, i32_w]
   rfl
  obtain ⟨yc, hyc_⟩ : ∃ y : List S36, y = [⟨p4, 0, p7, p9, false⟩] := ⟨_, rfl⟩
  have hyl : yc.length ≤ 1 := by rw [hyc_]; exact Nat.le_refl 1
  have hyc := Aside0.mk hyc_
  clear hyc_
  refine one_ (i := 11) (N := some 27) (Mk 15 4095) rfl rfl (by kernel_rfl) (by decide) (fun K hK => ?_)
  refine Kd.R_lit_step k36 _ 36 ?hg (N := 27) ?hd (xs := ([⟨p4, 0, p7, p9, false⟩] : List S36)) (inner := [.int .i64 p4, .int .i64 0, .int .i64 p7, .int .i64 p9, .bool false]) (ok := fun _ => True) (okp := fun _ => True) ?hr ?hp (fun _ hk => hk) trivial (Below.refl _ _) (Nat.le_refl _) (by simp) ?_; (case hd => rfl); (case hg => rfl); (case hr => first | (go_simp; done) | (go_simp; rfl)); (case hp => exact (Reps.c5 (show k36.M _ _ _ (⟨p4, 0, p7, p9, false⟩ : S36) _ from k36_mkM _ _ _ _) (Reps.none _ _)))
  intro vC wc hRC hb_ _ _
  rw [← hyc.out] at hRC
  obtain ⟨AC, cC, eC⟩ := Kd.R_slice hRC
  subst eC
  replace hC := Dr.Cg.below hC hb_
  clear hb_
  refine hK.out _ _ (Dr.Cg.held hC) (fun hHeld => ?_)
  clear hK K
  refine norm_ (a' := ?_) ?_ ?_
  rotate_left
  ·show Act.put _ (some 27) _ = _
   simp only [Act.put, List.setIfInBounds_toArray, List.set_cons_zero, List.set_cons_succ, i64_w, i32_w]
   rfl
  refine one_ (i := 12) (N := some 28) (Mk 15 8191) rfl rfl (by kernel_rfl) (by decide) (fun K hK => ?_)
  refine Kd.R_append_rows_step k36 (w0 := wc) (w.heap.size) (by rfl) (.tmp 17) (.tmp 27) 28 36 (.agg #[(.int .i64 0), (.int .i64 0), (.int .i64 0), (.int .i64 0), (.bool false)]) 40 rfl Try.underlying28 info36 rfl (by decide) (by omega) (.slice A1 l1.length c1) l1 yc _ _ _ (fun _ => True) (fun _ => False) rfl rfl hC.2.2.2.2.2.2.1 (Kd.R_reads' hRC).2.2 (fun _ _ h => h) (fun _ h => h.elim) (fun _ _ => trivial) (Below.refl _ _) hC.2.1.1 (Dr.fitA hC.2.2.2.2.2.2.2.2.1 hyl) ?_
  intro vb wb hoB _ hgB _
  obtain ⟨lq, hlq⟩ : ∃ l_ : List S36, l_ = l1 ++ yc := ⟨_, rfl⟩
  have hlql : lq.length ≤ 9 := by rw [hlq, List.length_append]; have := hC.2.2.2.2.2.2.2.2.1; omega
  rw [← hlq] at hoB
  clear hlq
  obtain ⟨AQ, cQ, eQ⟩ := Kd.R_slice hoB
  subst eQ
  obtain ⟨hbx, hfin⟩ := Dr.Cg.app1 hC hoB hgB hlql
  clear hC hoB hgB hRC
  refine hK.out _ _ ⟨blk_cell hbx 0, blk_cell hbx 1, blk_cell hbx 2⟩ (fun hHeld => ?_)
  clear hK K
  refine norm_ (a' := ?_) ?_ ?_
  rotate_left
  ·show Act.put _ (some 28) _ = _
   simp only [Act.put, List.setIfInBounds_toArray, List.set_cons_zero, List.set_cons_succ, i64_w, i32_w]
   rfl
  refine pure_ (i := 13) (N := some 29) (v := ?_) (a' := ?_) (Mk 15 16383) rfl rfl (by kernel_rfl) (fun _ _ _ h => h) (Or.inl ⟨by rfl, ?_⟩) ?_ ?_
  rotate_left
  ·intro w'
   first | (go_simp; with_reducible rfl) | (go_simp; (try unfold Instr.field); go_simp; (try simp only [asAgg]); go_simp; with_reducible rfl)
  rotate_left
  ·simp only [Act.put, List.setIfInBounds_toArray, List.set_cons_zero, List.set_cons_succ, i64_w, i32_w]
   rfl
  refine last_ (i := 14) (N := none) (Mk 15 32767) rfl rfl (by kernel_rfl) (by decide) (fun K hK => ?_)
  have y1_ := blk_cell hbx 1
  have f1_ := blk_frozen hbx 1
  refine skip_ (w1 := ?_) (by rfl) rfl ?_ ?_
  rotate_left
  ·go_simp
   rfl
  refine hK.out _ _ ?_
  clear hK K
  refine done_ (by kernel_rfl) ?_
  have HC9 := Aside0.mk (Dr.Cg.le hfin (b' := b + 246) (M' := 24) (by omega) (by omega))
  clear hHeld hfin hbx y1_ f1_
  generalize hw9 : wb.setCell ⟨c, 1, none⟩ (.slice AQ lq.length cQ) = w9 at HC9 ⊢
  clear hw9
  obtain ⟨z0_, z1_, z2_⟩ := Dr.Cg.held HC9.out
  have r0_ := blk_cell HC9.out.2.2.2.2.1 0
  have r1_ := blk_cell HC9.out.2.2.2.2.1 1
  have r2_ := blk_cell HC9.out.2.2.2.2.1 2
  have f0_ := blk_frozen HC9.out.2.2.2.2.1 0
  have f1_ := blk_frozen HC9.out.2.2.2.2.1 1
  have f2_ := blk_frozen HC9.out.2.2.2.2.1 2
  go_wp2
  refine bodyPost_ret (results_cell_row rfl _ _ w.heap.size 31 #[.int .i64 _, .slice AQ lq.length cQ, .slice A2 l2.length c2] (0, 0) _ rfl (by exact Dr.put3 HC9.out.2.2.2.2.1 _ _ _) Try.underlying31 rfl (by kernel_rfl)) rfl ?_
  exact Dr.RPost.le (Dr.Cg.post HC9.out) (by omega) (by omega) (by omega)
 have e1 : (r == 1) = false := beq_eq_false_iff_ne.mpr hr1
 by_cases hr2 : r = 2
 ·have e2 : (r == 2) = true := beq_iff_eq.mpr hr2
  clear hr2
  go_wp2
  obtain ⟨y3, hy3_⟩ : ∃ y : List Int, y = [0, 4294967295] := ⟨_, rfl⟩
  have hl3 : 0 < y3.length ∧ y3.length ≤ 1000 := by rw [hy3_]; decide
  have hy3 := Aside0.mk hy3_
  clear hy3_
  obtain ⟨y6, hy6_⟩ : ∃ y : List Int, y = [80, 65536] := ⟨_, rfl⟩
  have hl6 : 0 < y6.length ∧ y6.length ≤ 1000 := by rw [hy6_]; decide
  have hy6 := Aside0.mk hy6_
  clear hy6_
  obtain ⟨y9, hy9_⟩ : ∃ y : List Int, y = [6, 1] := ⟨_, rfl⟩
  have hl9 : 0 < y9.length ∧ y9.length ≤ 1000 := by rw [hy9_]; decide
  have hy9 := Aside0.mk hy9_
  clear hy9_
  have hC := Dr.Cg.below HC3.out (below_drew1 (Below.refl _ _))
  refine start_ (n := 19) (S := fun w' => w'.cell? ⟨c, 0, none⟩ = some (.int .i64 v) ∧ w'.cell? ⟨c, 1, none⟩ = some (.slice A1 l1.length c1) ∧ w'.cell? ⟨c, 2, none⟩ = some (.slice A2 l2.length c2)) (ds := [18]) (Mk 19 0) (by kernel_rfl) rfl rfl (Dr.Cg.held hC) (fun hHeld => ?_)
  generalize w3.drew = wd at hC hHeld ⊢
  clear HC3
  refine pure_ (i := 0) (N := some 32) (v := ?_) (a' := ?_) (Mk 19 1) rfl rfl (by kernel_rfl) (fun _ _ _ h => h) (Or.inl ⟨by rfl, ?_⟩) ?_ ?_
  rotate_left
  ·intro w'
   first | (go_simp; with_reducible rfl) | (go_simp; (try unfold Instr.field); go_simp; (try simp only [asAgg]); go_simp; with_reducible rfl)
  rotate_left
  ·simp only [Act.put, List.setIfInBounds_toArray, List.set_cons_zero, List.set_cons_succ, i64_w, i32_w]
   rfl
  refine take_ (i := 1) (N := some 33) (v := ?_) (a' := ?_) (Mk 19 3) rfl rfl (by kernel_rfl) (fun _ _ _ h => h) (Or.inl ⟨by rfl, ?_⟩) hHeld ?_ ?_
  rotate_left
  ·rintro w' ⟨s0, s1, s2⟩
   go_simp
   with_reducible rfl
  rotate_left
  ·simp only [Act.put, List.setIfInBounds_toArray, List.set_cons_zero, List.set_cons_succ, i64_w, i32_w]
   rfl
  refine pure_ (i := 2) (N := some 34) (v := ?_) (a' := ?_) (Mk 19 7) rfl rfl (by kernel_rfl) (fun _ _ _ h => h) (Or.inl ⟨by rfl, ?_⟩) ?_ ?_
  rotate_left
  ·intro w'
   first | (go_simp; with_reducible rfl) | (go_simp; (try unfold Instr.field); go_simp; (try simp only [asAgg]); go_simp; with_reducible rfl)
  rotate_left
  ·simp only [Act.put, List.setIfInBounds_toArray, List.set_cons_zero, List.set_cons_succ, i64_w, i32_w]
   rfl
  refine pure_ (i := 5) (N := some 37) (v := ?_) (a' := ?_) (Mk 19 39) rfl rfl (by kernel_rfl) (fun _ _ _ h => h) (Or.inl ⟨by rfl, ?_⟩) ?_ ?_
  rotate_left
  ·intro w'
   first | (go_simp; with_reducible rfl) | (go_simp; (try unfold Instr.field); go_simp; (try simp only [asAgg]); go_simp; with_reducible rfl)
  rotate_left
  ·simp only [Act.put, List.setIfInBounds_toArray, List.set_cons_zero, List.set_cons_succ, i64_w, i32_w]
   rfl
  refine pure_ (i := 8) (N := some 40) (v := ?_) (a' := ?_) (Mk 19 295) rfl rfl (by kernel_rfl) (fun _ _ _ h => h) (Or.inl ⟨by rfl, ?_⟩) ?_ ?_
  rotate_left
  ·intro w'
   first | (go_simp; with_reducible rfl) | (go_simp; (try unfold Instr.field); go_simp; (try simp only [asAgg]); go_simp; with_reducible rfl)
  rotate_left
  ·simp only [Act.put, List.setIfInBounds_toArray, List.set_cons_zero, List.set_cons_succ, i64_w, i32_w]
   rfl
  refine pure_ (i := 11) (N := some 43) (v := ?_) (a' := ?_) (Mk 19 2343) rfl rfl (by kernel_rfl) (fun _ _ _ h => h) (Or.inl ⟨by rfl, ?_⟩) ?_ ?_
  rotate_left
  ·intro w'
   first | (go_simp; with_reducible rfl) | (go_simp; (try unfold Instr.field); go_simp; (try simp only [asAgg]); go_simp; with_reducible rfl)
  rotate_left
  ·simp only [Act.put, List.setIfInBounds_toArray, List.set_cons_zero, List.set_cons_succ, i64_w, i32_w]
   rfl
  refine join_ (σ := Value × Value × Value × Value × Value) 8 (Mk 19 3071) (fun s_ => [(35, s_.1), (36, s_.2.1), (38, s_.2.2.1), (39, s_.2.2.2.1), (41, s_.2.2.2.2)]) (fun s_ w' => Dr.Cg w0 w w' g code (b + 242 + 1 + 1) c v (.slice A1 l1.length c1) (.slice A2 l2.length c2) l1 l2 8 4 24 ∧ (∃ p4 : Int, s_.2.1 = .int .i64 p4) ∧ (∃ p7 : Int, s_.2.2.2.1 = .int .i64 p7) ∧ ∃ A9_ c9_, s_.2.2.2.2 = .slice A9_ y9.length c9_ ∧ Kd.R (Kd.int .i64) 2 w' w.heap.size (fun _ => True) (.slice A9_ y9.length c9_) y9) ?_ ?_
  rotate_left
  ·intro hCont
   refine three_ (i := 3) (j := 6) (k := 9) (Ni := some 35) (Nj := some 38) (Nk := some 41) (Mk 19 2351) (Mk 19 2407) (Mk 19 2855) rfl rfl rfl rfl rfl rfl (by kernel_rfl) (by decide) (by decide) (by decide) (fun K hK => ?_) (fun K hK => ?_) (fun K hK => ?_)
   ·skip
    refine Kd.R_lit_step (Kd.int .i64) _ 2 ?hg (N := 35) ?hd (xs := ([0, 4294967295] : List Int)) (inner := [.int .i64 0, .int .i64 4294967295]) (ok := fun _ => True) (okp := fun _ => True) ?hr ?hp (fun _ hk => hk) trivial (Below.refl _ _) (Nat.le_refl _) (by simp) ?_; (case hd => rfl); (case hg => rfl); (case hr => first | (go_simp; done) | (go_simp; rfl)); (case hp => exact (Reps.one (show Kd.M (Kd.int .i64) _ _ _ 0 [.int .i64 0] from rfl) (Reps.one (show Kd.M (Kd.int .i64) _ _ _ 4294967295 [.int .i64 4294967295] from rfl) (Reps.none _ _))))
    intro v3 wc hR3 hb_ _ _
    rw [← hy3.out] at hR3
    replace hR3 := Kd.R_lower hR3 hC.2.1.1
    obtain ⟨A3_, c3_, e3_⟩ := Kd.R_slice hR3
    subst e3_
    replace hC := Dr.Cg.below hC hb_
    clear hb_
    refine hK.out _ _ (Dr.Cg.held hC) (fun hHeld => ?_)
    clear hK K
    refine norm_ (a' := ?_) ?_ ?_
    rotate_left
    ·show Act.put _ (some 35) _ = _
     simp only [Act.put, List.setIfInBounds_toArray, List.set_cons_zero, List.set_cons_succ, i64_w, i32_w]
     rfl
    refine three_ (i := 4) (j := 6) (k := 9) (Ni := some 36) (Nj := some 38) (Nk := some 41) (Mk 19 2367) (Mk 19 2415) (Mk 19 2863) rfl rfl rfl rfl rfl rfl (by kernel_rfl) (by decide) (by decide) (by decide) (fun K hK => ?_) (fun K hK => ?_) (fun K hK => ?_)
    ·skip
     refine goes_ Try.func81 (by kernel_rfl) rfl #[.pointer (some ⟨g, 0, none⟩), .slice A3_ y3.length c3_] (by rfl) rfl rfl (by (try simp only [List.map_toArray, List.map_cons, List.map_nil]); first | done | rfl) ?_
     refine (Dr.pick' hC.1 (by omega) hR3 hl3.1 hl3.2).mono ?_
     rintro e_ wc ⟨p4, rfl, hs_, hk_⟩
     refine ⟨_, rfl, ?_⟩
     replace hC := Dr.Cg.keep hC hs_ hk_
     clear hs_ hk_ hR3
     refine hK.out _ _ (Dr.Cg.held hC) (fun hHeld => ?_)
     clear hK K
     refine norm_ (a' := ?_) ?_ ?_
     rotate_left
     ·show Act.put _ (some 36) _ = _
      simp only [Act.put, List.setIfInBounds_toArray, List.set_cons_zero, List.set_cons_succ, i64_w, i32_w]
      rfl
     refine two_ (i := 6) (j := 9) (Ni := some 38) (Nj := some 41) (Mk 19 2431) (Mk 19 2879) rfl rfl rfl rfl (by kernel_rfl) (by decide) (by decide) (fun K hK => ?_) (fun K hK => ?_)
     ·skip
      refine Kd.R_lit_step (Kd.int .i64) _ 2 ?hg (N := 38) ?hd (xs := ([80, 65536] : List Int)) (inner := [.int .i64 80, .int .i64 65536]) (ok := fun _ => True) (okp := fun _ => True) ?hr ?hp (fun _ hk => hk) trivial (Below.refl _ _) (Nat.le_refl _) (by simp) ?_; (case hd => rfl); (case hg => rfl); (case hr => first | (go_simp; done) | (go_simp; rfl)); (case hp => exact (Reps.one (show Kd.M (Kd.int .i64) _ _ _ 80 [.int .i64 80] from rfl) (Reps.one (show Kd.M (Kd.int .i64) _ _ _ 65536 [.int .i64 65536] from rfl) (Reps.none _ _))))
      intro v6 wc hR6 hb_ _ _
      rw [← hy6.out] at hR6
      replace hR6 := Kd.R_lower hR6 hC.2.1.1
      obtain ⟨A6_, c6_, e6_⟩ := Kd.R_slice hR6
      subst e6_
      replace hC := Dr.Cg.below hC hb_
      clear hb_
      refine hK.out _ _ (Dr.Cg.held hC) (fun hHeld => ?_)
      clear hK K
      refine norm_ (a' := ?_) ?_ ?_
      rotate_left
      ·show Act.put _ (some 38) _ = _
       simp only [Act.put, List.setIfInBounds_toArray, List.set_cons_zero, List.set_cons_succ, i64_w, i32_w]
       rfl
      refine two_ (i := 7) (j := 9) (Ni := some 39) (Nj := some 41) (Mk 19 2559) (Mk 19 2943) rfl rfl rfl rfl (by kernel_rfl) (by decide) (by decide) (fun K hK => ?_) (fun K hK => ?_)
      ·skip
       refine goes_ Try.func81 (by kernel_rfl) rfl #[.pointer (some ⟨g, 0, none⟩), .slice A6_ y6.length c6_] (by rfl) rfl rfl (by (try simp only [List.map_toArray, List.map_cons, List.map_nil]); first | done | rfl) ?_
       refine (Dr.pick' hC.1 (by omega) hR6 hl6.1 hl6.2).mono ?_
       rintro e_ wc ⟨p7, rfl, hs_, hk_⟩
       refine ⟨_, rfl, ?_⟩
       replace hC := Dr.Cg.keep hC hs_ hk_
       clear hs_ hk_ hR6
       refine hK.out _ _ (Dr.Cg.held hC) (fun hHeld => ?_)
       clear hK K
       refine norm_ (a' := ?_) ?_ ?_
       rotate_left
       ·show Act.put _ (some 39) _ = _
        simp only [Act.put, List.setIfInBounds_toArray, List.set_cons_zero, List.set_cons_succ, i64_w, i32_w]
        rfl
       refine one_ (i := 9) (N := some 41) (Mk 19 3071) rfl rfl (by kernel_rfl) (by decide) (fun K hK => ?_)
       refine Kd.R_lit_step (Kd.int .i64) _ 2 ?hg (N := 41) ?hd (xs := ([6, 1] : List Int)) (inner := [.int .i64 6, .int .i64 1]) (ok := fun _ => True) (okp := fun _ => True) ?hr ?hp (fun _ hk => hk) trivial (Below.refl _ _) (Nat.le_refl _) (by simp) ?_; (case hd => rfl); (case hg => rfl); (case hr => first | (go_simp; done) | (go_simp; rfl)); (case hp => exact (Reps.one (show Kd.M (Kd.int .i64) _ _ _ 6 [.int .i64 6] from rfl) (Reps.one (show Kd.M (Kd.int .i64) _ _ _ 1 [.int .i64 1] from rfl) (Reps.none _ _))))
       intro v9 wc hR9 hb_ _ _
       rw [← hy9.out] at hR9
       replace hR9 := Kd.R_lower hR9 hC.2.1.1
       obtain ⟨A9_, c9_, e9_⟩ := Kd.R_slice hR9
       subst e9_
       replace hC := Dr.Cg.below hC hb_
       clear hb_
       refine hK.out _ _ (Dr.Cg.held hC) (fun hHeld => ?_)
       clear hK K
       refine norm_ (a' := ?_) ?_ ?_
       rotate_left
       ·show Act.put _ (some 41) _ = _
        simp only [Act.put, List.setIfInBounds_toArray, List.set_cons_zero, List.set_cons_succ, i64_w, i32_w]
        rfl
       exact norm_ (by simp only [putAll, Act.put, List.setIfInBounds_toArray, List.set_cons_zero, List.set_cons_succ]) (hCont (.slice A3_ y3.length c3_, .int .i64 p4, .slice A6_ y6.length c6_, .int .i64 p7, .slice A9_ y9.length c9_) _ ⟨hC, ⟨p4, rfl⟩, ⟨p7, rfl⟩, ⟨A9_, c9_, rfl, hR9⟩⟩)
      ·skip
       refine Kd.R_lit_step (Kd.int .i64) _ 2 ?hg (N := 41) ?hd (xs := ([6, 1] : List Int)) (inner := [.int .i64 6, .int .i64 1]) (ok := fun _ => True) (okp := fun _ => True) ?hr ?hp (fun _ hk => hk) trivial (Below.refl _ _) (Nat.le_refl _) (by simp) ?_; (case hd => rfl); (case hg => rfl); (case hr => first | (go_simp; done) | (go_simp; rfl)); (case hp => exact (Reps.one (show Kd.M (Kd.int .i64) _ _ _ 6 [.int .i64 6] from rfl) (Reps.one (show Kd.M (Kd.int .i64) _ _ _ 1 [.int .i64 1] from rfl) (Reps.none _ _))))
       intro v9 wc hR9 hb_ _ _
       rw [← hy9.out] at hR9
       replace hR9 := Kd.R_lower hR9 hC.2.1.1
       obtain ⟨A9_, c9_, e9_⟩ := Kd.R_slice hR9
       subst e9_
       replace hR6 := Kd.R_below hR6 hb_
       replace hC := Dr.Cg.below hC hb_
       clear hb_
       refine hK.out _ _ (Dr.Cg.held hC) (fun hHeld => ?_)
       clear hK K
       refine norm_ (a' := ?_) ?_ ?_
       rotate_left
       ·show Act.put _ (some 41) _ = _
        simp only [Act.put, List.setIfInBounds_toArray, List.set_cons_zero, List.set_cons_succ, i64_w, i32_w]
        rfl
       refine one_ (i := 7) (N := some 39) (Mk 19 3071) rfl rfl (by kernel_rfl) (by decide) (fun K hK => ?_)
       refine goes_ Try.func81 (by kernel_rfl) rfl #[.pointer (some ⟨g, 0, none⟩), .slice A6_ y6.length c6_] (by rfl) rfl rfl (by (try simp only [List.map_toArray, List.map_cons, List.map_nil]); first | done | rfl) ?_
       refine (Dr.pick' hC.1 (by omega) hR6 hl6.1 hl6.2).mono ?_
       rintro e_ wc ⟨p7, rfl, hs_, hk_⟩
       refine ⟨_, rfl, ?_⟩
       replace hR9 := Dr.keepR hC.1 hR9 (by decide) hk_
       replace hC := Dr.Cg.keep hC hs_ hk_
       clear hs_ hk_ hR6
       refine hK.out _ _ (Dr.Cg.held hC) (fun hHeld => ?_)
       clear hK K
       refine norm_ (a' := ?_) ?_ ?_
       rotate_left
       ·show Act.put _ (some 39) _ = _
        simp only [Act.put, List.setIfInBounds_toArray, List.set_cons_zero, List.set_cons_succ, i64_w, i32_w]
        rfl
       exact norm_ (by simp only [putAll, Act.put, List.setIfInBounds_toArray, List.set_cons_zero, List.set_cons_succ]) (hCont (.slice A3_ y3.length c3_, .int .i64 p4, .slice A6_ y6.length c6_, .int .i64 p7, .slice A9_ y9.length c9_) _ ⟨hC, ⟨p4, rfl⟩, ⟨p7, rfl⟩, ⟨A9_, c9_, rfl, hR9⟩⟩)
     ·skip
      refine Kd.R_lit_step (Kd.int .i64) _ 2 ?hg (N := 41) ?hd (xs := ([6, 1] : List Int)) (inner := [.int .i64 6, .int .i64 1]) (ok := fun _ => True) (okp := fun _ => True) ?hr ?hp (fun _ hk => hk) trivial (Below.refl _ _) (Nat.le_refl _) (by simp) ?_; (case hd => rfl); (case hg => rfl); (case hr => first | (go_simp; done) | (go_simp; rfl)); (case hp => exact (Reps.one (show Kd.M (Kd.int .i64) _ _ _ 6 [.int .i64 6] from rfl) (Reps.one (show Kd.M (Kd.int .i64) _ _ _ 1 [.int .i64 1] from rfl) (Reps.none _ _))))
      intro v9 wc hR9 hb_ _ _
      rw [← hy9.out] at hR9
      replace hR9 := Kd.R_lower hR9 hC.2.1.1
      obtain ⟨A9_, c9_, e9_⟩ := Kd.R_slice hR9
      subst e9_
      replace hC := Dr.Cg.below hC hb_
      clear hb_
      refine hK.out _ _ (Dr.Cg.held hC) (fun hHeld => ?_)
      clear hK K
      refine norm_ (a' := ?_) ?_ ?_
      rotate_left
      ·show Act.put _ (some 41) _ = _
       simp only [Act.put, List.setIfInBounds_toArray, List.set_cons_zero, List.set_cons_succ, i64_w, i32_w]
       rfl
      refine one_ (i := 6) (N := some 38) (Mk 19 2943) rfl rfl (by kernel_rfl) (by decide) (fun K hK => ?_)
      refine Kd.R_lit_step (Kd.int .i64) _ 2 ?hg (N := 38) ?hd (xs := ([80, 65536] : List Int)) (inner := [.int .i64 80, .int .i64 65536]) (ok := fun _ => True) (okp := fun _ => True) ?hr ?hp (fun _ hk => hk) trivial (Below.refl _ _) (Nat.le_refl _) (by simp) ?_; (case hd => rfl); (case hg => rfl); (case hr => first | (go_simp; done) | (go_simp; rfl)); (case hp => exact (Reps.one (show Kd.M (Kd.int .i64) _ _ _ 80 [.int .i64 80] from rfl) (Reps.one (show Kd.M (Kd.int .i64) _ _ _ 65536 [.int .i64 65536] from rfl) (Reps.none _ _))))
      intro v6 wc hR6 hb_ _ _
      rw [← hy6.out] at hR6
      replace hR6 := Kd.R_lower hR6 hC.2.1.1
      obtain ⟨A6_, c6_, e6_⟩ := Kd.R_slice hR6
      subst e6_
      replace hR9 := Kd.R_below hR9 hb_
      replace hC := Dr.Cg.below hC hb_
      clear hb_
      refine hK.out _ _ (Dr.Cg.held hC) (fun hHeld => ?_)
      clear hK K
      refine norm_ (a' := ?_) ?_ ?_
      rotate_left
      ·show Act.put _ (some 38) _ = _
       simp only [Act.put, List.setIfInBounds_toArray, List.set_cons_zero, List.set_cons_succ, i64_w, i32_w]
       rfl
      refine one_ (i := 7) (N := some 39) (Mk 19 3071) rfl rfl (by kernel_rfl) (by decide) (fun K hK => ?_)
      refine goes_ Try.func81 (by kernel_rfl) rfl #[.pointer (some ⟨g, 0, none⟩), .slice A6_ y6.length c6_] (by rfl) rfl rfl (by (try simp only [List.map_toArray, List.map_cons, List.map_nil]); first | done | rfl) ?_
      refine (Dr.pick' hC.1 (by omega) hR6 hl6.1 hl6.2).mono ?_
      rintro e_ wc ⟨p7, rfl, hs_, hk_⟩
      refine ⟨_, rfl, ?_⟩
      replace hR9 := Dr.keepR hC.1 hR9 (by decide) hk_
      replace hC := Dr.Cg.keep hC hs_ hk_
      clear hs_ hk_ hR6
      refine hK.out _ _ (Dr.Cg.held hC) (fun hHeld => ?_)
      clear hK K
      refine norm_ (a' := ?_) ?_ ?_
      rotate_left
      ·show Act.put _ (some 39) _ = _
       simp only [Act.put, List.setIfInBounds_toArray, List.set_cons_zero, List.set_cons_succ, i64_w, i32_w]
       rfl
      exact norm_ (by simp only [putAll, Act.put, List.setIfInBounds_toArray, List.set_cons_zero, List.set_cons_succ]) (hCont (.slice A3_ y3.length c3_, .int .i64 p4, .slice A6_ y6.length c6_, .int .i64 p7, .slice A9_ y9.length c9_) _ ⟨hC, ⟨p4, rfl⟩, ⟨p7, rfl⟩, ⟨A9_, c9_, rfl, hR9⟩⟩)
    ·skip
     refine Kd.R_lit_step (Kd.int .i64) _ 2 ?hg (N := 38) ?hd (xs := ([80, 65536] : List Int)) (inner := [.int .i64 80, .int .i64 65536]) (ok := fun _ => True) (okp := fun _ => True) ?hr ?hp (fun _ hk => hk) trivial (Below.refl _ _) (Nat.le_refl _) (by simp) ?_; (case hd => rfl); (case hg => rfl); (case hr => first | (go_simp; done) | (go_simp; rfl)); (case hp => exact (Reps.one (show Kd.M (Kd.int .i64) _ _ _ 80 [.int .i64 80] from rfl) (Reps.one (show Kd.M (Kd.int .i64) _ _ _ 65536 [.int .i64 65536] from rfl) (Reps.none _ _))))
     intro v6 wc hR6 hb_ _ _
     rw [← hy6.out] at hR6
     replace hR6 := Kd.R_lower hR6 hC.2.1.1
     obtain ⟨A6_, c6_, e6_⟩ := Kd.R_slice hR6
     subst e6_
     replace hR3 := Kd.R_below hR3 hb_
     replace hC := Dr.Cg.below hC hb_
     clear hb_
     refine hK.out _ _ (Dr.Cg.held hC) (fun hHeld => ?_)
     clear hK K
     refine norm_ (a' := ?_) ?_ ?_
     rotate_left
     ·show Act.put _ (some 38) _ = _
      simp only [Act.put, List.setIfInBounds_toArray, List.set_cons_zero, List.set_cons_succ, i64_w, i32_w]
      rfl
     refine two_ (i := 4) (j := 9) (Ni := some 36) (Nj := some 41) (Mk 19 2431) (Mk 19 2927) rfl rfl rfl rfl (by kernel_rfl) (by decide) (by decide) (fun K hK => ?_) (fun K hK => ?_)
     ·skip
      refine goes_ Try.func81 (by kernel_rfl) rfl #[.pointer (some ⟨g, 0, none⟩), .slice A3_ y3.length c3_] (by rfl) rfl rfl (by (try simp only [List.map_toArray, List.map_cons, List.map_nil]); first | done | rfl) ?_
      refine (Dr.pick' hC.1 (by omega) hR3 hl3.1 hl3.2).mono ?_
      rintro e_ wc ⟨p4, rfl, hs_, hk_⟩
      refine ⟨_, rfl, ?_⟩
      replace hR6 := Dr.keepR hC.1 hR6 (by decide) hk_
      replace hC := Dr.Cg.keep hC hs_ hk_
      clear hs_ hk_ hR3
      refine hK.out _ _ (Dr.Cg.held hC) (fun hHeld => ?_)
      clear hK K
      refine norm_ (a' := ?_) ?_ ?_
      rotate_left
      ·show Act.put _ (some 36) _ = _
       simp only [Act.put, List.setIfInBounds_toArray, List.set_cons_zero, List.set_cons_succ, i64_w, i32_w]
       rfl
      refine two_ (i := 7) (j := 9) (Ni := some 39) (Nj := some 41) (Mk 19 2559) (Mk 19 2943) rfl rfl rfl rfl (by kernel_rfl) (by decide) (by decide) (fun K hK => ?_) (fun K hK => ?_)
      ·skip
       refine goes_ Try.func81 (by kernel_rfl) rfl #[.pointer (some ⟨g, 0, none⟩), .slice A6_ y6.length c6_] (by rfl) rfl rfl (by (try simp only [List.map_toArray, List.map_cons, List.map_nil]); first | done | rfl) ?_
       refine (Dr.pick' hC.1 (by omega) hR6 hl6.1 hl6.2).mono ?_
       rintro e_ wc ⟨p7, rfl, hs_, hk_⟩
       refine ⟨_, rfl, ?_⟩
       replace hC := Dr.Cg.keep hC hs_ hk_
       clear hs_ hk_ hR6
       refine hK.out _ _ (Dr.Cg.held hC) (fun hHeld => ?_)
       clear hK K
       refine norm_ (a' := ?_) ?_ ?_
       rotate_left
       ·show Act.put _ (some 39) _ = _
        simp only [Act.put, List.setIfInBounds_toArray, List.set_cons_zero, List.set_cons_succ, i64_w, i32_w]
        rfl
       refine one_ (i := 9) (N := some 41) (Mk 19 3071) rfl rfl (by kernel_rfl) (by decide) (fun K hK => ?_)
       refine Kd.R_lit_step (Kd.int .i64) _ 2 ?hg (N := 41) ?hd (xs := ([6, 1] : List Int)) (inner := [.int .i64 6, .int .i64 1]) (ok := fun _ => True) (okp := fun _ => True) ?hr ?hp (fun _ hk => hk) trivial (Below.refl _ _) (Nat.le_refl _) (by simp) ?_; (case hd => rfl); (case hg => rfl); (case hr => first | (go_simp; done) | (go_simp; rfl)); (case hp => exact (Reps.one (show Kd.M (Kd.int .i64) _ _ _ 6 [.int .i64 6] from rfl) (Reps.one (show Kd.M (Kd.int .i64) _ _ _ 1 [.int .i64 1] from rfl) (Reps.none _ _))))
       intro v9 wc hR9 hb_ _ _
       rw [← hy9.out] at hR9
       replace hR9 := Kd.R_lower hR9 hC.2.1.1
       obtain ⟨A9_, c9_, e9_⟩ := Kd.R_slice hR9
       subst e9_
       replace hC := Dr.Cg.below hC hb_
       clear hb_
       refine hK.out _ _ (Dr.Cg.held hC) (fun hHeld => ?_)
       clear hK K
       refine norm_ (a' := ?_) ?_ ?_
       rotate_left
       ·show Act.put _ (some 41) _ = _
        simp only [Act.put, List.setIfInBounds_toArray, List.set_cons_zero, List.set_cons_succ, i64_w, i32_w]
        rfl
       exact norm_ (by simp only [putAll, Act.put, List.setIfInBounds_toArray, List.set_cons_zero, List.set_cons_succ]) (hCont (.slice A3_ y3.length c3_, .int .i64 p4, .slice A6_ y6.length c6_, .int .i64 p7, .slice A9_ y9.length c9_) _ ⟨hC, ⟨p4, rfl⟩, ⟨p7, rfl⟩, ⟨A9_, c9_, rfl, hR9⟩⟩)
      ·skip
       refine Kd.R_lit_step (Kd.int .i64) _ 2 ?hg (N := 41) ?hd (xs := ([6, 1] : List Int)) (inner := [.int .i64 6, .int .i64 1]) (ok := fun _ => True) (okp := fun _ => True) ?hr ?hp (fun _ hk => hk) trivial (Below.refl _ _) (Nat.le_refl _) (by simp) ?_; (case hd => rfl); (case hg => rfl); (case hr => first | (go_simp; done) | (go_simp; rfl)); (case hp => exact (Reps.one (show Kd.M (Kd.int .i64) _ _ _ 6 [.int .i64 6] from rfl) (Reps.one (show Kd.M (Kd.int .i64) _ _ _ 1 [.int .i64 1] from rfl) (Reps.none _ _))))
       intro v9 wc hR9 hb_ _ _
       rw [← hy9.out] at hR9
       replace hR9 := Kd.R_lower hR9 hC.2.1.1
       obtain ⟨A9_, c9_, e9_⟩ := Kd.R_slice hR9
       subst e9_
       replace hR6 := Kd.R_below hR6 hb_
       replace hC := Dr.Cg.below hC hb_
       clear hb_
       refine hK.out _ _ (Dr.Cg.held hC) (fun hHeld => ?_)
       clear hK K
       refine norm_ (a' := ?_) ?_ ?_
       rotate_left
       ·show Act.put _ (some 41) _ = _
        simp only [Act.put, List.setIfInBounds_toArray, List.set_cons_zero, List.set_cons_succ, i64_w, i32_w]
        rfl
       refine one_ (i := 7) (N := some 39) (Mk 19 3071) rfl rfl (by kernel_rfl) (by decide) (fun K hK => ?_)
       refine goes_ Try.func81 (by kernel_rfl) rfl #[.pointer (some ⟨g, 0, none⟩), .slice A6_ y6.length c6_] (by rfl) rfl rfl (by (try simp only [List.map_toArray, List.map_cons, List.map_nil]); first | done | rfl) ?_
       refine (Dr.pick' hC.1 (by omega) hR6 hl6.1 hl6.2).mono ?_
       rintro e_ wc ⟨p7, rfl, hs_, hk_⟩
       refine ⟨_, rfl, ?_⟩
       replace hR9 := Dr.keepR hC.1 hR9 (by decide) hk_
       replace hC := Dr.Cg.keep hC hs_ hk_
       clear hs_ hk_ hR6
       refine hK.out _ _ (Dr.Cg.held hC) (fun hHeld => ?_)
       clear hK K
       refine norm_ (a' := ?_) ?_ ?_
       rotate_left
       ·show Act.put _ (some 39) _ = _
        simp only [Act.put, List.setIfInBounds_toArray, List.set_cons_zero, List.set_cons_succ, i64_w, i32_w]
        rfl
       exact norm_ (by simp only [putAll, Act.put, List.setIfInBounds_toArray, List.set_cons_zero, List.set_cons_succ]) (hCont (.slice A3_ y3.length c3_, .int .i64 p4, .slice A6_ y6.length c6_, .int .i64 p7, .slice A9_ y9.length c9_) _ ⟨hC, ⟨p4, rfl⟩, ⟨p7, rfl⟩, ⟨A9_, c9_, rfl, hR9⟩⟩)
     ·skip
      refine Kd.R_lit_step (Kd.int .i64) _ 2 ?hg (N := 41) ?hd (xs := ([6, 1] : List Int)) (inner := [.int .i64 6, .int .i64 1]) (ok := fun _ => True) (okp := fun _ => True) ?hr ?hp (fun _ hk => hk) trivial (Below.refl _ _) (Nat.le_refl _) (by simp) ?_; (case hd => rfl); (case hg => rfl); (case hr => first | (go_simp; done) | (go_simp; rfl)); (case hp => exact (Reps.one (show Kd.M (Kd.int .i64) _ _ _ 6 [.int .i64 6] from rfl) (Reps.one (show Kd.M (Kd.int .i64) _ _ _ 1 [.int .i64 1] from rfl) (Reps.none _ _))))
      intro v9 wc hR9 hb_ _ _
      rw [← hy9.out] at hR9
      replace hR9 := Kd.R_lower hR9 hC.2.1.1
      obtain ⟨A9_, c9_, e9_⟩ := Kd.R_slice hR9
      subst e9_
      replace hR3 := Kd.R_below hR3 hb_
      replace hR6 := Kd.R_below hR6 hb_
      replace hC := Dr.Cg.below hC hb_
      clear hb_
      refine hK.out _ _ (Dr.Cg.held hC) (fun hHeld => ?_)
      clear hK K
      refine norm_ (a' := ?_) ?_ ?_
      rotate_left
      ·show Act.put _ (some 41) _ = _
       simp only [Act.put, List.setIfInBounds_toArray, List.set_cons_zero, List.set_cons_succ, i64_w, i32_w]
       rfl
      refine one_ (i := 4) (N := some 36) (Mk 19 2943) rfl rfl (by kernel_rfl) (by decide) (fun K hK => ?_)
      refine goes_ Try.func81 (by kernel_rfl) rfl #[.pointer (some ⟨g, 0, none⟩), .slice A3_ y3.length c3_] (by rfl) rfl rfl (by (try simp only [List.map_toArray, List.map_cons, List.map_nil]); first | done | rfl) ?_
      refine (Dr.pick' hC.1 (by omega) hR3 hl3.1 hl3.2).mono ?_
      rintro e_ wc ⟨p4, rfl, hs_, hk_⟩
      refine ⟨_, rfl, ?_⟩
      replace hR9 := Dr.keepR hC.1 hR9 (by decide) hk_
      replace hR6 := Dr.keepR hC.1 hR6 (by decide) hk_
      replace hC := Dr.Cg.keep hC hs_ hk_
      clear hs_ hk_ hR3
      refine hK.out _ _ (Dr.Cg.held hC) (fun hHeld => ?_)
      clear hK K
      refine norm_ (a' := ?_) ?_ ?_
      rotate_left
      ·show Act.put _ (some 36) _ = _
       simp only [Act.put, List.setIfInBounds_toArray, List.set_cons_zero, List.set_cons_succ, i64_w, i32_w]
       rfl
      refine one_ (i := 7) (N := some 39) (Mk 19 3071) rfl rfl (by kernel_rfl) (by decide) (fun K hK => ?_)
      refine goes_ Try.func81 (by kernel_rfl) rfl #[.pointer (some ⟨g, 0, none⟩), .slice A6_ y6.length c6_] (by rfl) rfl rfl (by (try simp only [List.map_toArray, List.map_cons, List.map_nil]); first | done | rfl) ?_
      refine (Dr.pick' hC.1 (by omega) hR6 hl6.1 hl6.2).mono ?_
      rintro e_ wc ⟨p7, rfl, hs_, hk_⟩
      refine ⟨_, rfl, ?_⟩
      replace hR9 := Dr.keepR hC.1 hR9 (by decide) hk_
      replace hC := Dr.Cg.keep hC hs_ hk_
      clear hs_ hk_ hR6
      refine hK.out _ _ (Dr.Cg.held hC) (fun hHeld => ?_)
      clear hK K
      refine norm_ (a' := ?_) ?_ ?_
      rotate_left
      ·show Act.put _ (some 39) _ = _
       simp only [Act.put, List.setIfInBounds_toArray, List.set_cons_zero, List.set_cons_succ, i64_w, i32_w]
       rfl
      exact norm_ (by simp only [putAll, Act.put, List.setIfInBounds_toArray, List.set_cons_zero, List.set_cons_succ]) (hCont (.slice A3_ y3.length c3_, .int .i64 p4, .slice A6_ y6.length c6_, .int .i64 p7, .slice A9_ y9.length c9_) _ ⟨hC, ⟨p4, rfl⟩, ⟨p7, rfl⟩, ⟨A9_, c9_, rfl, hR9⟩⟩)
    ·skip
     refine Kd.R_lit_step (Kd.int .i64) _ 2 ?hg (N := 41) ?hd (xs := ([6, 1] : List Int)) (inner := [.int .i64 6, .int .i64 1]) (ok := fun _ => True) (okp := fun _ => True) ?hr ?hp (fun _ hk => hk) trivial (Below.refl _ _) (Nat.le_refl _) (by simp) ?_; (case hd => rfl); (case hg => rfl); (case hr => first | (go_simp; done) | (go_simp; rfl)); (case hp => exact (Reps.one (show Kd.M (Kd.int .i64) _ _ _ 6 [.int .i64 6] from rfl) (Reps.one (show Kd.M (Kd.int .i64) _ _ _ 1 [.int .i64 1] from rfl) (Reps.none _ _))))
     intro v9 wc hR9 hb_ _ _
     rw [← hy9.out] at hR9
     replace hR9 := Kd.R_lower hR9 hC.2.1.1
     obtain ⟨A9_, c9_, e9_⟩ := Kd.R_slice hR9
     subst e9_
     replace hR3 := Kd.R_below hR3 hb_
     replace hC := Dr.Cg.below hC hb_
     clear hb_
     refine hK.out _ _ (Dr.Cg.held hC) (fun hHeld => ?_)
     clear hK K
     refine norm_ (a' := ?_) ?_ ?_
     rotate_left
     ·show Act.put _ (some 41) _ = _
      simp only [Act.put, List.setIfInBounds_toArray, List.set_cons_zero, List.set_cons_succ, i64_w, i32_w]
      rfl
     refine two_ (i := 4) (j := 6) (Ni := some 36) (Nj := some 38) (Mk 19 2879) (Mk 19 2927) rfl rfl rfl rfl (by kernel_rfl) (by decide) (by decide) (fun K hK => ?_) (fun K hK => ?_)
     ·skip
      refine goes_ Try.func81 (by kernel_rfl) rfl #[.pointer (some ⟨g, 0, none⟩), .slice A3_ y3.length c3_] (by rfl) rfl rfl (by (try simp only [List.map_toArray, List.map_cons, List.map_nil]); first | done | rfl) ?_
      refine (Dr.pick' hC.1 (by omega) hR3 hl3.1 hl3.2).mono ?_
      rintro e_ wc ⟨p4, rfl, hs_, hk_⟩
      refine ⟨_, rfl, ?_⟩
      replace hR9 := Dr.keepR hC.1 hR9 (by decide) hk_
      replace hC := Dr.Cg.keep hC hs_ hk_
      clear hs_ hk_ hR3
      refine hK.out _ _ (Dr.Cg.held hC) (fun hHeld => ?_)
      clear hK K
      refine norm_ (a' := ?_) ?_ ?_
      rotate_left
      ·show Act.put _ (some 36) _ = _
       simp only [Act.put, List.setIfInBounds_toArray, List.set_cons_zero, List.set_cons_succ, i64_w, i32_w]
       rfl
      refine one_ (i := 6) (N := some 38) (Mk 19 2943) rfl rfl (by kernel_rfl) (by decide) (fun K hK => ?_)
      refine Kd.R_lit_step (Kd.int .i64) _ 2 ?hg (N := 38) ?hd (xs := ([80, 65536] : List Int)) (inner := [.int .i64 80, .int .i64 65536]) (ok := fun _ => True) (okp := fun _ => True) ?hr ?hp (fun _ hk => hk) trivial (Below.refl _ _) (Nat.le_refl _) (by simp) ?_; (case hd => rfl); (case hg => rfl); (case hr => first | (go_simp; done) | (go_simp; rfl)); (case hp => exact (Reps.one (show Kd.M (Kd.int .i64) _ _ _ 80 [.int .i64 80] from rfl) (Reps.one (show Kd.M (Kd.int .i64) _ _ _ 65536 [.int .i64 65536] from rfl) (Reps.none _ _))))
      intro v6 wc hR6 hb_ _ _
      rw [← hy6.out] at hR6
      replace hR6 := Kd.R_lower hR6 hC.2.1.1
      obtain ⟨A6_, c6_, e6_⟩ := Kd.R_slice hR6
      subst e6_
      replace hR9 := Kd.R_below hR9 hb_
      replace hC := Dr.Cg.below hC hb_
      clear hb_
      refine hK.out _ _ (Dr.Cg.held hC) (fun hHeld => ?_)
      clear hK K
      refine norm_ (a' := ?_) ?_ ?_
      rotate_left
      ·show Act.put _ (some 38) _ = _
       simp only [Act.put, List.setIfInBounds_toArray, List.set_cons_zero, List.set_cons_succ, i64_w, i32_w]
       rfl
      refine one_ (i := 7) (N := some 39) (Mk 19 3071) rfl rfl (by kernel_rfl) (by decide) (fun K hK => ?_)
      refine goes_ Try.func81 (by kernel_rfl) rfl #[.pointer (some ⟨g, 0, none⟩), .slice A6_ y6.length c6_] (by rfl) rfl rfl (by (try simp only [List.map_toArray, List.map_cons, List.map_nil]); first | done | rfl) ?_
      refine (Dr.pick' hC.1 (by omega) hR6 hl6.1 hl6.2).mono ?_
      rintro e_ wc ⟨p7, rfl, hs_, hk_⟩
      refine ⟨_, rfl, ?_⟩
      replace hR9 := Dr.keepR hC.1 hR9 (by decide) hk_
      replace hC := Dr.Cg.keep hC hs_ hk_
      clear hs_ hk_ hR6
      refine hK.out _ _ (Dr.Cg.held hC) (fun hHeld => ?_)
      clear hK K
      refine norm_ (a' := ?_) ?_ ?_
      rotate_left
      ·show Act.put _ (some 39) _ = _
       simp only [Act.put, List.setIfInBounds_toArray, List.set_cons_zero, List.set_cons_succ, i64_w, i32_w]
       rfl
      exact norm_ (by simp only [putAll, Act.put, List.setIfInBounds_toArray, List.set_cons_zero, List.set_cons_succ]) (hCont (.slice A3_ y3.length c3_, .int .i64 p4, .slice A6_ y6.length c6_, .int .i64 p7, .slice A9_ y9.length c9_) _ ⟨hC, ⟨p4, rfl⟩, ⟨p7, rfl⟩, ⟨A9_, c9_, rfl, hR9⟩⟩)
     ·skip
      refine Kd.R_lit_step (Kd.int .i64) _ 2 ?hg (N := 38) ?hd (xs := ([80, 65536] : List Int)) (inner := [.int .i64 80, .int .i64 65536]) (ok := fun _ => True) (okp := fun _ => True) ?hr ?hp (fun _ hk => hk) trivial (Below.refl _ _) (Nat.le_refl _) (by simp) ?_; (case hd => rfl); (case hg => rfl); (case hr => first | (go_simp; done) | (go_simp; rfl)); (case hp => exact (Reps.one (show Kd.M (Kd.int .i64) _ _ _ 80 [.int .i64 80] from rfl) (Reps.one (show Kd.M (Kd.int .i64) _ _ _ 65536 [.int .i64 65536] from rfl) (Reps.none _ _))))
      intro v6 wc hR6 hb_ _ _
      rw [← hy6.out] at hR6
      replace hR6 := Kd.R_lower hR6 hC.2.1.1
      obtain ⟨A6_, c6_, e6_⟩ := Kd.R_slice hR6
      subst e6_
      replace hR9 := Kd.R_below hR9 hb_
      replace hR3 := Kd.R_below hR3 hb_
      replace hC := Dr.Cg.below hC hb_
      clear hb_
      refine hK.out _ _ (Dr.Cg.held hC) (fun hHeld => ?_)
      clear hK K
      refine norm_ (a' := ?_) ?_ ?_
      rotate_left
      ·show Act.put _ (some 38) _ = _
       simp only [Act.put, List.setIfInBounds_toArray, List.set_cons_zero, List.set_cons_succ, i64_w, i32_w]
       rfl
      refine one_ (i := 4) (N := some 36) (Mk 19 2943) rfl rfl (by kernel_rfl) (by decide) (fun K hK => ?_)
      refine goes_ Try.func81 (by kernel_rfl) rfl #[.pointer (some ⟨g, 0, none⟩), .slice A3_ y3.length c3_] (by rfl) rfl rfl (by (try simp only [List.map_toArray, List.map_cons, List.map_nil]); first | done | rfl) ?_
      refine (Dr.pick' hC.1 (by omega) hR3 hl3.1 hl3.2).mono ?_
      rintro e_ wc ⟨p4, rfl, hs_, hk_⟩
      refine ⟨_, rfl, ?_⟩
      replace hR9 := Dr.keepR hC.1 hR9 (by decide) hk_
      replace hR6 := Dr.keepR hC.1 hR6 (by decide) hk_
      replace hC := Dr.Cg.keep hC hs_ hk_
      clear hs_ hk_ hR3
      refine hK.out _ _ (Dr.Cg.held hC) (fun hHeld => ?_)
      clear hK K
      refine norm_ (a' := ?_) ?_ ?_
      rotate_left
      ·show Act.put _ (some 36) _ = _
       simp only [Act.put, List.setIfInBounds_toArray, List.set_cons_zero, List.set_cons_succ, i64_w, i32_w]
       rfl
      refine one_ (i := 7) (N := some 39) (Mk 19 3071) rfl rfl (by kernel_rfl) (by decide) (fun K hK => ?_)
      refine goes_ Try.func81 (by kernel_rfl) rfl #[.pointer (some ⟨g, 0, none⟩), .slice A6_ y6.length c6_] (by rfl) rfl rfl (by (try simp only [List.map_toArray, List.map_cons, List.map_nil]); first | done | rfl) ?_
      refine (Dr.pick' hC.1 (by omega) hR6 hl6.1 hl6.2).mono ?_
      rintro e_ wc ⟨p7, rfl, hs_, hk_⟩
      refine ⟨_, rfl, ?_⟩
      replace hR9 := Dr.keepR hC.1 hR9 (by decide) hk_
      replace hC := Dr.Cg.keep hC hs_ hk_
      clear hs_ hk_ hR6
      refine hK.out _ _ (Dr.Cg.held hC) (fun hHeld => ?_)
      clear hK K
      refine norm_ (a' := ?_) ?_ ?_
      rotate_left
      ·show Act.put _ (some 39) _ = _
       simp only [Act.put, List.setIfInBounds_toArray, List.set_cons_zero, List.set_cons_succ, i64_w, i32_w]
       rfl
      exact norm_ (by simp only [putAll, Act.put, List.setIfInBounds_toArray, List.set_cons_zero, List.set_cons_succ]) (hCont (.slice A3_ y3.length c3_, .int .i64 p4, .slice A6_ y6.length c6_, .int .i64 p7, .slice A9_ y9.length c9_) _ ⟨hC, ⟨p4, rfl⟩, ⟨p7, rfl⟩, ⟨A9_, c9_, rfl, hR9⟩⟩)
   ·skip
    refine Kd.R_lit_step (Kd.int .i64) _ 2 ?hg (N := 38) ?hd (xs := ([80, 65536] : List Int)) (inner := [.int .i64 80, .int .i64 65536]) (ok := fun _ => True) (okp := fun _ => True) ?hr ?hp (fun _ hk => hk) trivial (Below.refl _ _) (Nat.le_refl _) (by simp) ?_; (case hd => rfl); (case hg => rfl); (case hr => first | (go_simp; done) | (go_simp; rfl)); (case hp => exact (Reps.one (show Kd.M (Kd.int .i64) _ _ _ 80 [.int .i64 80] from rfl) (Reps.one (show Kd.M (Kd.int .i64) _ _ _ 65536 [.int .i64 65536] from rfl) (Reps.none _ _))))
    intro v6 wc hR6 hb_ _ _
    rw [← hy6.out] at hR6
    replace hR6 := Kd.R_lower hR6 hC.2.1.1
    obtain ⟨A6_, c6_, e6_⟩ := Kd.R_slice hR6
    subst e6_
    replace hC := Dr.Cg.below hC hb_
    clear hb_
    refine hK.out _ _ (Dr.Cg.held hC) (fun hHeld => ?_)
    clear hK K
    refine norm_ (a' := ?_) ?_ ?_
    rotate_left
    ·show Act.put _ (some 38) _ = _
     simp only [Act.put, List.setIfInBounds_toArray, List.set_cons_zero, List.set_cons_succ, i64_w, i32_w]
     rfl
    refine two_ (i := 3) (j := 9) (Ni := some 35) (Nj := some 41) (Mk 19 2415) (Mk 19 2919) rfl rfl rfl rfl (by kernel_rfl) (by decide) (by decide) (fun K hK => ?_) (fun K hK => ?_)
    ·skip
     refine Kd.R_lit_step (Kd.int .i64) _ 2 ?hg (N := 35) ?hd (xs := ([0, 4294967295] : List Int)) (inner := [.int .i64 0, .int .i64 4294967295]) (ok := fun _ => True) (okp := fun _ => True) ?hr ?hp (fun _ hk => hk) trivial (Below.refl _ _) (Nat.le_refl _) (by simp) ?_; (case hd => rfl); (case hg => rfl); (case hr => first | (go_simp; done) | (go_simp; rfl)); (case hp => exact (Reps.one (show Kd.M (Kd.int .i64) _ _ _ 0 [.int .i64 0] from rfl) (Reps.one (show Kd.M (Kd.int .i64) _ _ _ 4294967295 [.int .i64 4294967295] from rfl) (Reps.none _ _))))
     intro v3 wc hR3 hb_ _ _
     rw [← hy3.out] at hR3
     replace hR3 := Kd.R_lower hR3 hC.2.1.1
     obtain ⟨A3_, c3_, e3_⟩ := Kd.R_slice hR3
     subst e3_
     replace hR6 := Kd.R_below hR6 hb_
     replace hC := Dr.Cg.below hC hb_
     clear hb_
     refine hK.out _ _ (Dr.Cg.held hC) (fun hHeld => ?_)
     clear hK K
     refine norm_ (a' := ?_) ?_ ?_
     rotate_left
     ·show Act.put _ (some 35) _ = _
      simp only [Act.put, List.setIfInBounds_toArray, List.set_cons_zero, List.set_cons_succ, i64_w, i32_w]
      rfl
     refine two_ (i := 4) (j := 9) (Ni := some 36) (Nj := some 41) (Mk 19 2431) (Mk 19 2927) rfl rfl rfl rfl (by kernel_rfl) (by decide) (by decide) (fun K hK => ?_) (fun K hK => ?_)
     ·skip
      refine goes_ Try.func81 (by kernel_rfl) rfl #[.pointer (some ⟨g, 0, none⟩), .slice A3_ y3.length c3_] (by rfl) rfl rfl (by (try simp only [List.map_toArray, List.map_cons, List.map_nil]); first | done | rfl) ?_
      refine (Dr.pick' hC.1 (by omega) hR3 hl3.1 hl3.2).mono ?_
      rintro e_ wc ⟨p4, rfl, hs_, hk_⟩
      refine ⟨_, rfl, ?_⟩
      replace hR6 := Dr.keepR hC.1 hR6 (by decide) hk_
      replace hC := Dr.Cg.keep hC hs_ hk_
      clear hs_ hk_ hR3
      refine hK.out _ _ (Dr.Cg.held hC) (fun hHeld => ?_)
      clear hK K
      refine norm_ (a' := ?_) ?_ ?_
      rotate_left
      ·show Act.put _ (some 36) _ = _
       simp only [Act.put, List.setIfInBounds_toArray, List.set_cons_zero, List.set_cons_succ, i64_w, i32_w]
       rfl
      refine two_ (i := 7) (j := 9) (Ni := some 39) (Nj := some 41) (Mk 19 2559) (Mk 19 2943) rfl rfl rfl rfl (by kernel_rfl) (by decide) (by decide) (fun K hK => ?_) (fun K hK => ?_)
      ·skip
       refine goes_ Try.func81 (by kernel_rfl) rfl #[.pointer (some ⟨g, 0, none⟩), .slice A6_ y6.length c6_] (by rfl) rfl rfl (by (try simp only [List.map_toArray, List.map_cons, List.map_nil]); first | done | rfl) ?_
       refine (Dr.pick' hC.1 (by omega) hR6 hl6.1 hl6.2).mono ?_
       rintro e_ wc ⟨p7, rfl, hs_, hk_⟩
       refine ⟨_, rfl, ?_⟩
       replace hC := Dr.Cg.keep hC hs_ hk_
       clear hs_ hk_ hR6
       refine hK.out _ _ (Dr.Cg.held hC) (fun hHeld => ?_)
       clear hK K
       refine norm_ (a' := ?_) ?_ ?_
       rotate_left
       ·show Act.put _ (some 39) _ = _
        simp only [Act.put, List.setIfInBounds_toArray, List.set_cons_zero, List.set_cons_succ, i64_w, i32_w]
        rfl
       refine one_ (i := 9) (N := some 41) (Mk 19 3071) rfl rfl (by kernel_rfl) (by decide) (fun K hK => ?_)
       refine Kd.R_lit_step (Kd.int .i64) _ 2 ?hg (N := 41) ?hd (xs := ([6, 1] : List Int)) (inner := [.int .i64 6, .int .i64 1]) (ok := fun _ => True) (okp := fun _ => True) ?hr ?hp (fun _ hk => hk) trivial (Below.refl _ _) (Nat.le_refl _) (by simp) ?_; (case hd => rfl); (case hg => rfl); (case hr => first | (go_simp; done) | (go_simp; rfl)); (case hp => exact (Reps.one (show Kd.M (Kd.int .i64) _ _ _ 6 [.int .i64 6] from rfl) (Reps.one (show Kd.M (Kd.int .i64) _ _ _ 1 [.int .i64 1] from rfl) (Reps.none _ _))))
       intro v9 wc hR9 hb_ _ _
       rw [← hy9.out] at hR9
       replace hR9 := Kd.R_lower hR9 hC.2.1.1
       obtain ⟨A9_, c9_, e9_⟩ := Kd.R_slice hR9
       subst e9_
       replace hC := Dr.Cg.below hC hb_
       clear hb_
       refine hK.out _ _ (Dr.Cg.held hC) (fun hHeld => ?_)
       clear hK K
       refine norm_ (a' := ?_) ?_ ?_
       rotate_left
       ·show Act.put _ (some 41) _ = _
        simp only [Act.put, List.setIfInBounds_toArray, List.set_cons_zero, List.set_cons_succ, i64_w, i32_w]
        rfl
       exact norm_ (by simp only [putAll, Act.put, List.setIfInBounds_toArray, List.set_cons_zero, List.set_cons_succ]) (hCont (.slice A3_ y3.length c3_, .int .i64 p4, .slice A6_ y6.length c6_, .int .i64 p7, .slice A9_ y9.length c9_) _ ⟨hC, ⟨p4, rfl⟩, ⟨p7, rfl⟩, ⟨A9_, c9_, rfl, hR9⟩⟩)
      ·skip
       refine Kd.R_lit_step (Kd.int .i64) _ 2 ?hg (N := 41) ?hd (xs := ([6, 1] : List Int)) (inner := [.int .i64 6, .int .i64 1]) (ok := fun _ => True) (okp := fun _ => True) ?hr ?hp (fun _ hk => hk) trivial (Below.refl _ _) (Nat.le_refl _) (by simp) ?_; (case hd => rfl); (case hg => rfl); (case hr => first | (go_simp; done) | (go_simp; rfl)); (case hp => exact (Reps.one (show Kd.M (Kd.int .i64) _ _ _ 6 [.int .i64 6] from rfl) (Reps.one (show Kd.M (Kd.int .i64) _ _ _ 1 [.int .i64 1] from rfl) (Reps.none _ _))))
       intro v9 wc hR9 hb_ _ _
       rw [← hy9.out] at hR9
       replace hR9 := Kd.R_lower hR9 hC.2.1.1
       obtain ⟨A9_, c9_, e9_⟩ := Kd.R_slice hR9
       subst e9_
       replace hR6 := Kd.R_below hR6 hb_
       replace hC := Dr.Cg.below hC hb_
       clear hb_
       refine hK.out _ _ (Dr.Cg.held hC) (fun hHeld => ?_)
       clear hK K
       refine norm_ (a' := ?_) ?_ ?_
       rotate_left
       ·show Act.put _ (some 41) _ = _
        simp only [Act.put, List.setIfInBounds_toArray, List.set_cons_zero, List.set_cons_succ, i64_w, i32_w]
        rfl
       refine one_ (i := 7) (N := some 39) (Mk 19 3071) rfl rfl (by kernel_rfl) (by decide) (fun K hK => ?_)
       refine goes_ Try.func81 (by kernel_rfl) rfl #[.pointer (some ⟨g, 0, none⟩), .slice A6_ y6.length c6_] (by rfl) rfl rfl (by (try simp only [List.map_toArray, List.map_cons, List.map_nil]); first | done | rfl) ?_
       refine (Dr.pick' hC.1 (by omega) hR6 hl6.1 hl6.2).mono ?_
       rintro e_ wc ⟨p7, rfl, hs_, hk_⟩
       refine ⟨_, rfl, ?_⟩
       replace hR9 := Dr.keepR hC.1 hR9 (by decide) hk_
       replace hC := Dr.Cg.keep hC hs_ hk_
       clear hs_ hk_ hR6
       refine hK.out _ _ (Dr.Cg.held hC) (fun hHeld => ?_)
       clear hK K
       refine norm_ (a' := ?_) ?_ ?_
       rotate_left
       ·show Act.put _ (some 39) _ = _
        simp only [Act.put, List.setIfInBounds_toArray, List.set_cons_zero, List.set_cons_succ, i64_w, i32_w]
        rfl
       exact norm_ (by simp only [putAll, Act.put, List.setIfInBounds_toArray, List.set_cons_zero, List.set_cons_succ]) (hCont (.slice A3_ y3.length c3_, .int .i64 p4, .slice A6_ y6.length c6_, .int .i64 p7, .slice A9_ y9.length c9_) _ ⟨hC, ⟨p4, rfl⟩, ⟨p7, rfl⟩, ⟨A9_, c9_, rfl, hR9⟩⟩)
     ·skip
      refine Kd.R_lit_step (Kd.int .i64) _ 2 ?hg (N := 41) ?hd (xs := ([6, 1] : List Int)) (inner := [.int .i64 6, .int .i64 1]) (ok := fun _ => True) (okp := fun _ => True) ?hr ?hp (fun _ hk => hk) trivial (Below.refl _ _) (Nat.le_refl _) (by simp) ?_; (case hd => rfl); (case hg => rfl); (case hr => first | (go_simp; done) | (go_simp; rfl)); (case hp => exact (Reps.one (show Kd.M (Kd.int .i64) _ _ _ 6 [.int .i64 6] from rfl) (Reps.one (show Kd.M (Kd.int .i64) _ _ _ 1 [.int .i64 1] from rfl) (Reps.none _ _))))
      intro v9 wc hR9 hb_ _ _
      rw [← hy9.out] at hR9
      replace hR9 := Kd.R_lower hR9 hC.2.1.1
      obtain ⟨A9_, c9_, e9_⟩ := Kd.R_slice hR9
      subst e9_
      replace hR3 := Kd.R_below hR3 hb_
      replace hR6 := Kd.R_below hR6 hb_
      replace hC := Dr.Cg.below hC hb_
      clear hb_
      refine hK.out _ _ (Dr.Cg.held hC) (fun hHeld => ?_)
      clear hK K
      refine norm_ (a' := ?_) ?_ ?_
      rotate_left
      ·show Act.put _ (some 41) _ = _
       simp only [Act.put, List.setIfInBounds_toArray, List.set_cons_zero, List.set_cons_succ, i64_w, i32_w]
       rfl
      refine one_ (i := 4) (N := some 36) (Mk 19 2943) rfl rfl (by kernel_rfl) (by decide) (fun K hK => ?_)
      refine goes_ Try.func81 (by kernel_rfl) rfl #[.pointer (some ⟨g, 0, none⟩), .slice A3_ y3.length c3_] (by rfl) rfl rfl (by (try simp only [List.map_toArray, List.map_cons, List.map_nil]); first | done | rfl) ?_
      refine (Dr.pick' hC.1 (by omega) hR3 hl3.1 hl3.2).mono ?_
      rintro e_ wc ⟨p4, rfl, hs_, hk_⟩
      refine ⟨_, rfl, ?_⟩
      replace hR9 := Dr.keepR hC.1 hR9 (by decide) hk_
      replace hR6 := Dr.keepR hC.1 hR6 (by decide) hk_
      replace hC := Dr.Cg.keep hC hs_ hk_
      clear hs_ hk_ hR3
      refine hK.out _ _ (Dr.Cg.held hC) (fun hHeld => ?_)
      clear hK K
      refine norm_ (a' := ?_) ?_ ?_
      rotate_left
      ·show Act.put _ (some 36) _ = _
       simp only [Act.put, List.setIfInBounds_toArray, List.set_cons_zero, List.set_cons_succ, i64_w, i32_w]
       rfl
      refine one_ (i := 7) (N := some 39) (Mk 19 3071) rfl rfl (by kernel_rfl) (by decide) (fun K hK => ?_)
      refine goes_ Try.func81 (by kernel_rfl) rfl #[.pointer (some ⟨g, 0, none⟩), .slice A6_ y6.length c6_] (by rfl) rfl rfl (by (try simp only [List.map_toArray, List.map_cons, List.map_nil]); first | done | rfl) ?_
      refine (Dr.pick' hC.1 (by omega) hR6 hl6.1 hl6.2).mono ?_
      rintro e_ wc ⟨p7, rfl, hs_, hk_⟩
      refine ⟨_, rfl, ?_⟩
      replace hR9 := Dr.keepR hC.1 hR9 (by decide) hk_
      replace hC := Dr.Cg.keep hC hs_ hk_
      clear hs_ hk_ hR6
      refine hK.out _ _ (Dr.Cg.held hC) (fun hHeld => ?_)
      clear hK K
      refine norm_ (a' := ?_) ?_ ?_
      rotate_left
      ·show Act.put _ (some 39) _ = _
       simp only [Act.put, List.setIfInBounds_toArray, List.set_cons_zero, List.set_cons_succ, i64_w, i32_w]
       rfl
      exact norm_ (by simp only [putAll, Act.put, List.setIfInBounds_toArray, List.set_cons_zero, List.set_cons_succ]) (hCont (.slice A3_ y3.length c3_, .int .i64 p4, .slice A6_ y6.length c6_, .int .i64 p7, .slice A9_ y9.length c9_) _ ⟨hC, ⟨p4, rfl⟩, ⟨p7, rfl⟩, ⟨A9_, c9_, rfl, hR9⟩⟩)
    ·skip
     refine Kd.R_lit_step (Kd.int .i64) _ 2 ?hg (N := 41) ?hd (xs := ([6, 1] : List Int)) (inner := [.int .i64 6, .int .i64 1]) (ok := fun _ => True) (okp := fun _ => True) ?hr ?hp (fun _ hk => hk) trivial (Below.refl _ _) (Nat.le_refl _) (by simp) ?_; (case hd => rfl); (case hg => rfl); (case hr => first | (go_simp; done) | (go_simp; rfl)); (case hp => exact (Reps.one (show Kd.M (Kd.int .i64) _ _ _ 6 [.int .i64 6] from rfl) (Reps.one (show Kd.M (Kd.int .i64) _ _ _ 1 [.int .i64 1] from rfl) (Reps.none _ _))))
     intro v9 wc hR9 hb_ _ _
     rw [← hy9.out] at hR9
     replace hR9 := Kd.R_lower hR9 hC.2.1.1
     obtain ⟨A9_, c9_, e9_⟩ := Kd.R_slice hR9
     subst e9_
     replace hR6 := Kd.R_below hR6 hb_
     replace hC := Dr.Cg.below hC hb_
     clear hb_
     refine hK.out _ _ (Dr.Cg.held hC) (fun hHeld => ?_)
     clear hK K
     refine norm_ (a' := ?_) ?_ ?_
     rotate_left
     ·show Act.put _ (some 41) _ = _
      simp only [Act.put, List.setIfInBounds_toArray, List.set_cons_zero, List.set_cons_succ, i64_w, i32_w]
      rfl
     refine one_ (i := 3) (N := some 35) (Mk 19 2927) rfl rfl (by kernel_rfl) (by decide) (fun K hK => ?_)
     refine Kd.R_lit_step (Kd.int .i64) _ 2 ?hg (N := 35) ?hd (xs := ([0, 4294967295] : List Int)) (inner := [.int .i64 0, .int .i64 4294967295]) (ok := fun _ => True) (okp := fun _ => True) ?hr ?hp (fun _ hk => hk) trivial (Below.refl _ _) (Nat.le_refl _) (by simp) ?_; (case hd => rfl); (case hg => rfl); (case hr => first | (go_simp; done) | (go_simp; rfl)); (case hp => exact (Reps.one (show Kd.M (Kd.int .i64) _ _ _ 0 [.int .i64 0] from rfl) (Reps.one (show Kd.M (Kd.int .i64) _ _ _ 4294967295 [.int .i64 4294967295] from rfl) (Reps.none _ _))))
     intro v3 wc hR3 hb_ _ _
     rw [← hy3.out] at hR3
     replace hR3 := Kd.R_lower hR3 hC.2.1.1
     obtain ⟨A3_, c3_, e3_⟩ := Kd.R_slice hR3
     subst e3_
     replace hR9 := Kd.R_below hR9 hb_
     replace hR6 := Kd.R_below hR6 hb_
     replace hC := Dr.Cg.below hC hb_
     clear hb_
     refine hK.out _ _ (Dr.Cg.held hC) (fun hHeld => ?_)
     clear hK K
     refine norm_ (a' := ?_) ?_ ?_
     rotate_left
     ·show Act.put _ (some 35) _ = _
      simp only [Act.put, List.setIfInBounds_toArray, List.set_cons_zero, List.set_cons_succ, i64_w, i32_w]
      rfl
     refine one_ (i := 4) (N := some 36) (Mk 19 2943) rfl rfl (by kernel_rfl) (by decide) (fun K hK => ?_)
     refine goes_ Try.func81 (by kernel_rfl) rfl #[.pointer (some ⟨g, 0, none⟩), .slice A3_ y3.length c3_] (by rfl) rfl rfl (by (try simp only [List.map_toArray, List.map_cons, List.map_nil]); first | done | rfl) ?_
     refine (Dr.pick' hC.1 (by omega) hR3 hl3.1 hl3.2).mono ?_
     rintro e_ wc ⟨p4, rfl, hs_, hk_⟩
     refine ⟨_, rfl, ?_⟩
     replace hR9 := Dr.keepR hC.1 hR9 (by decide) hk_
     replace hR6 := Dr.keepR hC.1 hR6 (by decide) hk_
     replace hC := Dr.Cg.keep hC hs_ hk_
     clear hs_ hk_ hR3
     refine hK.out _ _ (Dr.Cg.held hC) (fun hHeld => ?_)
     clear hK K
     refine norm_ (a' := ?_) ?_ ?_
     rotate_left
     ·show Act.put _ (some 36) _ = _
      simp only [Act.put, List.setIfInBounds_toArray, List.set_cons_zero, List.set_cons_succ, i64_w, i32_w]
      rfl
     refine one_ (i := 7) (N := some 39) (Mk 19 3071) rfl rfl (by kernel_rfl) (by decide) (fun K hK => ?_)
     refine goes_ Try.func81 (by kernel_rfl) rfl #[.pointer (some ⟨g, 0, none⟩), .slice A6_ y6.length c6_] (by rfl) rfl rfl (by (try simp only [List.map_toArray, List.map_cons, List.map_nil]); first | done | rfl) ?_
     refine (Dr.pick' hC.1 (by omega) hR6 hl6.1 hl6.2).mono ?_
     rintro e_ wc ⟨p7, rfl, hs_, hk_⟩
     refine ⟨_, rfl, ?_⟩
     replace hR9 := Dr.keepR hC.1 hR9 (by decide) hk_
     replace hC := Dr.Cg.keep hC hs_ hk_
     clear hs_ hk_ hR6
     refine hK.out _ _ (Dr.Cg.held hC) (fun hHeld => ?_)
     clear hK K
     refine norm_ (a' := ?_) ?_ ?_
     rotate_left
     ·show Act.put _ (some 39) _ = _
      simp only [Act.put, List.setIfInBounds_toArray, List.set_cons_zero, List.set_cons_succ, i64_w, i32_w]
      rfl
     exact norm_ (by simp only [putAll, Act.put, List.setIfInBounds_toArray, List.set_cons_zero, List.set_cons_succ]) (hCont (.slice A3_ y3.length c3_, .int .i64 p4, .slice A6_ y6.length c6_, .int .i64 p7, .slice A9_ y9.length c9_) _ ⟨hC, ⟨p4, rfl⟩, ⟨p7, rfl⟩, ⟨A9_, c9_, rfl, hR9⟩⟩)
   ·skip
    refine Kd.R_lit_step (Kd.int .i64) _ 2 ?hg (N := 41) ?hd (xs := ([6, 1] : List Int)) (inner := [.int .i64 6, .int .i64 1]) (ok := fun _ => True) (okp := fun _ => True) ?hr ?hp (fun _ hk => hk) trivial (Below.refl _ _) (Nat.le_refl _) (by simp) ?_; (case hd => rfl); (case hg => rfl); (case hr => first | (go_simp; done) | (go_simp; rfl)); (case hp => exact (Reps.one (show Kd.M (Kd.int .i64) _ _ _ 6 [.int .i64 6] from rfl) (Reps.one (show Kd.M (Kd.int .i64) _ _ _ 1 [.int .i64 1] from rfl) (Reps.none _ _))))
    intro v9 wc hR9 hb_ _ _
    rw [← hy9.out] at hR9
    replace hR9 := Kd.R_lower hR9 hC.2.1.1
    obtain ⟨A9_, c9_, e9_⟩ := Kd.R_slice hR9
    subst e9_
    replace hC := Dr.Cg.below hC hb_
    clear hb_
    refine hK.out _ _ (Dr.Cg.held hC) (fun hHeld => ?_)
    clear hK K
    refine norm_ (a' := ?_) ?_ ?_
    rotate_left
    ·show Act.put _ (some 41) _ = _
     simp only [Act.put, List.setIfInBounds_toArray, List.set_cons_zero, List.set_cons_succ, i64_w, i32_w]
     rfl
    refine two_ (i := 3) (j := 6) (Ni := some 35) (Nj := some 38) (Mk 19 2863) (Mk 19 2919) rfl rfl rfl rfl (by kernel_rfl) (by decide) (by decide) (fun K hK => ?_) (fun K hK => ?_)
    ·skip
     refine Kd.R_lit_step (Kd.int .i64) _ 2 ?hg (N := 35) ?hd (xs := ([0, 4294967295] : List Int)) (inner := [.int .i64 0, .int .i64 4294967295]) (ok := fun _ => True) (okp := fun _ => True) ?hr ?hp (fun _ hk => hk) trivial (Below.refl _ _) (Nat.le_refl _) (by simp) ?_; (case hd => rfl); (case hg => rfl); (case hr => first | (go_simp; done) | (go_simp; rfl)); (case hp => exact (Reps.one (show Kd.M (Kd.int .i64) _ _ _ 0 [.int .i64 0] from rfl) (Reps.one (show Kd.M (Kd.int .i64) _ _ _ 4294967295 [.int .i64 4294967295] from rfl) (Reps.none _ _))))
     intro v3 wc hR3 hb_ _ _
     rw [← hy3.out] at hR3
     replace hR3 := Kd.R_lower hR3 hC.2.1.1
     obtain ⟨A3_, c3_, e3_⟩ := Kd.R_slice hR3
     subst e3_
     replace hR9 := Kd.R_below hR9 hb_
     replace hC := Dr.Cg.below hC hb_
     clear hb_
     refine hK.out _ _ (Dr.Cg.held hC) (fun hHeld => ?_)
     clear hK K
     refine norm_ (a' := ?_) ?_ ?_
     rotate_left
     ·show Act.put _ (some 35) _ = _
      simp only [Act.put, List.setIfInBounds_toArray, List.set_cons_zero, List.set_cons_succ, i64_w, i32_w]
      rfl
     refine two_ (i := 4) (j := 6) (Ni := some 36) (Nj := some 38) (Mk 19 2879) (Mk 19 2927) rfl rfl rfl rfl (by kernel_rfl) (by decide) (by decide) (fun K hK => ?_) (fun K hK => ?_)
     ·skip
      refine goes_ Try.func81 (by kernel_rfl) rfl #[.pointer (some ⟨g, 0, none⟩), .slice A3_ y3.length c3_] (by rfl) rfl rfl (by (try simp only [List.map_toArray, List.map_cons, List.map_nil]); first | done | rfl) ?_
      refine (Dr.pick' hC.1 (by omega) hR3 hl3.1 hl3.2).mono ?_
      rintro e_ wc ⟨p4, rfl, hs_, hk_⟩
      refine ⟨_, rfl, ?_⟩
      replace hR9 := Dr.keepR hC.1 hR9 (by decide) hk_
      replace hC := Dr.Cg.keep hC hs_ hk_
      clear hs_ hk_ hR3
      refine hK.out _ _ (Dr.Cg.held hC) (fun hHeld => ?_)
      clear hK K
      refine norm_ (a' := ?_) ?_ ?_
      rotate_left
      ·show Act.put _ (some 36) _ = _
       simp only [Act.put, List.setIfInBounds_toArray, List.set_cons_zero, List.set_cons_succ, i64_w, i32_w]
       rfl
      refine one_ (i := 6) (N := some 38) (Mk 19 2943) rfl rfl (by kernel_rfl) (by decide) (fun K hK => ?_)
      refine Kd.R_lit_step (Kd.int .i64) _ 2 ?hg (N := 38) ?hd (xs := ([80, 65536] : List Int)) (inner := [.int .i64 80, .int .i64 65536]) (ok := fun _ => True) (okp := fun _ => True) ?hr ?hp (fun _ hk => hk) trivial (Below.refl _ _) (Nat.le_refl _) (by simp) ?_; (case hd => rfl); (case hg => rfl); (case hr => first | (go_simp; done) | (go_simp; rfl)); (case hp => exact (Reps.one (show Kd.M (Kd.int .i64) _ _ _ 80 [.int .i64 80] from rfl) (Reps.one (show Kd.M (Kd.int .i64) _ _ _ 65536 [.int .i64 65536] from rfl) (Reps.none _ _))))
      intro v6 wc hR6 hb_ _ _
      rw [← hy6.out] at hR6
      replace hR6 := Kd.R_lower hR6 hC.2.1.1
      obtain ⟨A6_, c6_, e6_⟩ := Kd.R_slice hR6
      subst e6_
      replace hR9 := Kd.R_below hR9 hb_
      replace hC := Dr.Cg.below hC hb_
      clear hb_
      refine hK.out _ _ (Dr.Cg.held hC) (fun hHeld => ?_)
      clear hK K
      refine norm_ (a' := ?_) ?_ ?_
      rotate_left
      ·show Act.put _ (some 38) _ = _
       simp only [Act.put, List.setIfInBounds_toArray, List.set_cons_zero, List.set_cons_succ, i64_w, i32_w]
       rfl
      refine one_ (i := 7) (N := some 39) (Mk 19 3071) rfl rfl (by kernel_rfl) (by decide) (fun K hK => ?_)
      refine goes_ Try.func81 (by kernel_rfl) rfl #[.pointer (some ⟨g, 0, none⟩), .slice A6_ y6.length c6_] (by rfl) rfl rfl (by (try simp only [List.map_toArray, List.map_cons, List.map_nil]); first | done | rfl) ?_
      refine (Dr.pick' hC.1 (by omega) hR6 hl6.1 hl6.2).mono ?_
      rintro e_ wc ⟨p7, rfl, hs_, hk_⟩
      refine ⟨_, rfl, ?_⟩
      replace hR9 := Dr.keepR hC.1 hR9 (by decide) hk_
      replace hC := Dr.Cg.keep hC hs_ hk_
      clear hs_ hk_ hR6
      refine hK.out _ _ (Dr.Cg.held hC) (fun hHeld => ?_)
      clear hK K
      refine norm_ (a' := ?_) ?_ ?_
      rotate_left
      ·show Act.put _ (some 39) _ = _
       simp only [Act.put, List.setIfInBounds_toArray, List.set_cons_zero, List.set_cons_succ, i64_w, i32_w]
       rfl
      exact norm_ (by simp only [putAll, Act.put, List.setIfInBounds_toArray, List.set_cons_zero, List.set_cons_succ]) (hCont (.slice A3_ y3.length c3_, .int .i64 p4, .slice A6_ y6.length c6_, .int .i64 p7, .slice A9_ y9.length c9_) _ ⟨hC, ⟨p4, rfl⟩, ⟨p7, rfl⟩, ⟨A9_, c9_, rfl, hR9⟩⟩)
     ·skip
      refine Kd.R_lit_step (Kd.int .i64) _ 2 ?hg (N := 38) ?hd (xs := ([80, 65536] : List Int)) (inner := [.int .i64 80, .int .i64 65536]) (ok := fun _ => True) (okp := fun _ => True) ?hr ?hp (fun _ hk => hk) trivial (Below.refl _ _) (Nat.le_refl _) (by simp) ?_; (case hd => rfl); (case hg => rfl); (case hr => first | (go_simp; done) | (go_simp; rfl)); (case hp => exact (Reps.one (show Kd.M (Kd.int .i64) _ _ _ 80 [.int .i64 80] from rfl) (Reps.one (show Kd.M (Kd.int .i64) _ _ _ 65536 [.int .i64 65536] from rfl) (Reps.none _ _))))
      intro v6 wc hR6 hb_ _ _
      rw [← hy6.out] at hR6
      replace hR6 := Kd.R_lower hR6 hC.2.1.1
      obtain ⟨A6_, c6_, e6_⟩ := Kd.R_slice hR6
      subst e6_
      replace hR9 := Kd.R_below hR9 hb_
      replace hR3 := Kd.R_below hR3 hb_
      replace hC := Dr.Cg.below hC hb_
      clear hb_
      refine hK.out _ _ (Dr.Cg.held hC) (fun hHeld => ?_)
      clear hK K
      refine norm_ (a' := ?_) ?_ ?_
      rotate_left
      ·show Act.put _ (some 38) _ = _
       simp only [Act.put, List.setIfInBounds_toArray, List.set_cons_zero, List.set_cons_succ, i64_w, i32_w]
       rfl
      refine one_ (i := 4) (N := some 36) (Mk 19 2943) rfl rfl (by kernel_rfl) (by decide) (fun K hK => ?_)
      refine goes_ Try.func81 (by kernel_rfl) rfl #[.pointer (some ⟨g, 0, none⟩), .slice A3_ y3.length c3_] (by rfl) rfl rfl (by (try simp only [List.map_toArray, List.map_cons, List.map_nil]); first | done | rfl) ?_
      refine (Dr.pick' hC.1 (by omega) hR3 hl3.1 hl3.2).mono ?_
      rintro e_ wc ⟨p4, rfl, hs_, hk_⟩
      refine ⟨_, rfl, ?_⟩
      replace hR9 := Dr.keepR hC.1 hR9 (by decide) hk_
      replace hR6 := Dr.keepR hC.1 hR6 (by decide) hk_
      replace hC := Dr.Cg.keep hC hs_ hk_
      clear hs_ hk_ hR3
      refine hK.out _ _ (Dr.Cg.held hC) (fun hHeld => ?_)
      clear hK K
      refine norm_ (a' := ?_) ?_ ?_
      rotate_left
      ·show Act.put _ (some 36) _ = _
       simp only [Act.put, List.setIfInBounds_toArray, List.set_cons_zero, List.set_cons_succ, i64_w, i32_w]
       rfl
      refine one_ (i := 7) (N := some 39) (Mk 19 3071) rfl rfl (by kernel_rfl) (by decide) (fun K hK => ?_)
      refine goes_ Try.func81 (by kernel_rfl) rfl #[.pointer (some ⟨g, 0, none⟩), .slice A6_ y6.length c6_] (by rfl) rfl rfl (by (try simp only [List.map_toArray, List.map_cons, List.map_nil]); first | done | rfl) ?_
      refine (Dr.pick' hC.1 (by omega) hR6 hl6.1 hl6.2).mono ?_
      rintro e_ wc ⟨p7, rfl, hs_, hk_⟩
      refine ⟨_, rfl, ?_⟩
      replace hR9 := Dr.keepR hC.1 hR9 (by decide) hk_
      replace hC := Dr.Cg.keep hC hs_ hk_
      clear hs_ hk_ hR6
      refine hK.out _ _ (Dr.Cg.held hC) (fun hHeld => ?_)
      clear hK K
      refine norm_ (a' := ?_) ?_ ?_
      rotate_left
      ·show Act.put _ (some 39) _ = _
       simp only [Act.put, List.setIfInBounds_toArray, List.set_cons_zero, List.set_cons_succ, i64_w, i32_w]
       rfl
      exact norm_ (by simp only [putAll, Act.put, List.setIfInBounds_toArray, List.set_cons_zero, List.set_cons_succ]) (hCont (.slice A3_ y3.length c3_, .int .i64 p4, .slice A6_ y6.length c6_, .int .i64 p7, .slice A9_ y9.length c9_) _ ⟨hC, ⟨p4, rfl⟩, ⟨p7, rfl⟩, ⟨A9_, c9_, rfl, hR9⟩⟩)
    ·skip
     refine Kd.R_lit_step (Kd.int .i64) _ 2 ?hg (N := 38) ?hd (xs := ([80, 65536] : List Int)) (inner := [.int .i64 80, .int .i64 65536]) (ok := fun _ => True) (okp := fun _ => True) ?hr ?hp (fun _ hk => hk) trivial (Below.refl _ _) (Nat.le_refl _) (by simp) ?_; (case hd => rfl); (case hg => rfl); (case hr => first | (go_simp; done) | (go_simp; rfl)); (case hp => exact (Reps.one (show Kd.M (Kd.int .i64) _ _ _ 80 [.int .i64 80] from rfl) (Reps.one (show Kd.M (Kd.int .i64) _ _ _ 65536 [.int .i64 65536] from rfl) (Reps.none _ _))))
     intro v6 wc hR6 hb_ _ _
     rw [← hy6.out] at hR6
     replace hR6 := Kd.R_lower hR6 hC.2.1.1
     obtain ⟨A6_, c6_, e6_⟩ := Kd.R_slice hR6
     subst e6_
     replace hR9 := Kd.R_below hR9 hb_
     replace hC := Dr.Cg.below hC hb_
     clear hb_
     refine hK.out _ _ (Dr.Cg.held hC) (fun hHeld => ?_)
     clear hK K
     refine norm_ (a' := ?_) ?_ ?_
     rotate_left
     ·show Act.put _ (some 38) _ = _
      simp only [Act.put, List.setIfInBounds_toArray, List.set_cons_zero, List.set_cons_succ, i64_w, i32_w]
      rfl
     refine one_ (i := 3) (N := some 35) (Mk 19 2927) rfl rfl (by kernel_rfl) (by decide) (fun K hK => ?_)
     refine Kd.R_lit_step (Kd.int .i64) _ 2 ?hg (N := 35) ?hd (xs := ([0, 4294967295] : List Int)) (inner := [.int .i64 0, .int .i64 4294967295]) (ok := fun _ => True) (okp := fun _ => True) ?hr ?hp (fun _ hk => hk) trivial (Below.refl _ _) (Nat.le_refl _) (by simp) ?_; (case hd => rfl); (case hg => rfl); (case hr => first | (go_simp; done) | (go_simp; rfl)); (case hp => exact (Reps.one (show Kd.M (Kd.int .i64) _ _ _ 0 [.int .i64 0] from rfl) (Reps.one (show Kd.M (Kd.int .i64) _ _ _ 4294967295 [.int .i64 4294967295] from rfl) (Reps.none _ _))))
     intro v3 wc hR3 hb_ _ _
     rw [← hy3.out] at hR3
     replace hR3 := Kd.R_lower hR3 hC.2.1.1
     obtain ⟨A3_, c3_, e3_⟩ := Kd.R_slice hR3
     subst e3_
     replace hR9 := Kd.R_below hR9 hb_
     replace hR6 := Kd.R_below hR6 hb_
     replace hC := Dr.Cg.below hC hb_
     clear hb_
     refine hK.out _ _ (Dr.Cg.held hC) (fun hHeld => ?_)
     clear hK K
     refine norm_ (a' := ?_) ?_ ?_
     rotate_left
     ·show Act.put _ (some 35) _ = _
      simp only [Act.put, List.setIfInBounds_toArray, List.set_cons_zero, List.set_cons_succ, i64_w, i32_w]
      rfl
     refine one_ (i := 4) (N := some 36) (Mk 19 2943) rfl rfl (by kernel_rfl) (by decide) (fun K hK => ?_)
     refine goes_ Try.func81 (by kernel_rfl) rfl #[.pointer (some ⟨g, 0, none⟩), .slice A3_ y3.length c3_] (by rfl) rfl rfl (by (try simp only [List.map_toArray, List.map_cons, List.map_nil]); first | done | rfl) ?_
     refine (Dr.pick' hC.1 (by omega) hR3 hl3.1 hl3.2).mono ?_
     rintro e_ wc ⟨p4, rfl, hs_, hk_⟩
     refine ⟨_, rfl, ?_⟩
     replace hR9 := Dr.keepR hC.1 hR9 (by decide) hk_
     replace hR6 := Dr.keepR hC.1 hR6 (by decide) hk_
     replace hC := Dr.Cg.keep hC hs_ hk_
     clear hs_ hk_ hR3
     refine hK.out _ _ (Dr.Cg.held hC) (fun hHeld => ?_)
     clear hK K
     refine norm_ (a' := ?_) ?_ ?_
     rotate_left
     ·show Act.put _ (some 36) _ = _
      simp only [Act.put, List.setIfInBounds_toArray, List.set_cons_zero, List.set_cons_succ, i64_w, i32_w]
      rfl
     refine one_ (i := 7) (N := some 39) (Mk 19 3071) rfl rfl (by kernel_rfl) (by decide) (fun K hK => ?_)
     refine goes_ Try.func81 (by kernel_rfl) rfl #[.pointer (some ⟨g, 0, none⟩), .slice A6_ y6.length c6_] (by rfl) rfl rfl (by (try simp only [List.map_toArray, List.map_cons, List.map_nil]); first | done | rfl) ?_
     refine (Dr.pick' hC.1 (by omega) hR6 hl6.1 hl6.2).mono ?_
     rintro e_ wc ⟨p7, rfl, hs_, hk_⟩
     refine ⟨_, rfl, ?_⟩
     replace hR9 := Dr.keepR hC.1 hR9 (by decide) hk_
     replace hC := Dr.Cg.keep hC hs_ hk_
     clear hs_ hk_ hR6
     refine hK.out _ _ (Dr.Cg.held hC) (fun hHeld => ?_)
     clear hK K
     refine norm_ (a' := ?_) ?_ ?_
     rotate_left
     ·show Act.put _ (some 39) _ = _
      simp only [Act.put, List.setIfInBounds_toArray, List.set_cons_zero, List.set_cons_succ, i64_w, i32_w]
      rfl
     exact norm_ (by simp only [putAll, Act.put, List.setIfInBounds_toArray, List.set_cons_zero, List.set_cons_succ]) (hCont (.slice A3_ y3.length c3_, .int .i64 p4, .slice A6_ y6.length c6_, .int .i64 p7, .slice A9_ y9.length c9_) _ ⟨hC, ⟨p4, rfl⟩, ⟨p7, rfl⟩, ⟨A9_, c9_, rfl, hR9⟩⟩)
  clear hHeld hC
  rintro ⟨t35, t36, t38, t39, t41⟩ wj ⟨hC, ⟨p4, e36⟩, ⟨p7, e39⟩, ⟨A9_, c9_, e41, hR9⟩⟩
  simp only at e36 e39 e41
  subst e36
  subst e39
  subst e41
  have hHeld := Dr.Cg.held hC
  refine norm_ (a' := ?_) ?_ ?_
  rotate_left
  ·simp only [putAll, Act.put, List.setIfInBounds_toArray, List.set_cons_zero, List.set_cons_succ]
   rfl
  refine one_ (i := 10) (N := some 42) (Mk 19 4095) rfl rfl (by kernel_rfl) (by decide) (fun K hK => ?_)
  refine goes_ Try.func81 (by kernel_rfl) rfl #[.pointer (some ⟨g, 0, none⟩), .slice A9_ y9.length c9_] (by rfl) rfl rfl (by (try simp only [List.map_toArray, List.map_cons, List.map_nil]); first | done | rfl) ?_
  refine (Dr.pick' hC.1 (by omega) hR9 hl9.1 hl9.2).mono ?_
  rintro e_ wc ⟨p10, rfl, hs_, hk_⟩
  refine ⟨_, rfl, ?_⟩
  replace hC := Dr.Cg.keep hC hs_ hk_
  clear hs_ hk_ hR9
  refine hK.out _ _ (Dr.Cg.held hC) (fun hHeld => ?_)
  clear hK K
  refine norm_ (a' := ?_) ?_ ?_
  rotate_left
  ·show Act.put _ (some 42) _ = _
   simp only [Act.put, List.setIfInBounds_toArray, List.set_cons_zero, List.set_cons_succ, i64_w, i32_w]
   rfl
  refine one_ (i := 12) (N := some 44) (Mk 19 8191) rfl rfl (by kernel_rfl) (by decide) (fun K hK => ?_)
  refine goes_ Try.func120 (by kernel_rfl) rfl #[.pointer (some ⟨g, 0, none⟩), .int .i64 4] (by rfl) rfl rfl (by (try simp only [List.map_toArray, List.map_cons, List.map_nil]); first | done | rfl) ?_
  refine (Dr.next hC.1 (by omega) 4 (by omega)).mono ?_
  rintro e_ wc ⟨p12, rfl, _, _, hs_, hk_⟩
  refine ⟨_, rfl, ?_⟩
  replace hC := Dr.Cg.keep hC hs_ hk_
  clear hs_ hk_
  refine hK.out _ _ (Dr.Cg.held hC) (fun hHeld => ?_)
  clear hK K
  refine norm_ (a' := ?_) ?_ ?_
  rotate_left
  ·show Act.put _ (some 44) _ = _
   simp only [Act.put, List.setIfInBounds_toArray, List.set_cons_zero, List.set_cons_succ, i64_w, i32_w]
   rfl
  obtain ⟨y13, hy13_⟩ : ∃ y : List Int, y = [p12] := ⟨_, rfl⟩
  have hyl13 : y13.length ≤ 24 := by rw [hy13_, List.length_singleton]; omega
  have hy13 := Aside0.mk hy13_
  clear hy13_
  refine one_ (i := 13) (N := some 45) (Mk 19 16383) rfl rfl (by kernel_rfl) (by decide) (fun K hK => ?_)
  refine Kd.R_lit_step (Kd.int .i64) _ 2 ?hg (N := 45) ?hd (xs := ([p12] : List Int)) (inner := [.int .i64 p12]) (ok := fun _ => True) (okp := fun _ => True) ?hr ?hp (fun _ hk => hk) trivial (Below.refl _ _) (Nat.le_refl _) (by simp) ?_; (case hd => rfl); (case hg => rfl); (case hr => first | (go_simp; done) | (go_simp; rfl)); (case hp => exact (Reps.one (show Kd.M (Kd.int .i64) _ _ _ p12 [.int .i64 p12] from rfl) (Reps.none _ _)))
  intro v13 wc hR13 hb_ _ _
  rw [← hy13.out] at hR13
  replace hR13 := Kd.R_lower hR13 hC.2.1.1
  obtain ⟨A13_, c13_, e13_⟩ := Kd.R_slice hR13
  subst e13_
  replace hC := Dr.Cg.below hC hb_
  clear hb_
  refine hK.out _ _ (Dr.Cg.held hC) (fun hHeld => ?_)
  clear hK K
  refine norm_ (a' := ?_) ?_ ?_
  rotate_left
  ·show Act.put _ (some 45) _ = _
   simp only [Act.put, List.setIfInBounds_toArray, List.set_cons_zero, List.set_cons_succ, i64_w, i32_w]
   rfl
  refine pure_ (i := 14) (N := some 46) (v := ?_) (a' := ?_) (Mk 19 32767) rfl rfl (by kernel_rfl) (fun _ _ _ h => h) (Or.inl ⟨by rfl, ?_⟩) ?_ ?_
  rotate_left
  ·intro w'
   first | (go_simp; with_reducible rfl) | (go_simp; (try unfold Instr.field); go_simp; (try simp only [asAgg]); go_simp; with_reducible rfl)
  rotate_left
  ·simp only [Act.put, List.setIfInBounds_toArray, List.set_cons_zero, List.set_cons_succ, i64_w, i32_w]
   rfl
  obtain ⟨yc, hyc_⟩ : ∃ y : List S64, y = [⟨p4, p7, p10, y13⟩] := ⟨_, rfl⟩
  have hyl : yc.length ≤ 1 := by rw [hyc_]; exact Nat.le_refl 1
  have hym : ∀ y, y ∈ yc → y.f3.length ≤ 24 := by rw [hyc_]; intro y hy; rw [List.mem_singleton.1 hy]; exact hyl13
  have hyc := Aside0.mk hyc_
  clear hyc_
  have hR13' := Dr.offRow hR13 hC.2.2.2.2.2.2.2.1
  refine one_ (i := 15) (N := some 47) (Mk 19 65535) rfl rfl (by kernel_rfl) (by decide) (fun K hK => ?_)
  refine Kd.R_lit_step k64 (w0 := wc) (w.heap.size) 64 ?hg (N := 47) ?hd (xs := ([⟨p4, p7, p10, y13⟩] : List S64)) (inner := [.int .i64 p4, .int .i64 p7, .int .i64 p10, .slice A13_ y13.length c13_]) (ok := (fun k_ => some k_ ≠ (Value.slice A2 l2.length c2).ownBlock)) (okp := (fun k_ => some k_ ≠ (Value.slice A2 l2.length c2).ownBlock)) ?hr ?hp (fun _ hk => hk) ?hf (Below.refl _ _) hC.2.1.1 (by simp) ?_; (case hd => rfl); (case hg => rfl); (case hr => first | (go_simp; done) | (go_simp; rfl)); (case hp => exact (Reps.c4 (show k64.M _ _ _ (⟨p4, p7, p10, y13⟩ : S64) _ from k64_mkM _ _ _ _ hR13') (Reps.none _ _))); (case hf => exact fun e_ => Nat.lt_irrefl _ (Kd.R_lt hC.2.2.2.2.2.2.2.1 _ e_.symm))
  intro vC wc hRC _ hgC _
  rw [← hyc.out] at hRC
  obtain ⟨AC, cC, eC⟩ := Kd.R_slice hRC
  subst eC
  replace hC := Dr.Cg.below hC (Dr.below_of_none hgC)
  clear hgC hR13 hR13'
  refine hK.out _ _ (Dr.Cg.held hC) (fun hHeld => ?_)
  clear hK K
  refine norm_ (a' := ?_) ?_ ?_
  rotate_left
  ·show Act.put _ (some 47) _ = _
   simp only [Act.put, List.setIfInBounds_toArray, List.set_cons_zero, List.set_cons_succ, i64_w, i32_w]
   rfl
  refine one_ (i := 16) (N := some 48) (Mk 19 131071) rfl rfl (by kernel_rfl) (by decide) (fun K hK => ?_)
  refine Kd.R_append_rows_step k64 (w0 := wc) (w.heap.size) (by rfl) (.tmp 33) (.tmp 47) 29 64 (.agg #[(.int .i64 0), (.int .i64 0), (.int .i64 0), (.slice none 0 0)]) 48 rfl Try.underlying29 info64 rfl (by decide) (by omega) (.slice A2 l2.length c2) l2 yc _ _ _ (fun _ => True) (fun k_ => some k_ ≠ (Value.slice A2 l2.length c2).ownBlock) rfl rfl hC.2.2.2.2.2.2.2.1 (Dr.readsM hRC) (fun _ _ hp => k64.M_mono (fun _ hk => hk.1) hp) (fun _ hk => ⟨trivial, hk⟩) (fun _ _ => trivial) (Below.refl _ _) hC.2.1.1 (Dr.fitB hC.2.2.2.2.2.2.2.2.2.1 hyl) ?_
  intro vb wb hoB _ hgB _
  obtain ⟨lq, hlq⟩ : ∃ l_ : List S64, l_ = l2 ++ yc := ⟨_, rfl⟩
  have hlql : lq.length ≤ 5 := by rw [hlq, List.length_append]; have := hC.2.2.2.2.2.2.2.2.2.1; omega
  have hlqm : ∀ y, y ∈ lq → y.f3.length ≤ 24 := by rw [hlq]; intro y hy; exact (List.mem_append.1 hy).elim (hC.2.2.2.2.2.2.2.2.2.2 y) (hym y)
  rw [← hlq] at hoB
  clear hlq
  obtain ⟨AQ, cQ, eQ⟩ := Kd.R_slice hoB
  subst eQ
  obtain ⟨hbx, hfin⟩ := Dr.Cg.app2 hC hoB hgB hlql hlqm
  clear hC hoB hgB hRC
  refine hK.out _ _ ⟨blk_cell hbx 0, blk_cell hbx 1, blk_cell hbx 2⟩ (fun hHeld => ?_)
  clear hK K
  refine norm_ (a' := ?_) ?_ ?_
  rotate_left
  ·show Act.put _ (some 48) _ = _
   simp only [Act.put, List.setIfInBounds_toArray, List.set_cons_zero, List.set_cons_succ, i64_w, i32_w]
   rfl
  refine pure_ (i := 17) (N := some 49) (v := ?_) (a' := ?_) (Mk 19 262143) rfl rfl (by kernel_rfl) (fun _ _ _ h => h) (Or.inl ⟨by rfl, ?_⟩) ?_ ?_
  rotate_left
  ·intro w'
   first | (go_simp; with_reducible rfl) | (go_simp; (try unfold Instr.field); go_simp; (try simp only [asAgg]); go_simp; with_reducible rfl)
  rotate_left
  ·simp only [Act.put, List.setIfInBounds_toArray, List.set_cons_zero, List.set_cons_succ, i64_w, i32_w]
   rfl
  refine last_ (i := 18) (N := none) (Mk 19 524287) rfl rfl (by kernel_rfl) (by decide) (fun K hK => ?_)
  have y1_ := blk_cell hbx 2
  have f1_ := blk_frozen hbx 2
  refine skip_ (w1 := ?_) (by rfl) rfl ?_ ?_
  rotate_left
  ·go_simp
   rfl
  refine hK.out _ _ ?_
  clear hK K
  refine done_ (by kernel_rfl) ?_
  have HC9 := Aside0.mk (Dr.Cg.le hfin (b' := b + 246) (M' := 24) (by omega) (by omega))
  clear hHeld hfin hbx y1_ f1_
  generalize hw9 : wb.setCell ⟨c, 2, none⟩ (.slice AQ lq.length cQ) = w9 at HC9 ⊢
  clear hw9
  obtain ⟨z0_, z1_, z2_⟩ := Dr.Cg.held HC9.out
  have r0_ := blk_cell HC9.out.2.2.2.2.1 0
  have r1_ := blk_cell HC9.out.2.2.2.2.1 1
  have r2_ := blk_cell HC9.out.2.2.2.2.1 2
  have f0_ := blk_frozen HC9.out.2.2.2.2.1 0
  have f1_ := blk_frozen HC9.out.2.2.2.2.1 1
  have f2_ := blk_frozen HC9.out.2.2.2.2.1 2
  go_wp2
  refine bodyPost_ret (results_cell_row rfl _ _ w.heap.size 31 #[.int .i64 _, .slice A1 l1.length c1, .slice AQ lq.length cQ] (0, 0) _ rfl (by exact Dr.put3 HC9.out.2.2.2.2.1 _ _ _) Try.underlying31 rfl (by kernel_rfl)) rfl ?_
  exact Dr.RPost.le (Dr.Cg.post HC9.out) (by omega) (by omega) (by omega)
 have e2 : (r == 2) = false := beq_eq_false_iff_ne.mpr hr2
 by_cases hr3 : r = 3
 ·have e3 : (r == 3) = true := beq_iff_eq.mpr hr3
  clear hr3
  go_wp2_with ((with_reducible refine gate_dst (N := 52) rfl ?_); refine Kd.R_make k36 _ 36 rfl (N := 52) rfl 28 _ _ rfl 9 rfl rfl Try.underlying28 (.agg #[(.int .i64 0), (.int .i64 0), (.int .i64 0), (.int .i64 0), (.bool false)]) 40 info36 rfl (by decide) (by omega) z36 (ok := fun _ => True) (okp := fun _ => True) (k36_mkM _ _ _ z36) (fun _ hk => hk) trivial (by omega) (by omega) (Below.refl _ _) (Nat.le_refl _) ?_; intro v52 w4 hR52 hb_ _ _; obtain ⟨lq, hlq⟩ : ∃ l_ : List S36, l_ = List.replicate (Int.toNat 9) z36 := ⟨_, rfl⟩; (first | rw [← hlq] at hR52 | (simp only [Int.reduceToNat] at hR52 hlq; rw [← hlq] at hR52)); have hlql : lq.length ≤ 9 := (by rw [hlq]; simp); clear hlq; obtain ⟨AQ, cQ, eQ⟩ := Kd.R_slice hR52; subst eQ; have hC4 := Dr.Cg.below HC3.out hb_; clear hb_; have z1 := blk_cell hC4.2.2.2.2.2.1 1; have zf1 := blk_frozen hC4.2.2.2.2.2.1 1; have HC9 := Aside0.mk (Dr.Cg.le (Dr.Cg.set1 hC4 (Kd.R_lower hR52 HC3.out.2.1.1) hlql) (b' := b + 246) (M' := 24) (by omega) (by omega)); clear hC4 hR52; obtain ⟨w9, hw9⟩ : ∃ W, W = w4.setCell ⟨c, 1, none⟩ (.slice AQ lq.length cQ) := ⟨_, rfl⟩; rw [← hw9] at HC9; obtain ⟨z0_, z1_, z2_⟩ := Dr.Cg.held HC9.out; have r0_ := blk_cell HC9.out.2.2.2.2.1 0; have f0_ := blk_frozen HC9.out.2.2.2.2.1 0; have r1_ := blk_cell HC9.out.2.2.2.2.1 1; have f1_ := blk_frozen HC9.out.2.2.2.2.1 1; have r2_ := blk_cell HC9.out.2.2.2.2.1 2; have f2_ := blk_frozen HC9.out.2.2.2.2.1 2; rw [hw9] at z0_ z1_ z2_ r0_ r1_ r2_ f0_ f1_ f2_)
  rw [← hw9]
  refine bodyPost_ret (results_cell_row rfl _ _ w.heap.size 31 #[.int .i64 _, .slice AQ lq.length cQ, .slice A2 l2.length c2] (0, 0) _ rfl (by exact Dr.put3 HC9.out.2.2.2.2.1 _ _ _) Try.underlying31 rfl (by kernel_rfl)) rfl ?_
  exact Dr.RPost.le (Dr.Cg.post HC9.out) (by omega) (by omega) (by omega)
 have e3 : (r == 3) = false := beq_eq_false_iff_ne.mpr hr3
 have HC9 := HC3
 clear HC3
 obtain ⟨z0_, z1_, z2_⟩ := Dr.Cg.held HC9.out
 have r0_ := blk_cell HC9.out.2.2.2.2.1 0
 have r1_ := blk_cell HC9.out.2.2.2.2.1 1
 have r2_ := blk_cell HC9.out.2.2.2.2.1 2
 have f0_ := blk_frozen HC9.out.2.2.2.2.1 0
 have f1_ := blk_frozen HC9.out.2.2.2.2.1 1
 have f2_ := blk_frozen HC9.out.2.2.2.2.1 2
 go_wp2
 refine bodyPost_ret (results_cell_row rfl _ _ w.heap.size 31 #[.int .i64 _, .slice A1 l1.length c1, .slice A2 l2.length c2] (0, 0) _ rfl (by exact Dr.put3 HC9.out.2.2.2.2.1 _ _ _) Try.underlying31 rfl (by kernel_rfl)) rfl ?_
 exact Dr.RPost.le (Dr.Cg.post HC9.out) (by omega) (by omega) (by omega)
end Go.Proofs.Ytfmlhpoaipeoeaa.QFnDeltas
