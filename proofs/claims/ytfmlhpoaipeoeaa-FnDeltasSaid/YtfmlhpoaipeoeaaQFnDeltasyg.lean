-- MADE BY PROGRAM (wip/dr/assemble2.py) out of walks by hand. Lean checks it.
import Derived.Test.YtfmlhpoaipeoeaaQFnDeltasye
import Derived.Test.YtfmlhpoaipeoeaaIx
import Derived.StillTailTactics
namespace Go.Proofs.Ytfmlhpoaipeoeaa.QFnDeltas
open Go.RowKit Go.Proofs.YtfmlhpoaipeoeaaW.PrintWords Go.Proofs.YtfmlhpoaipeoeaaW.PrintLast Go.Proofs.YtfmlhpoaipeoeaaW.PrintMore
attribute [local go_sem] max2_int min2_int max_two min_two max_three min_three max_four min_four   -- for this text's walks alone
set_option linter.unusedVariables false
set_option linter.unusedSimpArgs false
set_option maxHeartbeats 16000000 in
set_option maxRecDepth 100000 in
theorem spec_l5TurnVip.c8 (g : Nat) (v : Int) (s1 s2 : Value) (l1 : List S36) (l2 : List S64) (x0 x1 x2 x3 x4 x5 : Int) (M : Nat) (w0 w : World) (hS : Dr.St w0 w g v s1 s2 l1 l2) (hl : l2.length ≤ 4) (hM : M ≤ 1000) (hm : ∀ y, y ∈ l2 → y.f3.length ≤ M) (hx : ¬ x0 = 5) (hx7 : ¬ x0 = 7) (hx8 : x0 = 8) :
  Calls Try.prog 151 #[.pointer (some ⟨g, 0, none⟩), .agg #[.int .i64 x0, .int .i64 x1, .int .i64 x2, .int .i64 x3, .int .i64 x4, .int .i64 x5]] w fun e w' => Dr.VPost w0 g v s1 l1 M e w' := by
 have hx1 : (x0 == 5) = false := beq_eq_false_iff_ne.mpr hx
 clear hx
 have hy6 : (x0 == 6) = false := by rw [hx8]; rfl
 have hy7 : (x0 == 7) = false := beq_eq_false_iff_ne.mpr hx7
 have hy8 : (x0 == 8) = true := by rw [hx8]; rfl
 clear hx7 hx8
 have hu31 := Try.underlying31
 have hu64 := Try.underlying64
 have hu128 := Try.underlying128
 obtain ⟨A1, c1, e1_⟩ := Kd.R_slice hS.2.2.2.1
 obtain ⟨A2, c2, e2_⟩ := Kd.R_slice hS.2.2.2.2
 subst e1_
 subst e2_
 have HM := Aside0.mk (show ∀ y, y ∈ l2 → y.f3.length ≤ M + 1 from fun y hy => Nat.le_succ_of_le (hm y hy))
 obtain ⟨w1, hw1⟩ : ∃ W, W = w.alloc (.cells #[.int .i64 x0, .int .i64 x1, .int .i64 x2, .int .i64 x3, .int .i64 x4, .int .i64 x5] 128) := ⟨_, rfl⟩
 have hB1 : Below w.heap.size w w1 := by rw [hw1]; exact (Below.refl _ w).alloc (Nat.le_refl _) _
 have bx1 : w1.heap[w.heap.size]? = some (.cells #[.int .i64 x0, .int .i64 x1, .int .i64 x2, .int .i64 x3, .int .i64 x4, .int .i64 x5] 128 (0, 0)) := by rw [hw1]; exact blk_new w _
 have HX := Aside0.mk bx1
 have HS := Aside0.mk (Dr.St.below hS hB1)
 clear hB1 bx1 hS
 have q0 := blk_cell HX.out 0
 have q1 := blk_cell HX.out 1
 have q2 := blk_cell HX.out 2
 have q3 := blk_cell HX.out 3
 have q4 := blk_cell HX.out 4
 have q5 := blk_cell HX.out 5
 rw [hw1] at q0 q1 q2 q3 q4 q5
 have hcall := spec_l5Find.cf g A1 l1.length c1 A2 c2 l2 v x0 x1 x2 x3 x4 x5 w1 HS.out.2.2.1 (Kd.R_reads' HS.out.2.2.2.2).2.2
 rw [hw1] at hcall
 go_enter Try.func151, Try.ntmps151
 go_wp2_with fail
 refine hcall.mono ?_
 rintro e_ w2 ⟨⟨r, rfl, hr⟩, hb2⟩
 rw [← hw1] at hb2
 have HS2 := Aside0.mk (Dr.St.below HS.out hb2)
 have HX2 := Aside0.mk (blk_below HX.out hb2)
 clear hcall hb2 HS HX q0 q1 q2 q3 q4 q5 hw1
 have z2 := blk_cell HS2.out.2.2.1 2
 have q0 := blk_cell HX2.out 0
 have q3 := blk_cell HX2.out 3
 have q4 := blk_cell HX2.out 4
 have q5 := blk_cell HX2.out 5
 have HM0 := Aside0.mk hm
 clear hm
 by_cases hr0 : r < 0
 ·have hrl : decide (r < 0) = true := decide_eq_true hr0
  clear q3 q4 q5
  go_wp2
  have HS_ : ∀ W, Below w2.heap.size w2 W → (W.cell? ⟨g, 2, none⟩ = some (.slice A2 l2.length c2)) := fun W hW => pw_cell_below hW (blk_cell HS2.out.2.2.1 2)
  have hd : Below w2.heap.size w2 w2.drew := below_drew1 (Below.refl _ _)
  refine start_ (n := 33) (S := fun w' => w'.cell? ⟨g, 2, none⟩ = some (.slice A2 l2.length c2)) (ds := []) (Mk 33 0) (by kernel_rfl) rfl rfl (HS_ _ hd) (fun hHeld => ?_)
  generalize w2.drew = wd at hd hHeld ⊢
  refine pure_ (i := 0) (N := some 72) (v := ?_) (a' := ?_) (Mk 33 1) rfl rfl (by kernel_rfl) (fun _ _ _ h => h) (Or.inl ⟨by rfl, ?_⟩) ?_ ?_
  rotate_left
  ·intro w'
   first | (go_simp; with_reducible rfl) | (go_simp; (try unfold Instr.field); go_simp; (try simp only [asAgg]); go_simp; with_reducible rfl)
  rotate_left
  ·simp only [Act.put, List.setIfInBounds_toArray, List.set_cons_zero, List.set_cons_succ, i64_w, i32_w]
   rfl
  refine pure_ (i := 1) (N := some 73) (v := ?_) (a' := ?_) (Mk 33 3) rfl rfl (by kernel_rfl) (fun _ _ _ h => h) (Or.inl ⟨by rfl, ?_⟩) ?_ ?_
  rotate_left
  ·intro w'
   first | (go_simp; with_reducible rfl) | (go_simp; (try unfold Instr.field); go_simp; (try simp only [asAgg]); go_simp; with_reducible rfl)
  rotate_left
  ·simp only [Act.put, List.setIfInBounds_toArray, List.set_cons_zero, List.set_cons_succ, i64_w, i32_w]
   rfl
  refine pure_ (i := 2) (N := some 74) (v := ?_) (a' := ?_) (Mk 33 7) rfl rfl (by kernel_rfl) (fun _ _ _ h => h) (Or.inl ⟨by rfl, ?_⟩) ?_ ?_
  rotate_left
  ·intro w'
   first | (go_simp; with_reducible rfl) | (go_simp; (try unfold Instr.field); go_simp; (try simp only [asAgg]); go_simp; with_reducible rfl)
  rotate_left
  ·simp only [Act.put, List.setIfInBounds_toArray, List.set_cons_zero, List.set_cons_succ, i64_w, i32_w]
   rfl
  refine pure_ (i := 3) (N := some 75) (v := undef) (a' := ?_) (Mk 33 15) rfl rfl (by kernel_rfl) (fun _ _ _ h => h) (Or.inr ⟨by rfl, rfl⟩) ?_ ?_
  rotate_left
  ·simp only [Act.put, List.setIfInBounds_toArray, List.set_cons_zero, List.set_cons_succ, i64_w, i32_w]
   rfl
  refine pure_ (i := 4) (N := some 76) (v := undef) (a' := ?_) (Mk 33 31) rfl rfl (by kernel_rfl) (fun _ _ _ h => h) (Or.inr ⟨by rfl, rfl⟩) ?_ ?_
  rotate_left
  ·simp only [Act.put, List.setIfInBounds_toArray, List.set_cons_zero, List.set_cons_succ, i64_w, i32_w]
   rfl
  refine pure_ (i := 5) (N := some 77) (v := undef) (a' := ?_) (Mk 33 63) rfl rfl (by kernel_rfl) (fun _ _ _ h => h) (Or.inr ⟨by rfl, rfl⟩) ?_ ?_
  rotate_left
  ·simp only [Act.put, List.setIfInBounds_toArray, List.set_cons_zero, List.set_cons_succ, i64_w, i32_w]
   rfl
  refine pure_ (i := 6) (N := some 78) (v := undef) (a' := ?_) (Mk 33 127) rfl rfl (by kernel_rfl) (fun _ _ _ h => h) (Or.inr ⟨by rfl, rfl⟩) ?_ ?_
  rotate_left
  ·simp only [Act.put, List.setIfInBounds_toArray, List.set_cons_zero, List.set_cons_succ, i64_w, i32_w]
   rfl
  refine pure_ (i := 7) (N := some 79) (v := undef) (a' := ?_) (Mk 33 255) rfl rfl (by kernel_rfl) (fun _ _ _ h => h) (Or.inr ⟨by rfl, rfl⟩) ?_ ?_
  rotate_left
  ·simp only [Act.put, List.setIfInBounds_toArray, List.set_cons_zero, List.set_cons_succ, i64_w, i32_w]
   rfl
  refine pure_ (i := 8) (N := some 80) (v := undef) (a' := ?_) (Mk 33 511) rfl rfl (by kernel_rfl) (fun _ _ _ h => h) (Or.inr ⟨by rfl, rfl⟩) ?_ ?_
  rotate_left
  ·simp only [Act.put, List.setIfInBounds_toArray, List.set_cons_zero, List.set_cons_succ, i64_w, i32_w]
   rfl
  refine pure_ (i := 9) (N := some 81) (v := undef) (a' := ?_) (Mk 33 1023) rfl rfl (by kernel_rfl) (fun _ _ _ h => h) (Or.inr ⟨by rfl, rfl⟩) ?_ ?_
  rotate_left
  ·simp only [Act.put, List.setIfInBounds_toArray, List.set_cons_zero, List.set_cons_succ, i64_w, i32_w]
   rfl
  refine pure_ (i := 10) (N := some 82) (v := undef) (a' := ?_) (Mk 33 2047) rfl rfl (by kernel_rfl) (fun _ _ _ h => h) (Or.inr ⟨by rfl, rfl⟩) ?_ ?_
  rotate_left
  ·simp only [Act.put, List.setIfInBounds_toArray, List.set_cons_zero, List.set_cons_succ, i64_w, i32_w]
   rfl
  refine pure_ (i := 11) (N := some 83) (v := undef) (a' := ?_) (Mk 33 4095) rfl rfl (by kernel_rfl) (fun _ _ _ h => h) (Or.inr ⟨by rfl, rfl⟩) ?_ ?_
  rotate_left
  ·simp only [Act.put, List.setIfInBounds_toArray, List.set_cons_zero, List.set_cons_succ, i64_w, i32_w]
   rfl
  refine pure_ (i := 12) (N := some 84) (v := undef) (a' := ?_) (Mk 33 8191) rfl rfl (by kernel_rfl) (fun _ _ _ h => h) (Or.inr ⟨by rfl, rfl⟩) ?_ ?_
  rotate_left
  ·simp only [Act.put, List.setIfInBounds_toArray, List.set_cons_zero, List.set_cons_succ, i64_w, i32_w]
   rfl
  refine pure_ (i := 13) (N := some 85) (v := ?_) (a' := ?_) (Mk 33 16383) rfl rfl (by kernel_rfl) (fun _ _ _ h => h) (Or.inl ⟨by rfl, ?_⟩) ?_ ?_
  rotate_left
  ·intro w'
   first | (go_simp; with_reducible rfl) | (go_simp; (try unfold Instr.field); go_simp; (try simp only [asAgg]); go_simp; with_reducible rfl)
  rotate_left
  ·simp only [Act.put, List.setIfInBounds_toArray, List.set_cons_zero, List.set_cons_succ, i64_w, i32_w]
   rfl
  refine pure_ (i := 14) (N := some 86) (v := ?_) (a' := ?_) (Mk 33 32767) rfl rfl (by kernel_rfl) (fun _ _ _ h => h) (Or.inl ⟨by rfl, ?_⟩) ?_ ?_
  rotate_left
  ·intro w'
   first | (go_simp; with_reducible rfl) | (go_simp; (try unfold Instr.field); go_simp; (try simp only [asAgg]); go_simp; with_reducible rfl)
  rotate_left
  ·simp only [Act.put, List.setIfInBounds_toArray, List.set_cons_zero, List.set_cons_succ, i64_w, i32_w]
   rfl
  refine pure_ (i := 15) (N := some 87) (v := undef) (a' := ?_) (Mk 33 65535) rfl rfl (by kernel_rfl) (fun _ _ _ h => h) (Or.inr ⟨by rfl, rfl⟩) ?_ ?_
  rotate_left
  ·simp only [Act.put, List.setIfInBounds_toArray, List.set_cons_zero, List.set_cons_succ, i64_w, i32_w]
   rfl
  refine pure_ (i := 16) (N := some 88) (v := undef) (a' := ?_) (Mk 33 131071) rfl rfl (by kernel_rfl) (fun _ _ _ h => h) (Or.inr ⟨by rfl, rfl⟩) ?_ ?_
  rotate_left
  ·simp only [Act.put, List.setIfInBounds_toArray, List.set_cons_zero, List.set_cons_succ, i64_w, i32_w]
   rfl
  refine pure_ (i := 17) (N := some 89) (v := undef) (a' := ?_) (Mk 33 262143) rfl rfl (by kernel_rfl) (fun _ _ _ h => h) (Or.inr ⟨by rfl, rfl⟩) ?_ ?_
  rotate_left
  ·simp only [Act.put, List.setIfInBounds_toArray, List.set_cons_zero, List.set_cons_succ, i64_w, i32_w]
   rfl
  refine pure_ (i := 18) (N := some 90) (v := undef) (a' := ?_) (Mk 33 524287) rfl rfl (by kernel_rfl) (fun _ _ _ h => h) (Or.inr ⟨by rfl, rfl⟩) ?_ ?_
  rotate_left
  ·simp only [Act.put, List.setIfInBounds_toArray, List.set_cons_zero, List.set_cons_succ, i64_w, i32_w]
   rfl
  refine pure_ (i := 19) (N := some 91) (v := undef) (a' := ?_) (Mk 33 1048575) rfl rfl (by kernel_rfl) (fun _ _ _ h => h) (Or.inr ⟨by rfl, rfl⟩) ?_ ?_
  rotate_left
  ·simp only [Act.put, List.setIfInBounds_toArray, List.set_cons_zero, List.set_cons_succ, i64_w, i32_w]
   rfl
  refine pure_ (i := 20) (N := some 92) (v := undef) (a' := ?_) (Mk 33 2097151) rfl rfl (by kernel_rfl) (fun _ _ _ h => h) (Or.inr ⟨by rfl, rfl⟩) ?_ ?_
  rotate_left
  ·simp only [Act.put, List.setIfInBounds_toArray, List.set_cons_zero, List.set_cons_succ, i64_w, i32_w]
   rfl
  refine pure_ (i := 21) (N := some 93) (v := undef) (a' := ?_) (Mk 33 4194303) rfl rfl (by kernel_rfl) (fun _ _ _ h => h) (Or.inr ⟨by rfl, rfl⟩) ?_ ?_
  rotate_left
  ·simp only [Act.put, List.setIfInBounds_toArray, List.set_cons_zero, List.set_cons_succ, i64_w, i32_w]
   rfl
  refine pure_ (i := 22) (N := some 94) (v := undef) (a' := ?_) (Mk 33 8388607) rfl rfl (by kernel_rfl) (fun _ _ _ h => h) (Or.inr ⟨by rfl, rfl⟩) ?_ ?_
  rotate_left
  ·simp only [Act.put, List.setIfInBounds_toArray, List.set_cons_zero, List.set_cons_succ, i64_w, i32_w]
   rfl
  refine pure_ (i := 23) (N := some 95) (v := undef) (a' := ?_) (Mk 33 16777215) rfl rfl (by kernel_rfl) (fun _ _ _ h => h) (Or.inr ⟨by rfl, rfl⟩) ?_ ?_
  rotate_left
  ·simp only [Act.put, List.setIfInBounds_toArray, List.set_cons_zero, List.set_cons_succ, i64_w, i32_w]
   rfl
  refine pure_ (i := 24) (N := some 96) (v := undef) (a' := ?_) (Mk 33 33554431) rfl rfl (by kernel_rfl) (fun _ _ _ h => h) (Or.inr ⟨by rfl, rfl⟩) ?_ ?_
  rotate_left
  ·simp only [Act.put, List.setIfInBounds_toArray, List.set_cons_zero, List.set_cons_succ, i64_w, i32_w]
   rfl
  refine pure_ (i := 25) (N := some 97) (v := undef) (a' := ?_) (Mk 33 67108863) rfl rfl (by kernel_rfl) (fun _ _ _ h => h) (Or.inr ⟨by rfl, rfl⟩) ?_ ?_
  rotate_left
  ·simp only [Act.put, List.setIfInBounds_toArray, List.set_cons_zero, List.set_cons_succ, i64_w, i32_w]
   rfl
  refine pure_ (i := 26) (N := some 98) (v := undef) (a' := ?_) (Mk 33 134217727) rfl rfl (by kernel_rfl) (fun _ _ _ h => h) (Or.inr ⟨by rfl, rfl⟩) ?_ ?_
  rotate_left
  ·simp only [Act.put, List.setIfInBounds_toArray, List.set_cons_zero, List.set_cons_succ, i64_w, i32_w]
   rfl
  refine pure_ (i := 27) (N := some 99) (v := undef) (a' := ?_) (Mk 33 268435455) rfl rfl (by kernel_rfl) (fun _ _ _ h => h) (Or.inr ⟨by rfl, rfl⟩) ?_ ?_
  rotate_left
  ·simp only [Act.put, List.setIfInBounds_toArray, List.set_cons_zero, List.set_cons_succ, i64_w, i32_w]
   rfl
  refine pure_ (i := 28) (N := some 100) (v := undef) (a' := ?_) (Mk 33 536870911) rfl rfl (by kernel_rfl) (fun _ _ _ h => h) (Or.inr ⟨by rfl, rfl⟩) ?_ ?_
  rotate_left
  ·simp only [Act.put, List.setIfInBounds_toArray, List.set_cons_zero, List.set_cons_succ, i64_w, i32_w]
   rfl
  refine pure_ (i := 29) (N := some 101) (v := undef) (a' := ?_) (Mk 33 1073741823) rfl rfl (by kernel_rfl) (fun _ _ _ h => h) (Or.inr ⟨by rfl, rfl⟩) ?_ ?_
  rotate_left
  ·simp only [Act.put, List.setIfInBounds_toArray, List.set_cons_zero, List.set_cons_succ, i64_w, i32_w]
   rfl
  refine pure_ (i := 30) (N := some 102) (v := undef) (a' := ?_) (Mk 33 2147483647) rfl rfl (by kernel_rfl) (fun _ _ _ h => h) (Or.inr ⟨by rfl, rfl⟩) ?_ ?_
  rotate_left
  ·simp only [Act.put, List.setIfInBounds_toArray, List.set_cons_zero, List.set_cons_succ, i64_w, i32_w]
   rfl
  refine pure_ (i := 31) (N := some 103) (v := undef) (a' := ?_) (Mk 33 4294967295) rfl rfl (by kernel_rfl) (fun _ _ _ h => h) (Or.inr ⟨by rfl, rfl⟩) ?_ ?_
  rotate_left
  ·simp only [Act.put, List.setIfInBounds_toArray, List.set_cons_zero, List.set_cons_succ, i64_w, i32_w]
   rfl
  refine pure_ (i := 32) (N := some 104) (v := ?_) (a' := ?_) (Mk 33 8589934591) rfl rfl (by kernel_rfl) (fun _ _ _ h => h) (Or.inl ⟨by rfl, ?_⟩) ?_ ?_
  rotate_left
  ·intro w'
   first | (go_simp; with_reducible rfl) | (go_simp; (try unfold Instr.field); go_simp; (try simp only [asAgg]); go_simp; with_reducible rfl)
  rotate_left
  ·simp only [Act.put, List.setIfInBounds_toArray, List.set_cons_zero, List.set_cons_succ, i64_w, i32_w]
   rfl
  refine done_ (by kernel_rfl) ?_
  have HS3 := Aside0.mk (Dr.St.below HS2.out hd)
  have HX3 := Aside0.mk (blk_below HX2.out hd)
  clear hHeld HS_
  go_wp2
  go_ret
  exact ⟨_, _, _, rfl, HS3.out, hl, HM.out⟩
 obtain ⟨kk, rfl⟩ : ∃ kk : Nat, r = (kk : Int) := ⟨r.toNat, by omega⟩
 have hrl : decide ((kk : Int) < 0) = false := decide_eq_false (by omega)
 have hlt : kk < l2.length := by omega
 obtain ⟨g2, cap, hu, hge, hgl, hgt⟩ := Kd.R_form HS2.out.2.2.2.2 (by omega)
 injection hu with e1 e2 e3
 subst e1
 subst e3
 clear e2 hge hgl hgt
 obtain ⟨y, hy⟩ : ∃ y, y = l2.getD kk z64 := ⟨_, rfl⟩
 have HY := Aside0.mk hy
 have HYM := Aside0.mk (show y.f3.length ≤ M from HM0.out y (by rw [hy, show l2.getD kk z64 = l2[kk] by simp [List.getD, hlt]]; exact List.getElem_mem hlt))
 clear hy q0 q3 q4 q5 z2
 obtain ⟨A3, c3, HN3, HR3⟩ : ∃ A3 c3, Aside0 (w2.cell? ⟨g2, kk * 4 + 3, none⟩ = some (.slice A3 y.f3.length c3)) ∧ Aside0 (Kd.R (Kd.int .i64) 2 w2 w0.heap.size (fun _ => True) (.slice A3 y.f3.length c3) y.f3) := by
  obtain ⟨cE, hcl, hM_, hcc, hfr⟩ := Kd.R_elem HS2.out.2.2.2.2 z64 (kk : Int) (by omega) hr
  rw [Int.toNat_natCast] at hM_ hcc hfr
  rw [← HY.out] at hM_
  obtain ⟨v3, rfl, hR3⟩ := k64_openM hM_
  obtain ⟨A3, c3, e3⟩ := Kd.R_slice hR3
  subst e3
  exact ⟨A3, c3, ⟨hcc 3 _ rfl⟩, ⟨Kd.R_mono hR3 (fun _ _ => trivial)⟩⟩
 have hC3 := (Kd.R_reads' HR3.out).2.2
 have hc3 := (Kd.R_reads' HR3.out).2.1
 obtain ⟨b, hhas⟩ := Dr.has' x2 hC3 hc3
 have HH := Aside0.mk hhas
 have HC3 := Aside0.mk (And.intro hC3 hc3)
 clear hhas hC3 hc3
 have q0 := blk_cell HX2.out 0
 have hr0' : ¬ (kk : Int) < 0 := hr0
 clear hr0 hr0'
 go_wp2
 have HS_ : ∀ W, Below w2.heap.size w2 W → (W.cell? ⟨w.heap.size, 0, none⟩ = some (.int .i64 x0) ∧ W.cell? ⟨w.heap.size, 2, none⟩ = some (.int .i64 x2) ∧ W.cell? ⟨g, 2, none⟩ = some (.slice (some ⟨g2, 0, none⟩) l2.length c2) ∧ W.cell? ⟨g2, kk * 4 + 3, none⟩ = some (.slice A3 y.f3.length c3)) := fun W hW => ⟨pw_cell_below hW (blk_cell HX2.out 0), pw_cell_below hW (blk_cell HX2.out 2), pw_cell_below hW (blk_cell HS2.out.2.2.1 2), pw_cell_below hW HN3.out⟩
 have hd : Below w2.heap.size w2 w2.drew := below_drew1 (Below.refl _ _)
 refine start_ (n := 33) (S := fun w' => w'.cell? ⟨w.heap.size, 0, none⟩ = some (.int .i64 x0) ∧ w'.cell? ⟨w.heap.size, 2, none⟩ = some (.int .i64 x2) ∧ w'.cell? ⟨g, 2, none⟩ = some (.slice (some ⟨g2, 0, none⟩) l2.length c2) ∧ w'.cell? ⟨g2, kk * 4 + 3, none⟩ = some (.slice A3 y.f3.length c3)) (ds := []) (Mk 33 0) (by kernel_rfl) rfl rfl (HS_ _ hd) (fun hHeld => ?_)
 generalize w2.drew = wd at hd hHeld ⊢
 refine pure_ (i := 0) (N := some 72) (v := ?_) (a' := ?_) (Mk 33 1) rfl rfl (by kernel_rfl) (fun _ _ _ h => h) (Or.inl ⟨by rfl, ?_⟩) ?_ ?_
 rotate_left
 ·intro w'
  first | (go_simp; with_reducible rfl) | (go_simp; (try unfold Instr.field); go_simp; (try simp only [asAgg]); go_simp; with_reducible rfl)
 rotate_left
 ·simp only [Act.put, List.setIfInBounds_toArray, List.set_cons_zero, List.set_cons_succ, i64_w, i32_w]
  rfl
 refine pure_ (i := 1) (N := some 73) (v := ?_) (a' := ?_) (Mk 33 3) rfl rfl (by kernel_rfl) (fun _ _ _ h => h) (Or.inl ⟨by rfl, ?_⟩) ?_ ?_
 rotate_left
 ·intro w'
  first | (go_simp; with_reducible rfl) | (go_simp; (try unfold Instr.field); go_simp; (try simp only [asAgg]); go_simp; with_reducible rfl)
 rotate_left
 ·simp only [Act.put, List.setIfInBounds_toArray, List.set_cons_zero, List.set_cons_succ, i64_w, i32_w]
  rfl
 refine pure_ (i := 2) (N := some 74) (v := ?_) (a' := ?_) (Mk 33 7) rfl rfl (by kernel_rfl) (fun _ _ _ h => h) (Or.inl ⟨by rfl, ?_⟩) ?_ ?_
 rotate_left
 ·intro w'
  first | (go_simp; with_reducible rfl) | (go_simp; (try unfold Instr.field); go_simp; (try simp only [asAgg]); go_simp; with_reducible rfl)
 rotate_left
 ·simp only [Act.put, List.setIfInBounds_toArray, List.set_cons_zero, List.set_cons_succ, i64_w, i32_w]
  rfl
 refine pure_ (i := 3) (N := some 75) (v := ?_) (a' := ?_) (Mk 33 15) rfl rfl (by kernel_rfl) (fun _ _ _ h => h) (Or.inl ⟨by rfl, ?_⟩) ?_ ?_
 rotate_left
 ·intro w'
  first | (go_simp; with_reducible rfl) | (go_simp; (try unfold Instr.field); go_simp; (try simp only [asAgg]); go_simp; with_reducible rfl)
 rotate_left
 ·simp only [Act.put, List.setIfInBounds_toArray, List.set_cons_zero, List.set_cons_succ, i64_w, i32_w]
  rfl
 refine take_ (i := 4) (N := some 76) (v := ?_) (a' := ?_) (Mk 33 31) rfl rfl (by kernel_rfl) (fun _ _ _ h => h) (Or.inl ⟨by rfl, ?_⟩) hHeld ?_ ?_
 rotate_left
 ·rintro w' ⟨s0, s1, s2, s3⟩
  go_simp
  with_reducible rfl
 rotate_left
 ·simp only [Act.put, List.setIfInBounds_toArray, List.set_cons_zero, List.set_cons_succ, i64_w, i32_w]
  rfl
 refine pure_ (i := 5) (N := some 77) (v := ?_) (a' := ?_) (Mk 33 63) rfl rfl (by kernel_rfl) (fun _ _ _ h => h) (Or.inl ⟨by rfl, ?_⟩) ?_ ?_
 rotate_left
 ·intro w'
  first | (go_simp; with_reducible rfl) | (go_simp; (try unfold Instr.field); go_simp; (try simp only [asAgg]); go_simp; with_reducible rfl)
 rotate_left
 ·simp only [Act.put, List.setIfInBounds_toArray, List.set_cons_zero, List.set_cons_succ, i64_w, i32_w]
  rfl
 refine pure_ (i := 6) (N := some 78) (v := ?_) (a' := ?_) (Mk 33 127) rfl rfl (by kernel_rfl) (fun _ _ _ h => h) (Or.inl ⟨by rfl, ?_⟩) ?_ ?_
 rotate_left
 ·intro w'
  first | (go_simp; with_reducible rfl) | (go_simp; (try unfold Instr.field); go_simp; (try simp only [asAgg]); go_simp; with_reducible rfl)
 rotate_left
 ·simp only [Act.put, List.setIfInBounds_toArray, List.set_cons_zero, List.set_cons_succ, i64_w, i32_w]
  rfl
 refine pure_ (i := 7) (N := some 79) (v := undef) (a' := ?_) (Mk 33 255) rfl rfl (by kernel_rfl) (fun _ _ _ h => h) (Or.inr ⟨by rfl, rfl⟩) ?_ ?_
 rotate_left
 ·simp only [Act.put, List.setIfInBounds_toArray, List.set_cons_zero, List.set_cons_succ, i64_w, i32_w]
  rfl
 refine pure_ (i := 8) (N := some 80) (v := undef) (a' := ?_) (Mk 33 511) rfl rfl (by kernel_rfl) (fun _ _ _ h => h) (Or.inr ⟨by rfl, rfl⟩) ?_ ?_
 rotate_left
 ·simp only [Act.put, List.setIfInBounds_toArray, List.set_cons_zero, List.set_cons_succ, i64_w, i32_w]
  rfl
 refine pure_ (i := 9) (N := some 81) (v := undef) (a' := ?_) (Mk 33 1023) rfl rfl (by kernel_rfl) (fun _ _ _ h => h) (Or.inr ⟨by rfl, rfl⟩) ?_ ?_
 rotate_left
 ·simp only [Act.put, List.setIfInBounds_toArray, List.set_cons_zero, List.set_cons_succ, i64_w, i32_w]
  rfl
 refine pure_ (i := 10) (N := some 82) (v := undef) (a' := ?_) (Mk 33 2047) rfl rfl (by kernel_rfl) (fun _ _ _ h => h) (Or.inr ⟨by rfl, rfl⟩) ?_ ?_
 rotate_left
 ·simp only [Act.put, List.setIfInBounds_toArray, List.set_cons_zero, List.set_cons_succ, i64_w, i32_w]
  rfl
 refine pure_ (i := 11) (N := some 83) (v := undef) (a' := ?_) (Mk 33 4095) rfl rfl (by kernel_rfl) (fun _ _ _ h => h) (Or.inr ⟨by rfl, rfl⟩) ?_ ?_
 rotate_left
 ·simp only [Act.put, List.setIfInBounds_toArray, List.set_cons_zero, List.set_cons_succ, i64_w, i32_w]
  rfl
 refine pure_ (i := 12) (N := some 84) (v := ?_) (a' := ?_) (Mk 33 8191) rfl rfl (by kernel_rfl) (fun _ _ _ h => h) (Or.inl ⟨by rfl, ?_⟩) ?_ ?_
 rotate_left
 ·intro w'
  first | (go_simp; with_reducible rfl) | (go_simp; (try unfold Instr.field); go_simp; (try simp only [asAgg]); go_simp; with_reducible rfl)
 rotate_left
 ·simp only [Act.put, List.setIfInBounds_toArray, List.set_cons_zero, List.set_cons_succ, i64_w, i32_w]
  rfl
 refine pure_ (i := 13) (N := some 85) (v := ?_) (a' := ?_) (Mk 33 16383) rfl rfl (by kernel_rfl) (fun _ _ _ h => h) (Or.inl ⟨by rfl, ?_⟩) ?_ ?_
 rotate_left
 ·intro w'
  first | (go_simp; with_reducible rfl) | (go_simp; (try unfold Instr.field); go_simp; (try simp only [asAgg]); go_simp; with_reducible rfl)
 rotate_left
 ·simp only [Act.put, List.setIfInBounds_toArray, List.set_cons_zero, List.set_cons_succ, i64_w, i32_w]
  rfl
 refine pure_ (i := 14) (N := some 86) (v := ?_) (a' := ?_) (Mk 33 32767) rfl rfl (by kernel_rfl) (fun _ _ _ h => h) (Or.inl ⟨by rfl, ?_⟩) ?_ ?_
 rotate_left
 ·intro w'
  first | (go_simp; with_reducible rfl) | (go_simp; (try unfold Instr.field); go_simp; (try simp only [asAgg]); go_simp; with_reducible rfl)
 rotate_left
 ·simp only [Act.put, List.setIfInBounds_toArray, List.set_cons_zero, List.set_cons_succ, i64_w, i32_w]
  rfl
 refine pure_ (i := 15) (N := some 87) (v := ?_) (a' := ?_) (Mk 33 65535) rfl rfl (by kernel_rfl) (fun _ _ _ h => h) (Or.inl ⟨by rfl, ?_⟩) ?_ ?_
 rotate_left
 ·intro w'
  first | (go_simp; with_reducible rfl) | (go_simp; (try unfold Instr.field); go_simp; (try simp only [asAgg]); go_simp; with_reducible rfl)
 rotate_left
 ·simp only [Act.put, List.setIfInBounds_toArray, List.set_cons_zero, List.set_cons_succ, i64_w, i32_w]
  rfl
 refine take_ (i := 16) (N := some 88) (v := ?_) (a' := ?_) (Mk 33 131071) rfl rfl (by kernel_rfl) (fun _ _ _ h => h) (Or.inl ⟨by rfl, ?_⟩) hHeld ?_ ?_
 rotate_left
 ·rintro w' ⟨s0, s1, s2, s3⟩
  go_simp
  with_reducible rfl
 rotate_left
 ·simp only [Act.put, List.setIfInBounds_toArray, List.set_cons_zero, List.set_cons_succ, i64_w, i32_w]
  rfl
 refine pure_ (i := 17) (N := some 89) (v := ?_) (a' := ?_) (Mk 33 262143) rfl rfl (by kernel_rfl) (fun _ _ _ h => h) (Or.inl ⟨by rfl, ?_⟩) ?_ ?_
 rotate_left
 ·intro w'
  first | (go_simp; with_reducible rfl) | (go_simp; (try unfold Instr.field); go_simp; (try simp only [asAgg]); go_simp; with_reducible rfl)
 rotate_left
 ·simp only [Act.put, List.setIfInBounds_toArray, List.set_cons_zero, List.set_cons_succ, i64_w, i32_w]
  rfl
 refine pure_ (i := 18) (N := some 90) (v := ?_) (a' := ?_) (Mk 33 524287) rfl rfl (by kernel_rfl) (fun _ _ _ h => h) (Or.inl ⟨by rfl, ?_⟩) ?_ ?_
 rotate_left
 ·intro w'
  first | (go_simp; with_reducible rfl) | (go_simp; (try unfold Instr.field); go_simp; (try simp only [asAgg]); go_simp; with_reducible rfl)
 rotate_left
 ·simp only [Act.put, List.setIfInBounds_toArray, List.set_cons_zero, List.set_cons_succ, i64_w, i32_w]
  rfl
 refine pure_ (i := 19) (N := some 91) (v := ?_) (a' := ?_) (Mk 33 1048575) rfl rfl (by kernel_rfl) (fun _ _ _ h => h) (Or.inl ⟨by rfl, ?_⟩) ?_ ?_
 rotate_left
 ·intro w'
  first | (go_simp; with_reducible rfl) | (go_simp; (try unfold Instr.field); go_simp; (try simp only [asAgg]); go_simp; with_reducible rfl)
 rotate_left
 ·simp only [Act.put, List.setIfInBounds_toArray, List.set_cons_zero, List.set_cons_succ, i64_w, i32_w]
  rfl
 refine pure_ (i := 20) (N := some 92) (v := ?_) (a' := ?_) (Mk 33 2097151) rfl rfl (by kernel_rfl) (fun _ _ _ h => h) (Or.inl ⟨by rfl, ?_⟩) ?_ ?_
 rotate_left
 ·intro w'
  first | (go_simp; with_reducible rfl) | (go_simp; (try unfold Instr.field); go_simp; (try simp only [asAgg]); go_simp; with_reducible rfl)
 rotate_left
 ·simp only [Act.put, List.setIfInBounds_toArray, List.set_cons_zero, List.set_cons_succ, i64_w, i32_w]
  rfl
 refine pure_ (i := 21) (N := some 93) (v := ?_) (a' := ?_) (Mk 33 4194303) rfl rfl (by kernel_rfl) (fun _ _ _ h => h) (Or.inl ⟨by rfl, ?_⟩) ?_ ?_
 rotate_left
 ·intro w'
  first | (go_simp; with_reducible rfl) | (go_simp; (try unfold Instr.field); go_simp; (try simp only [asAgg]); go_simp; with_reducible rfl)
 rotate_left
 ·simp only [Act.put, List.setIfInBounds_toArray, List.set_cons_zero, List.set_cons_succ, i64_w, i32_w]
  rfl
 refine take_ (i := 22) (N := some 94) (v := ?_) (a' := ?_) (Mk 33 8388607) rfl rfl (by kernel_rfl) (fun _ _ _ h => h) (Or.inl ⟨by rfl, ?_⟩) hHeld ?_ ?_
 rotate_left
 ·rintro w' ⟨s0, s1, s2, s3⟩
  go_simp
  with_reducible rfl
 rotate_left
 ·simp only [Act.put, List.setIfInBounds_toArray, List.set_cons_zero, List.set_cons_succ, i64_w, i32_w]
  rfl
 refine pure_ (i := 23) (N := some 95) (v := ?_) (a' := ?_) (Mk 33 16777215) rfl rfl (by kernel_rfl) (fun _ _ _ h => h) (Or.inl ⟨by rfl, ?_⟩) ?_ ?_
 rotate_left
 ·intro w'
  first | (go_simp; with_reducible rfl) | (go_simp; (try unfold Instr.field); go_simp; (try simp only [asAgg]); go_simp; with_reducible rfl)
 rotate_left
 ·simp only [Act.put, List.setIfInBounds_toArray, List.set_cons_zero, List.set_cons_succ, i64_w, i32_w]
  rfl
 refine pure_ (i := 24) (N := some 96) (v := ?_) (a' := ?_) (Mk 33 33554431) rfl rfl (by kernel_rfl) (fun _ _ _ h => h) (Or.inl ⟨by rfl, ?_⟩) ?_ ?_
 rotate_left
 ·intro w'
  first | (go_simp; with_reducible rfl) | (go_simp; (try unfold Instr.field); go_simp; (try simp only [asAgg]); go_simp; with_reducible rfl)
 rotate_left
 ·simp only [Act.put, List.setIfInBounds_toArray, List.set_cons_zero, List.set_cons_succ, i64_w, i32_w]
  rfl
 refine pure_ (i := 25) (N := some 97) (v := ?_) (a' := ?_) (Mk 33 67108863) rfl rfl (by kernel_rfl) (fun _ _ _ h => h) (Or.inl ⟨by rfl, ?_⟩) ?_ ?_
 rotate_left
 ·intro w'
  first | (go_simp; with_reducible rfl) | (go_simp; (try unfold Instr.field); go_simp; (try simp only [asAgg]); go_simp; with_reducible rfl)
 rotate_left
 ·simp only [Act.put, List.setIfInBounds_toArray, List.set_cons_zero, List.set_cons_succ, i64_w, i32_w]
  rfl
 refine take_ (i := 26) (N := some 98) (v := ?_) (a' := ?_) (Mk 33 134217727) rfl rfl (by kernel_rfl) (fun _ _ _ h => h) (Or.inl ⟨by rfl, ?_⟩) hHeld ?_ ?_
 rotate_left
 ·rintro w' ⟨s0, s1, s2, s3⟩
  go_simp
  with_reducible rfl
 rotate_left
 ·simp only [Act.put, List.setIfInBounds_toArray, List.set_cons_zero, List.set_cons_succ, i64_w, i32_w]
  rfl
 refine pure_ (i := 27) (N := some 99) (v := ?_) (a' := ?_) (Mk 33 268435455) rfl rfl (by kernel_rfl) (fun _ _ _ h => h) (Or.inl ⟨by rfl, ?_⟩) ?_ ?_
 rotate_left
 ·intro w'
  first | (go_simp; with_reducible rfl) | (go_simp; (try unfold Instr.field); go_simp; (try simp only [asAgg]); go_simp; with_reducible rfl)
 rotate_left
 ·simp only [Act.put, List.setIfInBounds_toArray, List.set_cons_zero, List.set_cons_succ, i64_w, i32_w]
  rfl
 refine take_ (i := 28) (N := some 100) (v := ?_) (a' := ?_) (Mk 33 536870911) rfl rfl (by kernel_rfl) (fun _ _ _ h => h) (Or.inl ⟨by rfl, ?_⟩) hHeld ?_ ?_
 rotate_left
 ·rintro w' ⟨s0, s1, s2, s3⟩
  go_simp
  with_reducible rfl
 rotate_left
 ·simp only [Act.put, List.setIfInBounds_toArray, List.set_cons_zero, List.set_cons_succ, i64_w, i32_w]
  rfl
 refine one_ (i := 29) (N := some 101) (Mk 33 1073741823) rfl rfl (by kernel_rfl) (by decide) (fun K hK => ?_)
 refine goes_ Try.func159 (by kernel_rfl) rfl #[.slice A3 y.f3.length c3, .int .i64 x2] (by rfl) rfl rfl (by (try simp only [List.map_toArray, List.map_cons, List.map_nil]); first | done | rfl) ?_
 refine (HH.out _ (hd)).mono ?_
 rintro e_ wf ⟨rfl, hbc⟩
 replace hd := Dr.up hd hbc
 clear hbc hHeld
 refine ⟨_, rfl, ?_⟩
 refine hK.out _ _ (HS_ _ hd) (fun hHeld => ?_)
 clear hK K
 refine norm_ (a' := ?_) ?_ ?_
 rotate_left
 ·show Act.put _ (some 101) _ = _
  simp only [Act.put, List.setIfInBounds_toArray, List.set_cons_zero, List.set_cons_succ, i64_w, i32_w]
  rfl
 refine pure_ (i := 30) (N := some 102) (v := ?_) (a' := ?_) (Mk 33 2147483647) rfl rfl (by kernel_rfl) (fun _ _ _ h => h) (Or.inl ⟨by rfl, ?_⟩) ?_ ?_
 rotate_left
 ·intro w'
  first | (go_simp; with_reducible rfl) | (go_simp; (try unfold Instr.field); go_simp; (try simp only [asAgg]); go_simp; with_reducible rfl)
 rotate_left
 ·simp only [Act.put, List.setIfInBounds_toArray, List.set_cons_zero, List.set_cons_succ, i64_w, i32_w]
  rfl
 refine pure_ (i := 31) (N := some 103) (v := ?_) (a' := ?_) (Mk 33 4294967295) rfl rfl (by kernel_rfl) (fun _ _ _ h => h) (Or.inl ⟨by rfl, ?_⟩) ?_ ?_
 rotate_left
 ·intro w'
  first | (go_simp; with_reducible rfl) | (go_simp; (try unfold Instr.field); go_simp; (try simp only [asAgg]); go_simp; with_reducible rfl)
 rotate_left
 ·simp only [Act.put, List.setIfInBounds_toArray, List.set_cons_zero, List.set_cons_succ, i64_w, i32_w]
  rfl
 refine pure_ (i := 32) (N := some 104) (v := ?_) (a' := ?_) (Mk 33 8589934591) rfl rfl (by kernel_rfl) (fun _ _ _ h => h) (Or.inl ⟨by rfl, ?_⟩) ?_ ?_
 rotate_left
 ·intro w'
  first | (go_simp; with_reducible rfl) | (go_simp; (try unfold Instr.field); go_simp; (try simp only [asAgg]); go_simp; with_reducible rfl)
 rotate_left
 ·simp only [Act.put, List.setIfInBounds_toArray, List.set_cons_zero, List.set_cons_succ, i64_w, i32_w]
  rfl
 refine done_ (by kernel_rfl) ?_
 have HS3 := Aside0.mk (Dr.St.below HS2.out hd)
 have HX3 := Aside0.mk (blk_below HX2.out hd)
 clear hHeld HS_
 have HB2 := Aside0.mk hd
 have HN := Aside0.mk (pw_cell_below hd HN3.out)
 clear hd q0
 have q0 := blk_cell HX3.out 0
 by_cases hbb : b = false
 ·subst hbb
  go_wp2
  go_ret
  exact ⟨_, _, _, rfl, HS3.out, hl, HM.out⟩
 obtain rfl : b = true := by simpa using hbb
 clear hbb
 have hbs : w0.heap.size ≤ wf.heap.size := HS3.out.1.size
 go_wp2_with ((with_reducible refine gate_dst (N := 161) rfl ?_); refine Kd.R_lit (Kd.int .i64) _ 2 ?hg (N := 161) ?hd (xs := ([] : List Int)) (inner := []) (ok := fun _ => True) (okp := fun _ => True) ?hr ?hp (fun _ hk => hk) trivial (Below.refl _ _) (Nat.le_refl _) (by simp) ?_; (case hd => rfl); (case hg => rfl); (case hr => first | (go_simp; done) | (go_simp; rfl)); (case hp => exact (Reps.none _ _)); intro va wg hoA hd hg_ hnew_; have hA := Kd.R_lower hoA hbs; have hbdA := Dl.bound_new hnew_ (Nat.le_refl _); clear hg_ hnew_ hoA; have HSn := Aside0.mk (Dr.St.sn HS3.out hd hbdA); have HX4 := Aside0.mk (blk_below HX3.out hd); have HN4 := Aside0.mk (pw_cell_below hd HN.out); have HRn := Aside0.mk (Kd.R_elder' (Kd.R_below HR3.out HB2.out) hbdA hd); have HA := Aside0.mk hA; clear hd HS3 HX3 HB2 HN q0 hA hbdA)
 go_loopg [8, 9] y.f3.length (fun gg s8 s9 wr => ∃ (k2 : Nat) (lst : List Int), k2 ≤ y.f3.length ∧ y.f3.length - k2 ≤ gg ∧ s9 = .int .i64 k2 ∧ Aside0 (lst.length ≤ k2) ∧ Aside0 (Kd.R (Kd.int .i64) 2 wr w0.heap.size (fun _ => True) s8 lst) ∧ Aside0 (Dr.Sn w0 wr g v (.slice A1 l1.length c1) (.slice (some ⟨g2, 0, none⟩) l2.length c2) l1 l2 s8) ∧ Aside0 (wr.heap[w.heap.size]? = some (.cells #[.int .i64 x0, .int .i64 x1, .int .i64 x2, .int .i64 x3, .int .i64 x4, .int .i64 x5] 128 (0, 0))) ∧ Aside0 (wr.cell? ⟨g2, kk * 4 + 3, none⟩ = some (.slice A3 y.f3.length c3)) ∧ Aside0 (Kd.R (Kd.int .i64) 2 wr w0.heap.size (fun k => True ∧ some k ≠ s8.ownBlock) (.slice A3 y.f3.length c3) y.f3))
 case atStart => exact ⟨0, [], Nat.zero_le _, by omega, rfl, ⟨Nat.le_refl _⟩, HA, HSn, HX4, HN4, HRn⟩
 case round =>
  clear HSn HX4 HN4 HRn HA
  obtain ⟨k2, lst, hk2, hg, rfl, HL, HA, HSn, HX4, HN4, HRn⟩ := hrel
  have hyl := HYM.out
  have z2 := blk_cell HSn.out.2.2.1 2
  have n3 := HN4.out
  by_cases hlt2 : k2 < y.f3.length
  ·have hltz2 : (k2 : Int) < (y.f3.length : Int) := by omega
   obtain ⟨ad, eA, hx⟩ := Kd.at_int (Kd.R_reads' HRn.out).2.2 (k2 : Int) (by omega) hltz2
   cases eA
   simp only [Int.toNat_natCast] at hx
   generalize rd y.f3 (k2 : Int) = n at hx
   have HXn := Aside0.mk hx
   clear hx
   by_cases hn : n = x2
   ·have hnd : (n != x2) = false := bne_eq_false_iff_eq.mpr hn
    clear hn
    go_wp2
    have HS_ : ∀ W, Below wr.heap.size wr W → (W.cell? ⟨g, 2, none⟩ = some (.slice (some ⟨g2, 0, none⟩) l2.length c2) ∧ W.cell? ⟨g2, kk * 4 + 3, none⟩ = some (.slice (some ad) y.f3.length c3) ∧ W.cell? (ad.add k2) = some (.int .i64 n) ∧ W.cell? ⟨w.heap.size, 2, none⟩ = some (.int .i64 x2)) := fun W hW => ⟨pw_cell_below hW (blk_cell HSn.out.2.2.1 2), pw_cell_below hW HN4.out, pw_cell_below hW HXn.out, pw_cell_below hW (blk_cell HX4.out 2)⟩
    have hd : Below wr.heap.size wr wr.drew := below_drew1 (Below.refl _ _)
    refine start_ (n := 14) (S := fun w' => w'.cell? ⟨g, 2, none⟩ = some (.slice (some ⟨g2, 0, none⟩) l2.length c2) ∧ w'.cell? ⟨g2, kk * 4 + 3, none⟩ = some (.slice (some ad) y.f3.length c3) ∧ w'.cell? (ad.add k2) = some (.int .i64 n) ∧ w'.cell? ⟨w.heap.size, 2, none⟩ = some (.int .i64 x2)) (ds := []) (Mk 14 0) (by kernel_rfl) rfl rfl (HS_ _ hd) (fun hHeld => ?_)
    generalize wr.drew = we at hd hHeld ⊢
    refine pure_ (i := 0) (N := some 175) (v := ?_) (a' := ?_) (Mk 14 1) rfl rfl (by kernel_rfl) (fun _ _ _ h => h) (Or.inl ⟨by rfl, ?_⟩) ?_ ?_
    rotate_left
    ·intro w'
     first | (go_simp; with_reducible rfl) | (go_simp; (try unfold Instr.field); go_simp; (try simp only [asAgg]); go_simp; with_reducible rfl)
    rotate_left
    ·simp only [Act.put, List.setIfInBounds_toArray, List.set_cons_zero, List.set_cons_succ, i64_w, i32_w]
     rfl
    refine pure_ (i := 1) (N := some 176) (v := ?_) (a' := ?_) (Mk 14 3) rfl rfl (by kernel_rfl) (fun _ _ _ h => h) (Or.inl ⟨by rfl, ?_⟩) ?_ ?_
    rotate_left
    ·intro w'
     first | (go_simp; with_reducible rfl) | (go_simp; (try unfold Instr.field); go_simp; (try simp only [asAgg]); go_simp; with_reducible rfl)
    rotate_left
    ·simp only [Act.put, List.setIfInBounds_toArray, List.set_cons_zero, List.set_cons_succ, i64_w, i32_w]
     rfl
    refine pure_ (i := 2) (N := some 177) (v := ?_) (a' := ?_) (Mk 14 7) rfl rfl (by kernel_rfl) (fun _ _ _ h => h) (Or.inl ⟨by rfl, ?_⟩) ?_ ?_
    rotate_left
    ·intro w'
     first | (go_simp; with_reducible rfl) | (go_simp; (try unfold Instr.field); go_simp; (try simp only [asAgg]); go_simp; with_reducible rfl)
    rotate_left
    ·simp only [Act.put, List.setIfInBounds_toArray, List.set_cons_zero, List.set_cons_succ, i64_w, i32_w]
     rfl
    refine take_ (i := 3) (N := some 178) (v := ?_) (a' := ?_) (Mk 14 15) rfl rfl (by kernel_rfl) (fun _ _ _ h => h) (Or.inl ⟨by rfl, ?_⟩) hHeld ?_ ?_
    rotate_left
    ·rintro w' ⟨s0, s1, s2, s3⟩
     go_simp
     with_reducible rfl
    rotate_left
    ·simp only [Act.put, List.setIfInBounds_toArray, List.set_cons_zero, List.set_cons_succ, i64_w, i32_w]
     rfl
    refine pure_ (i := 4) (N := some 179) (v := ?_) (a' := ?_) (Mk 14 31) rfl rfl (by kernel_rfl) (fun _ _ _ h => h) (Or.inl ⟨by rfl, ?_⟩) ?_ ?_
    rotate_left
    ·intro w'
     first | (go_simp; with_reducible rfl) | (go_simp; (try unfold Instr.field); go_simp; (try simp only [asAgg]); go_simp; with_reducible rfl)
    rotate_left
    ·simp only [Act.put, List.setIfInBounds_toArray, List.set_cons_zero, List.set_cons_succ, i64_w, i32_w]
     rfl
    refine pure_ (i := 5) (N := some 180) (v := ?_) (a' := ?_) (Mk 14 63) rfl rfl (by kernel_rfl) (fun _ _ _ h => h) (Or.inl ⟨by rfl, ?_⟩) ?_ ?_
    rotate_left
    ·intro w'
     first | (go_simp; with_reducible rfl) | (go_simp; (try unfold Instr.field); go_simp; (try simp only [asAgg]); go_simp; with_reducible rfl)
    rotate_left
    ·simp only [Act.put, List.setIfInBounds_toArray, List.set_cons_zero, List.set_cons_succ, i64_w, i32_w]
     rfl
    refine pure_ (i := 6) (N := some 181) (v := ?_) (a' := ?_) (Mk 14 127) rfl rfl (by kernel_rfl) (fun _ _ _ h => h) (Or.inl ⟨by rfl, ?_⟩) ?_ ?_
    rotate_left
    ·intro w'
     first | (go_simp; with_reducible rfl) | (go_simp; (try unfold Instr.field); go_simp; (try simp only [asAgg]); go_simp; with_reducible rfl)
    rotate_left
    ·simp only [Act.put, List.setIfInBounds_toArray, List.set_cons_zero, List.set_cons_succ, i64_w, i32_w]
     rfl
    refine take_ (i := 7) (N := some 182) (v := ?_) (a' := ?_) (Mk 14 255) rfl rfl (by kernel_rfl) (fun _ _ _ h => h) (Or.inl ⟨by rfl, ?_⟩) hHeld ?_ ?_
    rotate_left
    ·rintro w' ⟨s0, s1, s2, s3⟩
     go_simp
     with_reducible rfl
    rotate_left
    ·simp only [Act.put, List.setIfInBounds_toArray, List.set_cons_zero, List.set_cons_succ, i64_w, i32_w]
     rfl
    refine pure_ (i := 8) (N := some 183) (v := ?_) (a' := ?_) (Mk 14 511) rfl rfl (by kernel_rfl) (fun _ _ _ h => h) (Or.inl ⟨by rfl, ?_⟩) ?_ ?_
    rotate_left
    ·intro w'
     first | (go_simp; with_reducible rfl) | (go_simp; (try unfold Instr.field); go_simp; (try simp only [asAgg]); go_simp; with_reducible rfl)
    rotate_left
    ·simp only [Act.put, List.setIfInBounds_toArray, List.set_cons_zero, List.set_cons_succ, i64_w, i32_w]
     rfl
    refine pure_ (i := 9) (N := some 184) (v := ?_) (a' := ?_) (Mk 14 1023) rfl rfl (by kernel_rfl) (fun _ _ _ h => h) (Or.inl ⟨by rfl, ?_⟩) ?_ ?_
    rotate_left
    ·intro w'
     first | (go_simp; with_reducible rfl) | (go_simp; (try unfold Instr.field); go_simp; (try simp only [asAgg]); go_simp; with_reducible rfl)
    rotate_left
    ·simp only [Act.put, List.setIfInBounds_toArray, List.set_cons_zero, List.set_cons_succ, i64_w, i32_w]
     rfl
    refine take_ (i := 10) (N := some 185) (v := ?_) (a' := ?_) (Mk 14 2047) rfl rfl (by kernel_rfl) (fun _ _ _ h => h) (Or.inl ⟨by rfl, ?_⟩) hHeld ?_ ?_
    rotate_left
    ·rintro w' ⟨s0, s1, s2, s3⟩
     go_simp
     with_reducible rfl
    rotate_left
    ·simp only [Act.put, List.setIfInBounds_toArray, List.set_cons_zero, List.set_cons_succ, i64_w, i32_w]
     rfl
    refine pure_ (i := 11) (N := some 186) (v := ?_) (a' := ?_) (Mk 14 4095) rfl rfl (by kernel_rfl) (fun _ _ _ h => h) (Or.inl ⟨by rfl, ?_⟩) ?_ ?_
    rotate_left
    ·intro w'
     first | (go_simp; with_reducible rfl) | (go_simp; (try unfold Instr.field); go_simp; (try simp only [asAgg]); go_simp; with_reducible rfl)
    rotate_left
    ·simp only [Act.put, List.setIfInBounds_toArray, List.set_cons_zero, List.set_cons_succ, i64_w, i32_w]
     rfl
    refine take_ (i := 12) (N := some 187) (v := ?_) (a' := ?_) (Mk 14 8191) rfl rfl (by kernel_rfl) (fun _ _ _ h => h) (Or.inl ⟨by rfl, ?_⟩) hHeld ?_ ?_
    rotate_left
    ·rintro w' ⟨s0, s1, s2, s3⟩
     go_simp
     with_reducible rfl
    rotate_left
    ·simp only [Act.put, List.setIfInBounds_toArray, List.set_cons_zero, List.set_cons_succ, i64_w, i32_w]
     rfl
    refine pure_ (i := 13) (N := some 188) (v := ?_) (a' := ?_) (Mk 14 16383) rfl rfl (by kernel_rfl) (fun _ _ _ h => h) (Or.inl ⟨by rfl, ?_⟩) ?_ ?_
    rotate_left
    ·intro w'
     first | (go_simp; with_reducible rfl) | (go_simp; (try unfold Instr.field); go_simp; (try simp only [asAgg]); go_simp; with_reducible rfl)
    rotate_left
    ·simp only [Act.put, List.setIfInBounds_toArray, List.set_cons_zero, List.set_cons_succ, i64_w, i32_w]
     rfl
    refine done_ (by kernel_rfl) ?_
    have HS5 := Aside0.mk (Dr.Sn.below HSn.out hd)
    have HX5 := Aside0.mk (blk_below HX4.out hd)
    have HN5 := Aside0.mk (pw_cell_below hd HN4.out)
    have HR5 := Aside0.mk (Kd.R_below HRn.out hd)
    have HA5 := Aside0.mk (Kd.R_below HA.out hd)
    have hd5 := Aside0.mk hd
    clear hHeld HS_ hd HSn HX4 HN4 HRn HA z2 n3
    go_wp2
    go_roundg (y.f3.length - k2 - 1)
    case measure => omega
    case rel => exact ⟨k2 + 1, lst, by omega, by omega, by go_num, ⟨Nat.le_succ_of_le HL.out⟩, HA5, HS5, HX5, HN5, HR5⟩
   ·have hnd : (n != x2) = true := bne_iff_ne.mpr hn
    clear hn
    go_wp2
    have HS_ : ∀ W, Below wr.heap.size wr W → (W.cell? ⟨g, 2, none⟩ = some (.slice (some ⟨g2, 0, none⟩) l2.length c2) ∧ W.cell? ⟨g2, kk * 4 + 3, none⟩ = some (.slice (some ad) y.f3.length c3) ∧ W.cell? (ad.add k2) = some (.int .i64 n) ∧ W.cell? ⟨w.heap.size, 2, none⟩ = some (.int .i64 x2)) := fun W hW => ⟨pw_cell_below hW (blk_cell HSn.out.2.2.1 2), pw_cell_below hW HN4.out, pw_cell_below hW HXn.out, pw_cell_below hW (blk_cell HX4.out 2)⟩
    have hd : Below wr.heap.size wr wr.drew := below_drew1 (Below.refl _ _)
    refine start_ (n := 14) (S := fun w' => w'.cell? ⟨g, 2, none⟩ = some (.slice (some ⟨g2, 0, none⟩) l2.length c2) ∧ w'.cell? ⟨g2, kk * 4 + 3, none⟩ = some (.slice (some ad) y.f3.length c3) ∧ w'.cell? (ad.add k2) = some (.int .i64 n) ∧ w'.cell? ⟨w.heap.size, 2, none⟩ = some (.int .i64 x2)) (ds := []) (Mk 14 0) (by kernel_rfl) rfl rfl (HS_ _ hd) (fun hHeld => ?_)
    generalize wr.drew = we at hd hHeld ⊢
    refine pure_ (i := 0) (N := some 175) (v := ?_) (a' := ?_) (Mk 14 1) rfl rfl (by kernel_rfl) (fun _ _ _ h => h) (Or.inl ⟨by rfl, ?_⟩) ?_ ?_
    rotate_left
    ·intro w'
     first | (go_simp; with_reducible rfl) | (go_simp; (try unfold Instr.field); go_simp; (try simp only [asAgg]); go_simp; with_reducible rfl)
    rotate_left
    ·simp only [Act.put, List.setIfInBounds_toArray, List.set_cons_zero, List.set_cons_succ, i64_w, i32_w]
     rfl
    refine pure_ (i := 1) (N := some 176) (v := ?_) (a' := ?_) (Mk 14 3) rfl rfl (by kernel_rfl) (fun _ _ _ h => h) (Or.inl ⟨by rfl, ?_⟩) ?_ ?_
    rotate_left
    ·intro w'
     first | (go_simp; with_reducible rfl) | (go_simp; (try unfold Instr.field); go_simp; (try simp only [asAgg]); go_simp; with_reducible rfl)
    rotate_left
    ·simp only [Act.put, List.setIfInBounds_toArray, List.set_cons_zero, List.set_cons_succ, i64_w, i32_w]
     rfl
    refine pure_ (i := 2) (N := some 177) (v := ?_) (a' := ?_) (Mk 14 7) rfl rfl (by kernel_rfl) (fun _ _ _ h => h) (Or.inl ⟨by rfl, ?_⟩) ?_ ?_
    rotate_left
    ·intro w'
     first | (go_simp; with_reducible rfl) | (go_simp; (try unfold Instr.field); go_simp; (try simp only [asAgg]); go_simp; with_reducible rfl)
    rotate_left
    ·simp only [Act.put, List.setIfInBounds_toArray, List.set_cons_zero, List.set_cons_succ, i64_w, i32_w]
     rfl
    refine take_ (i := 3) (N := some 178) (v := ?_) (a' := ?_) (Mk 14 15) rfl rfl (by kernel_rfl) (fun _ _ _ h => h) (Or.inl ⟨by rfl, ?_⟩) hHeld ?_ ?_
    rotate_left
    ·rintro w' ⟨s0, s1, s2, s3⟩
     go_simp
     with_reducible rfl
    rotate_left
    ·simp only [Act.put, List.setIfInBounds_toArray, List.set_cons_zero, List.set_cons_succ, i64_w, i32_w]
     rfl
    refine pure_ (i := 4) (N := some 179) (v := ?_) (a' := ?_) (Mk 14 31) rfl rfl (by kernel_rfl) (fun _ _ _ h => h) (Or.inl ⟨by rfl, ?_⟩) ?_ ?_
    rotate_left
    ·intro w'
     first | (go_simp; with_reducible rfl) | (go_simp; (try unfold Instr.field); go_simp; (try simp only [asAgg]); go_simp; with_reducible rfl)
    rotate_left
    ·simp only [Act.put, List.setIfInBounds_toArray, List.set_cons_zero, List.set_cons_succ, i64_w, i32_w]
     rfl
    refine pure_ (i := 5) (N := some 180) (v := ?_) (a' := ?_) (Mk 14 63) rfl rfl (by kernel_rfl) (fun _ _ _ h => h) (Or.inl ⟨by rfl, ?_⟩) ?_ ?_
    rotate_left
    ·intro w'
     first | (go_simp; with_reducible rfl) | (go_simp; (try unfold Instr.field); go_simp; (try simp only [asAgg]); go_simp; with_reducible rfl)
    rotate_left
    ·simp only [Act.put, List.setIfInBounds_toArray, List.set_cons_zero, List.set_cons_succ, i64_w, i32_w]
     rfl
    refine pure_ (i := 6) (N := some 181) (v := ?_) (a' := ?_) (Mk 14 127) rfl rfl (by kernel_rfl) (fun _ _ _ h => h) (Or.inl ⟨by rfl, ?_⟩) ?_ ?_
    rotate_left
    ·intro w'
     first | (go_simp; with_reducible rfl) | (go_simp; (try unfold Instr.field); go_simp; (try simp only [asAgg]); go_simp; with_reducible rfl)
    rotate_left
    ·simp only [Act.put, List.setIfInBounds_toArray, List.set_cons_zero, List.set_cons_succ, i64_w, i32_w]
     rfl
    refine take_ (i := 7) (N := some 182) (v := ?_) (a' := ?_) (Mk 14 255) rfl rfl (by kernel_rfl) (fun _ _ _ h => h) (Or.inl ⟨by rfl, ?_⟩) hHeld ?_ ?_
    rotate_left
    ·rintro w' ⟨s0, s1, s2, s3⟩
     go_simp
     with_reducible rfl
    rotate_left
    ·simp only [Act.put, List.setIfInBounds_toArray, List.set_cons_zero, List.set_cons_succ, i64_w, i32_w]
     rfl
    refine pure_ (i := 8) (N := some 183) (v := ?_) (a' := ?_) (Mk 14 511) rfl rfl (by kernel_rfl) (fun _ _ _ h => h) (Or.inl ⟨by rfl, ?_⟩) ?_ ?_
    rotate_left
    ·intro w'
     first | (go_simp; with_reducible rfl) | (go_simp; (try unfold Instr.field); go_simp; (try simp only [asAgg]); go_simp; with_reducible rfl)
    rotate_left
    ·simp only [Act.put, List.setIfInBounds_toArray, List.set_cons_zero, List.set_cons_succ, i64_w, i32_w]
     rfl
    refine pure_ (i := 9) (N := some 184) (v := ?_) (a' := ?_) (Mk 14 1023) rfl rfl (by kernel_rfl) (fun _ _ _ h => h) (Or.inl ⟨by rfl, ?_⟩) ?_ ?_
    rotate_left
    ·intro w'
     first | (go_simp; with_reducible rfl) | (go_simp; (try unfold Instr.field); go_simp; (try simp only [asAgg]); go_simp; with_reducible rfl)
    rotate_left
    ·simp only [Act.put, List.setIfInBounds_toArray, List.set_cons_zero, List.set_cons_succ, i64_w, i32_w]
     rfl
    refine take_ (i := 10) (N := some 185) (v := ?_) (a' := ?_) (Mk 14 2047) rfl rfl (by kernel_rfl) (fun _ _ _ h => h) (Or.inl ⟨by rfl, ?_⟩) hHeld ?_ ?_
    rotate_left
    ·rintro w' ⟨s0, s1, s2, s3⟩
     go_simp
     with_reducible rfl
    rotate_left
    ·simp only [Act.put, List.setIfInBounds_toArray, List.set_cons_zero, List.set_cons_succ, i64_w, i32_w]
     rfl
    refine pure_ (i := 11) (N := some 186) (v := ?_) (a' := ?_) (Mk 14 4095) rfl rfl (by kernel_rfl) (fun _ _ _ h => h) (Or.inl ⟨by rfl, ?_⟩) ?_ ?_
    rotate_left
    ·intro w'
     first | (go_simp; with_reducible rfl) | (go_simp; (try unfold Instr.field); go_simp; (try simp only [asAgg]); go_simp; with_reducible rfl)
    rotate_left
    ·simp only [Act.put, List.setIfInBounds_toArray, List.set_cons_zero, List.set_cons_succ, i64_w, i32_w]
     rfl
    refine take_ (i := 12) (N := some 187) (v := ?_) (a' := ?_) (Mk 14 8191) rfl rfl (by kernel_rfl) (fun _ _ _ h => h) (Or.inl ⟨by rfl, ?_⟩) hHeld ?_ ?_
    rotate_left
    ·rintro w' ⟨s0, s1, s2, s3⟩
     go_simp
     with_reducible rfl
    rotate_left
    ·simp only [Act.put, List.setIfInBounds_toArray, List.set_cons_zero, List.set_cons_succ, i64_w, i32_w]
     rfl
    refine pure_ (i := 13) (N := some 188) (v := ?_) (a' := ?_) (Mk 14 16383) rfl rfl (by kernel_rfl) (fun _ _ _ h => h) (Or.inl ⟨by rfl, ?_⟩) ?_ ?_
    rotate_left
    ·intro w'
     first | (go_simp; with_reducible rfl) | (go_simp; (try unfold Instr.field); go_simp; (try simp only [asAgg]); go_simp; with_reducible rfl)
    rotate_left
    ·simp only [Act.put, List.setIfInBounds_toArray, List.set_cons_zero, List.set_cons_succ, i64_w, i32_w]
     rfl
    refine done_ (by kernel_rfl) ?_
    have HS5 := Aside0.mk (Dr.Sn.below HSn.out hd)
    have HX5 := Aside0.mk (blk_below HX4.out hd)
    have HN5 := Aside0.mk (pw_cell_below hd HN4.out)
    have HR5 := Aside0.mk (Kd.R_below HRn.out hd)
    have HA5 := Aside0.mk (Kd.R_below HA.out hd)
    have hd5 := Aside0.mk hd
    clear hHeld HS_ hd HSn HX4 HN4 HRn HA z2 n3
    have z2 := blk_cell HS5.out.2.2.1 2
    have n3 := HN5.out
    have nx := pw_cell_below hd5.out HXn.out
    obtain ⟨Ao, co, eo⟩ := Kd.R_slice HA5.out
    subst eo
    go_wp2_with (first | ((with_reducible refine gate_builtin (b := .append) (xs := #[.tmp 189, .tmp 201]) rfl ?_); at_builtin; refine Kd.R_append (Kd.int .i64) w0.heap.size rfl (.tmp 189) (.tmp 201) 62 2 (.int .i64 0) 8 rfl Try.underlying62 info2 rfl (by decide) (by omega) (.slice Ao lst.length co) lst n [.int .i64 n] (fun _ => True) (fun _ => False) rfl (by first | (go_simp; done) | (go_simp; rfl)) ?aP (fun _ hk => hk.elim) ?aF ?aO (Below.refl _ _) ?aS ?aL ?_; (case aP => exact rfl); (case aF => exact (fun _ _ => trivial)); (case aO => exact (by (with_reducible repeat (first | apply Kd.R_alloc | apply Kd.R_drewN | apply Kd.R_drew)); exact HA5.out)); (case aS => first | exact HS5.out.1.size | exact (HS5.out.1.alloc HS5.out.1.size _).size); (case aL => have := HL.out; omega); intro vA wA hoA hbA hgA hatA))
    go_roundg (y.f3.length - k2 - 1)
    case measure => omega
    case rel =>
     have hL := HL.out
     first
      | exact ⟨k2 + 1, lst ++ [n], by omega, by omega, by go_num, ⟨by simp; omega⟩, ⟨hoA⟩, ⟨Dr.Sn.grow HS5.out HA5.out hgA hatA⟩, ⟨Dr.blk_grow HX5.out HA5.out (by decide) hgA⟩, ⟨Dr.cell_grow HN5.out HS5.out.2.2.2.2 HA5.out hgA⟩, ⟨Kd.R_after HR5.out hgA hatA⟩⟩
      | exact ⟨k2 + 1, lst ++ [n], by omega, by omega, by go_num, ⟨by simp; omega⟩, ⟨hoA⟩, ⟨Dr.Sn.grow (Dr.Sn.below HS5.out (below_alloc (Below.refl _ _) _)) (Kd.R_alloc HA5.out _) hgA hatA⟩, ⟨Dr.blk_grow (blk_alloc HX5.out _) (Kd.R_alloc HA5.out _) (by decide) hgA⟩, ⟨Dr.cell_grow (pw_cell_below (below_alloc (Below.refl _ _) _) HN5.out) (Kd.R_alloc HS5.out.2.2.2.2 _) (Kd.R_alloc HA5.out _) hgA⟩, ⟨Kd.R_after (Kd.R_alloc HR5.out _) hgA hatA⟩⟩
  ·have hltz2 : ¬ (k2 : Int) < (y.f3.length : Int) := by omega
   obtain ⟨cE, hcl, hM_, hcc, hfr⟩ := Kd.R_elem HSn.out.2.2.2.2 z64 (kk : Int) (by omega) hr
   rw [Int.toNat_natCast] at hM_ hcc hfr
   rw [← HY.out] at hM_
   obtain ⟨v3, rfl, hR3⟩ := k64_openM hM_
   have hx_3 : wr.cell? ⟨g2, kk * 4 + 3, none⟩ = some v3 := hcc 3 _ rfl
   have hf_3 : wr.frozen? ⟨g2, kk * 4 + 3, none⟩ = false := hfr 3
   clear hcl hM_ hcc hfr hR3
   clear hx_3
   obtain ⟨An, cn, en⟩ := Kd.R_slice HA.out
   subst en
   have HST := Aside0.mk HSn.out.st
   go_wp2
   go_ret
   obtain ⟨hRR, hG⟩ := Dr.put64 HST.out.2.2.2.2 kk hlt _ lst HA.out y HY.out
   exact ⟨_, _, _, rfl, Dr.St.row2 HST.out (by rw [List.length_set]) hRR hG, by rw [List.length_set]; exact hl, Dr.set_all HM.out (by have := HL.out; show lst.length ≤ M + 1; omega)⟩
end Go.Proofs.Ytfmlhpoaipeoeaa.QFnDeltas
