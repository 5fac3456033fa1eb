-- MADE BY PROGRAM (wip/dr/assemble2.py) out of walks by hand. Lean checks it.
import Derived.Test.YtfmlhpoaipeoeaaQFnDeltasyb
import Derived.Test.YtfmlhpoaipeoeaaIx
import Derived.StillTailTactics
namespace Go.Proofs.Ytfmlhpoaipeoeaa.QFnDeltas
open Go.RowKit Go.Proofs.YtfmlhpoaipeoeaaW.PrintWords Go.Proofs.YtfmlhpoaipeoeaaW.PrintLast Go.Proofs.YtfmlhpoaipeoeaaW.PrintMore
attribute [local go_sem] max2_int min2_int max_two min_two max_three min_three max_four min_four   -- for this text's walks alone
set_option linter.unusedVariables false
set_option linter.unusedSimpArgs false
namespace Dr
/-- A configuration of the call's own in a box. -/
def St (w0 w : World) (g : Nat) (v : Int) (s1 s2 : Value) (l1 : List S36) (l2 : List S64) : Prop :=
 Below w0.heap.size w0 w ∧ w0.heap.size ≤ g ∧ w.heap[g]? = some (.cells #[.int .i64 v, s1, s2] 31 (0, 0)) ∧ Kd.R k36 36 w w0.heap.size (fun _ => True) s1 l1 ∧ Kd.R k64 64 w w0.heap.size (fun _ => True) s2 l2
theorem St.below {w0 w w' : World} {g : Nat} {v : Int} {s1 s2 : Value} {l1 : List S36} {l2 : List S64} (h : St w0 w g v s1 s2 l1 l2) (hb : Below w.heap.size w w') : St w0 w' g v s1 s2 l1 l2 :=
 ⟨up h.1 hb, h.2.1, blk_below h.2.2.1 hb, Kd.R_below h.2.2.2.1 hb, Kd.R_below h.2.2.2.2 hb⟩
theorem place_lt (l : List S36) (n : Int) (h : ¬ Cf.place l n < 0) : ∃ k : Nat, Cf.place l n = (k : Int) ∧ k < l.length := by
 unfold Cf.place at *
 have h2 := Go.Proofs.Ytfmlhpoaipeoeaa.Ix.ixFrom_bound (Cf.named n) l 0 (by omega)
 refine ⟨(Go.Proofs.Ytfmlhpoaipeoeaa.Ix.ixFrom (Cf.named n) l 0).toNat, by omega, by omega⟩
/-- One cell of an element written. -/
theorem put36 {base : Nat} {W : World} {g1 cap : Nat} {l1 : List S36} (h : Kd.R k36 36 W base (fun _ => True) (.slice (some ⟨g1, 0, none⟩) l1.length cap) l1) (kk : Nat) (hk : kk < l1.length) (j : Nat) (u : Value) (hu : u.oneCell' = true) (x' : S36) (hj : j + 1 ≤ 5) (y : S36) (hy : y = l1.getD kk z36)
  (hx : ([.int .i64 y.f0, .int .i64 y.f1, .int .i64 y.f2, .int .i64 y.f3, .bool y.f4] : List Value).take j ++ [u] ++ ([.int .i64 y.f0, .int .i64 y.f1, .int .i64 y.f2, .int .i64 y.f3, .bool y.f4] : List Value).drop (j + 1) = [.int .i64 x'.f0, .int .i64 x'.f1, .int .i64 x'.f2, .int .i64 x'.f3, .bool x'.f4]) :
  Kd.R k36 36 (W.setCell ⟨g1, kk * 5 + j, none⟩ u) base (fun _ => True) (.slice (some ⟨g1, 0, none⟩) (l1.set kk x').length cap) (l1.set kk x') ∧ W.grownBy (W.setCell ⟨g1, kk * 5 + j, none⟩ u) (some g1) := by
 subst hy
 obtain ⟨c, hcl, hM, hcc, hfr⟩ := Kd.R_elem h z36 (kk : Int) (by omega) (by omega)
 rw [Int.toNat_natCast] at hM
 have ec := k36_openM hM
 have hs := Kd.R_seg (okp := fun _ => False) h (kk : Int) (by omega) (by omega) (seg := [u]) (j := j) hcl hcc (show j + 1 ≤ 5 from hj) (x' := x') (by rw [ec]; show k36.M _ _ _ _ (_ ++ _ ++ List.drop (j + 1) _); rw [hx]; exact k36_mkM _ _ _ _) (fun _ h => h.elim)
 rw [Int.toNat_natCast, show (W.setCells g1 (kk * k36.sz + j) [u]) = W.setCell ⟨g1, kk * 5 + j, none⟩ u from rfl] at hs
 rw [List.length_set]
 exact hs
/-- A store into the backends' row. -/
theorem St.row {w0 w w' : World} {g : Nat} {v : Int} {s1 s2 : Value} {l1 : List S36} {l2 : List S64} (h : St w0 w g v s1 s2 l1 l2) {l1' : List S36} {s1' : Value} (hs : s1' = s1) (hR : Kd.R k36 36 w' w0.heap.size (fun _ => True) s1' l1') (hg : w.grownBy w' s1.ownBlock) : St w0 w' g v s1' s2 l1' l2 := by
 subst hs
 obtain ⟨h1, h2, h3, h4, h5⟩ := h
 refine ⟨h1.grown hg h1.size (Kd.R_base h4), h2, ?_, hR, Kd.R_over' h5 (Kd.R_typed h4) (by decide) hg⟩
 have hlt : g < w.heap.size := blk_lt h3
 rw [hg.block g hlt (Kd.R_ne h4 h3 (by decide))]
 exact h3
/-- The backends' row, another. -/
theorem St.new1 {w0 w : World} {g : Nat} {v : Int} {s1 s2 : Value} {l1 : List S36} {l2 : List S64} (h : St w0 w g v s1 s2 l1 l2) {l1' : List S36} {s1' : Value} (hR : Kd.R k36 36 w w0.heap.size (fun _ => True) s1' l1') : St w0 (w.setCell ⟨g, 1, none⟩ s1') g v s1' s2 l1' l2 := by
 obtain ⟨h1, h2, h3, h4, h5⟩ := h
 exact ⟨below_set h1 h2, h2, blk_put (cs := #[.int .i64 v, s1, s2]) h3 1 _ rfl, Kd.R_set hR h3 (by decide) 1 _, Kd.R_set h5 h3 (by decide) 1 _⟩
def TPost (w0 : World) (g : Nat) (v : Int) (s2 : Value) (l2 : List S64) (e : Ending) (w' : World) : Prop := ∃ (r : Int) (s1' : Value) (l1' : List S36), e = .returned (.int .i64 r) ∧ St w0 w' g v s1' s2 l1' l2 ∧ l1'.length ≤ 8
end Dr
set_option maxHeartbeats 16000000 in
set_option maxRecDepth 100000 in
/-- A command on a backend done to a configuration of the call's own. -/
theorem spec_l5Turn.cf (g : Nat) (v : Int) (s1 s2 : Value) (l1 : List S36) (l2 : List S64) (x0 x1 x2 x3 x4 x5 : Int) (w0 w : World) (hS : Dr.St w0 w g v s1 s2 l1 l2) (hl : l1.length ≤ 8) :
  Calls Try.prog 152 #[.pointer (some ⟨g, 0, none⟩), .agg #[.int .i64 x0, .int .i64 x1, .int .i64 x2, .int .i64 x3, .int .i64 x4, .int .i64 x5]] w fun e w' => Dr.TPost w0 g v s2 l2 e w' := by
 have hu31 := Try.underlying31
 have hu36 := Try.underlying36
 have hu128 := Try.underlying128
 obtain ⟨A1, c1, e1_⟩ := Kd.R_slice hS.2.2.2.1
 obtain ⟨A2, c2, e2_⟩ := Kd.R_slice hS.2.2.2.2
 subst e1_
 subst e2_
 obtain ⟨w1, hw1⟩ : ∃ W, W = w.alloc (.cells #[.int .i64 x0, .int .i64 x1, .int .i64 x2, .int .i64 x3, .int .i64 x4, .int .i64 x5] 128) := ⟨_, rfl⟩
 have hB1 : Below w.heap.size w w1 := by rw [hw1]; exact (Below.refl _ w).alloc (Nat.le_refl _) _
 have bx1 : w1.heap[w.heap.size]? = some (.cells #[.int .i64 x0, .int .i64 x1, .int .i64 x2, .int .i64 x3, .int .i64 x4, .int .i64 x5] 128 (0, 0)) := by rw [hw1]; exact blk_new w _
 have HX := Aside0.mk bx1
 have HS := Aside0.mk (Dr.St.below hS hB1)
 clear hB1 bx1 hS
 have q0 := blk_cell HX.out 0
 have q2 := blk_cell HX.out 2
 rw [hw1] at q0 q2
 have hcall := spec_l5At.cf g A1 c1 l1 A2 l2.length c2 v x2 w1 HS.out.2.2.1 (Kd.R_reads' HS.out.2.2.2.1).2.2
 rw [hw1] at hcall
 obtain ⟨p, hp⟩ : ∃ p, p = Cf.place l1 x2 := ⟨_, rfl⟩
 rw [← hp] at hcall
 have hpl := Dr.place_lt l1 x2
 rw [← hp] at hpl
 clear hp
 go_enter Try.func152, Try.ntmps152
 by_cases hp0 : p < 0
 ·skip
  clear hpl
  have hpd : decide (p < 0) = true := decide_eq_true hp0
  have hpg : decide (p ≥ 0) = false := decide_eq_false (by omega)
  by_cases hx : x0 = 1
  ·have hx1 : (x0 == 1) = true := beq_iff_eq.mpr hx
   clear hx
   by_cases hm : 8 ≤ l1.length
   ·have hmd : decide ((l1.length : Int) ≥ 8) = true := decide_eq_true (by omega)
    go_wp2_with (go_at_call 64; refine hcall.mono ?_; rintro e w2 ⟨rfl, hb2⟩; rw [← hw1] at hb2; have HS2 := Aside0.mk (Dr.St.below HS.out hb2); have HX2 := Aside0.mk (blk_below HX.out hb2); clear hcall hb2 HS HX; have z1 := blk_cell HS2.out.2.2.1 1; have q0 := blk_cell HX2.out 0; have q2 := blk_cell HX2.out 2; have q3 := blk_cell HX2.out 3; have q4 := blk_cell HX2.out 4)
    go_ret
    exact ⟨_, _, _, rfl, HS2.out, hl⟩
   ·have hmd : decide ((l1.length : Int) ≥ 8) = false := decide_eq_false (by omega)
    go_wp2_with (go_at_call 64; refine hcall.mono ?_; rintro e w2 ⟨rfl, hb2⟩; rw [← hw1] at hb2; have HS2 := Aside0.mk (Dr.St.below HS.out hb2); have HX2 := Aside0.mk (blk_below HX.out hb2); clear hcall hb2 HS HX; have z1 := blk_cell HS2.out.2.2.1 1; have q0 := blk_cell HX2.out 0; have q2 := blk_cell HX2.out 2; have q3 := blk_cell HX2.out 3; have q4 := blk_cell HX2.out 4)
    clear z1 q0 q2 q3 q4
    go_loopg [6] l1.length (fun gg s6 wr => ∃ kk : Nat, kk ≤ l1.length ∧ l1.length - kk ≤ gg ∧ s6 = .int .i64 kk ∧ Aside0 (Dr.St w0 wr g v (.slice A1 l1.length c1) (.slice A2 l2.length c2) l1 l2) ∧ Aside0 (wr.heap[w.heap.size]? = some (.cells #[.int .i64 x0, .int .i64 x1, .int .i64 x2, .int .i64 x3, .int .i64 x4, .int .i64 x5] 128 (0, 0))))
    case atStart => exact ⟨0, Nat.zero_le _, by omega, rfl, HS2, HX2⟩
    case round =>
     clear HS2 HX2
     obtain ⟨kk, hkk, hg, rfl, HS3, HX3⟩ := hrel
     have HZ1 := Aside0.mk (blk_cell HS3.out.2.2.1 1)
     have HQ2 := Aside0.mk (blk_cell HX3.out 2)
     by_cases hlt : kk < l1.length
     ·have hltz : (kk : Int) < (l1.length : Int) := by omega
      have hltd : decide ((kk : Int) < (l1.length : Int)) = true := decide_eq_true hltz
      obtain ⟨ad, eA, hx_0, _, _, _, _⟩ := at_T36 (Kd.R_reads' HS3.out.2.2.2.1).2.2 (kk : Int) (by omega) hltz
      cases eA
      generalize rd_T36 l1 (kk : Int) = y at hx_0
      simp only [Int.toNat_natCast] at hx_0
      have HX0 := Aside0.mk hx_0
      clear hx_0
      by_cases hless : y.f0 < x2
      ·have hb1 : decide (y.f0 < x2) = true := decide_eq_true hless
       clear hless
       go_wp2
       have HS_ : ∀ W, Below wr.heap.size wr W → (W.cell? ⟨g, 1, none⟩ = some (.slice (some ad) l1.length c1) ∧ W.cell? (ad.add (kk * 5)) = some (.int .i64 y.f0) ∧ W.cell? ⟨w.heap.size, 2, none⟩ = some (.int .i64 x2)) := fun W hW => ⟨pw_cell_below hW HZ1.out, pw_cell_below hW HX0.out, pw_cell_below hW HQ2.out⟩
       have hd : Below wr.heap.size wr wr.drew := below_drew1 (Below.refl _ _)
       refine start_ (n := 20) (S := fun w' => w'.cell? ⟨g, 1, none⟩ = some (.slice (some ad) l1.length c1) ∧ w'.cell? (ad.add (kk * 5)) = some (.int .i64 y.f0) ∧ w'.cell? ⟨w.heap.size, 2, none⟩ = some (.int .i64 x2)) (ds := []) (Mk 20 0) (by kernel_rfl) rfl rfl (HS_ _ hd) (fun hHeld => ?_)
       generalize wr.drew = wd at hd hHeld ⊢
       refine pure_ (i := 0) (N := some 23) (v := ?_) (a' := ?_) (Mk 20 1) rfl rfl (by kernel_rfl) (fun _ _ _ h => h) (Or.inl ⟨by rfl, ?_⟩) ?_ ?_
       rotate_left
       ·intro w'
        first | (go_simp; with_reducible rfl) | (go_simp; (try unfold Instr.field); go_simp; (try simp only [asAgg]); go_simp; with_reducible rfl)
       rotate_left
       ·simp only [Act.put, List.setIfInBounds_toArray, List.set_cons_zero, List.set_cons_succ, i64_w, i32_w]
        rfl
       refine pure_ (i := 1) (N := some 24) (v := ?_) (a' := ?_) (Mk 20 3) rfl rfl (by kernel_rfl) (fun _ _ _ h => h) (Or.inl ⟨by rfl, ?_⟩) ?_ ?_
       rotate_left
       ·intro w'
        first | (go_simp; with_reducible rfl) | (go_simp; (try unfold Instr.field); go_simp; (try simp only [asAgg]); go_simp; with_reducible rfl)
       rotate_left
       ·simp only [Act.put, List.setIfInBounds_toArray, List.set_cons_zero, List.set_cons_succ, i64_w, i32_w]
        rfl
       refine pure_ (i := 2) (N := some 25) (v := ?_) (a' := ?_) (Mk 20 7) rfl rfl (by kernel_rfl) (fun _ _ _ h => h) (Or.inl ⟨by rfl, ?_⟩) ?_ ?_
       rotate_left
       ·intro w'
        first | (go_simp; with_reducible rfl) | (go_simp; (try unfold Instr.field); go_simp; (try simp only [asAgg]); go_simp; with_reducible rfl)
       rotate_left
       ·simp only [Act.put, List.setIfInBounds_toArray, List.set_cons_zero, List.set_cons_succ, i64_w, i32_w]
        rfl
       refine pure_ (i := 3) (N := some 26) (v := ?_) (a' := ?_) (Mk 20 15) rfl rfl (by kernel_rfl) (fun _ _ _ h => h) (Or.inl ⟨by rfl, ?_⟩) ?_ ?_
       rotate_left
       ·intro w'
        first | (go_simp; with_reducible rfl) | (go_simp; (try unfold Instr.field); go_simp; (try simp only [asAgg]); go_simp; with_reducible rfl)
       rotate_left
       ·simp only [Act.put, List.setIfInBounds_toArray, List.set_cons_zero, List.set_cons_succ, i64_w, i32_w]
        rfl
       refine take_ (i := 4) (N := some 27) (v := ?_) (a' := ?_) (Mk 20 31) rfl rfl (by kernel_rfl) (fun _ _ _ h => h) (Or.inl ⟨by rfl, ?_⟩) hHeld ?_ ?_
       rotate_left
       ·rintro w' ⟨s0, s1, s2⟩
        go_simp
        with_reducible rfl
       rotate_left
       ·simp only [Act.put, List.setIfInBounds_toArray, List.set_cons_zero, List.set_cons_succ, i64_w, i32_w]
        rfl
       refine pure_ (i := 5) (N := some 28) (v := ?_) (a' := ?_) (Mk 20 63) rfl rfl (by kernel_rfl) (fun _ _ _ h => h) (Or.inl ⟨by rfl, ?_⟩) ?_ ?_
       rotate_left
       ·intro w'
        first | (go_simp; with_reducible rfl) | (go_simp; (try unfold Instr.field); go_simp; (try simp only [asAgg]); go_simp; with_reducible rfl)
       rotate_left
       ·simp only [Act.put, List.setIfInBounds_toArray, List.set_cons_zero, List.set_cons_succ, i64_w, i32_w]
        rfl
       refine pure_ (i := 6) (N := some 29) (v := ?_) (a' := ?_) (Mk 20 127) rfl rfl (by kernel_rfl) (fun _ _ _ h => h) (Or.inl ⟨by rfl, ?_⟩) ?_ ?_
       rotate_left
       ·intro w'
        first | (go_simp; with_reducible rfl) | (go_simp; (try unfold Instr.field); go_simp; (try simp only [asAgg]); go_simp; with_reducible rfl)
       rotate_left
       ·simp only [Act.put, List.setIfInBounds_toArray, List.set_cons_zero, List.set_cons_succ, i64_w, i32_w]
        rfl
       refine pure_ (i := 7) (N := some 30) (v := ?_) (a' := ?_) (Mk 20 255) rfl rfl (by kernel_rfl) (fun _ _ _ h => h) (Or.inl ⟨by rfl, ?_⟩) ?_ ?_
       rotate_left
       ·intro w'
        first | (go_simp; with_reducible rfl) | (go_simp; (try unfold Instr.field); go_simp; (try simp only [asAgg]); go_simp; with_reducible rfl)
       rotate_left
       ·simp only [Act.put, List.setIfInBounds_toArray, List.set_cons_zero, List.set_cons_succ, i64_w, i32_w]
        rfl
       refine pure_ (i := 8) (N := some 31) (v := ?_) (a' := ?_) (Mk 20 511) rfl rfl (by kernel_rfl) (fun _ _ _ h => h) (Or.inl ⟨by rfl, ?_⟩) ?_ ?_
       rotate_left
       ·intro w'
        first | (go_simp; with_reducible rfl) | (go_simp; (try unfold Instr.field); go_simp; (try simp only [asAgg]); go_simp; with_reducible rfl)
       rotate_left
       ·simp only [Act.put, List.setIfInBounds_toArray, List.set_cons_zero, List.set_cons_succ, i64_w, i32_w]
        rfl
       refine pure_ (i := 9) (N := some 32) (v := ?_) (a' := ?_) (Mk 20 1023) rfl rfl (by kernel_rfl) (fun _ _ _ h => h) (Or.inl ⟨by rfl, ?_⟩) ?_ ?_
       rotate_left
       ·intro w'
        first | (go_simp; with_reducible rfl) | (go_simp; (try unfold Instr.field); go_simp; (try simp only [asAgg]); go_simp; with_reducible rfl)
       rotate_left
       ·simp only [Act.put, List.setIfInBounds_toArray, List.set_cons_zero, List.set_cons_succ, i64_w, i32_w]
        rfl
       refine pure_ (i := 10) (N := some 33) (v := ?_) (a' := ?_) (Mk 20 2047) rfl rfl (by kernel_rfl) (fun _ _ _ h => h) (Or.inl ⟨by rfl, ?_⟩) ?_ ?_
       rotate_left
       ·intro w'
        first | (go_simp; with_reducible rfl) | (go_simp; (try unfold Instr.field); go_simp; (try simp only [asAgg]); go_simp; with_reducible rfl)
       rotate_left
       ·simp only [Act.put, List.setIfInBounds_toArray, List.set_cons_zero, List.set_cons_succ, i64_w, i32_w]
        rfl
       refine take_ (i := 11) (N := some 34) (v := ?_) (a' := ?_) (Mk 20 4095) rfl rfl (by kernel_rfl) (fun _ _ _ h => h) (Or.inl ⟨by rfl, ?_⟩) hHeld ?_ ?_
       rotate_left
       ·rintro w' ⟨s0, s1, s2⟩
        go_simp
        with_reducible rfl
       rotate_left
       ·simp only [Act.put, List.setIfInBounds_toArray, List.set_cons_zero, List.set_cons_succ, i64_w, i32_w]
        rfl
       refine pure_ (i := 12) (N := some 35) (v := ?_) (a' := ?_) (Mk 20 8191) rfl rfl (by kernel_rfl) (fun _ _ _ h => h) (Or.inl ⟨by rfl, ?_⟩) ?_ ?_
       rotate_left
       ·intro w'
        first | (go_simp; with_reducible rfl) | (go_simp; (try unfold Instr.field); go_simp; (try simp only [asAgg]); go_simp; with_reducible rfl)
       rotate_left
       ·simp only [Act.put, List.setIfInBounds_toArray, List.set_cons_zero, List.set_cons_succ, i64_w, i32_w]
        rfl
       refine pure_ (i := 13) (N := some 36) (v := ?_) (a' := ?_) (Mk 20 16383) rfl rfl (by kernel_rfl) (fun _ _ _ h => h) (Or.inl ⟨by rfl, ?_⟩) ?_ ?_
       rotate_left
       ·intro w'
        first | (go_simp; with_reducible rfl) | (go_simp; (try unfold Instr.field); go_simp; (try simp only [asAgg]); go_simp; with_reducible rfl)
       rotate_left
       ·simp only [Act.put, List.setIfInBounds_toArray, List.set_cons_zero, List.set_cons_succ, i64_w, i32_w]
        rfl
       refine pure_ (i := 14) (N := some 37) (v := ?_) (a' := ?_) (Mk 20 32767) rfl rfl (by kernel_rfl) (fun _ _ _ h => h) (Or.inl ⟨by rfl, ?_⟩) ?_ ?_
       rotate_left
       ·intro w'
        first | (go_simp; with_reducible rfl) | (go_simp; (try unfold Instr.field); go_simp; (try simp only [asAgg]); go_simp; with_reducible rfl)
       rotate_left
       ·simp only [Act.put, List.setIfInBounds_toArray, List.set_cons_zero, List.set_cons_succ, i64_w, i32_w]
        rfl
       refine take_ (i := 15) (N := some 38) (v := ?_) (a' := ?_) (Mk 20 65535) rfl rfl (by kernel_rfl) (fun _ _ _ h => h) (Or.inl ⟨by rfl, ?_⟩) hHeld ?_ ?_
       rotate_left
       ·rintro w' ⟨s0, s1, s2⟩
        go_simp
        with_reducible rfl
       rotate_left
       ·simp only [Act.put, List.setIfInBounds_toArray, List.set_cons_zero, List.set_cons_succ, i64_w, i32_w]
        rfl
       refine pure_ (i := 16) (N := some 39) (v := ?_) (a' := ?_) (Mk 20 131071) rfl rfl (by kernel_rfl) (fun _ _ _ h => h) (Or.inl ⟨by rfl, ?_⟩) ?_ ?_
       rotate_left
       ·intro w'
        first | (go_simp; with_reducible rfl) | (go_simp; (try unfold Instr.field); go_simp; (try simp only [asAgg]); go_simp; with_reducible rfl)
       rotate_left
       ·simp only [Act.put, List.setIfInBounds_toArray, List.set_cons_zero, List.set_cons_succ, i64_w, i32_w]
        rfl
       refine take_ (i := 17) (N := some 40) (v := ?_) (a' := ?_) (Mk 20 262143) rfl rfl (by kernel_rfl) (fun _ _ _ h => h) (Or.inl ⟨by rfl, ?_⟩) hHeld ?_ ?_
       rotate_left
       ·rintro w' ⟨s0, s1, s2⟩
        go_simp
        with_reducible rfl
       rotate_left
       ·simp only [Act.put, List.setIfInBounds_toArray, List.set_cons_zero, List.set_cons_succ, i64_w, i32_w]
        rfl
       refine pure_ (i := 18) (N := some 41) (v := ?_) (a' := ?_) (Mk 20 524287) rfl rfl (by kernel_rfl) (fun _ _ _ h => h) (Or.inl ⟨by rfl, ?_⟩) ?_ ?_
       rotate_left
       ·intro w'
        first | (go_simp; with_reducible rfl) | (go_simp; (try unfold Instr.field); go_simp; (try simp only [asAgg]); go_simp; with_reducible rfl)
       rotate_left
       ·simp only [Act.put, List.setIfInBounds_toArray, List.set_cons_zero, List.set_cons_succ, i64_w, i32_w]
        rfl
       refine pure_ (i := 19) (N := some 42) (v := ?_) (a' := ?_) (Mk 20 1048575) rfl rfl (by kernel_rfl) (fun _ _ _ h => h) (Or.inl ⟨by rfl, ?_⟩) ?_ ?_
       rotate_left
       ·intro w'
        first | (go_simp; with_reducible rfl) | (go_simp; (try unfold Instr.field); go_simp; (try simp only [asAgg]); go_simp; with_reducible rfl)
       rotate_left
       ·simp only [Act.put, List.setIfInBounds_toArray, List.set_cons_zero, List.set_cons_succ, i64_w, i32_w]
        rfl
       refine done_ (by kernel_rfl) ?_
       have HS4 := Aside0.mk (Dr.St.below HS3.out hd)
       have HX4 := Aside0.mk (blk_below HX3.out hd)
       clear hHeld hd HS_ HS3 HX3
       go_wp2
       go_roundg (l1.length - kk - 1)
       case measure => omega
       case rel => exact ⟨kk + 1, by omega, by omega, by go_num, HS4, HX4⟩
      ·have hb1 : decide (y.f0 < x2) = false := decide_eq_false hless
       clear hless
       go_wp2
       have HS_ : ∀ W, Below wr.heap.size wr W → (W.cell? ⟨g, 1, none⟩ = some (.slice (some ad) l1.length c1) ∧ W.cell? (ad.add (kk * 5)) = some (.int .i64 y.f0) ∧ W.cell? ⟨w.heap.size, 2, none⟩ = some (.int .i64 x2)) := fun W hW => ⟨pw_cell_below hW HZ1.out, pw_cell_below hW HX0.out, pw_cell_below hW HQ2.out⟩
       have hd : Below wr.heap.size wr wr.drew := below_drew1 (Below.refl _ _)
       refine start_ (n := 20) (S := fun w' => w'.cell? ⟨g, 1, none⟩ = some (.slice (some ad) l1.length c1) ∧ w'.cell? (ad.add (kk * 5)) = some (.int .i64 y.f0) ∧ w'.cell? ⟨w.heap.size, 2, none⟩ = some (.int .i64 x2)) (ds := []) (Mk 20 0) (by kernel_rfl) rfl rfl (HS_ _ hd) (fun hHeld => ?_)
       generalize wr.drew = wd at hd hHeld ⊢
       refine pure_ (i := 0) (N := some 23) (v := ?_) (a' := ?_) (Mk 20 1) rfl rfl (by kernel_rfl) (fun _ _ _ h => h) (Or.inl ⟨by rfl, ?_⟩) ?_ ?_
       rotate_left
       ·intro w'
        first | (go_simp; with_reducible rfl) | (go_simp; (try unfold Instr.field); go_simp; (try simp only [asAgg]); go_simp; with_reducible rfl)
       rotate_left
       ·simp only [Act.put, List.setIfInBounds_toArray, List.set_cons_zero, List.set_cons_succ, i64_w, i32_w]
        rfl
       refine pure_ (i := 1) (N := some 24) (v := ?_) (a' := ?_) (Mk 20 3) rfl rfl (by kernel_rfl) (fun _ _ _ h => h) (Or.inl ⟨by rfl, ?_⟩) ?_ ?_
       rotate_left
       ·intro w'
        first | (go_simp; with_reducible rfl) | (go_simp; (try unfold Instr.field); go_simp; (try simp only [asAgg]); go_simp; with_reducible rfl)
       rotate_left
       ·simp only [Act.put, List.setIfInBounds_toArray, List.set_cons_zero, List.set_cons_succ, i64_w, i32_w]
        rfl
       refine pure_ (i := 2) (N := some 25) (v := ?_) (a' := ?_) (Mk 20 7) rfl rfl (by kernel_rfl) (fun _ _ _ h => h) (Or.inl ⟨by rfl, ?_⟩) ?_ ?_
       rotate_left
       ·intro w'
        first | (go_simp; with_reducible rfl) | (go_simp; (try unfold Instr.field); go_simp; (try simp only [asAgg]); go_simp; with_reducible rfl)
       rotate_left
       ·simp only [Act.put, List.setIfInBounds_toArray, List.set_cons_zero, List.set_cons_succ, i64_w, i32_w]
        rfl
       refine pure_ (i := 3) (N := some 26) (v := ?_) (a' := ?_) (Mk 20 15) rfl rfl (by kernel_rfl) (fun _ _ _ h => h) (Or.inl ⟨by rfl, ?_⟩) ?_ ?_
       rotate_left
       ·intro w'
        first | (go_simp; with_reducible rfl) | (go_simp; (try unfold Instr.field); go_simp; (try simp only [asAgg]); go_simp; with_reducible rfl)
       rotate_left
       ·simp only [Act.put, List.setIfInBounds_toArray, List.set_cons_zero, List.set_cons_succ, i64_w, i32_w]
        rfl
       refine take_ (i := 4) (N := some 27) (v := ?_) (a' := ?_) (Mk 20 31) rfl rfl (by kernel_rfl) (fun _ _ _ h => h) (Or.inl ⟨by rfl, ?_⟩) hHeld ?_ ?_
       rotate_left
       ·rintro w' ⟨s0, s1, s2⟩
        go_simp
        with_reducible rfl
       rotate_left
       ·simp only [Act.put, List.setIfInBounds_toArray, List.set_cons_zero, List.set_cons_succ, i64_w, i32_w]
        rfl
       refine pure_ (i := 5) (N := some 28) (v := ?_) (a' := ?_) (Mk 20 63) rfl rfl (by kernel_rfl) (fun _ _ _ h => h) (Or.inl ⟨by rfl, ?_⟩) ?_ ?_
       rotate_left
       ·intro w'
        first | (go_simp; with_reducible rfl) | (go_simp; (try unfold Instr.field); go_simp; (try simp only [asAgg]); go_simp; with_reducible rfl)
       rotate_left
       ·simp only [Act.put, List.setIfInBounds_toArray, List.set_cons_zero, List.set_cons_succ, i64_w, i32_w]
        rfl
       refine pure_ (i := 6) (N := some 29) (v := ?_) (a' := ?_) (Mk 20 127) rfl rfl (by kernel_rfl) (fun _ _ _ h => h) (Or.inl ⟨by rfl, ?_⟩) ?_ ?_
       rotate_left
       ·intro w'
        first | (go_simp; with_reducible rfl) | (go_simp; (try unfold Instr.field); go_simp; (try simp only [asAgg]); go_simp; with_reducible rfl)
       rotate_left
       ·simp only [Act.put, List.setIfInBounds_toArray, List.set_cons_zero, List.set_cons_succ, i64_w, i32_w]
        rfl
       refine pure_ (i := 7) (N := some 30) (v := ?_) (a' := ?_) (Mk 20 255) rfl rfl (by kernel_rfl) (fun _ _ _ h => h) (Or.inl ⟨by rfl, ?_⟩) ?_ ?_
       rotate_left
       ·intro w'
        first | (go_simp; with_reducible rfl) | (go_simp; (try unfold Instr.field); go_simp; (try simp only [asAgg]); go_simp; with_reducible rfl)
       rotate_left
       ·simp only [Act.put, List.setIfInBounds_toArray, List.set_cons_zero, List.set_cons_succ, i64_w, i32_w]
        rfl
       refine pure_ (i := 8) (N := some 31) (v := ?_) (a' := ?_) (Mk 20 511) rfl rfl (by kernel_rfl) (fun _ _ _ h => h) (Or.inl ⟨by rfl, ?_⟩) ?_ ?_
       rotate_left
       ·intro w'
        first | (go_simp; with_reducible rfl) | (go_simp; (try unfold Instr.field); go_simp; (try simp only [asAgg]); go_simp; with_reducible rfl)
       rotate_left
       ·simp only [Act.put, List.setIfInBounds_toArray, List.set_cons_zero, List.set_cons_succ, i64_w, i32_w]
        rfl
       refine pure_ (i := 9) (N := some 32) (v := ?_) (a' := ?_) (Mk 20 1023) rfl rfl (by kernel_rfl) (fun _ _ _ h => h) (Or.inl ⟨by rfl, ?_⟩) ?_ ?_
       rotate_left
       ·intro w'
        first | (go_simp; with_reducible rfl) | (go_simp; (try unfold Instr.field); go_simp; (try simp only [asAgg]); go_simp; with_reducible rfl)
       rotate_left
       ·simp only [Act.put, List.setIfInBounds_toArray, List.set_cons_zero, List.set_cons_succ, i64_w, i32_w]
        rfl
       refine pure_ (i := 10) (N := some 33) (v := ?_) (a' := ?_) (Mk 20 2047) rfl rfl (by kernel_rfl) (fun _ _ _ h => h) (Or.inl ⟨by rfl, ?_⟩) ?_ ?_
       rotate_left
       ·intro w'
        first | (go_simp; with_reducible rfl) | (go_simp; (try unfold Instr.field); go_simp; (try simp only [asAgg]); go_simp; with_reducible rfl)
       rotate_left
       ·simp only [Act.put, List.setIfInBounds_toArray, List.set_cons_zero, List.set_cons_succ, i64_w, i32_w]
        rfl
       refine take_ (i := 11) (N := some 34) (v := ?_) (a' := ?_) (Mk 20 4095) rfl rfl (by kernel_rfl) (fun _ _ _ h => h) (Or.inl ⟨by rfl, ?_⟩) hHeld ?_ ?_
       rotate_left
       ·rintro w' ⟨s0, s1, s2⟩
        go_simp
        with_reducible rfl
       rotate_left
       ·simp only [Act.put, List.setIfInBounds_toArray, List.set_cons_zero, List.set_cons_succ, i64_w, i32_w]
        rfl
       refine pure_ (i := 12) (N := some 35) (v := ?_) (a' := ?_) (Mk 20 8191) rfl rfl (by kernel_rfl) (fun _ _ _ h => h) (Or.inl ⟨by rfl, ?_⟩) ?_ ?_
       rotate_left
       ·intro w'
        first | (go_simp; with_reducible rfl) | (go_simp; (try unfold Instr.field); go_simp; (try simp only [asAgg]); go_simp; with_reducible rfl)
       rotate_left
       ·simp only [Act.put, List.setIfInBounds_toArray, List.set_cons_zero, List.set_cons_succ, i64_w, i32_w]
        rfl
       refine pure_ (i := 13) (N := some 36) (v := ?_) (a' := ?_) (Mk 20 16383) rfl rfl (by kernel_rfl) (fun _ _ _ h => h) (Or.inl ⟨by rfl, ?_⟩) ?_ ?_
       rotate_left
       ·intro w'
        first | (go_simp; with_reducible rfl) | (go_simp; (try unfold Instr.field); go_simp; (try simp only [asAgg]); go_simp; with_reducible rfl)
       rotate_left
       ·simp only [Act.put, List.setIfInBounds_toArray, List.set_cons_zero, List.set_cons_succ, i64_w, i32_w]
        rfl
       refine pure_ (i := 14) (N := some 37) (v := ?_) (a' := ?_) (Mk 20 32767) rfl rfl (by kernel_rfl) (fun _ _ _ h => h) (Or.inl ⟨by rfl, ?_⟩) ?_ ?_
       rotate_left
       ·intro w'
        first | (go_simp; with_reducible rfl) | (go_simp; (try unfold Instr.field); go_simp; (try simp only [asAgg]); go_simp; with_reducible rfl)
       rotate_left
       ·simp only [Act.put, List.setIfInBounds_toArray, List.set_cons_zero, List.set_cons_succ, i64_w, i32_w]
        rfl
       refine take_ (i := 15) (N := some 38) (v := ?_) (a' := ?_) (Mk 20 65535) rfl rfl (by kernel_rfl) (fun _ _ _ h => h) (Or.inl ⟨by rfl, ?_⟩) hHeld ?_ ?_
       rotate_left
       ·rintro w' ⟨s0, s1, s2⟩
        go_simp
        with_reducible rfl
       rotate_left
       ·simp only [Act.put, List.setIfInBounds_toArray, List.set_cons_zero, List.set_cons_succ, i64_w, i32_w]
        rfl
       refine pure_ (i := 16) (N := some 39) (v := ?_) (a' := ?_) (Mk 20 131071) rfl rfl (by kernel_rfl) (fun _ _ _ h => h) (Or.inl ⟨by rfl, ?_⟩) ?_ ?_
       rotate_left
       ·intro w'
        first | (go_simp; with_reducible rfl) | (go_simp; (try unfold Instr.field); go_simp; (try simp only [asAgg]); go_simp; with_reducible rfl)
       rotate_left
       ·simp only [Act.put, List.setIfInBounds_toArray, List.set_cons_zero, List.set_cons_succ, i64_w, i32_w]
        rfl
       refine take_ (i := 17) (N := some 40) (v := ?_) (a' := ?_) (Mk 20 262143) rfl rfl (by kernel_rfl) (fun _ _ _ h => h) (Or.inl ⟨by rfl, ?_⟩) hHeld ?_ ?_
       rotate_left
       ·rintro w' ⟨s0, s1, s2⟩
        go_simp
        with_reducible rfl
       rotate_left
       ·simp only [Act.put, List.setIfInBounds_toArray, List.set_cons_zero, List.set_cons_succ, i64_w, i32_w]
        rfl
       refine pure_ (i := 18) (N := some 41) (v := ?_) (a' := ?_) (Mk 20 524287) rfl rfl (by kernel_rfl) (fun _ _ _ h => h) (Or.inl ⟨by rfl, ?_⟩) ?_ ?_
       rotate_left
       ·intro w'
        first | (go_simp; with_reducible rfl) | (go_simp; (try unfold Instr.field); go_simp; (try simp only [asAgg]); go_simp; with_reducible rfl)
       rotate_left
       ·simp only [Act.put, List.setIfInBounds_toArray, List.set_cons_zero, List.set_cons_succ, i64_w, i32_w]
        rfl
       refine pure_ (i := 19) (N := some 42) (v := ?_) (a' := ?_) (Mk 20 1048575) rfl rfl (by kernel_rfl) (fun _ _ _ h => h) (Or.inl ⟨by rfl, ?_⟩) ?_ ?_
       rotate_left
       ·intro w'
        first | (go_simp; with_reducible rfl) | (go_simp; (try unfold Instr.field); go_simp; (try simp only [asAgg]); go_simp; with_reducible rfl)
       rotate_left
       ·simp only [Act.put, List.setIfInBounds_toArray, List.set_cons_zero, List.set_cons_succ, i64_w, i32_w]
        rfl
       refine done_ (by kernel_rfl) ?_
       have HS4 := Aside0.mk (Dr.St.below HS3.out hd)
       have HX4 := Aside0.mk (blk_below HX3.out hd)
       clear hHeld hd HS_ HS3 HX3 HX0 HZ1 HQ2
       have q2 := blk_cell HX4.out 2
       have q3 := blk_cell HX4.out 3
       have q4 := blk_cell HX4.out 4
       obtain ⟨W7, hW7⟩ : ∃ W, W = wd.alloc (.cells #[.int .i64 x2, .int .i64 x3, .int .i64 x4, .int .i64 1, .bool true] 36) := ⟨_, rfl⟩
       go_wp2
       rw [← hW7]
       have hB7 : Below wd.heap.size wd W7 := by rw [hW7]; exact (Below.refl _ wd).alloc (Nat.le_refl _) _
       have b7 := Aside0.mk (show W7.heap[wd.heap.size]? = some (.cells #[.int .i64 x2, .int .i64 x3, .int .i64 x4, .int .i64 1, .bool true] 36 (0, 0)) from by rw [hW7]; exact blk_new wd _)
       have HS7 := Aside0.mk (Dr.St.below HS4.out hB7)
       clear hB7 hW7 q2 q3 q4 HX4 HS4
       obtain ⟨g7, hg7⟩ : ∃ g7, g7 = wd.heap.size := ⟨_, rfl⟩
       rw [← hg7] at b7 ⊢
       clear hg7
       have hbs : w0.heap.size ≤ W7.heap.size := HS7.out.1.size
       have hC1 := (Kd.R_reads' HS7.out.2.2.2.1).2.2
       have hc1 := (Kd.R_reads' HS7.out.2.2.2.1).2.1
       have hCt := Kd.C_take (m := kk) hC1 hkk
       obtain ⟨i0_, hi0_, _, hsz_, _⟩ := info_parts info36
       have hcut1 := cut_to (P := Try.prog) 28 36 .i64 Try.underlying28 hi0_ (some ad) l1.length c1 (kk : Int) (by omega) (by omega) hc1
       obtain ⟨A2_, hcut2, hCd⟩ := Dl.cutdrop (P := Try.prog) k36 hC1 hc1 kk hkk 28 36 Try.underlying28 hi0_ hsz_
       simp only [Int.toNat_natCast] at hcut1
       have hlt_ : (l1.take kk).length = kk := by rw [List.length_take]; omega
       have hld_ : (l1.drop kk).length = l1.length - kk := List.length_drop
       obtain ⟨yc, hyc_⟩ : ∃ y : List S36, y = [⟨x2, x3, x4, 1, true⟩] := ⟨_, rfl⟩
       have hyc := Aside0.mk hyc_
       have hycl : yc.length ≤ 1 := by rw [hyc_]; exact Nat.le_refl 1
       clear hyc_ hC1
       have HS_ : ∀ W, Below W7.heap.size W7 W → (W.cell? ⟨g, 1, none⟩ = some (.slice (some ad) l1.length c1) ∧ W.cell? ⟨g7, 0, none⟩ = some (.int .i64 x2) ∧ W.cell? ⟨g7, 1, none⟩ = some (.int .i64 x3) ∧ W.cell? ⟨g7, 2, none⟩ = some (.int .i64 x4) ∧ W.cell? ⟨g7, 3, none⟩ = some (.int .i64 1) ∧ W.cell? ⟨g7, 4, none⟩ = some (.bool true)) := fun W hW => ⟨blk_cell (blk_below HS7.out.2.2.1 hW) 1, blk_cell (blk_below b7.out hW) 0, blk_cell (blk_below b7.out hW) 1, blk_cell (blk_below b7.out hW) 2, blk_cell (blk_below b7.out hW) 3, blk_cell (blk_below b7.out hW) 4⟩
       have hd : Below W7.heap.size W7 W7.drew := below_drew1 (Below.refl _ _)
       refine start_ (n := 22) (S := fun w' => w'.cell? ⟨g, 1, none⟩ = some (.slice (some ad) l1.length c1) ∧ w'.cell? ⟨g7, 0, none⟩ = some (.int .i64 x2) ∧ w'.cell? ⟨g7, 1, none⟩ = some (.int .i64 x3) ∧ w'.cell? ⟨g7, 2, none⟩ = some (.int .i64 x4) ∧ w'.cell? ⟨g7, 3, none⟩ = some (.int .i64 1) ∧ w'.cell? ⟨g7, 4, none⟩ = some (.bool true)) (ds := [21]) (Mk 22 0) (by kernel_rfl) rfl rfl (HS_ _ hd) (fun hHeld => ?_)
       generalize W7.drew = wd at hd hHeld ⊢
       refine pure_ (i := 0) (N := some 52) (v := ?_) (a' := ?_) (Mk 22 1) rfl rfl (by kernel_rfl) (fun _ _ _ h => h) (Or.inl ⟨by rfl, ?_⟩) ?_ ?_
       rotate_left
       ·intro w'
        first | (go_simp; with_reducible rfl) | (go_simp; (try unfold Instr.field); go_simp; (try simp only [asAgg]); go_simp; with_reducible rfl)
       rotate_left
       ·simp only [Act.put, List.setIfInBounds_toArray, List.set_cons_zero, List.set_cons_succ, i64_w, i32_w]
        rfl
       refine pure_ (i := 2) (N := some 54) (v := ?_) (a' := ?_) (Mk 22 5) rfl rfl (by kernel_rfl) (fun _ _ _ h => h) (Or.inl ⟨by rfl, ?_⟩) ?_ ?_
       rotate_left
       ·intro w'
        first | (go_simp; with_reducible rfl) | (go_simp; (try unfold Instr.field); go_simp; (try simp only [asAgg]); go_simp; with_reducible rfl)
       rotate_left
       ·simp only [Act.put, List.setIfInBounds_toArray, List.set_cons_zero, List.set_cons_succ, i64_w, i32_w]
        rfl
       refine pure_ (i := 3) (N := some 55) (v := ?_) (a' := ?_) (Mk 22 13) rfl rfl (by kernel_rfl) (fun _ _ _ h => h) (Or.inl ⟨by rfl, ?_⟩) ?_ ?_
       rotate_left
       ·intro w'
        first | (go_simp; with_reducible rfl) | (go_simp; (try unfold Instr.field); go_simp; (try simp only [asAgg]); go_simp; with_reducible rfl)
       rotate_left
       ·simp only [Act.put, List.setIfInBounds_toArray, List.set_cons_zero, List.set_cons_succ, i64_w, i32_w]
        rfl
       refine pure_ (i := 4) (N := some 56) (v := ?_) (a' := ?_) (Mk 22 29) rfl rfl (by kernel_rfl) (fun _ _ _ h => h) (Or.inl ⟨by rfl, ?_⟩) ?_ ?_
       rotate_left
       ·intro w'
        first | (go_simp; with_reducible rfl) | (go_simp; (try unfold Instr.field); go_simp; (try simp only [asAgg]); go_simp; with_reducible rfl)
       rotate_left
       ·simp only [Act.put, List.setIfInBounds_toArray, List.set_cons_zero, List.set_cons_succ, i64_w, i32_w]
        rfl
       refine take_ (i := 5) (N := some 57) (v := ?_) (a' := ?_) (Mk 22 61) rfl rfl (by kernel_rfl) (fun _ _ _ h => h) (Or.inl ⟨by rfl, ?_⟩) hHeld ?_ ?_
       rotate_left
       ·rintro w' ⟨s0, s1, s2, s3, s4, s5⟩
        go_simp
        with_reducible rfl
       rotate_left
       ·simp only [Act.put, List.setIfInBounds_toArray, List.set_cons_zero, List.set_cons_succ, i64_w, i32_w]
        rfl
       refine pure_ (i := 6) (N := some 58) (v := ?_) (a' := ?_) (Mk 22 125) rfl rfl (by kernel_rfl) (fun _ _ _ h => h) (Or.inl ⟨by rfl, ?_⟩) ?_ ?_
       rotate_left
       ·intro w'
        first | (go_simp; with_reducible rfl) | (go_simp; (try unfold Instr.field); go_simp; (try simp only [asAgg]); go_simp; with_reducible rfl)
       rotate_left
       ·simp only [Act.put, List.setIfInBounds_toArray, List.set_cons_zero, List.set_cons_succ, i64_w, i32_w]
        rfl
       refine pure_ (i := 7) (N := some 59) (v := ?_) (a' := ?_) (Mk 22 253) rfl rfl (by kernel_rfl) (fun _ _ _ h => h) (Or.inl ⟨by rfl, ?_⟩) ?_ ?_
       rotate_left
       ·intro w'
        first | (go_simp; with_reducible rfl) | (go_simp; (try unfold Instr.field); go_simp; (try simp only [asAgg]); go_simp; with_reducible rfl)
       rotate_left
       ·simp only [Act.put, List.setIfInBounds_toArray, List.set_cons_zero, List.set_cons_succ, i64_w, i32_w]
        rfl
       refine take_ (i := 9) (N := some 61) (v := ?_) (a' := ?_) (Mk 22 765) rfl rfl (by kernel_rfl) (fun _ _ _ h => h) (Or.inl ⟨by rfl, ?_⟩) hHeld ?_ ?_
       rotate_left
       ·rintro w' ⟨s0, s1, s2, s3, s4, s5⟩
        go_simp
        with_reducible rfl
       rotate_left
       ·simp only [Act.put, List.setIfInBounds_toArray, List.set_cons_zero, List.set_cons_succ, i64_w, i32_w]
        rfl
       refine pure_ (i := 12) (N := some 64) (v := ?_) (a' := ?_) (Mk 22 4861) rfl rfl (by kernel_rfl) (fun _ _ _ h => h) (Or.inl ⟨by rfl, ?_⟩) ?_ ?_
       rotate_left
       ·intro w'
        first | (go_simp; with_reducible rfl) | (go_simp; (try unfold Instr.field); go_simp; (try simp only [asAgg]); go_simp; with_reducible rfl)
       rotate_left
       ·simp only [Act.put, List.setIfInBounds_toArray, List.set_cons_zero, List.set_cons_succ, i64_w, i32_w]
        rfl
       refine pure_ (i := 13) (N := some 65) (v := ?_) (a' := ?_) (Mk 22 13053) rfl rfl (by kernel_rfl) (fun _ _ _ h => h) (Or.inl ⟨by rfl, ?_⟩) ?_ ?_
       rotate_left
       ·intro w'
        first | (go_simp; with_reducible rfl) | (go_simp; (try unfold Instr.field); go_simp; (try simp only [asAgg]); go_simp; with_reducible rfl)
       rotate_left
       ·simp only [Act.put, List.setIfInBounds_toArray, List.set_cons_zero, List.set_cons_succ, i64_w, i32_w]
        rfl
       refine pure_ (i := 14) (N := some 66) (v := ?_) (a' := ?_) (Mk 22 29437) rfl rfl (by kernel_rfl) (fun _ _ _ h => h) (Or.inl ⟨by rfl, ?_⟩) ?_ ?_
       rotate_left
       ·intro w'
        first | (go_simp; with_reducible rfl) | (go_simp; (try unfold Instr.field); go_simp; (try simp only [asAgg]); go_simp; with_reducible rfl)
       rotate_left
       ·simp only [Act.put, List.setIfInBounds_toArray, List.set_cons_zero, List.set_cons_succ, i64_w, i32_w]
        rfl
       refine take_ (i := 15) (N := some 67) (v := ?_) (a' := ?_) (Mk 22 62205) rfl rfl (by kernel_rfl) (fun _ _ _ h => h) (Or.inl ⟨by rfl, ?_⟩) hHeld ?_ ?_
       rotate_left
       ·rintro w' ⟨s0, s1, s2, s3, s4, s5⟩
        go_simp
        with_reducible rfl
       rotate_left
       ·simp only [Act.put, List.setIfInBounds_toArray, List.set_cons_zero, List.set_cons_succ, i64_w, i32_w]
        rfl
       refine pure_ (i := 16) (N := some 68) (v := ?_) (a' := ?_) (Mk 22 127741) rfl rfl (by kernel_rfl) (fun _ _ _ h => h) (Or.inl ⟨by rfl, ?_⟩) ?_ ?_
       rotate_left
       ·intro w'
        first | (go_simp; with_reducible rfl) | (go_simp; (try unfold Instr.field); go_simp; (try simp only [asAgg]); go_simp; with_reducible rfl)
       rotate_left
       ·simp only [Act.put, List.setIfInBounds_toArray, List.set_cons_zero, List.set_cons_succ, i64_w, i32_w]
        rfl
       refine pure_ (i := 17) (N := some 69) (v := ?_) (a' := ?_) (Mk 22 258813) rfl rfl (by kernel_rfl) (fun _ _ _ h => h) (Or.inl ⟨by rfl, ?_⟩) ?_ ?_
       rotate_left
       ·intro w'
        first | (go_simp; with_reducible rfl) | (go_simp; (try unfold Instr.field); go_simp; (try simp only [asAgg]); go_simp; with_reducible rfl)
       rotate_left
       ·simp only [Act.put, List.setIfInBounds_toArray, List.set_cons_zero, List.set_cons_succ, i64_w, i32_w]
        rfl
       refine join_ (σ := Value × Value × Value) 5 (Mk 22 260095) (fun s_ => [(53, s_.1), (60, s_.2.1), (62, s_.2.2)]) (fun s_ w' => Below W7.heap.size W7 w' ∧ Kd.R k36 36 w' (w0.heap.size) (fun k_ => some k_ ≠ s_.2.2.ownBlock) s_.2.1 ([] ++ (l1.take kk)) ∧ Kd.R k36 36 w' (w0.heap.size) (fun k_ => some k_ ≠ s_.2.1.ownBlock) s_.2.2 yc ∧ (∀ k_, s_.2.1.ownBlock = some k_ → W7.heap.size ≤ k_)) ?_ ?_
       rotate_left
       ·intro hCont
        refine two_ (i := 1) (j := 10) (Ni := some 53) (Nj := some 62) (Mk 22 258815) (Mk 22 259837) rfl rfl rfl rfl (by kernel_rfl) (by decide) (by decide) (fun K hK => ?_) (fun K hK => ?_)
        ·skip
         skip
         refine Kd.R_lit_step k36 _ 36 ?hg (N := 53) ?hd (xs := ([] : List (S36))) (inner := []) (ok := fun _ => True) (okp := fun _ => True) ?hr ?hp (fun _ hk => hk) trivial (Below.refl _ _) (Nat.le_refl _) (by simp) ?_; (case hd => rfl); (case hg => rfl); (case hr => first | (go_simp; done) | (go_simp; rfl)); (case hp => exact (Reps.none _ _))
         intro va wa hoA hbA hgA_ hn_
         have hbdA := Dl.bound_new (v := va) hn_ hd.size
         have hA := Kd.R_lower hoA (Nat.le_trans hbs hd.size)
         replace hd := hd.trans (hbA.mono hd.size)
         clear hoA hbA hgA_ hn_ hHeld
         refine hK.out _ _ (HS_ _ hd) (fun hHeld => ?_)
         clear hK K
         refine norm_ (a' := ?_) ?_ ?_
         rotate_left
         ·show Act.put _ (some 53) _ = _
          simp only [Act.put, List.setIfInBounds_toArray, List.set_cons_zero, List.set_cons_succ, i64_w, i32_w]
          rfl
         refine two_ (i := 8) (j := 10) (Ni := some 60) (Nj := some 62) (Mk 22 259071) (Mk 22 259839) rfl rfl rfl rfl (by kernel_rfl) (by decide) (by decide) (fun K hK => ?_) (fun K hK => ?_)
         ·skip
          skip
          refine Kd.R_append_rows_step k36 (w0 := W7) (w0.heap.size) (by rfl) (.tmp 53) (.tmp 59) 28 36 (.agg #[(.int .i64 0), (.int .i64 0), (.int .i64 0), (.int .i64 0), (.bool false)]) 40 rfl Try.underlying28 info36 rfl (by decide) (by omega) va [] (l1.take kk) _ _ _ (fun _ => True) (fun _ => False) rfl rfl ?aO ?aR (fun _ _ h => h) (fun _ h => h.elim) ?aF ?aB ?aS ?aL ?_
          (case aR => exact Dl.C_len hlt_ (Kd.C_below hCt hd))
          (case aB => exact hd.mono hbs)
          (case aF => exact (fun _ _ => trivial))
          (case aO => exact hA)
          (case aS => exact Nat.le_trans hbs hd.size)
          (case aL => simp only [List.length_nil]; omega)
          intro vb wb hoB hbB_ hgB hatB
          have hbdB := Dl.bound_at hbdA hd.size hatB
          replace hd := hd.grown hgB hd.size hbdA
          clear hbB_ hgB hatB hHeld hA hbdA
          have hA := hoB
          have hbdA := hbdB
          clear hoB hbdB
          refine hK.out _ _ (HS_ _ hd) (fun hHeld => ?_)
          clear hK K
          refine norm_ (a' := ?_) ?_ ?_
          rotate_left
          ·show Act.put _ (some 60) _ = _
           simp only [Act.put, List.setIfInBounds_toArray, List.set_cons_zero, List.set_cons_succ, i64_w, i32_w]
           rfl
          refine one_ (i := 10) (N := some 62) (Mk 22 260095) rfl rfl (by kernel_rfl) (by decide) (fun K hK => ?_)
          refine Kd.R_lit_step k36 _ 36 ?hg (N := 62) ?hd (xs := ([⟨x2, x3, x4, 1, true⟩] : List S36)) (inner := [.int .i64 x2, .int .i64 x3, .int .i64 x4, .int .i64 1, .bool true]) (ok := fun _ => True) (okp := fun _ => True) ?hr ?hp (fun _ hk => hk) trivial (Below.refl _ _) (Nat.le_refl _) (by simp) ?_; (case hd => rfl); (case hg => rfl); (case hr => first | (go_simp; done) | (go_simp; rfl)); (case hp => exact (Reps.c5 (show k36.M _ _ _ (⟨x2, x3, x4, 1, true⟩ : S36) _ from k36_mkM _ _ _ _) (Reps.none _ _)))
          intro vc wc hoC hbC hgC_ hn_
          rw [← hyc.out] at hoC
          have hbdC := Dl.bound_new (v := vc) hn_ hd.size
          have hC := Kd.R_mono (Kd.R_lower (Kd.R_new' hoC (Kd.R_lt hA)) (Nat.le_trans hbs hd.size)) (ok' := fun k_ => some k_ ≠ vb.ownBlock) (fun _ h_ => h_.2)
          replace hA := Kd.R_mono (Kd.R_elder' hA (Kd.R_base hoC) hbC) (ok' := fun k_ => some k_ ≠ vc.ownBlock) (fun _ h_ => h_.2)
          replace hd := hd.trans (hbC.mono hd.size)
          clear hoC hbC hgC_ hn_ hHeld
          refine hK.out _ _ (HS_ _ hd) (fun hHeld => ?_)
          clear hK K
          refine norm_ (a' := ?_) ?_ ?_
          rotate_left
          ·show Act.put _ (some 62) _ = _
           simp only [Act.put, List.setIfInBounds_toArray, List.set_cons_zero, List.set_cons_succ, i64_w, i32_w]
           rfl
          exact norm_ (by simp only [putAll, Act.put, List.setIfInBounds_toArray, List.set_cons_zero, List.set_cons_succ]) (hCont (va, vb, vc) _ ⟨hd, hA, hC, hbdA⟩)
         ·skip
          skip
          refine Kd.R_lit_step k36 _ 36 ?hg (N := 62) ?hd (xs := ([⟨x2, x3, x4, 1, true⟩] : List S36)) (inner := [.int .i64 x2, .int .i64 x3, .int .i64 x4, .int .i64 1, .bool true]) (ok := fun _ => True) (okp := fun _ => True) ?hr ?hp (fun _ hk => hk) trivial (Below.refl _ _) (Nat.le_refl _) (by simp) ?_; (case hd => rfl); (case hg => rfl); (case hr => first | (go_simp; done) | (go_simp; rfl)); (case hp => exact (Reps.c5 (show k36.M _ _ _ (⟨x2, x3, x4, 1, true⟩ : S36) _ from k36_mkM _ _ _ _) (Reps.none _ _)))
          intro vc wc hoC hbC hgC_ hn_
          rw [← hyc.out] at hoC
          have hbdC := Dl.bound_new (v := vc) hn_ hd.size
          have hC := Kd.R_mono (Kd.R_lower (Kd.R_new' hoC (Kd.R_lt hA)) (Nat.le_trans hbs hd.size)) (ok' := fun k_ => some k_ ≠ va.ownBlock) (fun _ h_ => h_.2)
          replace hA := Kd.R_mono (Kd.R_elder' hA (Kd.R_base hoC) hbC) (ok' := fun k_ => some k_ ≠ vc.ownBlock) (fun _ h_ => h_.2)
          replace hd := hd.trans (hbC.mono hd.size)
          clear hoC hbC hgC_ hn_ hHeld
          refine hK.out _ _ (HS_ _ hd) (fun hHeld => ?_)
          clear hK K
          refine norm_ (a' := ?_) ?_ ?_
          rotate_left
          ·show Act.put _ (some 62) _ = _
           simp only [Act.put, List.setIfInBounds_toArray, List.set_cons_zero, List.set_cons_succ, i64_w, i32_w]
           rfl
          refine one_ (i := 8) (N := some 60) (Mk 22 260095) rfl rfl (by kernel_rfl) (by decide) (fun K hK => ?_)
          refine Kd.R_append_rows_step k36 (w0 := W7) (w0.heap.size) (by rfl) (.tmp 53) (.tmp 59) 28 36 (.agg #[(.int .i64 0), (.int .i64 0), (.int .i64 0), (.int .i64 0), (.bool false)]) 40 rfl Try.underlying28 info36 rfl (by decide) (by omega) va [] (l1.take kk) _ _ _ (fun k_ => some k_ ≠ (vc : Value).ownBlock) (fun _ => False) rfl rfl ?aO ?aR (fun _ _ h => h) (fun _ h => h.elim) ?aF ?aB ?aS ?aL ?_
          (case aR => exact Dl.C_len hlt_ (Kd.C_below hCt hd))
          (case aB => exact hd.mono hbs)
          (case aF => exact (fun k_ hk => Kd.fresh' (Kd.R_lt hC) k_ hk))
          (case aO => exact hA)
          (case aS => exact Nat.le_trans hbs hd.size)
          (case aL => simp only [List.length_nil]; omega)
          intro vb wb hoB hbB_ hgB hatB
          have hbdB := Dl.bound_at hbdA hd.size hatB
          replace hC := Kd.R_mono (Kd.R_after (ok := (fun _ => True)) (Kd.R_mono hC (fun _ hk => ⟨trivial, hk⟩)) hgB hatB) (ok' := fun k_ => some k_ ≠ vb.ownBlock) (fun _ h_ => h_.2)
          replace hd := hd.grown hgB hd.size hbdA
          clear hbB_ hgB hatB hHeld hA hbdA
          have hA := hoB
          have hbdA := hbdB
          clear hoB hbdB
          refine hK.out _ _ (HS_ _ hd) (fun hHeld => ?_)
          clear hK K
          refine norm_ (a' := ?_) ?_ ?_
          rotate_left
          ·show Act.put _ (some 60) _ = _
           simp only [Act.put, List.setIfInBounds_toArray, List.set_cons_zero, List.set_cons_succ, i64_w, i32_w]
           rfl
          exact norm_ (by simp only [putAll, Act.put, List.setIfInBounds_toArray, List.set_cons_zero, List.set_cons_succ]) (hCont (va, vb, vc) _ ⟨hd, hA, hC, hbdA⟩)
        ·skip
         skip
         refine Kd.R_lit_step k36 _ 36 ?hg (N := 62) ?hd (xs := ([⟨x2, x3, x4, 1, true⟩] : List S36)) (inner := [.int .i64 x2, .int .i64 x3, .int .i64 x4, .int .i64 1, .bool true]) (ok := fun _ => True) (okp := fun _ => True) ?hr ?hp (fun _ hk => hk) trivial (Below.refl _ _) (Nat.le_refl _) (by simp) ?_; (case hd => rfl); (case hg => rfl); (case hr => first | (go_simp; done) | (go_simp; rfl)); (case hp => exact (Reps.c5 (show k36.M _ _ _ (⟨x2, x3, x4, 1, true⟩ : S36) _ from k36_mkM _ _ _ _) (Reps.none _ _)))
         intro vc wc hoC hbC hgC_ hn_
         rw [← hyc.out] at hoC
         have hbdC := Dl.bound_new (v := vc) hn_ hd.size
         have hC := Kd.R_lower hoC (Nat.le_trans hbs hd.size)
         replace hd := hd.trans (hbC.mono hd.size)
         clear hoC hbC hgC_ hn_ hHeld
         refine hK.out _ _ (HS_ _ hd) (fun hHeld => ?_)
         clear hK K
         refine norm_ (a' := ?_) ?_ ?_
         rotate_left
         ·show Act.put _ (some 62) _ = _
          simp only [Act.put, List.setIfInBounds_toArray, List.set_cons_zero, List.set_cons_succ, i64_w, i32_w]
          rfl
         refine one_ (i := 1) (N := some 53) (Mk 22 259839) rfl rfl (by kernel_rfl) (by decide) (fun K hK => ?_)
         refine Kd.R_lit_step k36 _ 36 ?hg (N := 53) ?hd (xs := ([] : List (S36))) (inner := []) (ok := fun _ => True) (okp := fun _ => True) ?hr ?hp (fun _ hk => hk) trivial (Below.refl _ _) (Nat.le_refl _) (by simp) ?_; (case hd => rfl); (case hg => rfl); (case hr => first | (go_simp; done) | (go_simp; rfl)); (case hp => exact (Reps.none _ _))
         intro va wa hoA hbA hgA_ hn_
         have hbdA := Dl.bound_new (v := va) hn_ hd.size
         have hA := Kd.R_mono (Kd.R_lower (Kd.R_new' hoA (Kd.R_lt hC)) (Nat.le_trans hbs hd.size)) (ok' := fun k_ => some k_ ≠ vc.ownBlock) (fun _ h_ => h_.2)
         replace hC := Kd.R_mono (Kd.R_elder' hC (Kd.R_base hoA) hbA) (ok' := fun k_ => some k_ ≠ va.ownBlock) (fun _ h_ => h_.2)
         replace hd := hd.trans (hbA.mono hd.size)
         clear hoA hbA hgA_ hn_ hHeld
         refine hK.out _ _ (HS_ _ hd) (fun hHeld => ?_)
         clear hK K
         refine norm_ (a' := ?_) ?_ ?_
         rotate_left
         ·show Act.put _ (some 53) _ = _
          simp only [Act.put, List.setIfInBounds_toArray, List.set_cons_zero, List.set_cons_succ, i64_w, i32_w]
          rfl
         refine one_ (i := 8) (N := some 60) (Mk 22 260095) rfl rfl (by kernel_rfl) (by decide) (fun K hK => ?_)
         refine Kd.R_append_rows_step k36 (w0 := W7) (w0.heap.size) (by rfl) (.tmp 53) (.tmp 59) 28 36 (.agg #[(.int .i64 0), (.int .i64 0), (.int .i64 0), (.int .i64 0), (.bool false)]) 40 rfl Try.underlying28 info36 rfl (by decide) (by omega) va [] (l1.take kk) _ _ _ (fun k_ => some k_ ≠ (vc : Value).ownBlock) (fun _ => False) rfl rfl ?aO ?aR (fun _ _ h => h) (fun _ h => h.elim) ?aF ?aB ?aS ?aL ?_
         (case aR => exact Dl.C_len hlt_ (Kd.C_below hCt hd))
         (case aB => exact hd.mono hbs)
         (case aF => exact (fun k_ hk => Kd.fresh' (Kd.R_lt hC) k_ hk))
         (case aO => exact hA)
         (case aS => exact Nat.le_trans hbs hd.size)
         (case aL => simp only [List.length_nil]; omega)
         intro vb wb hoB hbB_ hgB hatB
         have hbdB := Dl.bound_at hbdA hd.size hatB
         replace hC := Kd.R_mono (Kd.R_after (ok := (fun _ => True)) (Kd.R_mono hC (fun _ hk => ⟨trivial, hk⟩)) hgB hatB) (ok' := fun k_ => some k_ ≠ vb.ownBlock) (fun _ h_ => h_.2)
         replace hd := hd.grown hgB hd.size hbdA
         clear hbB_ hgB hatB hHeld hA hbdA
         have hA := hoB
         have hbdA := hbdB
         clear hoB hbdB
         refine hK.out _ _ (HS_ _ hd) (fun hHeld => ?_)
         clear hK K
         refine norm_ (a' := ?_) ?_ ?_
         rotate_left
         ·show Act.put _ (some 60) _ = _
          simp only [Act.put, List.setIfInBounds_toArray, List.set_cons_zero, List.set_cons_succ, i64_w, i32_w]
          rfl
         exact norm_ (by simp only [putAll, Act.put, List.setIfInBounds_toArray, List.set_cons_zero, List.set_cons_succ]) (hCont (va, vb, vc) _ ⟨hd, hA, hC, hbdA⟩)
       clear hHeld hd
       rintro ⟨v0_, va, vc⟩ wj ⟨hd, hA, hC, hbdA⟩
       have hHeld := HS_ _ hd
       obtain ⟨Ac_, cc_, ec_⟩ := Kd.R_slice hC
       subst ec_
       refine norm_ (a' := ?_) ?_ ?_
       rotate_left
       ·simp only [putAll, Act.put, List.setIfInBounds_toArray, List.set_cons_zero, List.set_cons_succ]
        rfl
       refine one_ (i := 11) (N := some 63) (Mk 22 262143) rfl rfl (by kernel_rfl) (by decide) (fun K hK => ?_)
       refine Kd.R_append_rows_step k36 (w0 := W7) (w0.heap.size) (by rfl) (.tmp 60) (.tmp 62) 28 36 (.agg #[(.int .i64 0), (.int .i64 0), (.int .i64 0), (.int .i64 0), (.bool false)]) 40 rfl Try.underlying28 info36 rfl (by decide) (by omega) va ([] ++ (l1.take kk)) yc _ _ _ (fun k_ => some k_ ≠ (.slice Ac_ yc.length cc_ : Value).ownBlock) (fun _ => False) rfl rfl ?aO ?aR (fun _ _ h => h) (fun _ h => h.elim) ?aF ?aB ?aS ?aL ?_
       (case aR => exact (Kd.R_reads' hC).2.2)
       (case aB => exact hd.mono hbs)
       (case aF => exact (fun k_ hk => Kd.fresh' (Kd.R_lt hC) k_ hk))
       (case aO => exact hA)
       (case aS => exact Nat.le_trans hbs hd.size)
       (case aL => have := hycl; simp only [List.nil_append]; omega)
       intro vb wb hoB hbB_ hgB hatB
       have hbdB := Dl.bound_at hbdA hd.size hatB
       replace hC := Kd.R_mono (Kd.R_after (ok := (fun _ => True)) (Kd.R_mono hC (fun _ hk => ⟨trivial, hk⟩)) hgB hatB) (ok' := fun k_ => some k_ ≠ vb.ownBlock) (fun _ h_ => h_.2)
       replace hd := hd.grown hgB hd.size hbdA
       clear hbB_ hgB hatB hHeld hA hbdA
       have hA := hoB
       have hbdA := hbdB
       clear hoB hbdB
       refine hK.out _ _ (HS_ _ hd) (fun hHeld => ?_)
       clear hK K
       refine norm_ (a' := ?_) ?_ ?_
       rotate_left
       ·show Act.put _ (some 63) _ = _
        simp only [Act.put, List.setIfInBounds_toArray, List.set_cons_zero, List.set_cons_succ, i64_w, i32_w]
        rfl
       replace hA := Kd.R_mono hA (ok' := fun _ => True) (fun _ _ => trivial)
       refine one_ (i := 18) (N := some 70) (Mk 22 524287) rfl rfl (by kernel_rfl) (by decide) (fun K hK => ?_)
       refine Kd.R_append_rows_step k36 (w0 := W7) (w0.heap.size) (by rfl) (.tmp 63) (.tmp 69) 28 36 (.agg #[(.int .i64 0), (.int .i64 0), (.int .i64 0), (.int .i64 0), (.bool false)]) 40 rfl Try.underlying28 info36 rfl (by decide) (by omega) vb ([] ++ (l1.take kk) ++ yc) (l1.drop kk) _ _ _ (fun _ => True) (fun _ => False) rfl rfl ?aO ?aR (fun _ _ h => h) (fun _ h => h.elim) ?aF ?aB ?aS ?aL ?_
       (case aR => exact Dl.C_len hld_ (Kd.C_below hCd hd))
       (case aB => exact hd.mono hbs)
       (case aF => exact (fun _ _ => trivial))
       (case aO => exact hA)
       (case aS => exact Nat.le_trans hbs hd.size)
       (case aL => have := hycl; simp only [List.nil_append, List.length_append]; omega)
       intro vb wb hoB hbB_ hgB hatB
       have hbdB := Dl.bound_at hbdA hd.size hatB
       replace hd := hd.grown hgB hd.size hbdA
       clear hbB_ hgB hatB hHeld
       have hA := hoB
       have hbdA := hbdB
       clear hoB hbdB
       refine hK.out _ _ (HS_ _ hd) (fun hHeld => ?_)
       clear hK K
       refine norm_ (a' := ?_) ?_ ?_
       rotate_left
       ·show Act.put _ (some 70) _ = _
        simp only [Act.put, List.setIfInBounds_toArray, List.set_cons_zero, List.set_cons_succ, i64_w, i32_w]
        rfl
       refine pure_ (i := 19) (N := some 71) (v := ?_) (a' := ?_) (Mk 22 1048575) rfl rfl (by kernel_rfl) (fun _ _ _ h => h) (Or.inl ⟨by rfl, ?_⟩) ?_ ?_
       rotate_left
       ·intro w'
        first | (go_simp; with_reducible rfl) | (go_simp; (try unfold Instr.field); go_simp; (try simp only [asAgg]); go_simp; with_reducible rfl)
       rotate_left
       ·simp only [Act.put, List.setIfInBounds_toArray, List.set_cons_zero, List.set_cons_succ, i64_w, i32_w]
        rfl
       refine pure_ (i := 20) (N := some 72) (v := ?_) (a' := ?_) (Mk 22 2097151) rfl rfl (by kernel_rfl) (fun _ _ _ h => h) (Or.inl ⟨by rfl, ?_⟩) ?_ ?_
       rotate_left
       ·intro w'
        first | (go_simp; with_reducible rfl) | (go_simp; (try unfold Instr.field); go_simp; (try simp only [asAgg]); go_simp; with_reducible rfl)
       rotate_left
       ·simp only [Act.put, List.setIfInBounds_toArray, List.set_cons_zero, List.set_cons_succ, i64_w, i32_w]
        rfl
       obtain ⟨lq, hlq⟩ : ∃ l_ : List S36, l_ = [] ++ l1.take kk ++ yc ++ l1.drop kk := ⟨_, rfl⟩
       rw [← hlq] at hA
       have HLQ := Aside0.mk hlq
       clear hlq
       obtain ⟨AQ, cQ, eQ⟩ := Kd.R_slice hA
       subst eQ
       have HS8 := Aside0.mk (Dr.St.below HS7.out hd)
       have y1 := blk_cell HS8.out.2.2.1 1
       have f1 := blk_frozen HS8.out.2.2.1 1
       refine last_ (i := 21) (N := none) (Mk 22 4194303) rfl rfl (by kernel_rfl) (by decide) (fun K hK => ?_)
       refine skip_ (w1 := ?_) (by rfl) rfl ?_ ?_
       rotate_left
       ·go_simp
        rfl
       refine hK.out _ _ ?_
       clear hK K
       refine done_ (by kernel_rfl) ?_
       have HS9 := Aside0.mk (Dr.St.new1 HS8.out hA)
       clear hHeld y1 f1 hd hbdA HS_
       go_wp2
       go_ret
       refine ⟨_, _, _, rfl, HS9.out, ?_⟩
       have := hycl
       rw [HLQ.out]
       simp only [List.length_append, List.length_nil, hlt_, hld_]
       omega
     ·have hltz : ¬ (kk : Int) < (l1.length : Int) := by omega
      have hltd : decide ((kk : Int) < (l1.length : Int)) = false := decide_eq_false hltz
      go_wp2
      have HS_ : ∀ W, Below wr.heap.size wr W → (W.cell? ⟨g, 1, none⟩ = some (.slice A1 l1.length c1)) := fun W hW => pw_cell_below hW HZ1.out
      have hd : Below wr.heap.size wr wr.drew := below_drew1 (Below.refl _ _)
      refine start_ (n := 20) (S := fun w' => w'.cell? ⟨g, 1, none⟩ = some (.slice A1 l1.length c1)) (ds := []) (Mk 20 0) (by kernel_rfl) rfl rfl (HS_ _ hd) (fun hHeld => ?_)
      generalize wr.drew = wd at hd hHeld ⊢
      refine pure_ (i := 0) (N := some 23) (v := ?_) (a' := ?_) (Mk 20 1) rfl rfl (by kernel_rfl) (fun _ _ _ h => h) (Or.inl ⟨by rfl, ?_⟩) ?_ ?_
      rotate_left
      ·intro w'
       first | (go_simp; with_reducible rfl) | (go_simp; (try unfold Instr.field); go_simp; (try simp only [asAgg]); go_simp; with_reducible rfl)
      rotate_left
      ·simp only [Act.put, List.setIfInBounds_toArray, List.set_cons_zero, List.set_cons_succ, i64_w, i32_w]
       rfl
      refine pure_ (i := 1) (N := some 24) (v := ?_) (a' := ?_) (Mk 20 3) rfl rfl (by kernel_rfl) (fun _ _ _ h => h) (Or.inl ⟨by rfl, ?_⟩) ?_ ?_
      rotate_left
      ·intro w'
       first | (go_simp; with_reducible rfl) | (go_simp; (try unfold Instr.field); go_simp; (try simp only [asAgg]); go_simp; with_reducible rfl)
      rotate_left
      ·simp only [Act.put, List.setIfInBounds_toArray, List.set_cons_zero, List.set_cons_succ, i64_w, i32_w]
       rfl
      refine pure_ (i := 2) (N := some 25) (v := ?_) (a' := ?_) (Mk 20 7) rfl rfl (by kernel_rfl) (fun _ _ _ h => h) (Or.inl ⟨by rfl, ?_⟩) ?_ ?_
      rotate_left
      ·intro w'
       first | (go_simp; with_reducible rfl) | (go_simp; (try unfold Instr.field); go_simp; (try simp only [asAgg]); go_simp; with_reducible rfl)
      rotate_left
      ·simp only [Act.put, List.setIfInBounds_toArray, List.set_cons_zero, List.set_cons_succ, i64_w, i32_w]
       rfl
      refine pure_ (i := 3) (N := some 26) (v := ?_) (a' := ?_) (Mk 20 15) rfl rfl (by kernel_rfl) (fun _ _ _ h => h) (Or.inl ⟨by rfl, ?_⟩) ?_ ?_
      rotate_left
      ·intro w'
       first | (go_simp; with_reducible rfl) | (go_simp; (try unfold Instr.field); go_simp; (try simp only [asAgg]); go_simp; with_reducible rfl)
      rotate_left
      ·simp only [Act.put, List.setIfInBounds_toArray, List.set_cons_zero, List.set_cons_succ, i64_w, i32_w]
       rfl
      refine take_ (i := 4) (N := some 27) (v := ?_) (a' := ?_) (Mk 20 31) rfl rfl (by kernel_rfl) (fun _ _ _ h => h) (Or.inl ⟨by rfl, ?_⟩) hHeld ?_ ?_
      rotate_left
      ·intro w' s0
       go_simp
       with_reducible rfl
      rotate_left
      ·simp only [Act.put, List.setIfInBounds_toArray, List.set_cons_zero, List.set_cons_succ, i64_w, i32_w]
       rfl
      refine pure_ (i := 5) (N := some 28) (v := ?_) (a' := ?_) (Mk 20 63) rfl rfl (by kernel_rfl) (fun _ _ _ h => h) (Or.inl ⟨by rfl, ?_⟩) ?_ ?_
      rotate_left
      ·intro w'
       first | (go_simp; with_reducible rfl) | (go_simp; (try unfold Instr.field); go_simp; (try simp only [asAgg]); go_simp; with_reducible rfl)
      rotate_left
      ·simp only [Act.put, List.setIfInBounds_toArray, List.set_cons_zero, List.set_cons_succ, i64_w, i32_w]
       rfl
      refine pure_ (i := 6) (N := some 29) (v := ?_) (a' := ?_) (Mk 20 127) rfl rfl (by kernel_rfl) (fun _ _ _ h => h) (Or.inl ⟨by rfl, ?_⟩) ?_ ?_
      rotate_left
      ·intro w'
       first | (go_simp; with_reducible rfl) | (go_simp; (try unfold Instr.field); go_simp; (try simp only [asAgg]); go_simp; with_reducible rfl)
      rotate_left
      ·simp only [Act.put, List.setIfInBounds_toArray, List.set_cons_zero, List.set_cons_succ, i64_w, i32_w]
       rfl
      refine pure_ (i := 7) (N := some 30) (v := ?_) (a' := ?_) (Mk 20 255) rfl rfl (by kernel_rfl) (fun _ _ _ h => h) (Or.inl ⟨by rfl, ?_⟩) ?_ ?_
      rotate_left
      ·intro w'
       first | (go_simp; with_reducible rfl) | (go_simp; (try unfold Instr.field); go_simp; (try simp only [asAgg]); go_simp; with_reducible rfl)
      rotate_left
      ·simp only [Act.put, List.setIfInBounds_toArray, List.set_cons_zero, List.set_cons_succ, i64_w, i32_w]
       rfl
      refine pure_ (i := 8) (N := some 31) (v := undef) (a' := ?_) (Mk 20 511) rfl rfl (by kernel_rfl) (fun _ _ _ h => h) (Or.inr ⟨by rfl, rfl⟩) ?_ ?_
      rotate_left
      ·simp only [Act.put, List.setIfInBounds_toArray, List.set_cons_zero, List.set_cons_succ, i64_w, i32_w]
       rfl
      refine pure_ (i := 9) (N := some 32) (v := undef) (a' := ?_) (Mk 20 1023) rfl rfl (by kernel_rfl) (fun _ _ _ h => h) (Or.inr ⟨by rfl, rfl⟩) ?_ ?_
      rotate_left
      ·simp only [Act.put, List.setIfInBounds_toArray, List.set_cons_zero, List.set_cons_succ, i64_w, i32_w]
       rfl
      refine pure_ (i := 10) (N := some 33) (v := undef) (a' := ?_) (Mk 20 2047) rfl rfl (by kernel_rfl) (fun _ _ _ h => h) (Or.inr ⟨by rfl, rfl⟩) ?_ ?_
      rotate_left
      ·simp only [Act.put, List.setIfInBounds_toArray, List.set_cons_zero, List.set_cons_succ, i64_w, i32_w]
       rfl
      refine pure_ (i := 11) (N := some 34) (v := undef) (a' := ?_) (Mk 20 4095) rfl rfl (by kernel_rfl) (fun _ _ _ h => h) (Or.inr ⟨by rfl, rfl⟩) ?_ ?_
      rotate_left
      ·simp only [Act.put, List.setIfInBounds_toArray, List.set_cons_zero, List.set_cons_succ, i64_w, i32_w]
       rfl
      refine pure_ (i := 12) (N := some 35) (v := undef) (a' := ?_) (Mk 20 8191) rfl rfl (by kernel_rfl) (fun _ _ _ h => h) (Or.inr ⟨by rfl, rfl⟩) ?_ ?_
      rotate_left
      ·simp only [Act.put, List.setIfInBounds_toArray, List.set_cons_zero, List.set_cons_succ, i64_w, i32_w]
       rfl
      refine pure_ (i := 13) (N := some 36) (v := undef) (a' := ?_) (Mk 20 16383) rfl rfl (by kernel_rfl) (fun _ _ _ h => h) (Or.inr ⟨by rfl, rfl⟩) ?_ ?_
      rotate_left
      ·simp only [Act.put, List.setIfInBounds_toArray, List.set_cons_zero, List.set_cons_succ, i64_w, i32_w]
       rfl
      refine pure_ (i := 14) (N := some 37) (v := undef) (a' := ?_) (Mk 20 32767) rfl rfl (by kernel_rfl) (fun _ _ _ h => h) (Or.inr ⟨by rfl, rfl⟩) ?_ ?_
      rotate_left
      ·simp only [Act.put, List.setIfInBounds_toArray, List.set_cons_zero, List.set_cons_succ, i64_w, i32_w]
       rfl
      refine pure_ (i := 15) (N := some 38) (v := undef) (a' := ?_) (Mk 20 65535) rfl rfl (by kernel_rfl) (fun _ _ _ h => h) (Or.inr ⟨by rfl, rfl⟩) ?_ ?_
      rotate_left
      ·simp only [Act.put, List.setIfInBounds_toArray, List.set_cons_zero, List.set_cons_succ, i64_w, i32_w]
       rfl
      refine pure_ (i := 16) (N := some 39) (v := undef) (a' := ?_) (Mk 20 131071) rfl rfl (by kernel_rfl) (fun _ _ _ h => h) (Or.inr ⟨by rfl, rfl⟩) ?_ ?_
      rotate_left
      ·simp only [Act.put, List.setIfInBounds_toArray, List.set_cons_zero, List.set_cons_succ, i64_w, i32_w]
       rfl
      refine pure_ (i := 17) (N := some 40) (v := undef) (a' := ?_) (Mk 20 262143) rfl rfl (by kernel_rfl) (fun _ _ _ h => h) (Or.inr ⟨by rfl, rfl⟩) ?_ ?_
      rotate_left
      ·simp only [Act.put, List.setIfInBounds_toArray, List.set_cons_zero, List.set_cons_succ, i64_w, i32_w]
       rfl
      refine pure_ (i := 18) (N := some 41) (v := undef) (a' := ?_) (Mk 20 524287) rfl rfl (by kernel_rfl) (fun _ _ _ h => h) (Or.inr ⟨by rfl, rfl⟩) ?_ ?_
      rotate_left
      ·simp only [Act.put, List.setIfInBounds_toArray, List.set_cons_zero, List.set_cons_succ, i64_w, i32_w]
       rfl
      refine pure_ (i := 19) (N := some 42) (v := ?_) (a' := ?_) (Mk 20 1048575) rfl rfl (by kernel_rfl) (fun _ _ _ h => h) (Or.inl ⟨by rfl, ?_⟩) ?_ ?_
      rotate_left
      ·intro w'
       first | (go_simp; with_reducible rfl) | (go_simp; (try unfold Instr.field); go_simp; (try simp only [asAgg]); go_simp; with_reducible rfl)
      rotate_left
      ·simp only [Act.put, List.setIfInBounds_toArray, List.set_cons_zero, List.set_cons_succ, i64_w, i32_w]
       rfl
      refine done_ (by kernel_rfl) ?_
      have HS4 := Aside0.mk (Dr.St.below HS3.out hd)
      have HX4 := Aside0.mk (blk_below HX3.out hd)
      clear hHeld hd HS_ HS3 HX3 HZ1 HQ2
      have q2 := blk_cell HX4.out 2
      have q3 := blk_cell HX4.out 3
      have q4 := blk_cell HX4.out 4
      obtain ⟨W7, hW7⟩ : ∃ W, W = wd.alloc (.cells #[.int .i64 x2, .int .i64 x3, .int .i64 x4, .int .i64 1, .bool true] 36) := ⟨_, rfl⟩
      go_wp2
      rw [← hW7]
      have hB7 : Below wd.heap.size wd W7 := by rw [hW7]; exact (Below.refl _ wd).alloc (Nat.le_refl _) _
      have b7 := Aside0.mk (show W7.heap[wd.heap.size]? = some (.cells #[.int .i64 x2, .int .i64 x3, .int .i64 x4, .int .i64 1, .bool true] 36 (0, 0)) from by rw [hW7]; exact blk_new wd _)
      have HS7 := Aside0.mk (Dr.St.below HS4.out hB7)
      clear hB7 hW7 q2 q3 q4 HX4 HS4
      obtain ⟨g7, hg7⟩ : ∃ g7, g7 = wd.heap.size := ⟨_, rfl⟩
      rw [← hg7] at b7 ⊢
      clear hg7
      have hbs : w0.heap.size ≤ W7.heap.size := HS7.out.1.size
      have hC1 := (Kd.R_reads' HS7.out.2.2.2.1).2.2
      have hc1 := (Kd.R_reads' HS7.out.2.2.2.1).2.1
      have hCt := Kd.C_take (m := kk) hC1 hkk
      obtain ⟨i0_, hi0_, _, hsz_, _⟩ := info_parts info36
      have hcut1 := cut_to (P := Try.prog) 28 36 .i64 Try.underlying28 hi0_ A1 l1.length c1 (kk : Int) (by omega) (by omega) hc1
      obtain ⟨A2_, hcut2, hCd⟩ := Dl.cutdrop (P := Try.prog) k36 hC1 hc1 kk hkk 28 36 Try.underlying28 hi0_ hsz_
      simp only [Int.toNat_natCast] at hcut1
      have hlt_ : (l1.take kk).length = kk := by rw [List.length_take]; omega
      have hld_ : (l1.drop kk).length = l1.length - kk := List.length_drop
      obtain ⟨yc, hyc_⟩ : ∃ y : List S36, y = [⟨x2, x3, x4, 1, true⟩] := ⟨_, rfl⟩
      have hyc := Aside0.mk hyc_
      have hycl : yc.length ≤ 1 := by rw [hyc_]; exact Nat.le_refl 1
      clear hyc_ hC1
      have HS_ : ∀ W, Below W7.heap.size W7 W → (W.cell? ⟨g, 1, none⟩ = some (.slice A1 l1.length c1) ∧ W.cell? ⟨g7, 0, none⟩ = some (.int .i64 x2) ∧ W.cell? ⟨g7, 1, none⟩ = some (.int .i64 x3) ∧ W.cell? ⟨g7, 2, none⟩ = some (.int .i64 x4) ∧ W.cell? ⟨g7, 3, none⟩ = some (.int .i64 1) ∧ W.cell? ⟨g7, 4, none⟩ = some (.bool true)) := fun W hW => ⟨blk_cell (blk_below HS7.out.2.2.1 hW) 1, blk_cell (blk_below b7.out hW) 0, blk_cell (blk_below b7.out hW) 1, blk_cell (blk_below b7.out hW) 2, blk_cell (blk_below b7.out hW) 3, blk_cell (blk_below b7.out hW) 4⟩
      have hd : Below W7.heap.size W7 W7.drew := below_drew1 (Below.refl _ _)
      refine start_ (n := 22) (S := fun w' => w'.cell? ⟨g, 1, none⟩ = some (.slice A1 l1.length c1) ∧ w'.cell? ⟨g7, 0, none⟩ = some (.int .i64 x2) ∧ w'.cell? ⟨g7, 1, none⟩ = some (.int .i64 x3) ∧ w'.cell? ⟨g7, 2, none⟩ = some (.int .i64 x4) ∧ w'.cell? ⟨g7, 3, none⟩ = some (.int .i64 1) ∧ w'.cell? ⟨g7, 4, none⟩ = some (.bool true)) (ds := [21]) (Mk 22 0) (by kernel_rfl) rfl rfl (HS_ _ hd) (fun hHeld => ?_)
      generalize W7.drew = wd at hd hHeld ⊢
      refine pure_ (i := 0) (N := some 52) (v := ?_) (a' := ?_) (Mk 22 1) rfl rfl (by kernel_rfl) (fun _ _ _ h => h) (Or.inl ⟨by rfl, ?_⟩) ?_ ?_
      rotate_left
      ·intro w'
       first | (go_simp; with_reducible rfl) | (go_simp; (try unfold Instr.field); go_simp; (try simp only [asAgg]); go_simp; with_reducible rfl)
      rotate_left
      ·simp only [Act.put, List.setIfInBounds_toArray, List.set_cons_zero, List.set_cons_succ, i64_w, i32_w]
       rfl
      refine pure_ (i := 2) (N := some 54) (v := ?_) (a' := ?_) (Mk 22 5) rfl rfl (by kernel_rfl) (fun _ _ _ h => h) (Or.inl ⟨by rfl, ?_⟩) ?_ ?_
      rotate_left
      ·intro w'
       first | (go_simp; with_reducible rfl) | (go_simp; (try unfold Instr.field); go_simp; (try simp only [asAgg]); go_simp; with_reducible rfl)
      rotate_left
      ·simp only [Act.put, List.setIfInBounds_toArray, List.set_cons_zero, List.set_cons_succ, i64_w, i32_w]
       rfl
      refine pure_ (i := 3) (N := some 55) (v := ?_) (a' := ?_) (Mk 22 13) rfl rfl (by kernel_rfl) (fun _ _ _ h => h) (Or.inl ⟨by rfl, ?_⟩) ?_ ?_
      rotate_left
      ·intro w'
       first | (go_simp; with_reducible rfl) | (go_simp; (try unfold Instr.field); go_simp; (try simp only [asAgg]); go_simp; with_reducible rfl)
      rotate_left
      ·simp only [Act.put, List.setIfInBounds_toArray, List.set_cons_zero, List.set_cons_succ, i64_w, i32_w]
       rfl
      refine pure_ (i := 4) (N := some 56) (v := ?_) (a' := ?_) (Mk 22 29) rfl rfl (by kernel_rfl) (fun _ _ _ h => h) (Or.inl ⟨by rfl, ?_⟩) ?_ ?_
      rotate_left
      ·intro w'
       first | (go_simp; with_reducible rfl) | (go_simp; (try unfold Instr.field); go_simp; (try simp only [asAgg]); go_simp; with_reducible rfl)
      rotate_left
      ·simp only [Act.put, List.setIfInBounds_toArray, List.set_cons_zero, List.set_cons_succ, i64_w, i32_w]
       rfl
      refine take_ (i := 5) (N := some 57) (v := ?_) (a' := ?_) (Mk 22 61) rfl rfl (by kernel_rfl) (fun _ _ _ h => h) (Or.inl ⟨by rfl, ?_⟩) hHeld ?_ ?_
      rotate_left
      ·rintro w' ⟨s0, s1, s2, s3, s4, s5⟩
       go_simp
       with_reducible rfl
      rotate_left
      ·simp only [Act.put, List.setIfInBounds_toArray, List.set_cons_zero, List.set_cons_succ, i64_w, i32_w]
       rfl
      refine pure_ (i := 6) (N := some 58) (v := ?_) (a' := ?_) (Mk 22 125) rfl rfl (by kernel_rfl) (fun _ _ _ h => h) (Or.inl ⟨by rfl, ?_⟩) ?_ ?_
      rotate_left
      ·intro w'
       first | (go_simp; with_reducible rfl) | (go_simp; (try unfold Instr.field); go_simp; (try simp only [asAgg]); go_simp; with_reducible rfl)
      rotate_left
      ·simp only [Act.put, List.setIfInBounds_toArray, List.set_cons_zero, List.set_cons_succ, i64_w, i32_w]
       rfl
      refine pure_ (i := 7) (N := some 59) (v := ?_) (a' := ?_) (Mk 22 253) rfl rfl (by kernel_rfl) (fun _ _ _ h => h) (Or.inl ⟨by rfl, ?_⟩) ?_ ?_
      rotate_left
      ·intro w'
       first | (go_simp; with_reducible rfl) | (go_simp; (try unfold Instr.field); go_simp; (try simp only [asAgg]); go_simp; with_reducible rfl)
      rotate_left
      ·simp only [Act.put, List.setIfInBounds_toArray, List.set_cons_zero, List.set_cons_succ, i64_w, i32_w]
       rfl
      refine take_ (i := 9) (N := some 61) (v := ?_) (a' := ?_) (Mk 22 765) rfl rfl (by kernel_rfl) (fun _ _ _ h => h) (Or.inl ⟨by rfl, ?_⟩) hHeld ?_ ?_
      rotate_left
      ·rintro w' ⟨s0, s1, s2, s3, s4, s5⟩
       go_simp
       with_reducible rfl
      rotate_left
      ·simp only [Act.put, List.setIfInBounds_toArray, List.set_cons_zero, List.set_cons_succ, i64_w, i32_w]
       rfl
      refine pure_ (i := 12) (N := some 64) (v := ?_) (a' := ?_) (Mk 22 4861) rfl rfl (by kernel_rfl) (fun _ _ _ h => h) (Or.inl ⟨by rfl, ?_⟩) ?_ ?_
      rotate_left
      ·intro w'
       first | (go_simp; with_reducible rfl) | (go_simp; (try unfold Instr.field); go_simp; (try simp only [asAgg]); go_simp; with_reducible rfl)
      rotate_left
      ·simp only [Act.put, List.setIfInBounds_toArray, List.set_cons_zero, List.set_cons_succ, i64_w, i32_w]
       rfl
      refine pure_ (i := 13) (N := some 65) (v := ?_) (a' := ?_) (Mk 22 13053) rfl rfl (by kernel_rfl) (fun _ _ _ h => h) (Or.inl ⟨by rfl, ?_⟩) ?_ ?_
      rotate_left
      ·intro w'
       first | (go_simp; with_reducible rfl) | (go_simp; (try unfold Instr.field); go_simp; (try simp only [asAgg]); go_simp; with_reducible rfl)
      rotate_left
      ·simp only [Act.put, List.setIfInBounds_toArray, List.set_cons_zero, List.set_cons_succ, i64_w, i32_w]
       rfl
      refine pure_ (i := 14) (N := some 66) (v := ?_) (a' := ?_) (Mk 22 29437) rfl rfl (by kernel_rfl) (fun _ _ _ h => h) (Or.inl ⟨by rfl, ?_⟩) ?_ ?_
      rotate_left
      ·intro w'
       first | (go_simp; with_reducible rfl) | (go_simp; (try unfold Instr.field); go_simp; (try simp only [asAgg]); go_simp; with_reducible rfl)
      rotate_left
      ·simp only [Act.put, List.setIfInBounds_toArray, List.set_cons_zero, List.set_cons_succ, i64_w, i32_w]
       rfl
      refine take_ (i := 15) (N := some 67) (v := ?_) (a' := ?_) (Mk 22 62205) rfl rfl (by kernel_rfl) (fun _ _ _ h => h) (Or.inl ⟨by rfl, ?_⟩) hHeld ?_ ?_
      rotate_left
      ·rintro w' ⟨s0, s1, s2, s3, s4, s5⟩
       go_simp
       with_reducible rfl
      rotate_left
      ·simp only [Act.put, List.setIfInBounds_toArray, List.set_cons_zero, List.set_cons_succ, i64_w, i32_w]
       rfl
      refine pure_ (i := 16) (N := some 68) (v := ?_) (a' := ?_) (Mk 22 127741) rfl rfl (by kernel_rfl) (fun _ _ _ h => h) (Or.inl ⟨by rfl, ?_⟩) ?_ ?_
      rotate_left
      ·intro w'
       first | (go_simp; with_reducible rfl) | (go_simp; (try unfold Instr.field); go_simp; (try simp only [asAgg]); go_simp; with_reducible rfl)
      rotate_left
      ·simp only [Act.put, List.setIfInBounds_toArray, List.set_cons_zero, List.set_cons_succ, i64_w, i32_w]
       rfl
      refine pure_ (i := 17) (N := some 69) (v := ?_) (a' := ?_) (Mk 22 258813) rfl rfl (by kernel_rfl) (fun _ _ _ h => h) (Or.inl ⟨by rfl, ?_⟩) ?_ ?_
      rotate_left
      ·intro w'
       first | (go_simp; with_reducible rfl) | (go_simp; (try unfold Instr.field); go_simp; (try simp only [asAgg]); go_simp; with_reducible rfl)
      rotate_left
      ·simp only [Act.put, List.setIfInBounds_toArray, List.set_cons_zero, List.set_cons_succ, i64_w, i32_w]
       rfl
      refine join_ (σ := Value × Value × Value) 5 (Mk 22 260095) (fun s_ => [(53, s_.1), (60, s_.2.1), (62, s_.2.2)]) (fun s_ w' => Below W7.heap.size W7 w' ∧ Kd.R k36 36 w' (w0.heap.size) (fun k_ => some k_ ≠ s_.2.2.ownBlock) s_.2.1 ([] ++ (l1.take kk)) ∧ Kd.R k36 36 w' (w0.heap.size) (fun k_ => some k_ ≠ s_.2.1.ownBlock) s_.2.2 yc ∧ (∀ k_, s_.2.1.ownBlock = some k_ → W7.heap.size ≤ k_)) ?_ ?_
      rotate_left
      ·intro hCont
       refine two_ (i := 1) (j := 10) (Ni := some 53) (Nj := some 62) (Mk 22 258815) (Mk 22 259837) rfl rfl rfl rfl (by kernel_rfl) (by decide) (by decide) (fun K hK => ?_) (fun K hK => ?_)
       ·skip
        skip
        refine Kd.R_lit_step k36 _ 36 ?hg (N := 53) ?hd (xs := ([] : List (S36))) (inner := []) (ok := fun _ => True) (okp := fun _ => True) ?hr ?hp (fun _ hk => hk) trivial (Below.refl _ _) (Nat.le_refl _) (by simp) ?_; (case hd => rfl); (case hg => rfl); (case hr => first | (go_simp; done) | (go_simp; rfl)); (case hp => exact (Reps.none _ _))
        intro va wa hoA hbA hgA_ hn_
        have hbdA := Dl.bound_new (v := va) hn_ hd.size
        have hA := Kd.R_lower hoA (Nat.le_trans hbs hd.size)
        replace hd := hd.trans (hbA.mono hd.size)
        clear hoA hbA hgA_ hn_ hHeld
        refine hK.out _ _ (HS_ _ hd) (fun hHeld => ?_)
        clear hK K
        refine norm_ (a' := ?_) ?_ ?_
        rotate_left
        ·show Act.put _ (some 53) _ = _
         simp only [Act.put, List.setIfInBounds_toArray, List.set_cons_zero, List.set_cons_succ, i64_w, i32_w]
         rfl
        refine two_ (i := 8) (j := 10) (Ni := some 60) (Nj := some 62) (Mk 22 259071) (Mk 22 259839) rfl rfl rfl rfl (by kernel_rfl) (by decide) (by decide) (fun K hK => ?_) (fun K hK => ?_)
        ·skip
         skip
         refine Kd.R_append_rows_step k36 (w0 := W7) (w0.heap.size) (by rfl) (.tmp 53) (.tmp 59) 28 36 (.agg #[(.int .i64 0), (.int .i64 0), (.int .i64 0), (.int .i64 0), (.bool false)]) 40 rfl Try.underlying28 info36 rfl (by decide) (by omega) va [] (l1.take kk) _ _ _ (fun _ => True) (fun _ => False) rfl rfl ?aO ?aR (fun _ _ h => h) (fun _ h => h.elim) ?aF ?aB ?aS ?aL ?_
         (case aR => exact Dl.C_len hlt_ (Kd.C_below hCt hd))
         (case aB => exact hd.mono hbs)
         (case aF => exact (fun _ _ => trivial))
         (case aO => exact hA)
         (case aS => exact Nat.le_trans hbs hd.size)
         (case aL => simp only [List.length_nil]; omega)
         intro vb wb hoB hbB_ hgB hatB
         have hbdB := Dl.bound_at hbdA hd.size hatB
         replace hd := hd.grown hgB hd.size hbdA
         clear hbB_ hgB hatB hHeld hA hbdA
         have hA := hoB
         have hbdA := hbdB
         clear hoB hbdB
         refine hK.out _ _ (HS_ _ hd) (fun hHeld => ?_)
         clear hK K
         refine norm_ (a' := ?_) ?_ ?_
         rotate_left
         ·show Act.put _ (some 60) _ = _
          simp only [Act.put, List.setIfInBounds_toArray, List.set_cons_zero, List.set_cons_succ, i64_w, i32_w]
          rfl
         refine one_ (i := 10) (N := some 62) (Mk 22 260095) rfl rfl (by kernel_rfl) (by decide) (fun K hK => ?_)
         refine Kd.R_lit_step k36 _ 36 ?hg (N := 62) ?hd (xs := ([⟨x2, x3, x4, 1, true⟩] : List S36)) (inner := [.int .i64 x2, .int .i64 x3, .int .i64 x4, .int .i64 1, .bool true]) (ok := fun _ => True) (okp := fun _ => True) ?hr ?hp (fun _ hk => hk) trivial (Below.refl _ _) (Nat.le_refl _) (by simp) ?_; (case hd => rfl); (case hg => rfl); (case hr => first | (go_simp; done) | (go_simp; rfl)); (case hp => exact (Reps.c5 (show k36.M _ _ _ (⟨x2, x3, x4, 1, true⟩ : S36) _ from k36_mkM _ _ _ _) (Reps.none _ _)))
         intro vc wc hoC hbC hgC_ hn_
         rw [← hyc.out] at hoC
         have hbdC := Dl.bound_new (v := vc) hn_ hd.size
         have hC := Kd.R_mono (Kd.R_lower (Kd.R_new' hoC (Kd.R_lt hA)) (Nat.le_trans hbs hd.size)) (ok' := fun k_ => some k_ ≠ vb.ownBlock) (fun _ h_ => h_.2)
         replace hA := Kd.R_mono (Kd.R_elder' hA (Kd.R_base hoC) hbC) (ok' := fun k_ => some k_ ≠ vc.ownBlock) (fun _ h_ => h_.2)
         replace hd := hd.trans (hbC.mono hd.size)
         clear hoC hbC hgC_ hn_ hHeld
         refine hK.out _ _ (HS_ _ hd) (fun hHeld => ?_)
         clear hK K
         refine norm_ (a' := ?_) ?_ ?_
         rotate_left
         ·show Act.put _ (some 62) _ = _
          simp only [Act.put, List.setIfInBounds_toArray, List.set_cons_zero, List.set_cons_succ, i64_w, i32_w]
          rfl
         exact norm_ (by simp only [putAll, Act.put, List.setIfInBounds_toArray, List.set_cons_zero, List.set_cons_succ]) (hCont (va, vb, vc) _ ⟨hd, hA, hC, hbdA⟩)
        ·skip
         skip
         refine Kd.R_lit_step k36 _ 36 ?hg (N := 62) ?hd (xs := ([⟨x2, x3, x4, 1, true⟩] : List S36)) (inner := [.int .i64 x2, .int .i64 x3, .int .i64 x4, .int .i64 1, .bool true]) (ok := fun _ => True) (okp := fun _ => True) ?hr ?hp (fun _ hk => hk) trivial (Below.refl _ _) (Nat.le_refl _) (by simp) ?_; (case hd => rfl); (case hg => rfl); (case hr => first | (go_simp; done) | (go_simp; rfl)); (case hp => exact (Reps.c5 (show k36.M _ _ _ (⟨x2, x3, x4, 1, true⟩ : S36) _ from k36_mkM _ _ _ _) (Reps.none _ _)))
         intro vc wc hoC hbC hgC_ hn_
         rw [← hyc.out] at hoC
         have hbdC := Dl.bound_new (v := vc) hn_ hd.size
         have hC := Kd.R_mono (Kd.R_lower (Kd.R_new' hoC (Kd.R_lt hA)) (Nat.le_trans hbs hd.size)) (ok' := fun k_ => some k_ ≠ va.ownBlock) (fun _ h_ => h_.2)
         replace hA := Kd.R_mono (Kd.R_elder' hA (Kd.R_base hoC) hbC) (ok' := fun k_ => some k_ ≠ vc.ownBlock) (fun _ h_ => h_.2)
         replace hd := hd.trans (hbC.mono hd.size)
         clear hoC hbC hgC_ hn_ hHeld
         refine hK.out _ _ (HS_ _ hd) (fun hHeld => ?_)
         clear hK K
         refine norm_ (a' := ?_) ?_ ?_
         rotate_left
         ·show Act.put _ (some 62) _ = _
          simp only [Act.put, List.setIfInBounds_toArray, List.set_cons_zero, List.set_cons_succ, i64_w, i32_w]
          rfl
         refine one_ (i := 8) (N := some 60) (Mk 22 260095) rfl rfl (by kernel_rfl) (by decide) (fun K hK => ?_)
         refine Kd.R_append_rows_step k36 (w0 := W7) (w0.heap.size) (by rfl) (.tmp 53) (.tmp 59) 28 36 (.agg #[(.int .i64 0), (.int .i64 0), (.int .i64 0), (.int .i64 0), (.bool false)]) 40 rfl Try.underlying28 info36 rfl (by decide) (by omega) va [] (l1.take kk) _ _ _ (fun k_ => some k_ ≠ (vc : Value).ownBlock) (fun _ => False) rfl rfl ?aO ?aR (fun _ _ h => h) (fun _ h => h.elim) ?aF ?aB ?aS ?aL ?_
         (case aR => exact Dl.C_len hlt_ (Kd.C_below hCt hd))
         (case aB => exact hd.mono hbs)
         (case aF => exact (fun k_ hk => Kd.fresh' (Kd.R_lt hC) k_ hk))
         (case aO => exact hA)
         (case aS => exact Nat.le_trans hbs hd.size)
         (case aL => simp only [List.length_nil]; omega)
         intro vb wb hoB hbB_ hgB hatB
         have hbdB := Dl.bound_at hbdA hd.size hatB
         replace hC := Kd.R_mono (Kd.R_after (ok := (fun _ => True)) (Kd.R_mono hC (fun _ hk => ⟨trivial, hk⟩)) hgB hatB) (ok' := fun k_ => some k_ ≠ vb.ownBlock) (fun _ h_ => h_.2)
         replace hd := hd.grown hgB hd.size hbdA
         clear hbB_ hgB hatB hHeld hA hbdA
         have hA := hoB
         have hbdA := hbdB
         clear hoB hbdB
         refine hK.out _ _ (HS_ _ hd) (fun hHeld => ?_)
         clear hK K
         refine norm_ (a' := ?_) ?_ ?_
         rotate_left
         ·show Act.put _ (some 60) _ = _
          simp only [Act.put, List.setIfInBounds_toArray, List.set_cons_zero, List.set_cons_succ, i64_w, i32_w]
          rfl
         exact norm_ (by simp only [putAll, Act.put, List.setIfInBounds_toArray, List.set_cons_zero, List.set_cons_succ]) (hCont (va, vb, vc) _ ⟨hd, hA, hC, hbdA⟩)
       ·skip
        skip
        refine Kd.R_lit_step k36 _ 36 ?hg (N := 62) ?hd (xs := ([⟨x2, x3, x4, 1, true⟩] : List S36)) (inner := [.int .i64 x2, .int .i64 x3, .int .i64 x4, .int .i64 1, .bool true]) (ok := fun _ => True) (okp := fun _ => True) ?hr ?hp (fun _ hk => hk) trivial (Below.refl _ _) (Nat.le_refl _) (by simp) ?_; (case hd => rfl); (case hg => rfl); (case hr => first | (go_simp; done) | (go_simp; rfl)); (case hp => exact (Reps.c5 (show k36.M _ _ _ (⟨x2, x3, x4, 1, true⟩ : S36) _ from k36_mkM _ _ _ _) (Reps.none _ _)))
        intro vc wc hoC hbC hgC_ hn_
        rw [← hyc.out] at hoC
        have hbdC := Dl.bound_new (v := vc) hn_ hd.size
        have hC := Kd.R_lower hoC (Nat.le_trans hbs hd.size)
        replace hd := hd.trans (hbC.mono hd.size)
        clear hoC hbC hgC_ hn_ hHeld
        refine hK.out _ _ (HS_ _ hd) (fun hHeld => ?_)
        clear hK K
        refine norm_ (a' := ?_) ?_ ?_
        rotate_left
        ·show Act.put _ (some 62) _ = _
         simp only [Act.put, List.setIfInBounds_toArray, List.set_cons_zero, List.set_cons_succ, i64_w, i32_w]
         rfl
        refine one_ (i := 1) (N := some 53) (Mk 22 259839) rfl rfl (by kernel_rfl) (by decide) (fun K hK => ?_)
        refine Kd.R_lit_step k36 _ 36 ?hg (N := 53) ?hd (xs := ([] : List (S36))) (inner := []) (ok := fun _ => True) (okp := fun _ => True) ?hr ?hp (fun _ hk => hk) trivial (Below.refl _ _) (Nat.le_refl _) (by simp) ?_; (case hd => rfl); (case hg => rfl); (case hr => first | (go_simp; done) | (go_simp; rfl)); (case hp => exact (Reps.none _ _))
        intro va wa hoA hbA hgA_ hn_
        have hbdA := Dl.bound_new (v := va) hn_ hd.size
        have hA := Kd.R_mono (Kd.R_lower (Kd.R_new' hoA (Kd.R_lt hC)) (Nat.le_trans hbs hd.size)) (ok' := fun k_ => some k_ ≠ vc.ownBlock) (fun _ h_ => h_.2)
        replace hC := Kd.R_mono (Kd.R_elder' hC (Kd.R_base hoA) hbA) (ok' := fun k_ => some k_ ≠ va.ownBlock) (fun _ h_ => h_.2)
        replace hd := hd.trans (hbA.mono hd.size)
        clear hoA hbA hgA_ hn_ hHeld
        refine hK.out _ _ (HS_ _ hd) (fun hHeld => ?_)
        clear hK K
        refine norm_ (a' := ?_) ?_ ?_
        rotate_left
        ·show Act.put _ (some 53) _ = _
         simp only [Act.put, List.setIfInBounds_toArray, List.set_cons_zero, List.set_cons_succ, i64_w, i32_w]
         rfl
        refine one_ (i := 8) (N := some 60) (Mk 22 260095) rfl rfl (by kernel_rfl) (by decide) (fun K hK => ?_)
        refine Kd.R_append_rows_step k36 (w0 := W7) (w0.heap.size) (by rfl) (.tmp 53) (.tmp 59) 28 36 (.agg #[(.int .i64 0), (.int .i64 0), (.int .i64 0), (.int .i64 0), (.bool false)]) 40 rfl Try.underlying28 info36 rfl (by decide) (by omega) va [] (l1.take kk) _ _ _ (fun k_ => some k_ ≠ (vc : Value).ownBlock) (fun _ => False) rfl rfl ?aO ?aR (fun _ _ h => h) (fun _ h => h.elim) ?aF ?aB ?aS ?aL ?_
        (case aR => exact Dl.C_len hlt_ (Kd.C_below hCt hd))
        (case aB => exact hd.mono hbs)
        (case aF => exact (fun k_ hk => Kd.fresh' (Kd.R_lt hC) k_ hk))
        (case aO => exact hA)
        (case aS => exact Nat.le_trans hbs hd.size)
        (case aL => simp only [List.length_nil]; omega)
        intro vb wb hoB hbB_ hgB hatB
        have hbdB := Dl.bound_at hbdA hd.size hatB
        replace hC := Kd.R_mono (Kd.R_after (ok := (fun _ => True)) (Kd.R_mono hC (fun _ hk => ⟨trivial, hk⟩)) hgB hatB) (ok' := fun k_ => some k_ ≠ vb.ownBlock) (fun _ h_ => h_.2)
        replace hd := hd.grown hgB hd.size hbdA
        clear hbB_ hgB hatB hHeld hA hbdA
        have hA := hoB
        have hbdA := hbdB
        clear hoB hbdB
        refine hK.out _ _ (HS_ _ hd) (fun hHeld => ?_)
        clear hK K
        refine norm_ (a' := ?_) ?_ ?_
        rotate_left
        ·show Act.put _ (some 60) _ = _
         simp only [Act.put, List.setIfInBounds_toArray, List.set_cons_zero, List.set_cons_succ, i64_w, i32_w]
         rfl
        exact norm_ (by simp only [putAll, Act.put, List.setIfInBounds_toArray, List.set_cons_zero, List.set_cons_succ]) (hCont (va, vb, vc) _ ⟨hd, hA, hC, hbdA⟩)
      clear hHeld hd
      rintro ⟨v0_, va, vc⟩ wj ⟨hd, hA, hC, hbdA⟩
      have hHeld := HS_ _ hd
      obtain ⟨Ac_, cc_, ec_⟩ := Kd.R_slice hC
      subst ec_
      refine norm_ (a' := ?_) ?_ ?_
      rotate_left
      ·simp only [putAll, Act.put, List.setIfInBounds_toArray, List.set_cons_zero, List.set_cons_succ]
       rfl
      refine one_ (i := 11) (N := some 63) (Mk 22 262143) rfl rfl (by kernel_rfl) (by decide) (fun K hK => ?_)
      refine Kd.R_append_rows_step k36 (w0 := W7) (w0.heap.size) (by rfl) (.tmp 60) (.tmp 62) 28 36 (.agg #[(.int .i64 0), (.int .i64 0), (.int .i64 0), (.int .i64 0), (.bool false)]) 40 rfl Try.underlying28 info36 rfl (by decide) (by omega) va ([] ++ (l1.take kk)) yc _ _ _ (fun k_ => some k_ ≠ (.slice Ac_ yc.length cc_ : Value).ownBlock) (fun _ => False) rfl rfl ?aO ?aR (fun _ _ h => h) (fun _ h => h.elim) ?aF ?aB ?aS ?aL ?_
      (case aR => exact (Kd.R_reads' hC).2.2)
      (case aB => exact hd.mono hbs)
      (case aF => exact (fun k_ hk => Kd.fresh' (Kd.R_lt hC) k_ hk))
      (case aO => exact hA)
      (case aS => exact Nat.le_trans hbs hd.size)
      (case aL => have := hycl; simp only [List.nil_append]; omega)
      intro vb wb hoB hbB_ hgB hatB
      have hbdB := Dl.bound_at hbdA hd.size hatB
      replace hC := Kd.R_mono (Kd.R_after (ok := (fun _ => True)) (Kd.R_mono hC (fun _ hk => ⟨trivial, hk⟩)) hgB hatB) (ok' := fun k_ => some k_ ≠ vb.ownBlock) (fun _ h_ => h_.2)
      replace hd := hd.grown hgB hd.size hbdA
      clear hbB_ hgB hatB hHeld hA hbdA
      have hA := hoB
      have hbdA := hbdB
      clear hoB hbdB
      refine hK.out _ _ (HS_ _ hd) (fun hHeld => ?_)
      clear hK K
      refine norm_ (a' := ?_) ?_ ?_
      rotate_left
      ·show Act.put _ (some 63) _ = _
       simp only [Act.put, List.setIfInBounds_toArray, List.set_cons_zero, List.set_cons_succ, i64_w, i32_w]
       rfl
      replace hA := Kd.R_mono hA (ok' := fun _ => True) (fun _ _ => trivial)
      refine one_ (i := 18) (N := some 70) (Mk 22 524287) rfl rfl (by kernel_rfl) (by decide) (fun K hK => ?_)
      refine Kd.R_append_rows_step k36 (w0 := W7) (w0.heap.size) (by rfl) (.tmp 63) (.tmp 69) 28 36 (.agg #[(.int .i64 0), (.int .i64 0), (.int .i64 0), (.int .i64 0), (.bool false)]) 40 rfl Try.underlying28 info36 rfl (by decide) (by omega) vb ([] ++ (l1.take kk) ++ yc) (l1.drop kk) _ _ _ (fun _ => True) (fun _ => False) rfl rfl ?aO ?aR (fun _ _ h => h) (fun _ h => h.elim) ?aF ?aB ?aS ?aL ?_
      (case aR => exact Dl.C_len hld_ (Kd.C_below hCd hd))
      (case aB => exact hd.mono hbs)
      (case aF => exact (fun _ _ => trivial))
      (case aO => exact hA)
      (case aS => exact Nat.le_trans hbs hd.size)
      (case aL => have := hycl; simp only [List.nil_append, List.length_append]; omega)
      intro vb wb hoB hbB_ hgB hatB
      have hbdB := Dl.bound_at hbdA hd.size hatB
      replace hd := hd.grown hgB hd.size hbdA
      clear hbB_ hgB hatB hHeld
      have hA := hoB
      have hbdA := hbdB
      clear hoB hbdB
      refine hK.out _ _ (HS_ _ hd) (fun hHeld => ?_)
      clear hK K
      refine norm_ (a' := ?_) ?_ ?_
      rotate_left
      ·show Act.put _ (some 70) _ = _
       simp only [Act.put, List.setIfInBounds_toArray, List.set_cons_zero, List.set_cons_succ, i64_w, i32_w]
       rfl
      refine pure_ (i := 19) (N := some 71) (v := ?_) (a' := ?_) (Mk 22 1048575) rfl rfl (by kernel_rfl) (fun _ _ _ h => h) (Or.inl ⟨by rfl, ?_⟩) ?_ ?_
      rotate_left
      ·intro w'
       first | (go_simp; with_reducible rfl) | (go_simp; (try unfold Instr.field); go_simp; (try simp only [asAgg]); go_simp; with_reducible rfl)
      rotate_left
      ·simp only [Act.put, List.setIfInBounds_toArray, List.set_cons_zero, List.set_cons_succ, i64_w, i32_w]
       rfl
      refine pure_ (i := 20) (N := some 72) (v := ?_) (a' := ?_) (Mk 22 2097151) rfl rfl (by kernel_rfl) (fun _ _ _ h => h) (Or.inl ⟨by rfl, ?_⟩) ?_ ?_
      rotate_left
      ·intro w'
       first | (go_simp; with_reducible rfl) | (go_simp; (try unfold Instr.field); go_simp; (try simp only [asAgg]); go_simp; with_reducible rfl)
      rotate_left
      ·simp only [Act.put, List.setIfInBounds_toArray, List.set_cons_zero, List.set_cons_succ, i64_w, i32_w]
       rfl
      obtain ⟨lq, hlq⟩ : ∃ l_ : List S36, l_ = [] ++ l1.take kk ++ yc ++ l1.drop kk := ⟨_, rfl⟩
      rw [← hlq] at hA
      have HLQ := Aside0.mk hlq
      clear hlq
      obtain ⟨AQ, cQ, eQ⟩ := Kd.R_slice hA
      subst eQ
      have HS8 := Aside0.mk (Dr.St.below HS7.out hd)
      have y1 := blk_cell HS8.out.2.2.1 1
      have f1 := blk_frozen HS8.out.2.2.1 1
      refine last_ (i := 21) (N := none) (Mk 22 4194303) rfl rfl (by kernel_rfl) (by decide) (fun K hK => ?_)
      refine skip_ (w1 := ?_) (by rfl) rfl ?_ ?_
      rotate_left
      ·go_simp
       rfl
      refine hK.out _ _ ?_
      clear hK K
      refine done_ (by kernel_rfl) ?_
      have HS9 := Aside0.mk (Dr.St.new1 HS8.out hA)
      clear hHeld y1 f1 hd hbdA HS_
      go_wp2
      go_ret
      refine ⟨_, _, _, rfl, HS9.out, ?_⟩
      have := hycl
      rw [HLQ.out]
      simp only [List.length_append, List.length_nil, hlt_, hld_]
      omega
  ·have hx1 : (x0 == 1) = false := beq_eq_false_iff_ne.mpr hx
   go_wp2_with (go_at_call 64; refine hcall.mono ?_; rintro e w2 ⟨rfl, hb2⟩; rw [← hw1] at hb2; have HS2 := Aside0.mk (Dr.St.below HS.out hb2); have HX2 := Aside0.mk (blk_below HX.out hb2); clear hcall hb2 HS HX; have z1 := blk_cell HS2.out.2.2.1 1; have q0 := blk_cell HX2.out 0; have q2 := blk_cell HX2.out 2; have q3 := blk_cell HX2.out 3; have q4 := blk_cell HX2.out 4)
   go_ret
   exact ⟨_, _, _, rfl, HS2.out, hl⟩
 ·skip
  obtain ⟨kk, hpk, hlt⟩ := hpl hp0
  subst hpk
  clear hpl
  have hpd : decide ((kk : Int) < 0) = false := decide_eq_false (by omega)
  have hpg : decide ((kk : Int) ≥ 0) = true := decide_eq_true (by omega)
  have hltz : (kk : Int) < (l1.length : Int) := by omega
  obtain ⟨y, hy⟩ : ∃ y, y = l1.getD kk z36 := ⟨_, rfl⟩
  have HY := Aside0.mk hy
  clear hy
  by_cases hx : x0 = 1
  ·have hx1 : (x0 == 1) = true := beq_iff_eq.mpr hx
   clear hx
   go_wp2_with (go_at_call 64; refine hcall.mono ?_; rintro e w2 ⟨rfl, hb2⟩; rw [← hw1] at hb2; have HS2 := Aside0.mk (Dr.St.below HS.out hb2); have HX2 := Aside0.mk (blk_below HX.out hb2); clear hcall hb2 HS HX; have z1 := blk_cell HS2.out.2.2.1 1; have q0 := blk_cell HX2.out 0; have q2 := blk_cell HX2.out 2; have q3 := blk_cell HX2.out 3; have q4 := blk_cell HX2.out 4)
   go_ret
   exact ⟨_, _, _, rfl, HS2.out, hl⟩
  have hx1 : (x0 == 1) = false := beq_eq_false_iff_ne.mpr hx
  obtain ⟨g1, cap, hu, hge, hgl, hgt⟩ := Kd.R_form HS.out.2.2.2.1 (by omega)
  injection hu with e1 e2 e3
  subst e1
  subst e3
  clear e2 hge hgl hgt
  by_cases hx2 : x0 = 2
  ·have hy2 : (x0 == 2) = true := beq_iff_eq.mpr hx2
   clear hx2
   go_wp2_with (go_at_call 64; refine hcall.mono ?_; rintro e w2 ⟨rfl, hb2⟩; rw [← hw1] at hb2; have HS2 := Aside0.mk (Dr.St.below HS.out hb2); have HX2 := Aside0.mk (blk_below HX.out hb2); clear hcall hb2 HS HX; have z1 := blk_cell HS2.out.2.2.1 1; have q0 := blk_cell HX2.out 0; have q2 := blk_cell HX2.out 2; have q3 := blk_cell HX2.out 3; have q4 := blk_cell HX2.out 4)
   have HS_ : ∀ W, Below w2.heap.size w2 W → (W.cell? ⟨g, 1, none⟩ = some (.slice (some ⟨g1, 0, none⟩) l1.length c1) ∧ W.cell? ⟨w.heap.size, 4, none⟩ = some (.int .i64 x4)) := fun W hW => ⟨pw_cell_below hW (blk_cell HS2.out.2.2.1 1), pw_cell_below hW (blk_cell HX2.out 4)⟩
   have hd : Below w2.heap.size w2 w2.drew := below_drew1 (Below.refl _ _)
   refine start_ (n := 10) (S := fun w' => w'.cell? ⟨g, 1, none⟩ = some (.slice (some ⟨g1, 0, none⟩) l1.length c1) ∧ w'.cell? ⟨w.heap.size, 4, none⟩ = some (.int .i64 x4)) (ds := [9]) (Mk 10 0) (by kernel_rfl) rfl rfl (HS_ _ hd) (fun hHeld => ?_)
   generalize w2.drew = wd at hd hHeld ⊢
   refine pure_ (i := 0) (N := some 79) (v := ?_) (a' := ?_) (Mk 10 1) rfl rfl (by kernel_rfl) (fun _ _ _ h => h) (Or.inl ⟨by rfl, ?_⟩) ?_ ?_
   rotate_left
   ·intro w'
    first | (go_simp; with_reducible rfl) | (go_simp; (try unfold Instr.field); go_simp; (try simp only [asAgg]); go_simp; with_reducible rfl)
   rotate_left
   ·simp only [Act.put, List.setIfInBounds_toArray, List.set_cons_zero, List.set_cons_succ, i64_w, i32_w]
    rfl
   refine pure_ (i := 1) (N := some 80) (v := ?_) (a' := ?_) (Mk 10 3) rfl rfl (by kernel_rfl) (fun _ _ _ h => h) (Or.inl ⟨by rfl, ?_⟩) ?_ ?_
   rotate_left
   ·intro w'
    first | (go_simp; with_reducible rfl) | (go_simp; (try unfold Instr.field); go_simp; (try simp only [asAgg]); go_simp; with_reducible rfl)
   rotate_left
   ·simp only [Act.put, List.setIfInBounds_toArray, List.set_cons_zero, List.set_cons_succ, i64_w, i32_w]
    rfl
   refine pure_ (i := 2) (N := some 81) (v := ?_) (a' := ?_) (Mk 10 7) rfl rfl (by kernel_rfl) (fun _ _ _ h => h) (Or.inl ⟨by rfl, ?_⟩) ?_ ?_
   rotate_left
   ·intro w'
    first | (go_simp; with_reducible rfl) | (go_simp; (try unfold Instr.field); go_simp; (try simp only [asAgg]); go_simp; with_reducible rfl)
   rotate_left
   ·simp only [Act.put, List.setIfInBounds_toArray, List.set_cons_zero, List.set_cons_succ, i64_w, i32_w]
    rfl
   refine take_ (i := 3) (N := some 82) (v := ?_) (a' := ?_) (Mk 10 15) rfl rfl (by kernel_rfl) (fun _ _ _ h => h) (Or.inl ⟨by rfl, ?_⟩) hHeld ?_ ?_
   rotate_left
   ·rintro w' ⟨s0, s1⟩
    go_simp
    with_reducible rfl
   rotate_left
   ·simp only [Act.put, List.setIfInBounds_toArray, List.set_cons_zero, List.set_cons_succ, i64_w, i32_w]
    rfl
   refine pure_ (i := 4) (N := some 83) (v := ?_) (a' := ?_) (Mk 10 31) rfl rfl (by kernel_rfl) (fun _ _ _ h => h) (Or.inl ⟨by rfl, ?_⟩) ?_ ?_
   rotate_left
   ·intro w'
    first | (go_simp; with_reducible rfl) | (go_simp; (try unfold Instr.field); go_simp; (try simp only [asAgg]); go_simp; with_reducible rfl)
   rotate_left
   ·simp only [Act.put, List.setIfInBounds_toArray, List.set_cons_zero, List.set_cons_succ, i64_w, i32_w]
    rfl
   refine pure_ (i := 5) (N := some 84) (v := ?_) (a' := ?_) (Mk 10 63) rfl rfl (by kernel_rfl) (fun _ _ _ h => h) (Or.inl ⟨by rfl, ?_⟩) ?_ ?_
   rotate_left
   ·intro w'
    first | (go_simp; with_reducible rfl) | (go_simp; (try unfold Instr.field); go_simp; (try simp only [asAgg]); go_simp; with_reducible rfl)
   rotate_left
   ·simp only [Act.put, List.setIfInBounds_toArray, List.set_cons_zero, List.set_cons_succ, i64_w, i32_w]
    rfl
   refine take_ (i := 6) (N := some 85) (v := ?_) (a' := ?_) (Mk 10 127) rfl rfl (by kernel_rfl) (fun _ _ _ h => h) (Or.inl ⟨by rfl, ?_⟩) hHeld ?_ ?_
   rotate_left
   ·rintro w' ⟨s0, s1⟩
    go_simp
    with_reducible rfl
   rotate_left
   ·simp only [Act.put, List.setIfInBounds_toArray, List.set_cons_zero, List.set_cons_succ, i64_w, i32_w]
    rfl
   refine pure_ (i := 7) (N := some 86) (v := ?_) (a' := ?_) (Mk 10 255) rfl rfl (by kernel_rfl) (fun _ _ _ h => h) (Or.inl ⟨by rfl, ?_⟩) ?_ ?_
   rotate_left
   ·intro w'
    first | (go_simp; with_reducible rfl) | (go_simp; (try unfold Instr.field); go_simp; (try simp only [asAgg]); go_simp; with_reducible rfl)
   rotate_left
   ·simp only [Act.put, List.setIfInBounds_toArray, List.set_cons_zero, List.set_cons_succ, i64_w, i32_w]
    rfl
   refine pure_ (i := 8) (N := some 87) (v := ?_) (a' := ?_) (Mk 10 511) rfl rfl (by kernel_rfl) (fun _ _ _ h => h) (Or.inl ⟨by rfl, ?_⟩) ?_ ?_
   rotate_left
   ·intro w'
    first | (go_simp; with_reducible rfl) | (go_simp; (try unfold Instr.field); go_simp; (try simp only [asAgg]); go_simp; with_reducible rfl)
   rotate_left
   ·simp only [Act.put, List.setIfInBounds_toArray, List.set_cons_zero, List.set_cons_succ, i64_w, i32_w]
    rfl
   have HS5 := Aside0.mk (Dr.St.below HS2.out hd)
   obtain ⟨c, hcl, hM, hcc, hfr⟩ := Kd.R_elem HS5.out.2.2.2.1 z36 (kk : Int) (by omega) hltz
   rw [Int.toNat_natCast] at hM hcc hfr
   rw [← HY.out] at hM
   obtain rfl := k36_openM hM
   have hx_0 : wd.cell? ⟨g1, kk * 5, none⟩ = some (.int .i64 y.f0) := hcc 0 _ rfl
   have hx_1 : wd.cell? ⟨g1, kk * 5 + 1, none⟩ = some (.int .i64 y.f1) := hcc 1 _ rfl
   have hx_2 : wd.cell? ⟨g1, kk * 5 + 2, none⟩ = some (.int .i64 y.f2) := hcc 2 _ rfl
   have hx_3 : wd.cell? ⟨g1, kk * 5 + 3, none⟩ = some (.int .i64 y.f3) := hcc 3 _ rfl
   have hx_4 : wd.cell? ⟨g1, kk * 5 + 4, none⟩ = some (.bool y.f4) := hcc 4 _ rfl
   have hf_2 : wd.frozen? ⟨g1, kk * 5 + 2, none⟩ = false := hfr 2
   have hf_3 : wd.frozen? ⟨g1, kk * 5 + 3, none⟩ = false := hfr 3
   have hf_4 : wd.frozen? ⟨g1, kk * 5 + 4, none⟩ = false := hfr 4
   clear hcl hM hcc hfr
   refine last_ (i := 9) (N := none) (Mk 10 1023) rfl rfl (by kernel_rfl) (by decide) (fun K hK => ?_)
   refine skip_ (w1 := ?_) (by rfl) rfl ?_ ?_
   rotate_left
   ·go_simp
    rfl
   refine hK.out _ _ ?_
   clear hK K
   refine done_ (by kernel_rfl) ?_
   clear hHeld HS_ hx_0 hx_1 hx_2 hx_3 hx_4 hf_2 hf_3 hf_4
   go_wp2
   go_ret
   obtain ⟨hR, hG⟩ := Dr.put36 HS5.out.2.2.2.1 kk hlt 2 (.int .i64 x4) rfl ⟨y.f0, y.f1, x4, y.f3, y.f4⟩ (by omega) y HY.out rfl
   exact ⟨_, _, _, rfl, Dr.St.row HS5.out (by rw [List.length_set]) hR hG, by rw [List.length_set]; exact hl⟩
  have hy2 : (x0 == 2) = false := beq_eq_false_iff_ne.mpr hx2
  by_cases hx3 : x0 = 3
  ·have hy3 : (x0 == 3) = true := beq_iff_eq.mpr hx3
   clear hx3
   go_wp2_with (go_at_call 64; refine hcall.mono ?_; rintro e w2 ⟨rfl, hb2⟩; rw [← hw1] at hb2; have HS2 := Aside0.mk (Dr.St.below HS.out hb2); have HX2 := Aside0.mk (blk_below HX.out hb2); clear hcall hb2 HS HX; have z1 := blk_cell HS2.out.2.2.1 1; have q0 := blk_cell HX2.out 0; have q2 := blk_cell HX2.out 2; have q3 := blk_cell HX2.out 3; have q4 := blk_cell HX2.out 4)
   have HS_ : ∀ W, Below w2.heap.size w2 W → (W.cell? ⟨g, 1, none⟩ = some (.slice (some ⟨g1, 0, none⟩) l1.length c1) ∧ W.cell? ⟨w.heap.size, 4, none⟩ = some (.int .i64 x4)) := fun W hW => ⟨pw_cell_below hW (blk_cell HS2.out.2.2.1 1), pw_cell_below hW (blk_cell HX2.out 4)⟩
   have hd : Below w2.heap.size w2 w2.drew := below_drew1 (Below.refl _ _)
   refine start_ (n := 10) (S := fun w' => w'.cell? ⟨g, 1, none⟩ = some (.slice (some ⟨g1, 0, none⟩) l1.length c1) ∧ w'.cell? ⟨w.heap.size, 4, none⟩ = some (.int .i64 x4)) (ds := [9]) (Mk 10 0) (by kernel_rfl) rfl rfl (HS_ _ hd) (fun hHeld => ?_)
   generalize w2.drew = wd at hd hHeld ⊢
   refine pure_ (i := 0) (N := some 90) (v := ?_) (a' := ?_) (Mk 10 1) rfl rfl (by kernel_rfl) (fun _ _ _ h => h) (Or.inl ⟨by rfl, ?_⟩) ?_ ?_
   rotate_left
   ·intro w'
    first | (go_simp; with_reducible rfl) | (go_simp; (try unfold Instr.field); go_simp; (try simp only [asAgg]); go_simp; with_reducible rfl)
   rotate_left
   ·simp only [Act.put, List.setIfInBounds_toArray, List.set_cons_zero, List.set_cons_succ, i64_w, i32_w]
    rfl
   refine pure_ (i := 1) (N := some 91) (v := ?_) (a' := ?_) (Mk 10 3) rfl rfl (by kernel_rfl) (fun _ _ _ h => h) (Or.inl ⟨by rfl, ?_⟩) ?_ ?_
   rotate_left
   ·intro w'
    first | (go_simp; with_reducible rfl) | (go_simp; (try unfold Instr.field); go_simp; (try simp only [asAgg]); go_simp; with_reducible rfl)
   rotate_left
   ·simp only [Act.put, List.setIfInBounds_toArray, List.set_cons_zero, List.set_cons_succ, i64_w, i32_w]
    rfl
   refine pure_ (i := 2) (N := some 92) (v := ?_) (a' := ?_) (Mk 10 7) rfl rfl (by kernel_rfl) (fun _ _ _ h => h) (Or.inl ⟨by rfl, ?_⟩) ?_ ?_
   rotate_left
   ·intro w'
    first | (go_simp; with_reducible rfl) | (go_simp; (try unfold Instr.field); go_simp; (try simp only [asAgg]); go_simp; with_reducible rfl)
   rotate_left
   ·simp only [Act.put, List.setIfInBounds_toArray, List.set_cons_zero, List.set_cons_succ, i64_w, i32_w]
    rfl
   refine take_ (i := 3) (N := some 93) (v := ?_) (a' := ?_) (Mk 10 15) rfl rfl (by kernel_rfl) (fun _ _ _ h => h) (Or.inl ⟨by rfl, ?_⟩) hHeld ?_ ?_
   rotate_left
   ·rintro w' ⟨s0, s1⟩
    go_simp
    with_reducible rfl
   rotate_left
   ·simp only [Act.put, List.setIfInBounds_toArray, List.set_cons_zero, List.set_cons_succ, i64_w, i32_w]
    rfl
   refine pure_ (i := 4) (N := some 94) (v := ?_) (a' := ?_) (Mk 10 31) rfl rfl (by kernel_rfl) (fun _ _ _ h => h) (Or.inl ⟨by rfl, ?_⟩) ?_ ?_
   rotate_left
   ·intro w'
    first | (go_simp; with_reducible rfl) | (go_simp; (try unfold Instr.field); go_simp; (try simp only [asAgg]); go_simp; with_reducible rfl)
   rotate_left
   ·simp only [Act.put, List.setIfInBounds_toArray, List.set_cons_zero, List.set_cons_succ, i64_w, i32_w]
    rfl
   refine pure_ (i := 5) (N := some 95) (v := ?_) (a' := ?_) (Mk 10 63) rfl rfl (by kernel_rfl) (fun _ _ _ h => h) (Or.inl ⟨by rfl, ?_⟩) ?_ ?_
   rotate_left
   ·intro w'
    first | (go_simp; with_reducible rfl) | (go_simp; (try unfold Instr.field); go_simp; (try simp only [asAgg]); go_simp; with_reducible rfl)
   rotate_left
   ·simp only [Act.put, List.setIfInBounds_toArray, List.set_cons_zero, List.set_cons_succ, i64_w, i32_w]
    rfl
   refine take_ (i := 6) (N := some 96) (v := ?_) (a' := ?_) (Mk 10 127) rfl rfl (by kernel_rfl) (fun _ _ _ h => h) (Or.inl ⟨by rfl, ?_⟩) hHeld ?_ ?_
   rotate_left
   ·rintro w' ⟨s0, s1⟩
    go_simp
    with_reducible rfl
   rotate_left
   ·simp only [Act.put, List.setIfInBounds_toArray, List.set_cons_zero, List.set_cons_succ, i64_w, i32_w]
    rfl
   refine pure_ (i := 7) (N := some 97) (v := ?_) (a' := ?_) (Mk 10 255) rfl rfl (by kernel_rfl) (fun _ _ _ h => h) (Or.inl ⟨by rfl, ?_⟩) ?_ ?_
   rotate_left
   ·intro w'
    first | (go_simp; with_reducible rfl) | (go_simp; (try unfold Instr.field); go_simp; (try simp only [asAgg]); go_simp; with_reducible rfl)
   rotate_left
   ·simp only [Act.put, List.setIfInBounds_toArray, List.set_cons_zero, List.set_cons_succ, i64_w, i32_w]
    rfl
   refine pure_ (i := 8) (N := some 98) (v := ?_) (a' := ?_) (Mk 10 511) rfl rfl (by kernel_rfl) (fun _ _ _ h => h) (Or.inl ⟨by rfl, ?_⟩) ?_ ?_
   rotate_left
   ·intro w'
    first | (go_simp; with_reducible rfl) | (go_simp; (try unfold Instr.field); go_simp; (try simp only [asAgg]); go_simp; with_reducible rfl)
   rotate_left
   ·simp only [Act.put, List.setIfInBounds_toArray, List.set_cons_zero, List.set_cons_succ, i64_w, i32_w]
    rfl
   have HS5 := Aside0.mk (Dr.St.below HS2.out hd)
   obtain ⟨c, hcl, hM, hcc, hfr⟩ := Kd.R_elem HS5.out.2.2.2.1 z36 (kk : Int) (by omega) hltz
   rw [Int.toNat_natCast] at hM hcc hfr
   rw [← HY.out] at hM
   obtain rfl := k36_openM hM
   have hx_0 : wd.cell? ⟨g1, kk * 5, none⟩ = some (.int .i64 y.f0) := hcc 0 _ rfl
   have hx_1 : wd.cell? ⟨g1, kk * 5 + 1, none⟩ = some (.int .i64 y.f1) := hcc 1 _ rfl
   have hx_2 : wd.cell? ⟨g1, kk * 5 + 2, none⟩ = some (.int .i64 y.f2) := hcc 2 _ rfl
   have hx_3 : wd.cell? ⟨g1, kk * 5 + 3, none⟩ = some (.int .i64 y.f3) := hcc 3 _ rfl
   have hx_4 : wd.cell? ⟨g1, kk * 5 + 4, none⟩ = some (.bool y.f4) := hcc 4 _ rfl
   have hf_2 : wd.frozen? ⟨g1, kk * 5 + 2, none⟩ = false := hfr 2
   have hf_3 : wd.frozen? ⟨g1, kk * 5 + 3, none⟩ = false := hfr 3
   have hf_4 : wd.frozen? ⟨g1, kk * 5 + 4, none⟩ = false := hfr 4
   clear hcl hM hcc hfr
   refine last_ (i := 9) (N := none) (Mk 10 1023) rfl rfl (by kernel_rfl) (by decide) (fun K hK => ?_)
   refine skip_ (w1 := ?_) (by rfl) rfl ?_ ?_
   rotate_left
   ·go_simp
    rfl
   refine hK.out _ _ ?_
   clear hK K
   refine done_ (by kernel_rfl) ?_
   clear hHeld HS_ hx_0 hx_1 hx_2 hx_3 hx_4 hf_2 hf_3 hf_4
   go_wp2
   go_ret
   obtain ⟨hR, hG⟩ := Dr.put36 HS5.out.2.2.2.1 kk hlt 3 (.int .i64 x4) rfl ⟨y.f0, y.f1, y.f2, x4, y.f4⟩ (by omega) y HY.out rfl
   exact ⟨_, _, _, rfl, Dr.St.row HS5.out (by rw [List.length_set]) hR hG, by rw [List.length_set]; exact hl⟩
  have hy3 : (x0 == 3) = false := beq_eq_false_iff_ne.mpr hx3
  by_cases hx9 : x0 = 9
  ·have hy9 : (x0 == 9) = true := beq_iff_eq.mpr hx9
   clear hx9
   go_wp2_with (go_at_call 64; refine hcall.mono ?_; rintro e w2 ⟨rfl, hb2⟩; rw [← hw1] at hb2; have HS2 := Aside0.mk (Dr.St.below HS.out hb2); have HX2 := Aside0.mk (blk_below HX.out hb2); clear hcall hb2 HS HX; have z1 := blk_cell HS2.out.2.2.1 1; have q0 := blk_cell HX2.out 0; have q2 := blk_cell HX2.out 2; have q3 := blk_cell HX2.out 3; have q4 := blk_cell HX2.out 4)
   have HS_ : ∀ W, Below w2.heap.size w2 W → (W.cell? ⟨g, 1, none⟩ = some (.slice (some ⟨g1, 0, none⟩) l1.length c1) ∧ W.cell? ⟨w.heap.size, 4, none⟩ = some (.int .i64 x4)) := fun W hW => ⟨pw_cell_below hW (blk_cell HS2.out.2.2.1 1), pw_cell_below hW (blk_cell HX2.out 4)⟩
   have hd : Below w2.heap.size w2 w2.drew := below_drew1 (Below.refl _ _)
   refine start_ (n := 11) (S := fun w' => w'.cell? ⟨g, 1, none⟩ = some (.slice (some ⟨g1, 0, none⟩) l1.length c1) ∧ w'.cell? ⟨w.heap.size, 4, none⟩ = some (.int .i64 x4)) (ds := [10]) (Mk 11 0) (by kernel_rfl) rfl rfl (HS_ _ hd) (fun hHeld => ?_)
   generalize w2.drew = wd at hd hHeld ⊢
   refine pure_ (i := 0) (N := some 101) (v := ?_) (a' := ?_) (Mk 11 1) rfl rfl (by kernel_rfl) (fun _ _ _ h => h) (Or.inl ⟨by rfl, ?_⟩) ?_ ?_
   rotate_left
   ·intro w'
    first | (go_simp; with_reducible rfl) | (go_simp; (try unfold Instr.field); go_simp; (try simp only [asAgg]); go_simp; with_reducible rfl)
   rotate_left
   ·simp only [Act.put, List.setIfInBounds_toArray, List.set_cons_zero, List.set_cons_succ, i64_w, i32_w]
    rfl
   refine pure_ (i := 1) (N := some 102) (v := ?_) (a' := ?_) (Mk 11 3) rfl rfl (by kernel_rfl) (fun _ _ _ h => h) (Or.inl ⟨by rfl, ?_⟩) ?_ ?_
   rotate_left
   ·intro w'
    first | (go_simp; with_reducible rfl) | (go_simp; (try unfold Instr.field); go_simp; (try simp only [asAgg]); go_simp; with_reducible rfl)
   rotate_left
   ·simp only [Act.put, List.setIfInBounds_toArray, List.set_cons_zero, List.set_cons_succ, i64_w, i32_w]
    rfl
   refine pure_ (i := 2) (N := some 103) (v := ?_) (a' := ?_) (Mk 11 7) rfl rfl (by kernel_rfl) (fun _ _ _ h => h) (Or.inl ⟨by rfl, ?_⟩) ?_ ?_
   rotate_left
   ·intro w'
    first | (go_simp; with_reducible rfl) | (go_simp; (try unfold Instr.field); go_simp; (try simp only [asAgg]); go_simp; with_reducible rfl)
   rotate_left
   ·simp only [Act.put, List.setIfInBounds_toArray, List.set_cons_zero, List.set_cons_succ, i64_w, i32_w]
    rfl
   refine take_ (i := 3) (N := some 104) (v := ?_) (a' := ?_) (Mk 11 15) rfl rfl (by kernel_rfl) (fun _ _ _ h => h) (Or.inl ⟨by rfl, ?_⟩) hHeld ?_ ?_
   rotate_left
   ·rintro w' ⟨s0, s1⟩
    go_simp
    with_reducible rfl
   rotate_left
   ·simp only [Act.put, List.setIfInBounds_toArray, List.set_cons_zero, List.set_cons_succ, i64_w, i32_w]
    rfl
   refine pure_ (i := 4) (N := some 105) (v := ?_) (a' := ?_) (Mk 11 31) rfl rfl (by kernel_rfl) (fun _ _ _ h => h) (Or.inl ⟨by rfl, ?_⟩) ?_ ?_
   rotate_left
   ·intro w'
    first | (go_simp; with_reducible rfl) | (go_simp; (try unfold Instr.field); go_simp; (try simp only [asAgg]); go_simp; with_reducible rfl)
   rotate_left
   ·simp only [Act.put, List.setIfInBounds_toArray, List.set_cons_zero, List.set_cons_succ, i64_w, i32_w]
    rfl
   refine pure_ (i := 5) (N := some 106) (v := ?_) (a' := ?_) (Mk 11 63) rfl rfl (by kernel_rfl) (fun _ _ _ h => h) (Or.inl ⟨by rfl, ?_⟩) ?_ ?_
   rotate_left
   ·intro w'
    first | (go_simp; with_reducible rfl) | (go_simp; (try unfold Instr.field); go_simp; (try simp only [asAgg]); go_simp; with_reducible rfl)
   rotate_left
   ·simp only [Act.put, List.setIfInBounds_toArray, List.set_cons_zero, List.set_cons_succ, i64_w, i32_w]
    rfl
   refine take_ (i := 6) (N := some 107) (v := ?_) (a' := ?_) (Mk 11 127) rfl rfl (by kernel_rfl) (fun _ _ _ h => h) (Or.inl ⟨by rfl, ?_⟩) hHeld ?_ ?_
   rotate_left
   ·rintro w' ⟨s0, s1⟩
    go_simp
    with_reducible rfl
   rotate_left
   ·simp only [Act.put, List.setIfInBounds_toArray, List.set_cons_zero, List.set_cons_succ, i64_w, i32_w]
    rfl
   refine pure_ (i := 7) (N := some 108) (v := ?_) (a' := ?_) (Mk 11 255) rfl rfl (by kernel_rfl) (fun _ _ _ h => h) (Or.inl ⟨by rfl, ?_⟩) ?_ ?_
   rotate_left
   ·intro w'
    first | (go_simp; with_reducible rfl) | (go_simp; (try unfold Instr.field); go_simp; (try simp only [asAgg]); go_simp; with_reducible rfl)
   rotate_left
   ·simp only [Act.put, List.setIfInBounds_toArray, List.set_cons_zero, List.set_cons_succ, i64_w, i32_w]
    rfl
   refine pure_ (i := 8) (N := some 109) (v := ?_) (a' := ?_) (Mk 11 511) rfl rfl (by kernel_rfl) (fun _ _ _ h => h) (Or.inl ⟨by rfl, ?_⟩) ?_ ?_
   rotate_left
   ·intro w'
    first | (go_simp; with_reducible rfl) | (go_simp; (try unfold Instr.field); go_simp; (try simp only [asAgg]); go_simp; with_reducible rfl)
   rotate_left
   ·simp only [Act.put, List.setIfInBounds_toArray, List.set_cons_zero, List.set_cons_succ, i64_w, i32_w]
    rfl
   refine pure_ (i := 9) (N := some 110) (v := ?_) (a' := ?_) (Mk 11 1023) rfl rfl (by kernel_rfl) (fun _ _ _ h => h) (Or.inl ⟨by rfl, ?_⟩) ?_ ?_
   rotate_left
   ·intro w'
    first | (go_simp; with_reducible rfl) | (go_simp; (try unfold Instr.field); go_simp; (try simp only [asAgg]); go_simp; with_reducible rfl)
   rotate_left
   ·simp only [Act.put, List.setIfInBounds_toArray, List.set_cons_zero, List.set_cons_succ, i64_w, i32_w]
    rfl
   have HS5 := Aside0.mk (Dr.St.below HS2.out hd)
   obtain ⟨c, hcl, hM, hcc, hfr⟩ := Kd.R_elem HS5.out.2.2.2.1 z36 (kk : Int) (by omega) hltz
   rw [Int.toNat_natCast] at hM hcc hfr
   rw [← HY.out] at hM
   obtain rfl := k36_openM hM
   have hx_0 : wd.cell? ⟨g1, kk * 5, none⟩ = some (.int .i64 y.f0) := hcc 0 _ rfl
   have hx_1 : wd.cell? ⟨g1, kk * 5 + 1, none⟩ = some (.int .i64 y.f1) := hcc 1 _ rfl
   have hx_2 : wd.cell? ⟨g1, kk * 5 + 2, none⟩ = some (.int .i64 y.f2) := hcc 2 _ rfl
   have hx_3 : wd.cell? ⟨g1, kk * 5 + 3, none⟩ = some (.int .i64 y.f3) := hcc 3 _ rfl
   have hx_4 : wd.cell? ⟨g1, kk * 5 + 4, none⟩ = some (.bool y.f4) := hcc 4 _ rfl
   have hf_2 : wd.frozen? ⟨g1, kk * 5 + 2, none⟩ = false := hfr 2
   have hf_3 : wd.frozen? ⟨g1, kk * 5 + 3, none⟩ = false := hfr 3
   have hf_4 : wd.frozen? ⟨g1, kk * 5 + 4, none⟩ = false := hfr 4
   clear hcl hM hcc hfr
   refine last_ (i := 10) (N := none) (Mk 11 2047) rfl rfl (by kernel_rfl) (by decide) (fun K hK => ?_)
   refine skip_ (w1 := ?_) (by rfl) rfl ?_ ?_
   rotate_left
   ·go_simp
    rfl
   refine hK.out _ _ ?_
   clear hK K
   refine done_ (by kernel_rfl) ?_
   clear hHeld HS_ hx_0 hx_1 hx_2 hx_3 hx_4 hf_2 hf_3 hf_4
   go_wp2
   go_ret
   obtain ⟨hR, hG⟩ := Dr.put36 HS5.out.2.2.2.1 kk hlt 4 (.bool (x4 == 1)) rfl ⟨y.f0, y.f1, y.f2, y.f3, x4 == 1⟩ (by omega) y HY.out rfl
   exact ⟨_, _, _, rfl, Dr.St.row HS5.out (by rw [List.length_set]) hR hG, by rw [List.length_set]; exact hl⟩
  have hy9 : (x0 == 9) = false := beq_eq_false_iff_ne.mpr hx9
  by_cases hx4 : x0 = 4
  rotate_left
  ·have hy4 : (x0 == 4) = false := beq_eq_false_iff_ne.mpr hx4
   go_wp2_with (go_at_call 64; refine hcall.mono ?_; rintro e w2 ⟨rfl, hb2⟩; rw [← hw1] at hb2; have HS2 := Aside0.mk (Dr.St.below HS.out hb2); have HX2 := Aside0.mk (blk_below HX.out hb2); clear hcall hb2 HS HX; have z1 := blk_cell HS2.out.2.2.1 1; have q0 := blk_cell HX2.out 0; have q2 := blk_cell HX2.out 2; have q3 := blk_cell HX2.out 3; have q4 := blk_cell HX2.out 4)
   go_ret
   exact ⟨_, _, _, rfl, HS2.out, hl⟩
  have hy4 : (x0 == 4) = true := beq_iff_eq.mpr hx4
  clear hx4
  by_cases hst : y.f3 = 3
  rotate_left
  ·have hsd : (y.f3 != 3) = true := bne_iff_ne.mpr hst
   go_wp2_with (go_at_call 64; refine hcall.mono ?_; rintro e w2 ⟨rfl, hb2⟩; rw [← hw1] at hb2; have HS2 := Aside0.mk (Dr.St.below HS.out hb2); have HX2 := Aside0.mk (blk_below HX.out hb2); clear hcall hb2 HS HX; have z1 := blk_cell HS2.out.2.2.1 1; have q0 := blk_cell HX2.out 0; have q2 := blk_cell HX2.out 2; have q3 := blk_cell HX2.out 3; have q4 := blk_cell HX2.out 4; obtain ⟨c, hcl, hM, hcc, hfr⟩ := Kd.R_elem HS2.out.2.2.2.1 z36 (kk : Int) (by omega) hltz; rw [Int.toNat_natCast] at hM hcc hfr; rw [← HY.out] at hM; obtain rfl := k36_openM hM; have hx_0 : w2.cell? ⟨g1, kk * 5, none⟩ = some (.int .i64 y.f0) := hcc 0 _ rfl; have hx_1 : w2.cell? ⟨g1, kk * 5 + 1, none⟩ = some (.int .i64 y.f1) := hcc 1 _ rfl; have hx_2 : w2.cell? ⟨g1, kk * 5 + 2, none⟩ = some (.int .i64 y.f2) := hcc 2 _ rfl; have hx_3 : w2.cell? ⟨g1, kk * 5 + 3, none⟩ = some (.int .i64 y.f3) := hcc 3 _ rfl; have hx_4 : w2.cell? ⟨g1, kk * 5 + 4, none⟩ = some (.bool y.f4) := hcc 4 _ rfl; have hf_2 : w2.frozen? ⟨g1, kk * 5 + 2, none⟩ = false := hfr 2; have hf_3 : w2.frozen? ⟨g1, kk * 5 + 3, none⟩ = false := hfr 3; have hf_4 : w2.frozen? ⟨g1, kk * 5 + 4, none⟩ = false := hfr 4; clear hcl hM hcc hfr)
   go_ret
   exact ⟨_, _, _, rfl, HS2.out, hl⟩
  have hsd : (y.f3 != 3) = false := by rw [hst]; rfl
  clear hst
  go_wp2_with (go_at_call 64; refine hcall.mono ?_; rintro e w2 ⟨rfl, hb2⟩; rw [← hw1] at hb2; have HS2 := Aside0.mk (Dr.St.below HS.out hb2); have HX2 := Aside0.mk (blk_below HX.out hb2); clear hcall hb2 HS HX; have z1 := blk_cell HS2.out.2.2.1 1; have q0 := blk_cell HX2.out 0; have q2 := blk_cell HX2.out 2; have q3 := blk_cell HX2.out 3; have q4 := blk_cell HX2.out 4; obtain ⟨c, hcl, hM, hcc, hfr⟩ := Kd.R_elem HS2.out.2.2.2.1 z36 (kk : Int) (by omega) hltz; rw [Int.toNat_natCast] at hM hcc hfr; rw [← HY.out] at hM; obtain rfl := k36_openM hM; have hx_0 : w2.cell? ⟨g1, kk * 5, none⟩ = some (.int .i64 y.f0) := hcc 0 _ rfl; have hx_1 : w2.cell? ⟨g1, kk * 5 + 1, none⟩ = some (.int .i64 y.f1) := hcc 1 _ rfl; have hx_2 : w2.cell? ⟨g1, kk * 5 + 2, none⟩ = some (.int .i64 y.f2) := hcc 2 _ rfl; have hx_3 : w2.cell? ⟨g1, kk * 5 + 3, none⟩ = some (.int .i64 y.f3) := hcc 3 _ rfl; have hx_4 : w2.cell? ⟨g1, kk * 5 + 4, none⟩ = some (.bool y.f4) := hcc 4 _ rfl; have hf_2 : w2.frozen? ⟨g1, kk * 5 + 2, none⟩ = false := hfr 2; have hf_3 : w2.frozen? ⟨g1, kk * 5 + 3, none⟩ = false := hfr 3; have hf_4 : w2.frozen? ⟨g1, kk * 5 + 4, none⟩ = false := hfr 4; clear hcl hM hcc hfr)
  refine (spec_l5Serves.cf g _ _ _ A2 c2 l2 v x2 w2 HS2.out.2.2.1 (Kd.R_reads' HS2.out.2.2.2.2).2.2).mono ?_
  rintro e w3 ⟨⟨b, rfl⟩, hb3⟩
  have HS3 := Aside0.mk (Dr.St.below HS2.out hb3)
  clear hb3 z1 q0 q2 q3 q4 hx_0 hx_1 hx_2 hx_3 hx_4 hf_2 hf_3 hf_4 HS2 HX2
  by_cases hbb : b = true
  ·subst hbb
   go_wp2
   go_ret
   exact ⟨_, _, _, rfl, HS3.out, hl⟩
  obtain rfl : b = false := by simpa using hbb
  clear hbb
  go_wp2
  have hbs : w0.heap.size ≤ w3.heap.size := HS3.out.1.size
  have hC1 := (Kd.R_reads' HS3.out.2.2.2.1).2.2
  have hc1 := (Kd.R_reads' HS3.out.2.2.2.1).2.1
  have hCt := Kd.C_take (m := kk) hC1 (by omega)
  obtain ⟨i0_, hi0_, _, hsz_, _⟩ := info_parts info36
  have hcut1 := cut_to (P := Try.prog) 28 36 .i64 Try.underlying28 hi0_ (some ⟨g1, 0, none⟩) l1.length c1 (kk : Int) (by omega) (by omega) hc1
  obtain ⟨A2_, hcut2, hCd⟩ := Dl.cutdrop (P := Try.prog) k36 hC1 hc1 (kk + 1) (by omega) 28 36 Try.underlying28 hi0_ hsz_
  replace hcut2 : ∀ W : World, (Instr.slice 28 (.slice (some ⟨g1, 0, none⟩) l1.length c1) (some (.int .i64 ((kk : Int) + 1))) none none).run Try.prog W = .ok (.slice A2_ (l1.length - (kk + 1)) (c1 - (kk + 1))) W := fun W => by rw [show ((kk : Int) + 1) = ((kk + 1 : Nat) : Int) from rfl]; exact hcut2 W
  have hk1 : wrap64 ((kk : Int) + 1) = (kk : Int) + 1 := by unfold wrap64; omega
  simp only [Int.toNat_natCast] at hcut1
  have hlt_ : (l1.take kk).length = kk := by rw [List.length_take]; omega
  have hld_ : (l1.drop (kk + 1)).length = l1.length - (kk + 1) := List.length_drop
  clear hC1
  have HS_ : ∀ W, Below w3.heap.size w3 W → (W.cell? ⟨g, 1, none⟩ = some (.slice (some ⟨g1, 0, none⟩) l1.length c1)) := fun W hW => blk_cell (blk_below HS3.out.2.2.1 hW) 1
  have hd : Below w3.heap.size w3 w3.drew := below_drew1 (Below.refl _ _)
  refine start_ (n := 20) (S := fun w' => w'.cell? ⟨g, 1, none⟩ = some (.slice (some ⟨g1, 0, none⟩) l1.length c1)) (ds := [19]) (Mk 20 0) (by kernel_rfl) rfl rfl (HS_ _ hd) (fun hHeld => ?_)
  generalize w3.drew = wd at hd hHeld ⊢
  refine pure_ (i := 0) (N := some 126) (v := ?_) (a' := ?_) (Mk 20 1) rfl rfl (by kernel_rfl) (fun _ _ _ h => h) (Or.inl ⟨by rfl, ?_⟩) ?_ ?_
  rotate_left
  ·intro w'
   first | (go_simp; with_reducible rfl) | (go_simp; (try unfold Instr.field); go_simp; (try simp only [asAgg]); go_simp; with_reducible rfl)
  rotate_left
  ·simp only [Act.put, List.setIfInBounds_toArray, List.set_cons_zero, List.set_cons_succ, i64_w, i32_w]
   rfl
  refine pure_ (i := 2) (N := some 128) (v := ?_) (a' := ?_) (Mk 20 5) rfl rfl (by kernel_rfl) (fun _ _ _ h => h) (Or.inl ⟨by rfl, ?_⟩) ?_ ?_
  rotate_left
  ·intro w'
   first | (go_simp; with_reducible rfl) | (go_simp; (try unfold Instr.field); go_simp; (try simp only [asAgg]); go_simp; with_reducible rfl)
  rotate_left
  ·simp only [Act.put, List.setIfInBounds_toArray, List.set_cons_zero, List.set_cons_succ, i64_w, i32_w]
   rfl
  refine pure_ (i := 3) (N := some 129) (v := ?_) (a' := ?_) (Mk 20 13) rfl rfl (by kernel_rfl) (fun _ _ _ h => h) (Or.inl ⟨by rfl, ?_⟩) ?_ ?_
  rotate_left
  ·intro w'
   first | (go_simp; with_reducible rfl) | (go_simp; (try unfold Instr.field); go_simp; (try simp only [asAgg]); go_simp; with_reducible rfl)
  rotate_left
  ·simp only [Act.put, List.setIfInBounds_toArray, List.set_cons_zero, List.set_cons_succ, i64_w, i32_w]
   rfl
  refine pure_ (i := 4) (N := some 130) (v := ?_) (a' := ?_) (Mk 20 29) rfl rfl (by kernel_rfl) (fun _ _ _ h => h) (Or.inl ⟨by rfl, ?_⟩) ?_ ?_
  rotate_left
  ·intro w'
   first | (go_simp; with_reducible rfl) | (go_simp; (try unfold Instr.field); go_simp; (try simp only [asAgg]); go_simp; with_reducible rfl)
  rotate_left
  ·simp only [Act.put, List.setIfInBounds_toArray, List.set_cons_zero, List.set_cons_succ, i64_w, i32_w]
   rfl
  refine take_ (i := 5) (N := some 131) (v := ?_) (a' := ?_) (Mk 20 61) rfl rfl (by kernel_rfl) (fun _ _ _ h => h) (Or.inl ⟨by rfl, ?_⟩) hHeld ?_ ?_
  rotate_left
  ·intro w' s0
   go_simp
   with_reducible rfl
  rotate_left
  ·simp only [Act.put, List.setIfInBounds_toArray, List.set_cons_zero, List.set_cons_succ, i64_w, i32_w]
   rfl
  refine pure_ (i := 6) (N := some 132) (v := ?_) (a' := ?_) (Mk 20 125) rfl rfl (by kernel_rfl) (fun _ _ _ h => h) (Or.inl ⟨by rfl, ?_⟩) ?_ ?_
  rotate_left
  ·intro w'
   first | (go_simp; with_reducible rfl) | (go_simp; (try unfold Instr.field); go_simp; (try simp only [asAgg]); go_simp; with_reducible rfl)
  rotate_left
  ·simp only [Act.put, List.setIfInBounds_toArray, List.set_cons_zero, List.set_cons_succ, i64_w, i32_w]
   rfl
  refine pure_ (i := 7) (N := some 133) (v := ?_) (a' := ?_) (Mk 20 253) rfl rfl (by kernel_rfl) (fun _ _ _ h => h) (Or.inl ⟨by rfl, ?_⟩) ?_ ?_
  rotate_left
  ·intro w'
   first | (go_simp; with_reducible rfl) | (go_simp; (try unfold Instr.field); go_simp; (try simp only [asAgg]); go_simp; with_reducible rfl)
  rotate_left
  ·simp only [Act.put, List.setIfInBounds_toArray, List.set_cons_zero, List.set_cons_succ, i64_w, i32_w]
   rfl
  refine pure_ (i := 9) (N := some 135) (v := ?_) (a' := ?_) (Mk 20 765) rfl rfl (by kernel_rfl) (fun _ _ _ h => h) (Or.inl ⟨by rfl, ?_⟩) ?_ ?_
  rotate_left
  ·intro w'
   first | (go_simp; with_reducible rfl) | (go_simp; (try unfold Instr.field); go_simp; (try simp only [asAgg]); go_simp; with_reducible rfl)
  rotate_left
  ·simp only [Act.put, List.setIfInBounds_toArray, List.set_cons_zero, List.set_cons_succ, i64_w, i32_w]
   rfl
  refine pure_ (i := 10) (N := some 136) (v := ?_) (a' := ?_) (Mk 20 1789) rfl rfl (by kernel_rfl) (fun _ _ _ h => h) (Or.inl ⟨by rfl, ?_⟩) ?_ ?_
  rotate_left
  ·intro w'
   first | (go_simp; with_reducible rfl) | (go_simp; (try unfold Instr.field); go_simp; (try simp only [asAgg]); go_simp; with_reducible rfl)
  rotate_left
  ·simp only [Act.put, List.setIfInBounds_toArray, List.set_cons_zero, List.set_cons_succ, i64_w, i32_w]
   rfl
  refine pure_ (i := 11) (N := some 137) (v := ?_) (a' := ?_) (Mk 20 3837) rfl rfl (by kernel_rfl) (fun _ _ _ h => h) (Or.inl ⟨by rfl, ?_⟩) ?_ ?_
  rotate_left
  ·intro w'
   first | (go_simp; with_reducible rfl) | (go_simp; (try unfold Instr.field); go_simp; (try simp only [asAgg]); go_simp; with_reducible rfl)
  rotate_left
  ·simp only [Act.put, List.setIfInBounds_toArray, List.set_cons_zero, List.set_cons_succ, i64_w, i32_w]
   rfl
  refine take_ (i := 12) (N := some 138) (v := ?_) (a' := ?_) (Mk 20 7933) rfl rfl (by kernel_rfl) (fun _ _ _ h => h) (Or.inl ⟨by rfl, ?_⟩) hHeld ?_ ?_
  rotate_left
  ·intro w' s0
   go_simp
   with_reducible rfl
  rotate_left
  ·simp only [Act.put, List.setIfInBounds_toArray, List.set_cons_zero, List.set_cons_succ, i64_w, i32_w]
   rfl
  refine pure_ (i := 13) (N := some 139) (v := ?_) (a' := ?_) (Mk 20 16125) rfl rfl (by kernel_rfl) (fun _ _ _ h => h) (Or.inl ⟨by rfl, ?_⟩) ?_ ?_
  rotate_left
  ·intro w'
   first | (go_simp; with_reducible rfl) | (go_simp; (try unfold Instr.field); go_simp; (try simp only [asAgg]); go_simp; with_reducible rfl)
  rotate_left
  ·simp only [Act.put, List.setIfInBounds_toArray, List.set_cons_zero, List.set_cons_succ, i64_w, i32_w]
   rfl
  refine pure_ (i := 14) (N := some 140) (v := ?_) (a' := ?_) (Mk 20 32509) rfl rfl (by kernel_rfl) (fun _ _ _ h => h) (Or.inl ⟨by rfl, ?_⟩) ?_ ?_
  rotate_left
  ·intro w'
   first | (go_simp; with_reducible rfl) | (go_simp; (try unfold Instr.field); go_simp; (try simp only [asAgg]); go_simp; with_reducible rfl)
  rotate_left
  ·simp only [Act.put, List.setIfInBounds_toArray, List.set_cons_zero, List.set_cons_succ, i64_w, i32_w]
   rfl
  refine pure_ (i := 15) (N := some 141) (v := ?_) (a' := ?_) (Mk 20 65277) rfl rfl (by kernel_rfl) (fun _ _ _ h => h) (Or.inl ⟨by rfl, ?_⟩) ?_ ?_
  rotate_left
  ·intro w'
   first | (go_simp; with_reducible rfl) | (go_simp; (try unfold Instr.field); go_simp; (try simp only [asAgg]); go_simp; with_reducible rfl)
  rotate_left
  ·simp only [Act.put, List.setIfInBounds_toArray, List.set_cons_zero, List.set_cons_succ, i64_w, i32_w]
   rfl
  refine one_ (i := 1) (N := some 127) (Mk 20 65279) rfl rfl (by kernel_rfl) (by decide) (fun K hK => ?_)
  refine Kd.R_lit_step k36 _ 36 ?hg (N := 127) ?hd (xs := ([] : List (S36))) (inner := []) (ok := fun _ => True) (okp := fun _ => True) ?hr ?hp (fun _ hk => hk) trivial (Below.refl _ _) (Nat.le_refl _) (by simp) ?_; (case hd => rfl); (case hg => rfl); (case hr => first | (go_simp; done) | (go_simp; rfl)); (case hp => exact (Reps.none _ _))
  intro va wa hoA hbA hgA_ hn_
  have hbdA := Dl.bound_new (v := va) hn_ hd.size
  have hA := Kd.R_lower hoA (Nat.le_trans hbs hd.size)
  replace hd := hd.trans (hbA.mono hd.size)
  clear hoA hbA hgA_ hn_ hHeld
  refine hK.out _ _ (HS_ _ hd) (fun hHeld => ?_)
  clear hK K
  refine norm_ (a' := ?_) ?_ ?_
  rotate_left
  ·show Act.put _ (some 127) _ = _
   simp only [Act.put, List.setIfInBounds_toArray, List.set_cons_zero, List.set_cons_succ, i64_w, i32_w]
   rfl
  refine one_ (i := 8) (N := some 134) (Mk 20 65535) rfl rfl (by kernel_rfl) (by decide) (fun K hK => ?_)
  refine Kd.R_append_rows_step k36 (w0 := w3) (w0.heap.size) (by rfl) (.tmp 127) (.tmp 133) 28 36 (.agg #[(.int .i64 0), (.int .i64 0), (.int .i64 0), (.int .i64 0), (.bool false)]) 40 rfl Try.underlying28 info36 rfl (by decide) (by omega) va [] (l1.take kk) _ _ _ (fun _ => True) (fun _ => False) rfl rfl ?aO ?aR (fun _ _ h => h) (fun _ h => h.elim) ?aF ?aB ?aS ?aL ?_
  (case aR => exact Dl.C_len hlt_ (Kd.C_below hCt hd))
  (case aB => exact hd.mono hbs)
  (case aF => exact (fun _ _ => trivial))
  (case aO => exact hA)
  (case aS => exact Nat.le_trans hbs hd.size)
  (case aL => simp only [List.length_nil]; omega)
  intro vb wb hoB hbB_ hgB hatB
  have hbdB := Dl.bound_at hbdA hd.size hatB
  replace hd := hd.grown hgB hd.size hbdA
  clear hbB_ hgB hatB hHeld hA hbdA
  have hA := hoB
  have hbdA := hbdB
  clear hoB hbdB
  refine hK.out _ _ (HS_ _ hd) (fun hHeld => ?_)
  clear hK K
  refine norm_ (a' := ?_) ?_ ?_
  rotate_left
  ·show Act.put _ (some 134) _ = _
   simp only [Act.put, List.setIfInBounds_toArray, List.set_cons_zero, List.set_cons_succ, i64_w, i32_w]
   rfl
  refine one_ (i := 16) (N := some 142) (Mk 20 131071) rfl rfl (by kernel_rfl) (by decide) (fun K hK => ?_)
  refine Kd.R_append_rows_step k36 (w0 := w3) (w0.heap.size) (by rfl) (.tmp 134) (.tmp 141) 28 36 (.agg #[(.int .i64 0), (.int .i64 0), (.int .i64 0), (.int .i64 0), (.bool false)]) 40 rfl Try.underlying28 info36 rfl (by decide) (by omega) vb ([] ++ (l1.take kk)) (l1.drop (kk + 1)) _ _ _ (fun _ => True) (fun _ => False) rfl rfl ?aO ?aR (fun _ _ h => h) (fun _ h => h.elim) ?aF ?aB ?aS ?aL ?_
  (case aR => exact Dl.C_len hld_ (Kd.C_below hCd hd))
  (case aB => exact hd.mono hbs)
  (case aF => exact (fun _ _ => trivial))
  (case aO => exact hA)
  (case aS => exact Nat.le_trans hbs hd.size)
  (case aL => simp only [List.nil_append]; omega)
  intro vb wb hoB hbB_ hgB hatB
  have hbdB := Dl.bound_at hbdA hd.size hatB
  replace hd := hd.grown hgB hd.size hbdA
  clear hbB_ hgB hatB hHeld
  have hA := hoB
  have hbdA := hbdB
  clear hoB hbdB
  refine hK.out _ _ (HS_ _ hd) (fun hHeld => ?_)
  clear hK K
  refine norm_ (a' := ?_) ?_ ?_
  rotate_left
  ·show Act.put _ (some 142) _ = _
   simp only [Act.put, List.setIfInBounds_toArray, List.set_cons_zero, List.set_cons_succ, i64_w, i32_w]
   rfl
  refine pure_ (i := 17) (N := some 143) (v := ?_) (a' := ?_) (Mk 20 262143) rfl rfl (by kernel_rfl) (fun _ _ _ h => h) (Or.inl ⟨by rfl, ?_⟩) ?_ ?_
  rotate_left
  ·intro w'
   first | (go_simp; with_reducible rfl) | (go_simp; (try unfold Instr.field); go_simp; (try simp only [asAgg]); go_simp; with_reducible rfl)
  rotate_left
  ·simp only [Act.put, List.setIfInBounds_toArray, List.set_cons_zero, List.set_cons_succ, i64_w, i32_w]
   rfl
  refine pure_ (i := 18) (N := some 144) (v := ?_) (a' := ?_) (Mk 20 524287) rfl rfl (by kernel_rfl) (fun _ _ _ h => h) (Or.inl ⟨by rfl, ?_⟩) ?_ ?_
  rotate_left
  ·intro w'
   first | (go_simp; with_reducible rfl) | (go_simp; (try unfold Instr.field); go_simp; (try simp only [asAgg]); go_simp; with_reducible rfl)
  rotate_left
  ·simp only [Act.put, List.setIfInBounds_toArray, List.set_cons_zero, List.set_cons_succ, i64_w, i32_w]
   rfl
  obtain ⟨lq, hlq⟩ : ∃ l_ : List S36, l_ = [] ++ l1.take kk ++ l1.drop (kk + 1) := ⟨_, rfl⟩
  rw [← hlq] at hA
  have HLQ := Aside0.mk hlq
  clear hlq
  obtain ⟨AQ, cQ, eQ⟩ := Kd.R_slice hA
  subst eQ
  have HS8 := Aside0.mk (Dr.St.below HS3.out hd)
  have y1 := blk_cell HS8.out.2.2.1 1
  have f1 := blk_frozen HS8.out.2.2.1 1
  refine last_ (i := 19) (N := none) (Mk 20 1048575) rfl rfl (by kernel_rfl) (by decide) (fun K hK => ?_)
  refine skip_ (w1 := ?_) (by rfl) rfl ?_ ?_
  rotate_left
  ·go_simp
   rfl
  refine hK.out _ _ ?_
  clear hK K
  refine done_ (by kernel_rfl) ?_
  have HS9 := Aside0.mk (Dr.St.new1 HS8.out hA)
  clear hHeld y1 f1 hd hbdA HS_
  go_wp2
  go_ret
  refine ⟨_, _, _, rfl, HS9.out, ?_⟩
  rw [HLQ.out]
  simp only [List.length_append, List.length_nil, hlt_, hld_]
  omega
end Go.Proofs.Ytfmlhpoaipeoeaa.QFnDeltas
