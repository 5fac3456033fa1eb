-- MADE BY PROGRAM (qprint.py): walks of the functions that the law FnDrained reaches. Lean checks it.
import Derived.Test.YtfmlhpoaipeoeaaQFnDrainedx0
import Derived.Test.YtfmlhpoaipeoeaaQFnDrainedx1
import Derived.Test.YtfmlhpoaipeoeaaIx
import Derived.StillTailTactics
namespace Go.Proofs.Ytfmlhpoaipeoeaa.QFnDrained
open Go.RowKit Go.Proofs.YtfmlhpoaipeoeaaW.PrintWords Go.Proofs.YtfmlhpoaipeoeaaW.PrintLast Go.Proofs.YtfmlhpoaipeoeaaW.PrintMore
attribute [local go_sem] max2_int min2_int max_two min_two max_three min_three max_four min_four   -- for this text's walks alone
set_option linter.unusedVariables false
set_option linter.unusedSimpArgs false

/-- A state of type 31 at block g of W; what its slices lead to came in by w0. -/
def IsS31 (w0 W : World) (g : Nat) (f0 : Int) (f1 : List (S36)) (f2 : List (S64)) : Prop := ∃ A1 c1, ∃ A2 c2, W.heap[g]? = some (.cells #[.int .i64 f0, .slice A1 f1.length c1, .slice A2 f2.length c2] 31 (0, 0)) ∧ w0.heap.size ≤ g ∧ Kd.C k36 w0 A1 f1.length f1 ∧ Kd.C k64 w0 A2 f2.length f2
theorem IsS31.grown {w0 W : World} {g : Nat} {f0 : Int} {f1 : List (S36)} {f2 : List (S64)} {W1 : World} {row : Option Nat} (h : IsS31 w0 W g f0 f1 f2) (hw : W.grownBy W1 row) (hne : some g ≠ row) : IsS31 w0 W1 g f0 f1 f2 := by
  obtain ⟨A1, c1, A2, c2, hb, hg, hr1, hr2⟩ := h
  exact ⟨A1, c1, A2, c2, blk_grown hb hw hne, hg, hr1, hr2⟩
theorem IsS31.own_neN {w0 W : World} {g : Nat} {f0 : Int} {f1 : List (S36)} {f2 : List (S64)} {α : Type} {d : Kd α} {e : Nat} {base : Nat} {ok : Nat → Prop} {v : Value} {xs : List α} (h : IsS31 w0 W g f0 f1 f2) (ho : Kd.N d e W base ok v xs) (ht : e ≠ 31) : some g ≠ v.ownBlock := by
  obtain ⟨A1, c1, A2, c2, hb, hg, hr1, hr2⟩ := h
  exact Kd.N_ne ho hb ht
theorem IsS31.fresh {w0 W : World} {g : Nat} {f0 : Int} {f1 : List (S36)} {f2 : List (S64)} (h : IsS31 w0 W g f0 f1 f2) : ∀ k, W.heap.size ≤ k → k ≠ g := by
  obtain ⟨A1, c1, A2, c2, hb, hg, hr1, hr2⟩ := h
  exact Kd.freshB hb
theorem IsS31.kept {w0 W : World} {g : Nat} {f0 : Int} {f1 : List (S36)} {f2 : List (S64)} {W1 : World} {S : Nat → Prop} (h : IsS31 w0 W g f0 f1 f2) (hk : Kept W W1 S) (hne : ¬ S g) : IsS31 w0 W1 g f0 f1 f2 := by
  obtain ⟨A1, c1, A2, c2, hb, hg, hr1, hr2⟩ := h
  exact ⟨A1, c1, A2, c2, blk_kept hb hk hne, hg, hr1, hr2⟩
theorem IsS31.below {w0 W : World} {g : Nat} {f0 : Int} {f1 : List (S36)} {f2 : List (S64)} {W1 : World} (h : IsS31 w0 W g f0 f1 f2) (hw : Below W.heap.size W W1) : IsS31 w0 W1 g f0 f1 f2 := h.grown (grown_of_below hw none) (by simp)
theorem IsS31.alloc {w0 W : World} {g : Nat} {f0 : Int} {f1 : List (S36)} {f2 : List (S64)} (h : IsS31 w0 W g f0 f1 f2) (o : Obj) : IsS31 w0 (W.alloc o) g f0 f1 f2 := h.below (below_alloc (Below.refl _ _) o)
theorem IsS31.drewN {w0 W : World} {g : Nat} {f0 : Int} {f1 : List (S36)} {f2 : List (S64)} (h : IsS31 w0 W g f0 f1 f2) (m : Nat) : IsS31 w0 (W.drewN m) g f0 f1 f2 := h
theorem IsS31.drew {w0 W : World} {g : Nat} {f0 : Int} {f1 : List (S36)} {f2 : List (S64)} (h : IsS31 w0 W g f0 f1 f2) : IsS31 w0 W.drew g f0 f1 f2 := h
theorem IsS31.at_ {w0 W : World} {g : Nat} {f0 : Int} {f1 : List (S36)} {f2 : List (S64)} {w' : World} {m : Nat} (hq : W.drewN m = w') (h : IsS31 w0 W g f0 f1 f2) : IsS31 w0 w' g f0 f1 f2 := by subst hq; exact IsS31.drewN h m
theorem IsS31.apart {w0 W : World} {g : Nat} {f0 : Int} {f1 : List (S36)} {f2 : List (S64)} {α : Type} {d : Kd α} {e : Nat} {base : Nat} {ok : Nat → Prop} {v : Value} {xs : List α} (h : IsS31 w0 W g f0 f1 f2) (ho : d.R e W base ok v xs) (ht : ∀ q, q ∈ e :: d.E → q ≠ 31) : d.R e W base (fun k => ok k ∧ k ≠ g) v xs := by
  obtain ⟨A1, c1, A2, c2, hb, hg, hr1, hr2⟩ := h
  exact Kd.R_types ho hb ht
theorem IsS31.own_ne {w0 W : World} {g : Nat} {f0 : Int} {f1 : List (S36)} {f2 : List (S64)} {α : Type} {d : Kd α} {e : Nat} {base : Nat} {ok : Nat → Prop} {v : Value} {xs : List α} (h : IsS31 w0 W g f0 f1 f2) (ho : d.R e W base ok v xs) (ht : e ≠ 31) : some g ≠ v.ownBlock := by
  obtain ⟨A1, c1, A2, c2, hb, hg, hr1, hr2⟩ := h
  exact Kd.R_ne ho hb ht
theorem IsS31.apartQ {w0 W : World} {g : Nat} {f0 : Int} {f1 : List (S36)} {f2 : List (S64)} {α : Type} {d : Kd α} {e : Nat} {base : Nat} {ok : Nat → Prop} {v : Value} {xs : List α} (h : IsS31 w0 W g f0 f1 f2) (ho : d.Q e W base ok v xs) (ht : ∀ q, q ∈ e :: d.E → q ≠ 31) : d.Q e W base (fun k => ok k ∧ k ≠ g) v xs := by
  obtain ⟨A1, c1, A2, c2, hb, hg, hr1, hr2⟩ := h
  exact Kd.Q_types ho hb ht
theorem IsS31.own_neQ {w0 W : World} {g : Nat} {f0 : Int} {f1 : List (S36)} {f2 : List (S64)} {α : Type} {d : Kd α} {e : Nat} {base : Nat} {ok : Nat → Prop} {v : Value} {xs : List α} (h : IsS31 w0 W g f0 f1 f2) (ho : d.Q e W base ok v xs) (ht : e ≠ 31) : some g ≠ v.ownBlock := by
  obtain ⟨A1, c1, A2, c2, hb, hg, hr1, hr2⟩ := h
  exact Kd.Q_ne ho hb ht
theorem IsS31.apartS {w0 W : World} {g : Nat} {f0 : Int} {f1 : List (S36)} {f2 : List (S64)} {α : Type} {d : Kd α} {e : Nat} {base : Nat} {ok : Nat → Prop} {v : Value} {xs : List α} (h : IsS31 w0 W g f0 f1 f2) (ho : d.S e W base ok v xs) (ht : ∀ q, q ∈ e :: d.E → q ≠ 31) : d.S e W base (fun k => ok k ∧ k ≠ g) v xs := by
  obtain ⟨A1, c1, A2, c2, hb, hg, hr1, hr2⟩ := h
  exact Kd.S_types ho hb ht
theorem IsS31.own_neS {w0 W : World} {g : Nat} {f0 : Int} {f1 : List (S36)} {f2 : List (S64)} {α : Type} {d : Kd α} {e : Nat} {base : Nat} {ok : Nat → Prop} {v : Value} {xs : List α} (h : IsS31 w0 W g f0 f1 f2) (ho : d.S e W base ok v xs) (ht : e ≠ 31) : some g ≠ v.ownBlock := by
  obtain ⟨A1, c1, A2, c2, hb, hg, hr1, hr2⟩ := h
  exact Kd.S_ne ho hb ht
theorem IsS31.lt {w0 W : World} {g : Nat} {f0 : Int} {f1 : List (S36)} {f2 : List (S64)} (h : IsS31 w0 W g f0 f1 f2) : g < W.heap.size := by
  obtain ⟨A1, c1, A2, c2, hb, hg, hr1, hr2⟩ := h
  exact blk_lt hb
theorem IsS31.ge {w0 W : World} {g : Nat} {f0 : Int} {f1 : List (S36)} {f2 : List (S64)} (h : IsS31 w0 W g f0 f1 f2) : w0.heap.size ≤ g := by
  obtain ⟨A1, c1, A2, c2, hb, hg, hr1, hr2⟩ := h
  exact hg
theorem IsS31.ne_blk {w0 W : World} {g : Nat} {f0 : Int} {f1 : List (S36)} {f2 : List (S64)} {a : Nat} {cs : Array Value} {t : TypeId} {fr : Nat × Nat} (h : IsS31 w0 W g f0 f1 f2) (hb2 : W.heap[a]? = some (.cells cs t fr)) (ht : t ≠ 31) : g ≠ a := by
  obtain ⟨A1, c1, A2, c2, hb, hg, hr1, hr2⟩ := h
  rintro rfl
  rw [hb] at hb2
  injection hb2 with hb2
  injection hb2 with _ ht2
  exact ht ht2.symm
theorem IsS31.far {w0 W : World} {g : Nat} {f0 : Int} {f1 : List (S36)} {f2 : List (S64)} {p : Addr} (h : IsS31 w0 W g f0 f1 f2) (hne : g ≠ p.block) (u : Value) : IsS31 w0 (W.setCell p u) g f0 f1 f2 := by
  obtain ⟨A1, c1, A2, c2, hb, hg, hr1, hr2⟩ := h
  exact ⟨A1, c1, A2, c2, blk_far hb hne u, hg, hr1, hr2⟩
theorem cellS31_0 {W : World} {g : Nat} {A1 : Option Addr} {c1 : Nat} {A2 : Option Addr} {c2 : Nat} {f0 : Int} {f1 : List (S36)} {f2 : List (S64)} (h : W.heap[g]? = some (.cells #[.int .i64 f0, .slice A1 f1.length c1, .slice A2 f2.length c2] 31 (0, 0))) : W.cell? ⟨g, 0, none⟩ = some (.int .i64 f0) := (blk_cell h 0).trans rfl
theorem IsS31.set_0 {w0 W : World} {g : Nat} {f0 : Int} {f1 : List (S36)} {f2 : List (S64)} (h : IsS31 w0 W g f0 f1 f2) (x : Int) : IsS31 w0 (W.setCell ⟨g, 0, none⟩ (.int .i64 x)) g x f1 f2 := by
  obtain ⟨A1, c1, A2, c2, hb, hg, hr1, hr2⟩ := h
  exact ⟨A1, c1, A2, c2, by simpa using blk_set hb 0 (.int .i64 x), hg, hr1, hr2⟩
theorem cellS31_1 {W : World} {g : Nat} {A1 : Option Addr} {c1 : Nat} {A2 : Option Addr} {c2 : Nat} {f0 : Int} {f1 : List (S36)} {f2 : List (S64)} (h : W.heap[g]? = some (.cells #[.int .i64 f0, .slice A1 f1.length c1, .slice A2 f2.length c2] 31 (0, 0))) : W.cell? ⟨g, 1, none⟩ = some (.slice A1 f1.length c1) := (blk_cell h 1).trans rfl
theorem cellS31_2 {W : World} {g : Nat} {A1 : Option Addr} {c1 : Nat} {A2 : Option Addr} {c2 : Nat} {f0 : Int} {f1 : List (S36)} {f2 : List (S64)} (h : W.heap[g]? = some (.cells #[.int .i64 f0, .slice A1 f1.length c1, .slice A2 f2.length c2] 31 (0, 0))) : W.cell? ⟨g, 2, none⟩ = some (.slice A2 f2.length c2) := (blk_cell h 2).trans rfl
theorem IsS31.new (w0 W : World) (A1 : Option Addr) (c1 : Nat) (A2 : Option Addr) (c2 : Nat) (f0 : Int) (f1 : List (S36)) (f2 : List (S64)) (hB : Below w0.heap.size w0 W) (hr1 : Kd.C k36 w0 A1 f1.length f1) (hr2 : Kd.C k64 w0 A2 f2.length f2) : IsS31 w0 (W.alloc (.cells #[.int .i64 f0, .slice A1 f1.length c1, .slice A2 f2.length c2] 31)) W.heap.size f0 f1 f2 := ⟨A1, c1, A2, c2, by simpa using heap_alloc_new W _, hB.size, hr1, hr2⟩

/-! ### spec_l5At: function 64 -/
def spec_l5At.l0 : Nat → Int → Int → Int → List (S36) → List (S64) → Option (Int × Int)
  | 0, _, _, _, _, _ => none
  | k + 1, x1, x5, x1000, x1001, x1002 => if x5 < (x1001.length : Int) then (if 0 ≤ x5 then (if ((rd_T36 x1001 x5).f0) = x1 then (some (x5, x1000)) else (spec_l5At.l0 k x1 (wrap64 (x5 + 1)) x1000 x1001 x1002)) else (none)) else (some ((-1), x1000))
def spec_l5At.f (k : Nat) (s0_0 : Int) (s0_1 : List (S36)) (s0_2 : List (S64)) (a1 : Int) : Option (Int × Int) := spec_l5At.l0 k a1 0 s0_0 s0_1 s0_2
theorem spec_l5At.mono_l : ∀ k, (∀ y0 y1 y2 y3 y4, LeO (spec_l5At.l0 k y0 y1 y2 y3 y4) (spec_l5At.l0 (k + 1) y0 y1 y2 y3 y4))
  | 0 => fun _ _ _ _ _ r h => by simp [spec_l5At.l0] at h
  | k + 1 => by
    have ih0 := spec_l5At.mono_l k
    · intro y0 y1 y2 y3 y4
      unfold spec_l5At.l0
      repeat' first
      | (with_reducible exact ih0 _ _ _ _ _)
      | (with_reducible exact LeO.refl _)
      | (with_reducible exact LeO.none _)
      | (with_reducible refine LeO.ite ?_ ?_)
      | (with_reducible refine LeO.bind ?_ (fun _ => ?_))
      | exact ih0 _ _ _ _ _
      | exact LeO.none _
      | refine LeO.ite ?_ ?_
      | refine LeO.bind ?_ (fun _ => ?_)
theorem spec_l5At.mono : ∀ a0 a1 a2 a3 k, LeO (spec_l5At.f k a0 a1 a2 a3) (spec_l5At.f (k + 1) a0 a1 a2 a3) := by
  intro a0 a1 a2 a3 k
  have ih0 := spec_l5At.mono_l k
  unfold spec_l5At.f
  repeat' first
      | (with_reducible exact ih0 _ _ _ _ _)
      | (with_reducible exact LeO.refl _)
      | (with_reducible exact LeO.none _)
      | (with_reducible refine LeO.ite ?_ ?_)
      | (with_reducible refine LeO.bind ?_ (fun _ => ?_))
      | exact ih0 _ _ _ _ _
      | exact LeO.none _
      | refine LeO.ite ?_ ?_
      | refine LeO.bind ?_ (fun _ => ?_)
set_option maxHeartbeats 8000000 in
set_option maxRecDepth 100000 in
theorem spec_l5At.calls (k : Nat) (g : Nat) (s0_0 : Int) (s0_1 : List (S36)) (s0_2 : List (S64)) (a1 : Int) (r1 : Int) (r2 : Int) (w0 w : World) (hI : IsS31 w0 w g s0_0 s0_1 s0_2) (hB : Below w0.heap.size w0 w) (h : spec_l5At.f k s0_0 s0_1 s0_2 a1 = some (r1, r2)) :
    Calls Try.prog 64 #[.pointer (some ⟨g, 0, none⟩), .int .i64 a1] w fun e w' => e = .returned (.int .i64 r1) ∧ IsS31 w0 w' g r2 s0_1 s0_2 ∧ Below w0.heap.size w0 w' ∧ KeepBut w w' g none := by
  have HI0 := Aside0.mk hI
  have HK := Aside0.mk (KeepBut.refl w g none)
  have HL := Aside0.mk hB.size
  clear hI
  have HW0 := Aside0.mk hB.size
  have HB := Aside0.mk hB
  clear hB
  have H : (spec_l5At.l0 k a1 0 s0_0 s0_1 s0_2) = some (r1, r2) := h
  clear h
  have H' := Aside0.mk H
  clear H
  go_enter Try.func64, Try.ntmps64
  go_wp2
  go_loopg [5] k (fun kq v5 w' => ∃ (x5_1 : Int), v5 = .int .i64 x5_1 ∧ Aside0 (spec_l5At.l0 kq a1 x5_1 s0_0 s0_1 s0_2 = some (r1, r2)) ∧ Aside0 (kq ≤ k) ∧ Aside0 (IsS31 w0 w' g s0_0 s0_1 s0_2) ∧ Aside0 (KeepBut w w' g none) ∧ Aside0 (Below w0.heap.size w0 w'))
  case atStart => exact ⟨(0), (by first | rfl | (simp; done) | (simp [*]; done)), H', ⟨Nat.le_refl _⟩, ⟨by repeat (first | (with_reducible first | exact HI0.out | apply IsS31.alloc | apply IsS31.drewN | apply IsS31.drew | apply IsS31.set_0) | exact HI0.out)⟩, ⟨by repeat (first | (with_reducible first | exact HK.out | apply KeepBut.set_ | apply keep_drewN | apply keep_drew | apply keep_alloc) | exact HK.out)⟩, ⟨by repeat (first | (with_reducible first | exact HB.out | apply below_alloc | apply pw_below_drewN | apply below_drew1 | refine below_set ?_ (IsS31.ge HI0.out)) | exact HB.out)⟩⟩
  case round =>
    clear H'
    try clear p2
    obtain ⟨x5_1, rfl, HA, HK1, HI0, HK, HB⟩ := hrel
    cases gk with
    | zero => exact absurd HA.out (by simp [spec_l5At.l0])
    | succ k1 =>
      have H := HA.out
      clear HA
      simp only [spec_l5At.l0] at H
      by_cases c3 : x5_1 < (s0_1.length : Int)
      · rw [if_pos c3] at H
        have c3b0 : decide (x5_1 < (s0_1.length : Int)) = true := decide_eq_true c3
        clear c3
        by_cases c4 : 0 ≤ x5_1
        · rw [if_pos c4] at H
          have c4b0 : decide (0 ≤ x5_1) = true := decide_eq_true c4
          clear c4
          by_cases c5 : ((rd_T36 s0_1 x5_1).f0) = a1
          · rw [if_pos c5] at H
            have c5b0 : (((rd_T36 s0_1 x5_1).f0) == a1) = true := beq_iff_eq.mpr c5
            have c5b1 : (((rd_T36 s0_1 x5_1).f0) != a1) = false := bne_eq_false_iff_eq.mpr c5
            clear c5
            simp only [Option.some.injEq, Prod.mk.injEq] at H
            obtain ⟨rfl, rfl⟩ := H
            obtain ⟨ASz6_1, cSz6_1, ASz6_2, cSz6_2, HGz6, hgz6, HSz6_1, HSz6_2⟩ := HI0.out
            have hcz6_0 := cellS31_0 HGz6
            have hcz6_1 := cellS31_1 HGz6
            have hcz6_2 := cellS31_2 HGz6
            have hfz6_0 := blk_frozen HGz6 0
            clear HGz6 hgz6
            have p144 : 0 ≤ (x5_1 : Int) := of_decide_eq_true (by first | (with_reducible assumption) | assumption)
            have q144 : x5_1 < (s0_1.length : Int) := of_decide_eq_true (by first | (with_reducible assumption) | assumption)
            obtain ⟨ad144, e144, hx144_0, hx144_1, hx144_2, hx144_3, hx144_4⟩ := at_T36 HSz6_1 x5_1 p144 q144
            cases e144
            replace hx144_0 := pw_cell_below HB.out hx144_0
            replace hx144_1 := pw_cell_below HB.out hx144_1
            replace hx144_2 := pw_cell_below HB.out hx144_2
            replace hx144_3 := pw_cell_below HB.out hx144_3
            replace hx144_4 := pw_cell_below HB.out hx144_4
            replace p144 := eq_true p144
            replace q144 := eq_true q144
            go_wp2
            go_ret
            exact ⟨by first | rfl | (simp [errW_none, errW_some] <;> rfl) | (simp [*, errW_none, errW_some] <;> rfl), by repeat (first | (with_reducible first | exact HI0.out | apply IsS31.alloc | apply IsS31.drewN | apply IsS31.drew | apply IsS31.set_0) | exact HI0.out), by repeat (first | (with_reducible first | exact HB.out | apply below_alloc | apply pw_below_drewN | apply below_drew1 | refine below_set ?_ (IsS31.ge HI0.out)) | exact HB.out), by repeat (first | (with_reducible first | exact HK.out | apply KeepBut.set_ | apply keep_drewN | apply keep_drew | apply keep_alloc) | exact HK.out)⟩
          · rw [if_neg c5] at H
            have c5b0 : (((rd_T36 s0_1 x5_1).f0) == a1) = false := beq_eq_false_iff_ne.mpr c5
            have c5b1 : (((rd_T36 s0_1 x5_1).f0) != a1) = true := bne_iff_ne.mpr c5
            have H' := Aside0.mk H
            clear H
            obtain ⟨ASz7_1, cSz7_1, ASz7_2, cSz7_2, HGz7, hgz7, HSz7_1, HSz7_2⟩ := HI0.out
            have hcz7_0 := cellS31_0 HGz7
            have hcz7_1 := cellS31_1 HGz7
            have hcz7_2 := cellS31_2 HGz7
            have hfz7_0 := blk_frozen HGz7 0
            clear HGz7 hgz7
            have p144 : 0 ≤ (x5_1 : Int) := of_decide_eq_true (by first | (with_reducible assumption) | assumption)
            have q144 : x5_1 < (s0_1.length : Int) := of_decide_eq_true (by first | (with_reducible assumption) | assumption)
            obtain ⟨ad144, e144, hx144_0, hx144_1, hx144_2, hx144_3, hx144_4⟩ := at_T36 HSz7_1 x5_1 p144 q144
            cases e144
            replace hx144_0 := pw_cell_below HB.out hx144_0
            replace hx144_1 := pw_cell_below HB.out hx144_1
            replace hx144_2 := pw_cell_below HB.out hx144_2
            replace hx144_3 := pw_cell_below HB.out hx144_3
            replace hx144_4 := pw_cell_below HB.out hx144_4
            replace p144 := eq_true p144
            replace q144 := eq_true q144
            go_wp2
            go_roundg k1
            case measure => have := HK1.out; omega
            case rel => exact ⟨(wrap64 (x5_1 + 1)), (by first | rfl | (simp; done) | (simp [*]; done)), H', ⟨by have := HK1.out; omega⟩, ⟨by repeat (first | (with_reducible first | exact HI0.out | apply IsS31.alloc | apply IsS31.drewN | apply IsS31.drew | apply IsS31.set_0) | exact HI0.out)⟩, ⟨by repeat (first | (with_reducible first | exact HK.out | apply KeepBut.set_ | apply keep_drewN | apply keep_drew | apply keep_alloc) | exact HK.out)⟩, ⟨by repeat (first | (with_reducible first | exact HB.out | apply below_alloc | apply pw_below_drewN | apply below_drew1 | refine below_set ?_ (IsS31.ge HI0.out)) | exact HB.out)⟩⟩
        · rw [if_neg c4] at H
          exact absurd H (by simp)
      · rw [if_neg c3] at H
        have c3b0 : decide (x5_1 < (s0_1.length : Int)) = false := decide_eq_false c3
        clear c3
        simp only [Option.some.injEq, Prod.mk.injEq] at H
        obtain ⟨rfl, rfl⟩ := H
        obtain ⟨ASz8_1, cSz8_1, ASz8_2, cSz8_2, HGz8, hgz8, HSz8_1, HSz8_2⟩ := HI0.out
        have hcz8_0 := cellS31_0 HGz8
        have hcz8_1 := cellS31_1 HGz8
        have hcz8_2 := cellS31_2 HGz8
        have hfz8_0 := blk_frozen HGz8 0
        clear HGz8 hgz8
        go_wp2
        go_ret
        exact ⟨by first | rfl | (simp [errW_none, errW_some] <;> rfl) | (simp [*, errW_none, errW_some] <;> rfl), by repeat (first | (with_reducible first | exact HI0.out | apply IsS31.alloc | apply IsS31.drewN | apply IsS31.drew | apply IsS31.set_0) | exact HI0.out), by repeat (first | (with_reducible first | exact HB.out | apply below_alloc | apply pw_below_drewN | apply below_drew1 | refine below_set ?_ (IsS31.ge HI0.out)) | exact HB.out), by repeat (first | (with_reducible first | exact HK.out | apply KeepBut.set_ | apply keep_drewN | apply keep_drew | apply keep_alloc) | exact HK.out)⟩

/-! ### spec_l2Port: function 114 -/
def spec_l2Port.f (a0 : Int) : Option (Bool) := (spec_l1In.f a0 0 65535).bind fun t145 => (some t145)
set_option maxHeartbeats 8000000 in
set_option maxRecDepth 100000 in
theorem spec_l2Port.calls (a0 : Int) (r : Bool) (w : World) (h : spec_l2Port.f a0 = some r) :
    Calls Try.prog 114 #[.int .i64 a0] w fun e w' => e = .returned (.bool r) ∧ Drawn0 w w' := by
  have H : ((spec_l1In.f a0 0 65535).bind fun t145 => (some t145)) = some r := h
  clear h
  replace H := Option.bind_eq_some_iff.mp H
  obtain ⟨t145, A20, H⟩ := H
  replace H : (some t145) = some r := H
  have A2 := Aside0.mk A20
  clear A20
  obtain rfl := Option.some.inj H
  go_enter Try.func114, Try.ntmps114
  go_wp2_with (first | ((with_reducible refine gate_callee (f := 70) rfl ?_); refine goesL_ (some 4) rfl rfl Try.func70 (by kernel_rfl) rfl #[.int .i64 a0, .int .i64 0, .int .i64 65535] rfl (by (try simp only [List.map_toArray, List.map_cons, List.map_nil]); first | done | rfl | (simp only [List.length_drop, List.length_take]; rfl)) ?_; (with_reducible refine (spec_l1In.calls a0 0 65535 t145 _ A2.out).mono ?_); rintro e w' ⟨rfl, ⟨nd, rfl⟩⟩; refine ⟨_, rfl, ?_⟩))
  go_ret
  exact ⟨by first | rfl | (simp; done) | (simp [*]; done), by repeat (first | exact Drawn0.refl _ | apply Drawn0.step)⟩

/-! ### spec_l5Proto: function 134 -/
def spec_l5Proto.f (a0 : Int) : Option (Bool) := if a0 = 6 then (some true) else (some (a0 == 17))
set_option maxHeartbeats 8000000 in
set_option maxRecDepth 100000 in
theorem spec_l5Proto.calls (a0 : Int) (r : Bool) (w : World) (h : spec_l5Proto.f a0 = some r) :
    Calls Try.prog 134 #[.int .i64 a0] w fun e w' => e = .returned (.bool r) ∧ Drawn0 w w' := by
  have H : (if a0 = 6 then (some true) else (some (a0 == 17))) = some r := h
  clear h
  by_cases c2 : a0 = 6
  · rw [if_pos c2] at H
    have c2b0 : (a0 == 6) = true := beq_iff_eq.mpr c2
    have c2b1 : (a0 != 6) = false := bne_eq_false_iff_eq.mpr c2
    clear c2
    obtain rfl := Option.some.inj H
    go_enter Try.func134, Try.ntmps134
    go_wp2
    go_ret
    exact ⟨by first | rfl | (simp; done) | (simp [*]; done), by repeat (first | exact Drawn0.refl _ | apply Drawn0.step)⟩
  · rw [if_neg c2] at H
    have c2b0 : (a0 == 6) = false := beq_eq_false_iff_ne.mpr c2
    have c2b1 : (a0 != 6) = true := bne_iff_ne.mpr c2
    obtain rfl := Option.some.inj H
    go_enter Try.func134, Try.ntmps134
    go_wp2
    go_ret
    exact ⟨by first | rfl | (simp; done) | (simp [*]; done), by repeat (first | exact Drawn0.refl _ | apply Drawn0.step)⟩

/-! ### spec_l5Behind: function 135 -/
def spec_l5Behind.f (a0_0 : Int) (a0_1 : Int) (a0_2 : Int) (l0_3 : List Int) (a1_0 : Int) (a1_1 : Int) (a1_2 : Int) (l1_3 : List Int) : Option (Bool) := if a0_0 = a1_0 then (if a0_1 = a1_1 then (some (decide (a0_2 < a1_2))) else (some (decide (a0_1 < a1_1)))) else (some (decide (a0_0 < a1_0)))
set_option maxHeartbeats 8000000 in
set_option maxRecDepth 100000 in
theorem spec_l5Behind.calls (a0_0 : Int) (a0_1 : Int) (a0_2 : Int) (A0_3 : Option Addr) (c0_3 : Nat) (l0_3 : List Int) (a1_0 : Int) (a1_1 : Int) (a1_2 : Int) (A1_3 : Option Addr) (c1_3 : Nat) (l1_3 : List Int) (r : Bool) (w : World) (hr0_3 : Kd.C (Kd.int .i64) w A0_3 l0_3.length l0_3) (hc0_3 : l0_3.length ≤ c0_3) (hr1_3 : Kd.C (Kd.int .i64) w A1_3 l1_3.length l1_3) (hc1_3 : l1_3.length ≤ c1_3) (h : spec_l5Behind.f a0_0 a0_1 a0_2 l0_3 a1_0 a1_1 a1_2 l1_3 = some r) :
    Calls Try.prog 135 #[.agg #[.int .i64 a0_0, .int .i64 a0_1, .int .i64 a0_2, .slice A0_3 l0_3.length c0_3], .agg #[.int .i64 a1_0, .int .i64 a1_1, .int .i64 a1_2, .slice A1_3 l1_3.length c1_3]] w fun e w' => e = .returned (.bool r) ∧ Below w.heap.size w w' := by
  have hu64 := Try.underlying64
  have HR0_3 := Aside0.mk hr0_3
  have HC0_3 := Aside0.mk hc0_3
  clear hr0_3 hc0_3
  have HR1_3 := Aside0.mk hr1_3
  have HC1_3 := Aside0.mk hc1_3
  clear hr1_3 hc1_3
  have HB := Aside0.mk (Below.refl w.heap.size w)
  have H : (if a0_0 = a1_0 then (if a0_1 = a1_1 then (some (decide (a0_2 < a1_2))) else (some (decide (a0_1 < a1_1)))) else (some (decide (a0_0 < a1_0)))) = some r := h
  clear h
  by_cases c3 : a0_0 = a1_0
  · rw [if_pos c3] at H
    have c3b0 : (a0_0 == a1_0) = true := beq_iff_eq.mpr c3
    have c3b1 : (a0_0 != a1_0) = false := bne_eq_false_iff_eq.mpr c3
    clear c3
    by_cases c4 : a0_1 = a1_1
    · rw [if_pos c4] at H
      have c4b0 : (a0_1 == a1_1) = true := beq_iff_eq.mpr c4
      have c4b1 : (a0_1 != a1_1) = false := bne_eq_false_iff_eq.mpr c4
      clear c4
      obtain rfl := Option.some.inj H
      go_enter Try.func135, Try.ntmps135
      go_wp2_with (first | ((with_reducible refine gate_dst (N := 2) rfl ?_); refine box_event ?hg (N := 2) ?hd (cs := #[.int .i64 a0_0, .int .i64 a0_1, .int .i64 a0_2, .slice A0_3 l0_3.length c0_3]) (t := 64) ?hr ?_; (case hd => rfl); (case hg => rfl); (case hr => first | (go_simp; done) | (go_simp; rfl)); intro gb146 hg w5 hbox hb; have n0_ := Aside0.mk (below_step (by repeat (first | (with_reducible first | exact HB.out | apply below_alloc | apply pw_below_drewN | apply below_drew1) | exact HB.out)) hb); have n1_ := Aside0.mk (hbox); have n2_ := Aside0.mk ((by rw [hg]; exact (below_size (by repeat (first | (with_reducible first | exact HB.out | apply below_alloc | apply pw_below_drewN | apply below_drew1) | exact HB.out))) : w.heap.size ≤ gb146)); have n3_ := Aside0.mk ((by rw [hg]; exact (below_size (by repeat (first | (with_reducible first | exact HB.out | apply below_alloc | apply pw_below_drewN | apply below_drew1) | exact HB.out))) : w.heap.size ≤ gb146)); clear HB; have HB := n0_; have BK146 := n1_; have GW146 := n2_; have GE146 := n3_; clear n0_ n1_ n2_ n3_; clear hb hbox hg) | ((with_reducible refine gate_dst (N := 3) rfl ?_); refine box_event ?hg (N := 3) ?hd (cs := #[.int .i64 a1_0, .int .i64 a1_1, .int .i64 a1_2, .slice A1_3 l1_3.length c1_3]) (t := 64) ?hr ?_; (case hd => rfl); (case hg => rfl); (case hr => first | (go_simp; done) | (go_simp; rfl)); intro gb147 hg w6 hbox hb; have n0_ := Aside0.mk (blk_below (g := gb146) (o := .cells #[.int .i64 a0_0, .int .i64 a0_1, .int .i64 a0_2, .slice A0_3 l0_3.length c0_3] 64 (0, 0)) (by (with_reducible repeat (first | refine blk_drewN ?_ _ | refine blk_drew ?_ | refine blk_alloc ?_ _)); exact BK146.out) hb); have n1_ := Aside0.mk (below_step (by repeat (first | (with_reducible first | exact HB.out | apply below_alloc | apply pw_below_drewN | apply below_drew1 | refine below_set ?_ GE146.out) | exact HB.out)) hb); have n2_ := Aside0.mk (hbox); have n3_ := Aside0.mk ((by rw [hg]; exact (below_size (by repeat (first | (with_reducible first | exact HB.out | apply below_alloc | apply pw_below_drewN | apply below_drew1 | refine below_set ?_ GE146.out) | exact HB.out))) : w.heap.size ≤ gb147)); have n4_ := Aside0.mk ((by rw [hg]; exact (below_size (by repeat (first | (with_reducible first | exact HB.out | apply below_alloc | apply pw_below_drewN | apply below_drew1 | refine below_set ?_ GE146.out) | exact HB.out))) : w.heap.size ≤ gb147)); have n5_ := Aside0.mk ((by rw [hg]; exact Nat.ne_of_lt (blk_lt (g := gb146) (o := .cells #[.int .i64 a0_0, .int .i64 a0_1, .int .i64 a0_2, .slice A0_3 l0_3.length c0_3] 64 (0, 0)) (by (with_reducible repeat (first | refine blk_drewN ?_ _ | refine blk_drew ?_ | refine blk_alloc ?_ _)); exact BK146.out)) : gb146 ≠ gb147)); have n6_ := Aside0.mk ((by rw [hg]; exact Nat.ne_of_gt (blk_lt (g := gb146) (o := .cells #[.int .i64 a0_0, .int .i64 a0_1, .int .i64 a0_2, .slice A0_3 l0_3.length c0_3] 64 (0, 0)) (by (with_reducible repeat (first | refine blk_drewN ?_ _ | refine blk_drew ?_ | refine blk_alloc ?_ _)); exact BK146.out)) : gb147 ≠ gb146)); clear BK146; clear HB; have BK146 := n0_; have HB := n1_; have BK147 := n2_; have GW147 := n3_; have GE147 := n4_; have NB146_147 := n5_; have NB147_146 := n6_; clear n0_ n1_ n2_ n3_ n4_ n5_ n6_; clear hb hbox hg; have hnb7 := NB146_147.out; have hnc7 := NB147_146.out; have hcz8_0 : w6.cell? ⟨gb146, 0, none⟩ = some (.int .i64 a0_0) := (blk_cell BK146.out 0).trans rfl; have hcz8_1 : w6.cell? ⟨gb146, 1, none⟩ = some (.int .i64 a0_1) := (blk_cell BK146.out 1).trans rfl; have hcz8_2 : w6.cell? ⟨gb146, 2, none⟩ = some (.int .i64 a0_2) := (blk_cell BK146.out 2).trans rfl; have hcz8_3 : w6.cell? ⟨gb146, 3, none⟩ = some (.slice A0_3 l0_3.length c0_3) := (blk_cell BK146.out 3).trans rfl; have hfz8_0 := blk_frozen BK146.out 0; have hfz8_1 := blk_frozen BK146.out 1; have hfz8_2 := blk_frozen BK146.out 2; have hfz8_3 := blk_frozen BK146.out 3; have hcz9_0 : w6.cell? ⟨gb147, 0, none⟩ = some (.int .i64 a1_0) := (blk_cell BK147.out 0).trans rfl; have hcz9_1 : w6.cell? ⟨gb147, 1, none⟩ = some (.int .i64 a1_1) := (blk_cell BK147.out 1).trans rfl; have hcz9_2 : w6.cell? ⟨gb147, 2, none⟩ = some (.int .i64 a1_2) := (blk_cell BK147.out 2).trans rfl; have hcz9_3 : w6.cell? ⟨gb147, 3, none⟩ = some (.slice A1_3 l1_3.length c1_3) := (blk_cell BK147.out 3).trans rfl; have hfz9_0 := blk_frozen BK147.out 0; have hfz9_1 := blk_frozen BK147.out 1; have hfz9_2 := blk_frozen BK147.out 2; have hfz9_3 := blk_frozen BK147.out 3))
      go_ret
      exact ⟨by first | rfl | (simp [errW_none, errW_some] <;> rfl) | (simp [*, errW_none, errW_some] <;> rfl), by repeat (first | (with_reducible first | exact HB.out | apply below_alloc | apply pw_below_drewN | apply below_drew1 | refine below_set ?_ GE146.out | refine below_set ?_ GE147.out) | exact HB.out)⟩
    · rw [if_neg c4] at H
      have c4b0 : (a0_1 == a1_1) = false := beq_eq_false_iff_ne.mpr c4
      have c4b1 : (a0_1 != a1_1) = true := bne_iff_ne.mpr c4
      obtain rfl := Option.some.inj H
      go_enter Try.func135, Try.ntmps135
      go_wp2_with (first | ((with_reducible refine gate_dst (N := 2) rfl ?_); refine box_event ?hg (N := 2) ?hd (cs := #[.int .i64 a0_0, .int .i64 a0_1, .int .i64 a0_2, .slice A0_3 l0_3.length c0_3]) (t := 64) ?hr ?_; (case hd => rfl); (case hg => rfl); (case hr => first | (go_simp; done) | (go_simp; rfl)); intro gb146 hg w10 hbox hb; have n0_ := Aside0.mk (below_step (by repeat (first | (with_reducible first | exact HB.out | apply below_alloc | apply pw_below_drewN | apply below_drew1) | exact HB.out)) hb); have n1_ := Aside0.mk (hbox); have n2_ := Aside0.mk ((by rw [hg]; exact (below_size (by repeat (first | (with_reducible first | exact HB.out | apply below_alloc | apply pw_below_drewN | apply below_drew1) | exact HB.out))) : w.heap.size ≤ gb146)); have n3_ := Aside0.mk ((by rw [hg]; exact (below_size (by repeat (first | (with_reducible first | exact HB.out | apply below_alloc | apply pw_below_drewN | apply below_drew1) | exact HB.out))) : w.heap.size ≤ gb146)); clear HB; have HB := n0_; have BK146 := n1_; have GW146 := n2_; have GE146 := n3_; clear n0_ n1_ n2_ n3_; clear hb hbox hg) | ((with_reducible refine gate_dst (N := 3) rfl ?_); refine box_event ?hg (N := 3) ?hd (cs := #[.int .i64 a1_0, .int .i64 a1_1, .int .i64 a1_2, .slice A1_3 l1_3.length c1_3]) (t := 64) ?hr ?_; (case hd => rfl); (case hg => rfl); (case hr => first | (go_simp; done) | (go_simp; rfl)); intro gb147 hg w11 hbox hb; have n0_ := Aside0.mk (blk_below (g := gb146) (o := .cells #[.int .i64 a0_0, .int .i64 a0_1, .int .i64 a0_2, .slice A0_3 l0_3.length c0_3] 64 (0, 0)) (by (with_reducible repeat (first | refine blk_drewN ?_ _ | refine blk_drew ?_ | refine blk_alloc ?_ _)); exact BK146.out) hb); have n1_ := Aside0.mk (below_step (by repeat (first | (with_reducible first | exact HB.out | apply below_alloc | apply pw_below_drewN | apply below_drew1 | refine below_set ?_ GE146.out) | exact HB.out)) hb); have n2_ := Aside0.mk (hbox); have n3_ := Aside0.mk ((by rw [hg]; exact (below_size (by repeat (first | (with_reducible first | exact HB.out | apply below_alloc | apply pw_below_drewN | apply below_drew1 | refine below_set ?_ GE146.out) | exact HB.out))) : w.heap.size ≤ gb147)); have n4_ := Aside0.mk ((by rw [hg]; exact (below_size (by repeat (first | (with_reducible first | exact HB.out | apply below_alloc | apply pw_below_drewN | apply below_drew1 | refine below_set ?_ GE146.out) | exact HB.out))) : w.heap.size ≤ gb147)); have n5_ := Aside0.mk ((by rw [hg]; exact Nat.ne_of_lt (blk_lt (g := gb146) (o := .cells #[.int .i64 a0_0, .int .i64 a0_1, .int .i64 a0_2, .slice A0_3 l0_3.length c0_3] 64 (0, 0)) (by (with_reducible repeat (first | refine blk_drewN ?_ _ | refine blk_drew ?_ | refine blk_alloc ?_ _)); exact BK146.out)) : gb146 ≠ gb147)); have n6_ := Aside0.mk ((by rw [hg]; exact Nat.ne_of_gt (blk_lt (g := gb146) (o := .cells #[.int .i64 a0_0, .int .i64 a0_1, .int .i64 a0_2, .slice A0_3 l0_3.length c0_3] 64 (0, 0)) (by (with_reducible repeat (first | refine blk_drewN ?_ _ | refine blk_drew ?_ | refine blk_alloc ?_ _)); exact BK146.out)) : gb147 ≠ gb146)); clear BK146; clear HB; have BK146 := n0_; have HB := n1_; have BK147 := n2_; have GW147 := n3_; have GE147 := n4_; have NB146_147 := n5_; have NB147_146 := n6_; clear n0_ n1_ n2_ n3_ n4_ n5_ n6_; clear hb hbox hg; have hnb12 := NB146_147.out; have hnc12 := NB147_146.out; have hcz13_0 : w11.cell? ⟨gb146, 0, none⟩ = some (.int .i64 a0_0) := (blk_cell BK146.out 0).trans rfl; have hcz13_1 : w11.cell? ⟨gb146, 1, none⟩ = some (.int .i64 a0_1) := (blk_cell BK146.out 1).trans rfl; have hcz13_2 : w11.cell? ⟨gb146, 2, none⟩ = some (.int .i64 a0_2) := (blk_cell BK146.out 2).trans rfl; have hcz13_3 : w11.cell? ⟨gb146, 3, none⟩ = some (.slice A0_3 l0_3.length c0_3) := (blk_cell BK146.out 3).trans rfl; have hfz13_0 := blk_frozen BK146.out 0; have hfz13_1 := blk_frozen BK146.out 1; have hfz13_2 := blk_frozen BK146.out 2; have hfz13_3 := blk_frozen BK146.out 3; have hcz14_0 : w11.cell? ⟨gb147, 0, none⟩ = some (.int .i64 a1_0) := (blk_cell BK147.out 0).trans rfl; have hcz14_1 : w11.cell? ⟨gb147, 1, none⟩ = some (.int .i64 a1_1) := (blk_cell BK147.out 1).trans rfl; have hcz14_2 : w11.cell? ⟨gb147, 2, none⟩ = some (.int .i64 a1_2) := (blk_cell BK147.out 2).trans rfl; have hcz14_3 : w11.cell? ⟨gb147, 3, none⟩ = some (.slice A1_3 l1_3.length c1_3) := (blk_cell BK147.out 3).trans rfl; have hfz14_0 := blk_frozen BK147.out 0; have hfz14_1 := blk_frozen BK147.out 1; have hfz14_2 := blk_frozen BK147.out 2; have hfz14_3 := blk_frozen BK147.out 3))
      go_ret
      exact ⟨by first | rfl | (simp [errW_none, errW_some] <;> rfl) | (simp [*, errW_none, errW_some] <;> rfl), by repeat (first | (with_reducible first | exact HB.out | apply below_alloc | apply pw_below_drewN | apply below_drew1 | refine below_set ?_ GE146.out | refine below_set ?_ GE147.out) | exact HB.out)⟩
  · rw [if_neg c3] at H
    have c3b0 : (a0_0 == a1_0) = false := beq_eq_false_iff_ne.mpr c3
    have c3b1 : (a0_0 != a1_0) = true := bne_iff_ne.mpr c3
    obtain rfl := Option.some.inj H
    go_enter Try.func135, Try.ntmps135
    go_wp2_with (first | ((with_reducible refine gate_dst (N := 2) rfl ?_); refine box_event ?hg (N := 2) ?hd (cs := #[.int .i64 a0_0, .int .i64 a0_1, .int .i64 a0_2, .slice A0_3 l0_3.length c0_3]) (t := 64) ?hr ?_; (case hd => rfl); (case hg => rfl); (case hr => first | (go_simp; done) | (go_simp; rfl)); intro gb146 hg w15 hbox hb; have n0_ := Aside0.mk (below_step (by repeat (first | (with_reducible first | exact HB.out | apply below_alloc | apply pw_below_drewN | apply below_drew1) | exact HB.out)) hb); have n1_ := Aside0.mk (hbox); have n2_ := Aside0.mk ((by rw [hg]; exact (below_size (by repeat (first | (with_reducible first | exact HB.out | apply below_alloc | apply pw_below_drewN | apply below_drew1) | exact HB.out))) : w.heap.size ≤ gb146)); have n3_ := Aside0.mk ((by rw [hg]; exact (below_size (by repeat (first | (with_reducible first | exact HB.out | apply below_alloc | apply pw_below_drewN | apply below_drew1) | exact HB.out))) : w.heap.size ≤ gb146)); clear HB; have HB := n0_; have BK146 := n1_; have GW146 := n2_; have GE146 := n3_; clear n0_ n1_ n2_ n3_; clear hb hbox hg) | ((with_reducible refine gate_dst (N := 3) rfl ?_); refine box_event ?hg (N := 3) ?hd (cs := #[.int .i64 a1_0, .int .i64 a1_1, .int .i64 a1_2, .slice A1_3 l1_3.length c1_3]) (t := 64) ?hr ?_; (case hd => rfl); (case hg => rfl); (case hr => first | (go_simp; done) | (go_simp; rfl)); intro gb147 hg w16 hbox hb; have n0_ := Aside0.mk (blk_below (g := gb146) (o := .cells #[.int .i64 a0_0, .int .i64 a0_1, .int .i64 a0_2, .slice A0_3 l0_3.length c0_3] 64 (0, 0)) (by (with_reducible repeat (first | refine blk_drewN ?_ _ | refine blk_drew ?_ | refine blk_alloc ?_ _)); exact BK146.out) hb); have n1_ := Aside0.mk (below_step (by repeat (first | (with_reducible first | exact HB.out | apply below_alloc | apply pw_below_drewN | apply below_drew1 | refine below_set ?_ GE146.out) | exact HB.out)) hb); have n2_ := Aside0.mk (hbox); have n3_ := Aside0.mk ((by rw [hg]; exact (below_size (by repeat (first | (with_reducible first | exact HB.out | apply below_alloc | apply pw_below_drewN | apply below_drew1 | refine below_set ?_ GE146.out) | exact HB.out))) : w.heap.size ≤ gb147)); have n4_ := Aside0.mk ((by rw [hg]; exact (below_size (by repeat (first | (with_reducible first | exact HB.out | apply below_alloc | apply pw_below_drewN | apply below_drew1 | refine below_set ?_ GE146.out) | exact HB.out))) : w.heap.size ≤ gb147)); have n5_ := Aside0.mk ((by rw [hg]; exact Nat.ne_of_lt (blk_lt (g := gb146) (o := .cells #[.int .i64 a0_0, .int .i64 a0_1, .int .i64 a0_2, .slice A0_3 l0_3.length c0_3] 64 (0, 0)) (by (with_reducible repeat (first | refine blk_drewN ?_ _ | refine blk_drew ?_ | refine blk_alloc ?_ _)); exact BK146.out)) : gb146 ≠ gb147)); have n6_ := Aside0.mk ((by rw [hg]; exact Nat.ne_of_gt (blk_lt (g := gb146) (o := .cells #[.int .i64 a0_0, .int .i64 a0_1, .int .i64 a0_2, .slice A0_3 l0_3.length c0_3] 64 (0, 0)) (by (with_reducible repeat (first | refine blk_drewN ?_ _ | refine blk_drew ?_ | refine blk_alloc ?_ _)); exact BK146.out)) : gb147 ≠ gb146)); clear BK146; clear HB; have BK146 := n0_; have HB := n1_; have BK147 := n2_; have GW147 := n3_; have GE147 := n4_; have NB146_147 := n5_; have NB147_146 := n6_; clear n0_ n1_ n2_ n3_ n4_ n5_ n6_; clear hb hbox hg; have hnb17 := NB146_147.out; have hnc17 := NB147_146.out; have hcz18_0 : w16.cell? ⟨gb146, 0, none⟩ = some (.int .i64 a0_0) := (blk_cell BK146.out 0).trans rfl; have hcz18_1 : w16.cell? ⟨gb146, 1, none⟩ = some (.int .i64 a0_1) := (blk_cell BK146.out 1).trans rfl; have hcz18_2 : w16.cell? ⟨gb146, 2, none⟩ = some (.int .i64 a0_2) := (blk_cell BK146.out 2).trans rfl; have hcz18_3 : w16.cell? ⟨gb146, 3, none⟩ = some (.slice A0_3 l0_3.length c0_3) := (blk_cell BK146.out 3).trans rfl; have hfz18_0 := blk_frozen BK146.out 0; have hfz18_1 := blk_frozen BK146.out 1; have hfz18_2 := blk_frozen BK146.out 2; have hfz18_3 := blk_frozen BK146.out 3; have hcz19_0 : w16.cell? ⟨gb147, 0, none⟩ = some (.int .i64 a1_0) := (blk_cell BK147.out 0).trans rfl; have hcz19_1 : w16.cell? ⟨gb147, 1, none⟩ = some (.int .i64 a1_1) := (blk_cell BK147.out 1).trans rfl; have hcz19_2 : w16.cell? ⟨gb147, 2, none⟩ = some (.int .i64 a1_2) := (blk_cell BK147.out 2).trans rfl; have hcz19_3 : w16.cell? ⟨gb147, 3, none⟩ = some (.slice A1_3 l1_3.length c1_3) := (blk_cell BK147.out 3).trans rfl; have hfz19_0 := blk_frozen BK147.out 0; have hfz19_1 := blk_frozen BK147.out 1; have hfz19_2 := blk_frozen BK147.out 2; have hfz19_3 := blk_frozen BK147.out 3))
    go_ret
    exact ⟨by first | rfl | (simp [errW_none, errW_some] <;> rfl) | (simp [*, errW_none, errW_some] <;> rfl), by repeat (first | (with_reducible first | exact HB.out | apply below_alloc | apply pw_below_drewN | apply below_drew1 | refine below_set ?_ GE146.out | refine below_set ?_ GE147.out) | exact HB.out)⟩

-- NOT PRINTED: function 104 (spec_l5Vip)

-- NOT PRINTED: function 50 (spec_l5Fault)

-- NOT PRINTED: function 71 (spec_l5Shares)

/-! ### spec_SharesFor: function 24 -/
/-! #### the configuration's faults, in plain words -/
def Cf.inB (a lo hi : Int) : Bool := decide (a ≥ lo) && decide (a ≤ hi)
def Cf.prB (a : Int) : Bool := decide (a = 6) || decide (a = 17)
def Cf.isb (x : S36) : Bool := Cf.inB x.f0 1 999 && Cf.inB x.f1 0 4294967295 && Cf.inB x.f2 0 9 && Cf.inB x.f3 1 3
def Cf.beh (x y : S64) : Bool := if x.f0 = y.f0 then (if x.f1 = y.f1 then decide (x.f2 < y.f2) else decide (x.f1 < y.f1)) else decide (x.f0 < y.f0)
def Cf.named (n : Int) (b : S36) : Bool := b.f0 == n
def Cf.place (l : List S36) (n : Int) : Int := Go.Proofs.Ytfmlhpoaipeoeaa.Ix.ixFrom (Cf.named n) l 0
def Cf.gone (l : List S36) (n : Int) : Bool := decide (Cf.place l n < 0)
def Cf.falls (l : List Int) (j : Nat) : Bool := decide (1 ≤ j) && decide (l.getD j 0 ≤ l.getD (j - 1) 0)
def Cf.vok (x : S64) : Bool := Cf.inB x.f0 0 4294967295 && Cf.inB x.f1 0 65535 && Cf.prB x.f2
def Cf.vcode (l1 : List S36) (l2 : List S64) (i : Nat) : Int :=
  if Cf.vok (l2.getD i z64) = false then 3 else if (decide (0 < i) && !Cf.beh (l2.getD (i - 1) z64) (l2.getD i z64)) = true then 1 else if (l2.getD i z64).f3.any (Cf.gone l1) = true then 4
  else if (List.range (l2.getD i z64).f3.length).any (Cf.falls (l2.getD i z64).f3) = true then 1 else 0
def Cf.bcode (l1 : List S36) (i : Nat) : Int :=
  if Cf.isb (l1.getD i z36) = false then 3 else if (decide (0 < i) && decide ((l1.getD i z36).f0 ≤ (l1.getD (i - 1) z36).f0)) = true then 1 else 0
def Cf.first (g : Nat → Int) : Nat → Nat → Int
  | _, 0 => 0
  | i, m + 1 => if g i = 0 then Cf.first g (i + 1) m else g i
def Cf.code (v : Int) (l1 : List S36) (l2 : List S64) : Int :=
  if Cf.inB v 0 1000000 = false then 3 else if (decide ((l1.length : Int) > 8) || decide ((l2.length : Int) > 4)) = true then 2
  else if Cf.first (Cf.bcode l1) 0 l1.length = 0 then Cf.first (Cf.vcode l1 l2) 0 l2.length else Cf.first (Cf.bcode l1) 0 l1.length
theorem Cf.first_hit (g : Nat → Int) : ∀ (m i k : Nat), k < m → g (i + k) ≠ 0 → (∀ j, j < k → g (i + j) = 0) → Cf.first g i m = g (i + k)
  | 0, _, _, h, _, _ => absurd h (Nat.not_lt_zero _)
  | m + 1, i, 0, _, h, _ => by simp only [Cf.first]; rw [if_neg (by simpa using h)]; rfl
  | m + 1, i, k + 1, hk, h, hn => by
    have e : i + (k + 1) = (i + 1) + k := by omega
    simp only [Cf.first]; rw [if_pos (by have := hn 0 (by omega); simpa using this), e]
    exact Cf.first_hit g m (i + 1) k (by omega) (by rw [← e]; exact h) (fun j hj => by have := hn (j + 1) (by omega); rwa [show i + (j + 1) = i + 1 + j by omega] at this)
theorem Cf.first_miss (g : Nat → Int) : ∀ (m i : Nat), (∀ j, j < m → g (i + j) = 0) → Cf.first g i m = 0
  | 0, _, _ => rfl
  | m + 1, i, hn => by
    simp only [Cf.first]; rw [if_pos (by have := hn 0 (by omega); simpa using this)]
    exact Cf.first_miss g m (i + 1) (fun j hj => by have := hn (j + 1) (by omega); rwa [show i + (j + 1) = i + 1 + j by omega] at this)
theorem Cf.any_hit {α : Type} (p : α → Bool) (d : α) (l : List α) (k : Nat) (hk : k < l.length) (h : p (l.getD k d) = true) : l.any p = true := by
  rw [List.any_eq_true]
  refine ⟨l.getD k d, ?_, h⟩
  have e : l.getD k d = l[k] := by simp [List.getD, hk]
  rw [e]; exact List.getElem_mem hk
theorem Cf.any_miss {α : Type} (p : α → Bool) (d : α) (l : List α) (h : ∀ j, j < l.length → p (l.getD j d) = false) : l.any p = false := by
  rw [List.any_eq_false]
  intro x hx
  obtain ⟨j, hj, rfl⟩ := List.mem_iff_getElem.1 hx
  have := h j hj
  have e : l.getD j d = l[j] := by simp [List.getD, hj]
  rw [e] at this
  simp [this]
theorem Cf.range_hit (p : Nat → Bool) (n k : Nat) (hk : k < n) (h : p k = true) : (List.range n).any p = true := List.any_eq_true.2 ⟨k, List.mem_range.2 hk, h⟩
theorem Cf.range_miss (p : Nat → Bool) (n : Nat) (h : ∀ j, j < n → p j = false) : (List.range n).any p = false := List.any_eq_false.2 fun x hx => by simp [h x (List.mem_range.1 hx)]
theorem Cf.l1In_is (a lo hi : Int) : spec_l1In.f a lo hi = some (Cf.inB a lo hi) := by
  unfold spec_l1In.f Cf.inB
  by_cases h : a ≥ lo
  · rw [if_pos h]; simp [h]
  · rw [if_neg h]; simp [h]
theorem Cf.version_is (a : Int) : spec_l5Version.f a = some (Cf.inB a 0 1000000) := by unfold spec_l5Version.f; rw [Cf.l1In_is]; rfl
theorem Cf.addr_is (a : Int) : spec_l2Address.f a = some (Cf.inB a 0 4294967295) := by unfold spec_l2Address.f; rw [Cf.l1In_is]; rfl
theorem Cf.port_is (a : Int) : spec_l2Port.f a = some (Cf.inB a 0 65535) := by unfold spec_l2Port.f; rw [Cf.l1In_is]; rfl
theorem Cf.proto_is (a : Int) : spec_l5Proto.f a = some (Cf.prB a) := by
  unfold spec_l5Proto.f Cf.prB
  by_cases h : a = 6
  · rw [if_pos h]; simp [h]
  · rw [if_neg h]; simp [h]; rfl
theorem Cf.backend_is (x : S36) : spec_l5Backend.f x.f0 x.f1 x.f2 x.f3 x.f4 = some (Cf.isb x) := by
  unfold spec_l5Backend.f spec_l3Name.f Cf.isb
  simp only [Cf.addr_is, Cf.l1In_is, Option.bind_some]
  cases Cf.inB x.f0 1 999 <;> cases Cf.inB x.f1 0 4294967295 <;> cases Cf.inB x.f2 0 9 <;> rfl
theorem Cf.behind_is (x y : S64) : spec_l5Behind.f x.f0 x.f1 x.f2 x.f3 y.f0 y.f1 y.f2 y.f3 = some (Cf.beh x y) := by
  unfold spec_l5Behind.f Cf.beh
  split <;> (try split) <;> rfl
/-! #### walks by hand -/
set_option maxHeartbeats 2000000 in
/-- The place of a backend of a name. -/
theorem spec_l5At.cf (g : Nat) (A1 : Option Addr) (c1 : Nat) (l1 : List S36) (A2 : Option Addr) (n2 c2 : Nat) (v name : Int) (w : World) (hb : w.heap[g]? = some (.cells #[.int .i64 v, .slice A1 l1.length c1, .slice A2 n2 c2] 31 (0, 0))) (hr1 : Kd.C k36 w A1 l1.length l1) :
    Calls Try.prog 64 #[.pointer (some ⟨g, 0, none⟩), .int .i64 name] w fun e w' => e = .returned (.int .i64 (Cf.place l1 name)) ∧ Below w.heap.size w w' := by
  have hbig : l1.length ≤ 9223372036854775807 := by have := hr1.2.1; have hs : (k36).sz = 5 := rfl; (try simp only [maxLen] at this); (try rw [hs] at this); omega
  go_enter Try.func64, Try.ntmps64
  go_wp2
  go_loopg [5] l1.length (fun gg s5 wr => ∃ kk : Nat, kk ≤ l1.length ∧ l1.length - kk ≤ gg ∧ s5 = .int .i64 kk ∧ Aside (Below w.heap.size w wr) ∧ Aside (∀ j, j < kk → Cf.named name (l1.getD j z36) = false))
  case atStart => exact ⟨0, Nat.zero_le _, by omega, rfl, Below.refl _ w, fun j hj => absurd hj (Nat.not_lt_zero _)⟩
  case round =>
    obtain ⟨kk, hkk, hg, rfl, BW, AA⟩ := hrel
    have bk := blk_below hb BW.out
    have hz1 : wr.cell? ⟨g, 1, none⟩ = some (.slice A1 l1.length c1) := blk_cell bk 1
    clear bk
    by_cases hlt : kk < l1.length
    · have hltz : (kk : Int) < (l1.length : Int) := by omega
      obtain ⟨ad, eA, hx_0, hx_1, hx_2, hx_3, hx_4⟩ := at_T36 (Kd.C_below hr1 BW.out) (kk : Int) (by omega) hltz
      cases eA
      have hy : l1.getD kk z36 = rd_T36 l1 (kk : Int) := rfl
      generalize rd_T36 l1 (kk : Int) = y at hx_0 hx_1 hx_2 hx_3 hx_4 hy
      have B : Aside (l1.getD kk z36 = y) := hy
      clear hy
      simp only [Int.toNat_natCast] at hx_0 hx_1 hx_2 hx_3 hx_4
      cases hq : (y.f0 == name) with
      | true =>
        go_wp2
        go_ret
        refine ⟨?_, BW.out⟩
        unfold Cf.place
        rw [Go.Proofs.Ytfmlhpoaipeoeaa.Ix.ixFrom_hit (Cf.named name) z36 l1 0 kk hlt (by rw [B.out]; exact hq) AA.out]
        simp
      | false =>
        go_wp2
        go_roundg (l1.length - (kk + 1))
        case measure => omega
        case rel =>
          refine ⟨kk + 1, by omega, by omega, by go_num, BW, (show Aside _ from fun j hj => ?_)⟩
          by_cases e : j = kk
          · subst e
            rw [B.out]; exact hq
          · exact AA.out j (by omega)
    · have hltz : ¬ (kk : Int) < (l1.length : Int) := by omega
      have : kk = l1.length := by omega
      subst this
      go_wp2
      go_ret
      refine ⟨?_, BW.out⟩
      unfold Cf.place
      rw [Go.Proofs.Ytfmlhpoaipeoeaa.Ix.ixFrom_miss (Cf.named name) z36 l1 0 AA.out]
      rfl
theorem Cf.addr (a : Int) (w : World) : Calls Try.prog 113 #[.int .i64 a] w fun e w' => e = .returned (.bool (Cf.inB a 0 4294967295)) ∧ Below w.heap.size w w' := (spec_l2Address.calls a _ w (Cf.addr_is a)).mono (fun _ _ h => ⟨h.1, h.2.below⟩)
theorem Cf.port (a : Int) (w : World) : Calls Try.prog 114 #[.int .i64 a] w fun e w' => e = .returned (.bool (Cf.inB a 0 65535)) ∧ Below w.heap.size w w' := (spec_l2Port.calls a _ w (Cf.port_is a)).mono (fun _ _ h => ⟨h.1, h.2.below⟩)
theorem Cf.proto (a : Int) (w : World) : Calls Try.prog 134 #[.int .i64 a] w fun e w' => e = .returned (.bool (Cf.prB a)) ∧ Below w.heap.size w w' := (spec_l5Proto.calls a _ w (Cf.proto_is a)).mono (fun _ _ h => ⟨h.1, h.2.below⟩)
theorem Cf.up {w0 w w' : World} (h : Below w0.heap.size w0 w) (h' : Below w.heap.size w w') : Below w0.heap.size w0 w' := h.trans (h'.mono h.size)
set_option maxHeartbeats 8000000 in
set_option maxRecDepth 100000 in
/-- What is not right of a vip. -/
theorem spec_l5Vip.cf (g : Nat) (A1 : Option Addr) (c1 : Nat) (l1 : List S36) (A2 : Option Addr) (c2 : Nat) (l2 : List S64) (v : Int) (i : Nat) (w : World) (hb : w.heap[g]? = some (.cells #[.int .i64 v, .slice A1 l1.length c1, .slice A2 l2.length c2] 31 (0, 0))) (hr1 : Kd.C k36 w A1 l1.length l1) (hr2 : Kd.C k64 w A2 l2.length l2) (hi : i < l2.length) :
    Calls Try.prog 104 #[.pointer (some ⟨g, 0, none⟩), .int .i64 i] w fun e w' => e = .returned (.int .i64 (Cf.vcode l1 l2 i)) ∧ Below w.heap.size w w' := by
  have hu64 := Try.underlying64
  have hu31 := Try.underlying31
  have hbig : l2.length ≤ 9223372036854775807 := by have := hr2.2.1; have hs : (k64).sz = 4 := rfl; (try simp only [maxLen] at this); (try rw [hs] at this); omega
  have hz2 : w.cell? ⟨g, 2, none⟩ = some (.slice A2 l2.length c2) := blk_cell hb 2
  have hltz : (i : Int) < (l2.length : Int) := by omega
  obtain ⟨ad, A3, c3, eA, hx_0, hx_1, hx_2, hx_3, hl3, hC3⟩ := at_T64 hr2 (i : Int) (by omega) hltz
  have hy : l2.getD i z64 = rd_T64 l2 (i : Int) := rfl
  obtain ⟨r, hr⟩ : ∃ r, r = Cf.vcode l1 l2 i := ⟨_, rfl⟩
  rw [← hr]
  unfold Cf.vcode at hr
  rw [hy] at hr
  generalize rd_T64 l2 (i : Int) = x at hx_0 hx_1 hx_2 hx_3 hl3 hC3 hy hr
  simp only [Int.toNat_natCast] at hx_0 hx_1 hx_2 hx_3
  have hn3 : x.f3.length ≤ 9223372036854775807 := by have := hC3.2.1; have hs : (Kd.int .i64).sz = 1 := rfl; (try simp only [maxLen] at this); (try rw [hs] at this); omega
  obtain ⟨w1, hw1⟩ : ∃ W, W = w.alloc (.cells #[.int .i64 x.f0, .int .i64 x.f1, .int .i64 x.f2, .slice A3 x.f3.length c3] 64) := ⟨_, rfl⟩
  have hB1 : Below w.heap.size w w1 := by rw [hw1]; exact (Below.refl _ w).alloc (Nat.le_refl _) _
  have bv1 : w1.heap[w.heap.size]? = some (.cells #[.int .i64 x.f0, .int .i64 x.f1, .int .i64 x.f2, .slice A3 x.f3.length c3] 64 (0, 0)) := by rw [hw1]; exact blk_new w _
  have bg1 := blk_below hb hB1
  have hr11 := Kd.C_below hr1 hB1
  have hr21 := Kd.C_below hr2 hB1
  have hC31 := Kd.C_below hC3 hB1
  have D1 : Aside0 (w1.heap[g]? = some (.cells #[.int .i64 v, .slice A1 l1.length c1, .slice A2 l2.length c2] 31 (0, 0))) := ⟨bg1⟩
  have D2 : Aside0 (Kd.C k36 w1 A1 l1.length l1) := ⟨hr11⟩
  have D3 : Aside0 (Kd.C k64 w1 A2 l2.length l2) := ⟨hr21⟩
  have D4 : Aside0 ((Kd.int .i64).C w1 A3 x.f3.length x.f3) := ⟨hC31⟩
  have D5 : Aside0 (w1.heap[w.heap.size]? = some (.cells #[.int .i64 x.f0, .int .i64 x.f1, .int .i64 x.f2, .slice A3 x.f3.length c3] 64 (0, 0))) := ⟨bv1⟩
  have DB : Aside0 (Below w.heap.size w w1) := ⟨hB1⟩
  have DY : Aside0 (l2.getD i z64 = x) := ⟨hy⟩
  clear bg1 hr11 hr21 hC31 hB1 bv1 hr1 hr2 hC3 hb hy
  have h0 := Cf.addr x.f0
  have h1 := Cf.port x.f1
  have h2 := Cf.proto x.f2
  unfold Cf.vok at hr
  cases eA
  go_enter Try.func104, Try.ntmps104
  cases e0 : Cf.inB x.f0 0 4294967295 with
  | false =>
    simp only [e0] at h0
    go_wp2_with (go_at_call 113; refine (h0 _).mono ?_; rintro e w2 ⟨rfl, hb2⟩; rw [← hw1] at hb2)
    go_ret
    exact ⟨by rw [hr, e0]; rfl, Cf.up DB.out hb2⟩
  | true =>
    simp only [e0] at h0
    cases e1 : Cf.inB x.f1 0 65535 with
    | false =>
      simp only [e1] at h1
      go_wp2_with (first | (go_at_call 113; refine (h0 _).mono ?_; rintro e w2 ⟨rfl, hb2⟩; rw [← hw1] at hb2; have q1 := blk_cell (blk_below D5.out hb2) 1) | (go_at_call 114; refine (h1 _).mono ?_; rintro e w3 ⟨rfl, hb3⟩))
      go_ret
      exact ⟨by rw [hr, e0, e1]; rfl, Cf.up (Cf.up DB.out hb2) hb3⟩
    | true =>
      simp only [e1] at h1
      cases e2 : Cf.prB x.f2 with
      | false =>
        simp only [e2] at h2
        go_wp2_with (first | (go_at_call 113; refine (h0 _).mono ?_; rintro e w2 ⟨rfl, hb2⟩; rw [← hw1] at hb2; have q1 := blk_cell (blk_below D5.out hb2) 1) | (go_at_call 114; refine (h1 _).mono ?_; rintro e w3 ⟨rfl, hb3⟩; replace hb2 := Cf.up hb2 hb3; clear hb3; clear q1; have q2 := blk_cell (blk_below D5.out hb2) 2) | (go_at_call 134; refine (h2 _).mono ?_; rintro e w4 ⟨rfl, hb4⟩))
        go_ret
        exact ⟨by rw [hr, e0, e1, e2]; rfl, Cf.up (Cf.up DB.out hb2) hb4⟩
      | true =>
        simp only [e2] at h2
        rw [e0, e1, e2, if_neg (by simp)] at hr
        go_wp2_with (first | (go_at_call 113; refine (h0 _).mono ?_; rintro e w2 ⟨rfl, hb2⟩; rw [← hw1] at hb2; have q1 := blk_cell (blk_below D5.out hb2) 1) | (go_at_call 114; refine (h1 _).mono ?_; rintro e w3 ⟨rfl, hb3⟩; replace hb2 := Cf.up hb2 hb3; clear hb3; clear q1; have q2 := blk_cell (blk_below D5.out hb2) 2) | (go_at_call 134; refine (h2 _).mono ?_; rintro e w4 ⟨rfl, hb4⟩; replace hb2 := Cf.up hb2 hb4; clear hb4 q2))
        by_cases hi0 : 0 < i
        · have hg0 : decide ((0 : Int) < (i : Int)) = true := decide_eq_true (by omega)
          obtain ⟨j, hj⟩ : ∃ j, j = i - 1 := ⟨_, rfl⟩
          have hwj : IntKind.i64.wrap ((i : Int) - 1) = (j : Int) := by rw [IntKind.wrap_i64]; omega
          rw [← hj] at hr
          have hjl : (j : Int) < (l2.length : Int) := by omega
          have hjl0 : (0 : Int) ≤ (j : Int) := by omega
          obtain ⟨ad2, A5, c5, eB, px_0, px_1, px_2, px_3, pl3, pC3⟩ := at_T64 (Kd.C_below D3.out hb2) (j : Int) (by omega) (by omega)
          cases eB
          have py : l2.getD j z64 = rd_T64 l2 (j : Int) := rfl
          rw [py] at hr
          generalize rd_T64 l2 (j : Int) = y at px_0 px_1 px_2 px_3 pl3 pC3 py hr
          simp only [Int.toNat_natCast] at px_0 px_1 px_2 px_3
          have hz2' : w4.cell? ⟨g, 2, none⟩ = some (.slice (some ad) l2.length c2) := blk_cell (blk_below D1.out hb2) 2
          have bv := blk_below D5.out hb2
          have v0 := blk_cell bv 0
          have v1 := blk_cell bv 1
          have v2 := blk_cell bv 2
          have v3 := blk_cell bv 3
          have hbeh := fun (W : World) (hW : Below w4.heap.size w4 W) => spec_l5Behind.calls y.f0 y.f1 y.f2 A5 c5 y.f3 x.f0 x.f1 x.f2 A3 c3 x.f3 _ W (Kd.C_below pC3 hW) pl3 (Kd.C_below (Kd.C_below D4.out hb2) hW) hl3 (Cf.behind_is y x)
          clear hj py
          cases hbh : Cf.beh y x with
          | false =>
            simp only [hbh] at hbeh
            go_still_tail 12, (by kernel_rfl)
            change wpList _ _ _ _ _ w4.drew
            have hd : Below w4.heap.size w4 w4.drew := below_drew1 (Below.refl _ _)
            generalize w4.drew = wd at hd
            go_wp2_with (go_at_call 135; refine (hbeh _ hd).mono ?_; rintro e w5 ⟨rfl, hb5⟩)
            go_ret
            exact ⟨by rw [hr, hbh, decide_eq_true hi0]; rfl, Cf.up DB.out (Cf.up (Cf.up hb2 hd) hb5)⟩
          | true =>
            simp only [hbh] at hbeh
            go_still_tail 12, (by kernel_rfl)
            change wpList _ _ _ _ _ w4.drew
            have hd : Below w4.heap.size w4 w4.drew := below_drew1 (Below.refl _ _)
            generalize w4.drew = wd at hd
            rw [hbh, if_neg (by simp)] at hr
            go_wp2_with (go_at_call 135; refine (hbeh _ hd).mono ?_; rintro e w5 ⟨rfl, hb5⟩; replace hb2 := Cf.up (Cf.up hb2 hd) hb5; clear hb5 hd hbeh px_0 px_1 px_2 px_3 pl3 pC3 hz2' bv v0 v1 v2 v3)
            have HR := Aside0.mk hr
            clear hr
            go_wp2
            go_loopg [6] x.f3.length (fun gg s6 wr => ∃ kk : Nat, kk ≤ x.f3.length ∧ x.f3.length - kk ≤ gg ∧ s6 = .int .i64 kk ∧ Aside (Below w1.heap.size w1 wr) ∧ Aside (∀ j, j < kk → Cf.gone l1 (x.f3.getD j 0) = false))
            case atStart => exact ⟨0, Nat.zero_le _, by omega, rfl, hb2, fun j hj => absurd hj (Nat.not_lt_zero _)⟩
            case round =>
              clear hb2
              obtain ⟨kk, hkk, hg, rfl, BW, AA⟩ := hrel
              have v3 : wr.cell? ⟨w.heap.size, 3, none⟩ = some (.slice A3 x.f3.length c3) := blk_cell (blk_below D5.out BW.out) 3
              by_cases hlt : kk < x.f3.length
              · have hltz : (kk : Int) < (x.f3.length : Int) := by omega
                obtain ⟨an, eN, hn⟩ := Kd.at_int (Kd.C_below D4.out BW.out) (kk : Int) (by omega) hltz
                cases eN
                have hcall := spec_l5At.cf g A1 c1 l1 (some ad) l2.length c2 v (rd x.f3 (kk : Int)) wr (blk_below D1.out BW.out) (Kd.C_below D2.out BW.out)
                have hq0 : Cf.gone l1 (x.f3.getD kk 0) = decide (Cf.place l1 (rd x.f3 (kk : Int)) < 0) := rfl
                have HQ : Aside (Cf.gone l1 (x.f3.getD kk 0) = decide (Cf.place l1 (rd x.f3 (kk : Int)) < 0)) := hq0
                clear hq0
                simp only [Int.toNat_natCast] at hn
                cases hq : decide (Cf.place l1 (rd x.f3 (kk : Int)) < 0) with
                | true =>
                  go_wp2_with (go_at_call 64; refine hcall.mono ?_; rintro e w6 ⟨rfl, hb6⟩)
                  go_ret
                  refine ⟨?_, Cf.up DB.out (Cf.up BW.out hb6)⟩
                  rw [HR.out, if_pos (Cf.any_hit (Cf.gone l1) 0 x.f3 kk hlt (HQ.out.trans hq))]
                  try rfl
                | false =>
                  go_wp2_with (go_at_call 64; refine hcall.mono ?_; rintro e w6 ⟨rfl, hb6⟩)
                  go_roundg (x.f3.length - (kk + 1))
                  case measure => omega
                  case rel =>
                    refine ⟨kk + 1, by omega, by omega, by go_num, Cf.up BW.out hb6, (show Aside _ from fun j hj => ?_)⟩
                    by_cases e : j = kk
                    · subst e
                      exact HQ.out.trans hq
                    · exact AA.out j (by omega)
              · have hltz : ¬ (kk : Int) < (x.f3.length : Int) := by omega
                have : kk = x.f3.length := by omega
                subst this
                have hr := HR.out
                rw [if_neg (by rw [Cf.any_miss (Cf.gone l1) 0 x.f3 AA.out]; simp)] at hr
                clear HR
                have HR := Aside0.mk hr
                clear hr
                have BW0 : Aside0 (Below w1.heap.size w1 wr) := ⟨BW.out⟩
                clear AA BW hg hkk hlt
                go_wp2
                go_loopg [7] x.f3.length (fun gg s7 wr => ∃ kk : Nat, kk ≤ x.f3.length + 1 ∧ 1 ≤ kk ∧ x.f3.length - kk ≤ gg ∧ s7 = .int .i64 kk ∧ Aside (Below w1.heap.size w1 wr) ∧ Aside (∀ j, j < kk → j < x.f3.length → Cf.falls x.f3 j = false))
                case atStart => exact ⟨1, by omega, by omega, by omega, rfl, BW0.out, fun j hj _ => (show Cf.falls x.f3 j = false from by (obtain rfl : j = 0 := by omega); simp [Cf.falls])⟩
                case round =>
                  clear v3 BW0
                  obtain ⟨kk, hkk, hk1, hg, rfl, BW, AA⟩ := hrel
                  have v3 := blk_cell (blk_below D5.out BW.out) 3
                  by_cases hlt : kk < x.f3.length
                  · have hltz : (kk : Int) < (x.f3.length : Int) := by omega
                    obtain ⟨an, eN, hn⟩ := Kd.at_int (Kd.C_below D4.out BW.out) (kk : Int) (by omega) hltz
                    cases eN
                    obtain ⟨j, hj⟩ : ∃ j, j = kk - 1 := ⟨_, rfl⟩
                    have hwj : IntKind.i64.wrap ((kk : Int) - 1) = (j : Int) := by rw [IntKind.wrap_i64]; omega
                    have hjl : (j : Int) < (x.f3.length : Int) := by omega
                    obtain ⟨an2, eN2, hn2⟩ := Kd.at_int (Kd.C_below D4.out BW.out) (j : Int) (by omega) hjl
                    cases eN2
                    have HQ : Aside (Cf.falls x.f3 kk = decide (rd x.f3 (kk : Int) ≤ rd x.f3 (j : Int))) := (by
                      show Cf.falls x.f3 kk = _
                      unfold Cf.falls
                      rw [decide_eq_true hk1, ← hj]; rfl)
                    clear hj
                    simp only [Int.toNat_natCast] at hn hn2
                    cases hq : decide (rd x.f3 (kk : Int) ≤ rd x.f3 (j : Int)) with
                    | true =>
                      go_wp2
                      go_quiet (fail)
                      go_wp2
                      go_ret
                      refine ⟨?_, Cf.up DB.out (pw_below_drewN BW.out _)⟩
                      rw [HR.out, if_pos (Cf.range_hit (Cf.falls x.f3) x.f3.length kk hlt (HQ.out.trans hq))]
                      try rfl
                    | false =>
                      go_wp2
                      go_quiet (fail)
                      go_wp2
                      go_roundg (x.f3.length - (kk + 1))
                      case measure => omega
                      case rel =>
                        refine ⟨kk + 1, by omega, by omega, by omega, by go_num, pw_below_drewN BW.out _, (show Aside _ from fun j hj hl => ?_)⟩
                        by_cases e : j = kk
                        · subst e
                          exact HQ.out.trans hq
                        · exact AA.out j (by omega) hl
                  · have hltz : ¬ (kk : Int) < (x.f3.length : Int) := by omega
                    go_wp2
                    go_ret
                    refine ⟨?_, Cf.up DB.out BW.out⟩
                    rw [HR.out, if_neg (by rw [Cf.range_miss (Cf.falls x.f3) x.f3.length (fun j hj => AA.out j (by omega) hj)]; simp)]
                    try rfl
        · have hg0 : decide ((0 : Int) < (i : Int)) = false := decide_eq_false (by omega)
          rw [decide_eq_false hi0, if_neg (by simp)] at hr
          go_quiet (fail)
          have HR := Aside0.mk hr
          clear hr
          go_wp2
          go_loopg [6] x.f3.length (fun gg s6 wr => ∃ kk : Nat, kk ≤ x.f3.length ∧ x.f3.length - kk ≤ gg ∧ s6 = .int .i64 kk ∧ Aside (Below w1.heap.size w1 wr) ∧ Aside (∀ j, j < kk → Cf.gone l1 (x.f3.getD j 0) = false))
          case atStart => exact ⟨0, Nat.zero_le _, by omega, rfl, pw_below_drewN hb2 _, fun j hj => absurd hj (Nat.not_lt_zero _)⟩
          case round =>
            clear hb2
            obtain ⟨kk, hkk, hg, rfl, BW, AA⟩ := hrel
            have v3 : wr.cell? ⟨w.heap.size, 3, none⟩ = some (.slice A3 x.f3.length c3) := blk_cell (blk_below D5.out BW.out) 3
            by_cases hlt : kk < x.f3.length
            · have hltz : (kk : Int) < (x.f3.length : Int) := by omega
              obtain ⟨an, eN, hn⟩ := Kd.at_int (Kd.C_below D4.out BW.out) (kk : Int) (by omega) hltz
              cases eN
              have hcall := spec_l5At.cf g A1 c1 l1 (some ad) l2.length c2 v (rd x.f3 (kk : Int)) wr (blk_below D1.out BW.out) (Kd.C_below D2.out BW.out)
              have hq0 : Cf.gone l1 (x.f3.getD kk 0) = decide (Cf.place l1 (rd x.f3 (kk : Int)) < 0) := rfl
              have HQ : Aside (Cf.gone l1 (x.f3.getD kk 0) = decide (Cf.place l1 (rd x.f3 (kk : Int)) < 0)) := hq0
              clear hq0
              simp only [Int.toNat_natCast] at hn
              cases hq : decide (Cf.place l1 (rd x.f3 (kk : Int)) < 0) with
              | true =>
                go_wp2_with (go_at_call 64; refine hcall.mono ?_; rintro e w6 ⟨rfl, hb6⟩)
                go_ret
                refine ⟨?_, Cf.up DB.out (Cf.up BW.out hb6)⟩
                rw [HR.out, if_pos (Cf.any_hit (Cf.gone l1) 0 x.f3 kk hlt (HQ.out.trans hq))]
                try rfl
              | false =>
                go_wp2_with (go_at_call 64; refine hcall.mono ?_; rintro e w6 ⟨rfl, hb6⟩)
                go_roundg (x.f3.length - (kk + 1))
                case measure => omega
                case rel =>
                  refine ⟨kk + 1, by omega, by omega, by go_num, Cf.up BW.out hb6, (show Aside _ from fun j hj => ?_)⟩
                  by_cases e : j = kk
                  · subst e
                    exact HQ.out.trans hq
                  · exact AA.out j (by omega)
            · have hltz : ¬ (kk : Int) < (x.f3.length : Int) := by omega
              have : kk = x.f3.length := by omega
              subst this
              have hr := HR.out
              rw [if_neg (by rw [Cf.any_miss (Cf.gone l1) 0 x.f3 AA.out]; simp)] at hr
              clear HR
              have HR := Aside0.mk hr
              clear hr
              have BW0 : Aside0 (Below w1.heap.size w1 wr) := ⟨BW.out⟩
              clear AA BW hg hkk hlt
              go_wp2
              go_loopg [7] x.f3.length (fun gg s7 wr => ∃ kk : Nat, kk ≤ x.f3.length + 1 ∧ 1 ≤ kk ∧ x.f3.length - kk ≤ gg ∧ s7 = .int .i64 kk ∧ Aside (Below w1.heap.size w1 wr) ∧ Aside (∀ j, j < kk → j < x.f3.length → Cf.falls x.f3 j = false))
              case atStart => exact ⟨1, by omega, by omega, by omega, rfl, BW0.out, fun j hj _ => (show Cf.falls x.f3 j = false from by (obtain rfl : j = 0 := by omega); simp [Cf.falls])⟩
              case round =>
                clear v3 BW0
                obtain ⟨kk, hkk, hk1, hg, rfl, BW, AA⟩ := hrel
                have v3 := blk_cell (blk_below D5.out BW.out) 3
                by_cases hlt : kk < x.f3.length
                · have hltz : (kk : Int) < (x.f3.length : Int) := by omega
                  obtain ⟨an, eN, hn⟩ := Kd.at_int (Kd.C_below D4.out BW.out) (kk : Int) (by omega) hltz
                  cases eN
                  obtain ⟨j, hj⟩ : ∃ j, j = kk - 1 := ⟨_, rfl⟩
                  have hwj : IntKind.i64.wrap ((kk : Int) - 1) = (j : Int) := by rw [IntKind.wrap_i64]; omega
                  have hjl : (j : Int) < (x.f3.length : Int) := by omega
                  obtain ⟨an2, eN2, hn2⟩ := Kd.at_int (Kd.C_below D4.out BW.out) (j : Int) (by omega) hjl
                  cases eN2
                  have HQ : Aside (Cf.falls x.f3 kk = decide (rd x.f3 (kk : Int) ≤ rd x.f3 (j : Int))) := (by
                    show Cf.falls x.f3 kk = _
                    unfold Cf.falls
                    rw [decide_eq_true hk1, ← hj]; rfl)
                  clear hj
                  simp only [Int.toNat_natCast] at hn hn2
                  cases hq : decide (rd x.f3 (kk : Int) ≤ rd x.f3 (j : Int)) with
                  | true =>
                    go_wp2
                    go_quiet (fail)
                    go_wp2
                    go_ret
                    refine ⟨?_, Cf.up DB.out (pw_below_drewN BW.out _)⟩
                    rw [HR.out, if_pos (Cf.range_hit (Cf.falls x.f3) x.f3.length kk hlt (HQ.out.trans hq))]
                    try rfl
                  | false =>
                    go_wp2
                    go_quiet (fail)
                    go_wp2
                    go_roundg (x.f3.length - (kk + 1))
                    case measure => omega
                    case rel =>
                      refine ⟨kk + 1, by omega, by omega, by omega, by go_num, pw_below_drewN BW.out _, (show Aside _ from fun j hj hl => ?_)⟩
                      by_cases e : j = kk
                      · subst e
                        exact HQ.out.trans hq
                      · exact AA.out j (by omega) hl
                · have hltz : ¬ (kk : Int) < (x.f3.length : Int) := by omega
                  go_wp2
                  go_ret
                  refine ⟨?_, Cf.up DB.out BW.out⟩
                  rw [HR.out, if_neg (by rw [Cf.range_miss (Cf.falls x.f3) x.f3.length (fun j hj => AA.out j (by omega) hj)]; simp)]
                  try rfl
theorem Cf.vers (a : Int) (w : World) : Calls Try.prog 102 #[.int .i64 a] w fun e w' => e = .returned (.bool (Cf.inB a 0 1000000)) ∧ Below w.heap.size w w' := (spec_l5Version.calls a _ w (Cf.version_is a)).mono (fun _ _ h => ⟨h.1, h.2.below⟩)
theorem Cf.code_b {v : Int} {l1 : List S36} {l2 : List S64} {r : Int} (hr : r = Cf.code v l1 l2) (h0 : Cf.inB v 0 1000000 = true) (h1 : ¬ (l1.length : Int) > 8) (h2 : ¬ (l2.length : Int) > 4) : r = if Cf.first (Cf.bcode l1) 0 l1.length = 0 then Cf.first (Cf.vcode l1 l2) 0 l2.length else Cf.first (Cf.bcode l1) 0 l1.length := by
  rw [hr]; unfold Cf.code
  rw [h0, if_neg (by simp), if_neg (by rw [decide_eq_false h1, decide_eq_false h2]; simp)]
theorem Cf.code_hit {v : Int} {l1 : List S36} {l2 : List S64} {r : Int} (hr : r = if Cf.first (Cf.bcode l1) 0 l1.length = 0 then Cf.first (Cf.vcode l1 l2) 0 l2.length else Cf.first (Cf.bcode l1) 0 l1.length) (kk : Nat) (hk : kk < l1.length) (hn : Cf.bcode l1 kk ≠ 0) (h : ∀ j, j < kk → Cf.bcode l1 j = 0) : r = Cf.bcode l1 kk := by
  have e := Cf.first_hit (Cf.bcode l1) l1.length 0 kk hk (by simpa using hn) (fun j hj => by simpa using h j hj)
  rw [Nat.zero_add] at e
  rw [hr, e, if_neg hn]
theorem Cf.code_v {l1 : List S36} {l2 : List S64} {r : Int} (hr : r = if Cf.first (Cf.bcode l1) 0 l1.length = 0 then Cf.first (Cf.vcode l1 l2) 0 l2.length else Cf.first (Cf.bcode l1) 0 l1.length) (h : ∀ j, j < l1.length → Cf.bcode l1 j = 0) : r = Cf.first (Cf.vcode l1 l2) 0 l2.length := by
  rw [hr, if_pos (Cf.first_miss _ _ _ (fun j hj => by simpa using h j hj))]
theorem Cf.vhit {l1 : List S36} {l2 : List S64} {r : Int} (hr : r = Cf.first (Cf.vcode l1 l2) 0 l2.length) (kk : Nat) (hk : kk < l2.length) (hn : Cf.vcode l1 l2 kk ≠ 0) (h : ∀ j, j < kk → Cf.vcode l1 l2 j = 0) : r = Cf.vcode l1 l2 kk := by
  have e := Cf.first_hit (Cf.vcode l1 l2) l2.length 0 kk hk (by simpa using hn) (fun j hj => by simpa using h j hj)
  rw [Nat.zero_add] at e
  rw [hr, e]
theorem Cf.vmiss {l1 : List S36} {l2 : List S64} {r : Int} (hr : r = Cf.first (Cf.vcode l1 l2) 0 l2.length) (h : ∀ j, j < l2.length → Cf.vcode l1 l2 j = 0) : r = 0 := by
  rw [hr]; exact Cf.first_miss _ _ _ (fun j hj => by simpa using h j hj)
theorem Cf.bcode_3 {l1 : List S36} {i : Nat} (h : Cf.isb (l1.getD i z36) = false) : Cf.bcode l1 i = 3 := by unfold Cf.bcode; rw [if_pos h]
theorem Cf.bcode_1 {l1 : List S36} {i : Nat} (h : Cf.isb (l1.getD i z36) = true) (hi : 0 < i) (h1 : decide ((l1.getD i z36).f0 ≤ (l1.getD (i - 1) z36).f0) = true) : Cf.bcode l1 i = 1 := by unfold Cf.bcode; rw [if_neg (by rw [h]; simp), decide_eq_true hi, h1]; rfl
theorem Cf.bcode_0 {l1 : List S36} {i : Nat} (h : Cf.isb (l1.getD i z36) = true) (h1 : (decide (0 < i) && decide ((l1.getD i z36).f0 ≤ (l1.getD (i - 1) z36).f0)) = false) : Cf.bcode l1 i = 0 := by unfold Cf.bcode; rw [if_neg (by rw [h]; simp), h1]; rfl
set_option maxHeartbeats 8000000 in
set_option maxRecDepth 100000 in
/-- What is not right of a configuration. -/
theorem spec_l5Fault.cf (g : Nat) (A1 : Option Addr) (c1 : Nat) (l1 : List S36) (A2 : Option Addr) (c2 : Nat) (l2 : List S64) (v : Int) (w : World) (hb : w.heap[g]? = some (.cells #[.int .i64 v, .slice A1 l1.length c1, .slice A2 l2.length c2] 31 (0, 0))) (hr1 : Kd.C k36 w A1 l1.length l1) (hr2 : Kd.C k64 w A2 l2.length l2) :
    Calls Try.prog 50 #[.pointer (some ⟨g, 0, none⟩)] w fun e w' => e = .returned (.int .i64 (Cf.code v l1 l2)) ∧ Below w.heap.size w w' := by
  have hu36 := Try.underlying36
  have hu31 := Try.underlying31
  obtain ⟨r, hr⟩ : ∃ r, r = Cf.code v l1 l2 := ⟨_, rfl⟩
  rw [← hr]
  have hbig1 : l1.length ≤ 9223372036854775807 := by have := hr1.2.1; have hs : (k36).sz = 5 := rfl; (try simp only [maxLen] at this); (try rw [hs] at this); omega
  have hbig2 : l2.length ≤ 9223372036854775807 := by have := hr2.2.1; have hs : (k64).sz = 4 := rfl; (try simp only [maxLen] at this); (try rw [hs] at this); omega
  have z0 : w.cell? ⟨g, 0, none⟩ = some (.int .i64 v) := blk_cell hb 0
  have D1 : Aside0 (w.heap[g]? = some (.cells #[.int .i64 v, .slice A1 l1.length c1, .slice A2 l2.length c2] 31 (0, 0))) := ⟨hb⟩
  have D2 : Aside0 (Kd.C k36 w A1 l1.length l1) := ⟨hr1⟩
  have D3 : Aside0 (Kd.C k64 w A2 l2.length l2) := ⟨hr2⟩
  clear hb hr1 hr2
  have h0 := Cf.vers v
  go_enter Try.func50, Try.ntmps50
  cases e0 : Cf.inB v 0 1000000 with
  | false =>
    simp only [e0] at h0
    go_wp2_with (go_at_call 102; refine (h0 _).mono ?_; rintro e w2 ⟨rfl, hb2⟩)
    go_ret
    exact ⟨by rw [hr]; unfold Cf.code; rw [e0]; rfl, hb2⟩
  | true =>
    simp only [e0] at h0
    by_cases hm : (l1.length : Int) > 8
    · have hm0 : decide ((8 : Int) < (l1.length : Int)) = true := decide_eq_true hm
      go_wp2_with (go_at_call 102; refine (h0 _).mono ?_; rintro e w2 ⟨rfl, hb2⟩; have z1 := blk_cell (blk_below D1.out hb2) 1)
      go_ret
      exact ⟨by rw [hr]; unfold Cf.code; rw [e0, if_neg (by simp), if_pos (by rw [decide_eq_true hm]; rfl)]; rfl, hb2⟩
    have hm0 : decide ((8 : Int) < (l1.length : Int)) = false := decide_eq_false hm
    by_cases hm2 : (l2.length : Int) > 4
    · have hm20 : decide ((4 : Int) < (l2.length : Int)) = true := decide_eq_true hm2
      go_wp2_with (go_at_call 102; refine (h0 _).mono ?_; rintro e w2 ⟨rfl, hb2⟩; have z1 := blk_cell (blk_below D1.out hb2) 1; have z2 := blk_cell (blk_below D1.out hb2) 2)
      go_ret
      exact ⟨by rw [hr]; unfold Cf.code; rw [e0, if_neg (by simp), if_pos (by rw [decide_eq_true hm2]; simp)]; rfl, hb2⟩
    have hm20 : decide ((4 : Int) < (l2.length : Int)) = false := decide_eq_false hm2
    have HR := Aside0.mk (Cf.code_b hr e0 hm hm2)
    clear hr
    go_wp2_with (go_at_call 102; refine (h0 _).mono ?_; rintro e w2 ⟨rfl, hb2⟩; have z1 := blk_cell (blk_below D1.out hb2) 1; have z2 := blk_cell (blk_below D1.out hb2) 2)
    go_loopg [3] l1.length (fun gg s3 wr => ∃ kk : Nat, kk ≤ l1.length ∧ l1.length - kk ≤ gg ∧ s3 = .int .i64 kk ∧ Aside (Below w.heap.size w wr) ∧ Aside (∀ j, j < kk → Cf.bcode l1 j = 0))
    case atStart => exact ⟨0, Nat.zero_le _, by omega, rfl, hb2, fun j hj => absurd hj (Nat.not_lt_zero _)⟩
    case round =>
      clear z1 z2 hb2 h0
      obtain ⟨kk, hkk, hg, rfl, BW, AA⟩ := hrel
      have z1 : wr.cell? ⟨g, 1, none⟩ = some (.slice A1 l1.length c1) := blk_cell (blk_below D1.out BW.out) 1
      by_cases hlt : kk < l1.length
      · have hltz : (kk : Int) < (l1.length : Int) := by omega
        obtain ⟨ad, eA, hx_0, hx_1, hx_2, hx_3, hx_4⟩ := at_T36 (Kd.C_below D2.out BW.out) (kk : Int) (by omega) hltz
        cases eA
        have hy : l1.getD kk z36 = rd_T36 l1 (kk : Int) := rfl
        generalize rd_T36 l1 (kk : Int) = y at hx_0 hx_1 hx_2 hx_3 hx_4 hy
        have B : Aside (l1.getD kk z36 = y) := hy
        clear hy
        simp only [Int.toNat_natCast] at hx_0 hx_1 hx_2 hx_3 hx_4
        have hc := fun (W : World) => spec_l5Backend.calls y.f0 y.f1 y.f2 y.f3 y.f4 _ W (Cf.backend_is y)
        cases hq : Cf.isb y with
        | false =>
          simp only [hq] at hc
          go_wp2_with (go_at_call 103; refine (hc _).mono ?_; rintro e w3 ⟨rfl, hb3⟩)
          go_ret
          exact ⟨by rw [Cf.code_hit (v := v) HR.out kk hlt (by rw [Cf.bcode_3 (by rw [B.out]; exact hq)]; simp) AA.out, Cf.bcode_3 (by rw [B.out]; exact hq)]; rfl, Cf.up BW.out hb3⟩
        | true =>
          simp only [hq] at hc
          by_cases hk0 : 0 < kk
          · have hg0 : decide ((0 : Int) < (kk : Int)) = true := decide_eq_true (by omega)
            obtain ⟨j, hj⟩ : ∃ j, j = kk - 1 := ⟨_, rfl⟩
            have hwj : IntKind.i64.wrap ((kk : Int) - 1) = (j : Int) := by rw [IntKind.wrap_i64]; omega
            have hjl : (j : Int) < (l1.length : Int) := by omega
            have C : Aside (l1.getD (kk - 1) z36 = rd_T36 l1 (j : Int)) := (by rw [← hj]; rfl)
            clear hj
            cases hle : decide (y.f0 ≤ (rd_T36 l1 (j : Int)).f0) with
            | true =>
              go_wp2_with (go_at_call 103; refine (hc _).mono ?_; rintro e w3 ⟨rfl, hb3⟩; replace hb3 := Cf.up BW.out hb3; clear z1 hx_0 hx_1 hx_2 hx_3 hx_4; have z1 := blk_cell (blk_below D1.out hb3) 1; obtain ⟨ad1, eA1, hx_0, hx_1, hx_2, hx_3, hx_4⟩ := at_T36 (Kd.C_below D2.out hb3) (kk : Int) (by omega) hltz; cases eA1; obtain ⟨ad2, eA2, px_0, px_1, px_2, px_3, px_4⟩ := at_T36 (Kd.C_below D2.out hb3) (j : Int) (by omega) hjl; cases eA2; simp only [Int.toNat_natCast] at hx_0 px_0; have hy0 : (rd_T36 l1 (kk : Int)).f0 = y.f0 := (congrArg S36.f0 B.out); rw [hy0] at hx_0; clear hy0)
              go_quiet (fail)
              go_wp2
              go_ret
              have hbc : Cf.bcode l1 kk = 1 := Cf.bcode_1 (by rw [B.out]; exact hq) hk0 (by rw [B.out, C.out]; exact hle)
              exact ⟨by rw [Cf.code_hit (v := v) HR.out kk hlt (by rw [hbc]; simp) AA.out, hbc]; rfl, pw_below_drewN hb3 _⟩
            | false =>
              go_wp2_with (go_at_call 103; refine (hc _).mono ?_; rintro e w3 ⟨rfl, hb3⟩; replace hb3 := Cf.up BW.out hb3; clear z1 hx_0 hx_1 hx_2 hx_3 hx_4; have z1 := blk_cell (blk_below D1.out hb3) 1; obtain ⟨ad1, eA1, hx_0, hx_1, hx_2, hx_3, hx_4⟩ := at_T36 (Kd.C_below D2.out hb3) (kk : Int) (by omega) hltz; cases eA1; obtain ⟨ad2, eA2, px_0, px_1, px_2, px_3, px_4⟩ := at_T36 (Kd.C_below D2.out hb3) (j : Int) (by omega) hjl; cases eA2; simp only [Int.toNat_natCast] at hx_0 px_0; have hy0 : (rd_T36 l1 (kk : Int)).f0 = y.f0 := (congrArg S36.f0 B.out); rw [hy0] at hx_0; clear hy0)
              go_quiet (fail)
              go_wp2
              have hbc : Cf.bcode l1 kk = 0 := Cf.bcode_0 (by rw [B.out]; exact hq) (by rw [B.out, C.out, hle]; simp)
              go_roundg (l1.length - (kk + 1))
              case measure => omega
              case rel =>
                refine ⟨kk + 1, by omega, by omega, by go_num, pw_below_drewN hb3 _, (show Aside _ from fun j hj => ?_)⟩
                by_cases e : j = kk
                · subst e; exact hbc
                · exact AA.out j (by omega)
          · have hg0 : decide ((0 : Int) < (kk : Int)) = false := decide_eq_false (by omega)
            go_wp2_with (go_at_call 103; refine (hc _).mono ?_; rintro e w3 ⟨rfl, hb3⟩; replace hb3 := Cf.up BW.out hb3)
            go_quiet (fail)
            go_wp2
            have hbc : Cf.bcode l1 kk = 0 := Cf.bcode_0 (by rw [B.out]; exact hq) (by rw [decide_eq_false hk0]; rfl)
            go_roundg (l1.length - (kk + 1))
            case measure => omega
            case rel =>
              refine ⟨kk + 1, by omega, by omega, by go_num, pw_below_drewN hb3 _, (show Aside _ from fun j hj => ?_)⟩
              by_cases e : j = kk
              · subst e; exact hbc
              · exact AA.out j (by omega)
      · have hltz : ¬ (kk : Int) < (l1.length : Int) := by omega
        have : kk = l1.length := by omega
        subst this
        have HV := Aside0.mk (Cf.code_v HR.out AA.out)
        have BW0 : Aside0 (Below w.heap.size w wr) := ⟨BW.out⟩
        clear AA BW hg hkk hlt HR
        go_wp2
        go_loopg [4] l2.length (fun gg s4 wr => ∃ kk : Nat, kk ≤ l2.length ∧ l2.length - kk ≤ gg ∧ s4 = .int .i64 kk ∧ Aside (Below w.heap.size w wr) ∧ Aside (∀ j, j < kk → Cf.vcode l1 l2 j = 0))
        case atStart => exact ⟨0, Nat.zero_le _, by omega, rfl, BW0.out, fun j hj => absurd hj (Nat.not_lt_zero _)⟩
        case round =>
          clear z1 BW0
          obtain ⟨kk, hkk, hg, rfl, BW, AA⟩ := hrel
          have z2 := blk_cell (blk_below D1.out BW.out) 2
          by_cases hlt : kk < l2.length
          · have hltz : (kk : Int) < (l2.length : Int) := by omega
            have hc := spec_l5Vip.cf g A1 c1 l1 A2 c2 l2 v kk wr (blk_below D1.out BW.out) (Kd.C_below D2.out BW.out) (Kd.C_below D3.out BW.out) hlt
            obtain ⟨q, hq⟩ : ∃ q, q = Cf.vcode l1 l2 kk := ⟨_, rfl⟩
            rw [← hq] at hc
            have HQ := Aside0.mk hq
            clear hq
            by_cases hq0 : q = 0
            · have hq1 : (q != 0) = false := bne_eq_false_iff_eq.mpr hq0
              go_wp2_with (go_at_call 104; refine hc.mono ?_; rintro e w3 ⟨rfl, hb3⟩)
              go_roundg (l2.length - (kk + 1))
              case measure => omega
              case rel =>
                refine ⟨kk + 1, by omega, by omega, by go_num, Cf.up BW.out hb3, (show Aside _ from fun j hj => ?_)⟩
                by_cases e : j = kk
                · subst e; exact HQ.out.symm.trans hq0
                · exact AA.out j (by omega)
            · have hq1 : (q != 0) = true := bne_iff_ne.mpr hq0
              go_wp2_with (go_at_call 104; refine hc.mono ?_; rintro e w3 ⟨rfl, hb3⟩)
              go_ret
              exact ⟨by rw [Cf.vhit HV.out kk hlt (fun h => hq0 (HQ.out.trans h)) AA.out, ← HQ.out]; rfl, Cf.up BW.out hb3⟩
          · have hltz : ¬ (kk : Int) < (l2.length : Int) := by omega
            go_wp2
            go_ret
            exact ⟨by rw [Cf.vmiss HV.out (fun j hj => AA.out j (by omega))]; rfl, BW.out⟩
set_option maxHeartbeats 8000000 in
/-- What is not right of a configuration, the configuration handed over by value. -/
theorem spec_ConfigFault.cf (A1 : Option Addr) (c1 : Nat) (l1 : List S36) (A2 : Option Addr) (c2 : Nat) (l2 : List S64) (v : Int) (w : World) (hr1 : Kd.C k36 w A1 l1.length l1) (hr2 : Kd.C k64 w A2 l2.length l2) :
    Calls Try.prog 13 #[.agg #[.int .i64 v, .slice A1 l1.length c1, .slice A2 l2.length c2]] w fun e w' => e = .returned (.int .i64 (Cf.code v l1 l2)) ∧ Below w.heap.size w w' := by
  have hu31 := Try.underlying31
  obtain ⟨w1, hw1⟩ : ∃ W, W = w.alloc (.cells #[.int .i64 v, .slice A1 l1.length c1, .slice A2 l2.length c2] 31) := ⟨_, rfl⟩
  have hB1 : Below w.heap.size w w1 := by rw [hw1]; exact (Below.refl _ w).alloc (Nat.le_refl _) _
  have hcall := spec_l5Fault.cf w.heap.size A1 c1 l1 A2 c2 l2 v w1 (by rw [hw1]; exact blk_new w _) (Kd.C_below hr1 hB1) (Kd.C_below hr2 hB1)
  rw [hw1] at hcall
  go_enter Try.func13, Try.ntmps13
  go_wp2_with (go_at_call 50; refine hcall.mono ?_; rintro e w2 ⟨rfl, hb2⟩; rw [← hw1] at hb2)
  go_ret
  exact ⟨rfl, Cf.up hB1 hb2⟩
def Cf.bcd (v : Int) (l1 : List S36) (l2 : List S64) (n : Int) : Int := if Cf.code v l1 l2 ≠ 0 then Cf.code v l1 l2 else if Cf.place l1 n < 0 then 4 else 0
def Cf.bval (v : Int) (l1 : List S36) (l2 : List S64) (n : Int) : S36 := if Cf.code v l1 l2 ≠ 0 then z36 else if Cf.place l1 n < 0 then z36 else rd_T36 l1 (Cf.place l1 n)
theorem Cf.put6 {w : World} {g : Nat} {t : TypeId} {u0 u1 u2 u3 u4 u5 : Value} (h : w.heap[g]? = some (.cells #[u0, u1, u2, u3, u4, u5] t (0, 0))) (v0 v1 v2 v3 v4 v5 : Value) :
    ((((((w.setCell ⟨g, 0, none⟩ v0).setCell ⟨g, 1, none⟩ v1).setCell ⟨g, 2, none⟩ v2).setCell ⟨g, 3, none⟩ v3).setCell ⟨g, 4, none⟩ v4).setCell ⟨g, 5, none⟩ v5).heap[g]? = some (.cells #[v0, v1, v2, v3, v4, v5] t (0, 0)) := by
  refine blk_put (cs := #[v0, v1, v2, v3, v4, u5]) ?_ 5 _ rfl
  refine blk_put (cs := #[v0, v1, v2, v3, u4, u5]) ?_ 4 _ rfl
  refine blk_put (cs := #[v0, v1, v2, u3, u4, u5]) ?_ 3 _ rfl
  refine blk_put (cs := #[v0, v1, u2, u3, u4, u5]) ?_ 2 _ rfl
  refine blk_put (cs := #[v0, u1, u2, u3, u4, u5]) ?_ 1 _ rfl
  exact blk_put (cs := #[u0, u1, u2, u3, u4, u5]) h 0 _ rfl
theorem Cf.place_lt (l : List S36) (n : Int) (h : ¬ Cf.place l n < 0) : Cf.place l n < (l.length : Int) := by
  unfold Cf.place at *
  rcases Go.Proofs.Ytfmlhpoaipeoeaa.Ix.ixFrom_bound (Cf.named n) l 0 (by omega) with ⟨_, h2⟩ | h2
  · omega
  · omega
def Cf.on (x : S36) : Bool := x.f4 && (x.f3 == 1)
def Cf.sh1 (l1 : List S36) (n : Int) : List S67 := if Cf.on (rd_T36 l1 (Cf.place l1 n)) = true then [⟨(rd_T36 l1 (Cf.place l1 n)).f0, (rd_T36 l1 (Cf.place l1 n)).f2⟩] else []
def Cf.shr (l1 : List S36) (ns : List Int) : List S67 := ns.flatMap (Cf.sh1 l1)
theorem Cf.shr_step (l1 : List S36) (ns : List Int) (k : Nat) (h : k < ns.length) : Cf.shr l1 (ns.take (k + 1)) = Cf.shr l1 (ns.take k) ++ Cf.sh1 l1 (ns.getD k 0) := by
  have e : ns.getD k 0 = ns[k] := by simp [List.getD, h]
  unfold Cf.shr
  rw [List.take_succ_eq_append_getElem h, List.flatMap_append, e]
  simp
theorem Cf.shr_len (l1 : List S36) (ns : List Int) : (Cf.shr l1 ns).length ≤ ns.length := by
  unfold Cf.shr
  induction ns with
  | nil => simp
  | cons n ns ih =>
    simp only [List.flatMap_cons, List.length_append, List.length_cons]
    have : (Cf.sh1 l1 n).length ≤ 1 := by unfold Cf.sh1; split <;> simp
    omega
theorem Cf.put5 {w : World} {g : Nat} {t : TypeId} {u0 u1 u2 u3 u4 : Value} (h : w.heap[g]? = some (.cells #[u0, u1, u2, u3, u4] t (0, 0))) (v0 v1 v2 v3 v4 : Value) :
    (((((w.setCell ⟨g, 0, none⟩ v0).setCell ⟨g, 1, none⟩ v1).setCell ⟨g, 2, none⟩ v2).setCell ⟨g, 3, none⟩ v3).setCell ⟨g, 4, none⟩ v4).heap[g]? = some (.cells #[v0, v1, v2, v3, v4] t (0, 0)) := by
  refine blk_put (cs := #[v0, v1, v2, v3, u4]) ?_ 4 _ rfl
  refine blk_put (cs := #[v0, v1, v2, u3, u4]) ?_ 3 _ rfl
  refine blk_put (cs := #[v0, v1, u2, u3, u4]) ?_ 2 _ rfl
  refine blk_put (cs := #[v0, u1, u2, u3, u4]) ?_ 1 _ rfl
  exact blk_put (cs := #[u0, u1, u2, u3, u4]) h 0 _ rfl
theorem Cf.place_name (l : List S36) (n : Int) (h : ¬ Cf.place l n < 0) : (rd_T36 l (Cf.place l n)).f0 = n := by
  have key : ∀ (l : List S36) (i : Int), 0 ≤ i → ∀ q, q = Go.Proofs.Ytfmlhpoaipeoeaa.Ix.ixFrom (Cf.named n) l i → ¬ q < 0 → i ≤ q ∧ (l.getD (q - i).toNat z36).f0 = n := by
    intro l
    induction l with
    | nil => intro i hi q hq hn; rw [hq] at hn; exact absurd (show Go.Proofs.Ytfmlhpoaipeoeaa.Ix.ixFrom (Cf.named n) [] i < 0 from by simp [Go.Proofs.Ytfmlhpoaipeoeaa.Ix.ixFrom]) hn
    | cons x l ih =>
      intro i hi q hq hn
      by_cases hx : Cf.named n x = true
      · have e : q = i := hq.trans (if_pos hx)
        subst e
        refine ⟨Int.le_refl _, ?_⟩
        rw [show (q - q).toNat = 0 by omega]
        simpa [Cf.named] using hx
      · have e : q = Go.Proofs.Ytfmlhpoaipeoeaa.Ix.ixFrom (Cf.named n) l (i + 1) := hq.trans (if_neg hx)
        obtain ⟨h1, h2⟩ := ih (i + 1) (by omega) q e hn
        refine ⟨by omega, ?_⟩
        rw [show (q - i).toNat = (q - (i + 1)).toNat + 1 by omega]
        simpa using h2
  obtain ⟨_, h2⟩ := key l 0 (Int.le_refl _) _ rfl h
  have h3 : (l.getD (Cf.place l n - 0).toNat z36).f0 = n := h2
  rw [Int.sub_zero] at h3
  exact h3
theorem Cf.first_zero (g : Nat → Int) : ∀ (m i : Nat), Cf.first g i m = 0 → ∀ j, j < m → g (i + j) = 0
  | 0, _, _, j, hj => absurd hj (Nat.not_lt_zero _)
  | m + 1, i, h, j, hj => by
    simp only [Cf.first] at h
    by_cases h0 : g i = 0
    · rw [if_pos h0] at h
      match j with
      | 0 => exact h0
      | j + 1 =>
        have := Cf.first_zero g m (i + 1) h j (by omega)
        rwa [show i + 1 + j = i + (j + 1) by omega] at this
    · rw [if_neg h0] at h; exact absurd h h0
/-- In a right configuration each name of a vip is a backend's. -/
theorem Cf.code_found {v : Int} {l1 : List S36} {l2 : List S64} (h : Cf.code v l1 l2 = 0) (i : Nat) (hi : i < l2.length) : ∀ n ∈ (rd_T64 l2 (i : Int)).f3, ¬ Cf.place l1 n < 0 := by
  unfold Cf.code at h
  split at h
  · cases h
  · split at h
    · cases h
    · split at h
      · have hv := Cf.first_zero _ _ _ h i hi
        rw [Nat.zero_add] at hv
        unfold Cf.vcode at hv
        split at hv
        · cases hv
        · split at hv
          · cases hv
          · split at hv
            · cases hv
            · rename_i hg
              intro n hn hlt
              apply hg
              rw [List.any_eq_true]
              exact ⟨n, hn, decide_eq_true hlt⟩
      · rename_i h1; exact absurd h h1
def Cf.scd (v : Int) (l1 : List S36) (l2 : List S64) (vip : Int) : Int := if Cf.code v l1 l2 ≠ 0 then Cf.code v l1 l2 else if Cf.inB vip 0 ((l2.length : Int) - 1) = false then 3 else 0
def Cf.sval (v : Int) (l1 : List S36) (l2 : List S64) (vip : Int) : List S67 := if Cf.code v l1 l2 ≠ 0 then [] else if Cf.inB vip 0 ((l2.length : Int) - 1) = false then [] else Cf.shr l1 (rd_T64 l2 vip).f3
theorem Cf.put2 {w : World} {g : Nat} {t : TypeId} {u0 u1 : Value} (h : w.heap[g]? = some (.cells #[u0, u1] t (0, 0))) (v0 v1 : Value) :
    ((w.setCell ⟨g, 0, none⟩ v0).setCell ⟨g, 1, none⟩ v1).heap[g]? = some (.cells #[v0, v1] t (0, 0)) := by
  refine blk_put (cs := #[v0, u1]) ?_ 1 _ rfl
  exact blk_put (cs := #[u0, u1]) h 0 _ rfl
theorem Cf.R67_put2 {w : World} {g base : Nat} {u0 u1 v : Value} {xs : List S67} (hR : Kd.R k67 67 w base (fun _ => True) v xs) (h : w.heap[g]? = some (.cells #[u0, u1] 53 (0, 0))) (a b : Value) :
    Kd.R k67 67 ((w.setCell ⟨g, 0, none⟩ a).setCell ⟨g, 1, none⟩ b) base (fun _ => True) v xs :=
  Kd.R_set (Kd.R_set hR h (by decide) 0 a) (blk_put (cs := #[u0, u1]) h 0 a rfl) (by decide) 1 b
set_option maxHeartbeats 8000000 in
set_option maxRecDepth 100000 in
/-- The shares of a vip. -/
theorem spec_l5Shares.cf (g : Nat) (A1 : Option Addr) (c1 : Nat) (l1 : List S36) (A2 : Option Addr) (c2 : Nat) (l2 : List S64) (v : Int) (i : Nat) (w : World) (hb : w.heap[g]? = some (.cells #[.int .i64 v, .slice A1 l1.length c1, .slice A2 l2.length c2] 31 (0, 0))) (hr1 : Kd.C k36 w A1 l1.length l1) (hr2 : Kd.C k64 w A2 l2.length l2) (hi : i < l2.length) (hf : ∀ n ∈ (rd_T64 l2 (i : Int)).f3, ¬ Cf.place l1 n < 0) (hmx : (rd_T64 l2 (i : Int)).f3.length ≤ 1048576) :
    Calls Try.prog 71 #[.pointer (some ⟨g, 0, none⟩), .int .i64 i] w fun e w' => ∃ u, e = .returned u ∧ Kd.R k67 67 w' w.heap.size (fun _ => True) u (Cf.shr l1 (rd_T64 l2 (i : Int)).f3) ∧ Below w.heap.size w w' := by
  have hu36 := Try.underlying36
  have hu67 := Try.underlying67
  have hiz : (i : Int) < (l2.length : Int) := by omega
  obtain ⟨x, hxe⟩ : ∃ x, x = rd_T64 l2 (i : Int) := ⟨_, rfl⟩
  rw [← hxe] at hf hmx ⊢
  have HXE := Aside0.mk hxe
  clear hxe
  go_enter Try.func71, Try.ntmps71
  go_wp2_with ((with_reducible refine gate_dst (N := 8) rfl ?_); refine Kd.R_lit k67 _ 67 ?hg (N := 8) ?hd (xs := ([] : List (S67))) (inner := []) (ok := fun _ => True) (okp := fun _ => True) ?hr ?hp (fun _ hk => hk) trivial (Below.refl _ _) (Nat.le_refl _) (by simp) ?_; (case hd => rfl); (case hg => rfl); (case hr => first | (go_simp; done) | (go_simp; rfl)); (case hp => exact (Reps.none _ _)); intro v8 w3 ho4 hb4 hg_ hnew_; clear hg_ hnew_)
  go_loopg [5, 6] x.f3.length (fun gg s5 s6 wr => ∃ kk : Nat, kk ≤ x.f3.length ∧ x.f3.length - kk ≤ gg ∧ s6 = .int .i64 kk ∧ Aside0 (Kd.R k67 67 wr w.heap.size (fun _ => True) s5 (Cf.shr l1 (x.f3.take kk))) ∧ Aside (Below w.heap.size w wr))
  case atStart => exact ⟨0, Nat.zero_le _, by omega, rfl, ⟨ho4⟩, hb4⟩
  case round =>
    clear ho4 hb4
    obtain ⟨kk, hkk, hg, rfl, HO, BW⟩ := hrel
    have bg := blk_below hb BW.out
    have z1 : wr.cell? ⟨g, 1, none⟩ = some (.slice A1 l1.length c1) := blk_cell bg 1
    have z2 : wr.cell? ⟨g, 2, none⟩ = some (.slice A2 l2.length c2) := blk_cell bg 2
    obtain ⟨ad2, A3, c3, e2, hx_0, hx_1, hx_2, hx_3, hl3, hC3⟩ := at_T64 (Kd.C_below hr2 BW.out) (i : Int) (by omega) hiz
    cases e2
    rw [← HXE.out] at hx_0 hx_1 hx_2 hx_3 hl3 hC3
    simp only [Int.toNat_natCast] at hx_3
    have hbig : x.f3.length ≤ 9223372036854775807 := by have := hC3.2.1; have hs : (Kd.int .i64).sz = 1 := rfl; (try simp only [maxLen] at this); (try rw [hs] at this); omega
    by_cases hlt : kk < x.f3.length
    · have hltz : (kk : Int) < (x.f3.length : Int) := by omega
      obtain ⟨an, eN, hn⟩ := Kd.at_int hC3 (kk : Int) (by omega) hltz
      cases eN
      simp only [Int.toNat_natCast] at hn
      have hrn : rd x.f3 (kk : Int) = x.f3.getD kk 0 := by simp [rd]
      rw [hrn] at hn
      have hmem : x.f3.getD kk 0 ∈ x.f3 := by
        have e : x.f3.getD kk 0 = x.f3[kk] := by simp [List.getD, hlt]
        rw [e]; exact List.getElem_mem hlt
      have hst := Cf.shr_step l1 x.f3 kk hlt
      have hp0 := hf _ hmem
      have hp1 := Cf.place_lt l1 (x.f3.getD kk 0) (by omega)
      have hsl := Cf.shr_len l1 (x.f3.take kk)
      unfold Cf.sh1 at hst
      have hcall := fun (W : World) (hW : Below w.heap.size w W) => spec_l5At.cf g A1 c1 l1 (some ad2) l2.length c2 v (x.f3.getD kk 0) W (blk_below hb hW) (Kd.C_below hr1 hW)
      generalize x.f3.getD kk 0 = n at hn hst hp0 hp1 hcall
      generalize Cf.place l1 n = p at hst hp0 hp1 hcall
      obtain ⟨ad1, e1, px_0, px_1, px_2, px_3, px_4⟩ := at_T36 (Kd.C_below hr1 BW.out) p (by omega) hp1
      cases e1
      generalize rd_T36 l1 p = b at hst px_0 px_1 px_2 px_3 px_4
      have HST := Aside0.mk hst
      clear hst hf hmem hrn hx_0 hx_1 hx_2
      go_wp2
      have HS : ∀ W, Below wr.heap.size wr W → (W.cell? ⟨g, 1, none⟩ = some (.slice (some ad1) l1.length c1) ∧ W.cell? ⟨g, 2, none⟩ = some (.slice (some ad2) l2.length c2) ∧ W.cell? ⟨(ad2.add (i * 4)).block, (ad2.add (i * 4)).off + 3, none⟩ = some (.slice (some an) x.f3.length c3) ∧ W.cell? (an.add kk) = some (.int .i64 n) ∧ W.cell? (ad1.add (p.toNat * 5)) = some (.int .i64 b.f0) ∧ W.cell? ⟨(ad1.add (p.toNat * 5)).block, (ad1.add (p.toNat * 5)).off + 1, none⟩ = some (.int .i64 b.f1) ∧ W.cell? ⟨(ad1.add (p.toNat * 5)).block, (ad1.add (p.toNat * 5)).off + 2, none⟩ = some (.int .i64 b.f2) ∧ W.cell? ⟨(ad1.add (p.toNat * 5)).block, (ad1.add (p.toNat * 5)).off + 3, none⟩ = some (.int .i64 b.f3) ∧ W.cell? ⟨(ad1.add (p.toNat * 5)).block, (ad1.add (p.toNat * 5)).off + 4, none⟩ = some (.bool b.f4)) := fun W hW => ⟨pw_cell_below hW z1, pw_cell_below hW z2, pw_cell_below hW hx_3, pw_cell_below hW hn, pw_cell_below hW px_0, pw_cell_below hW px_1, pw_cell_below hW px_2, pw_cell_below hW px_3, pw_cell_below hW px_4⟩
      have hd : Below wr.heap.size wr wr.drew := below_drew1 (Below.refl _ _)
      refine start_ (n := 21) (S := fun w' => w'.cell? ⟨g, 1, none⟩ = some (.slice (some ad1) l1.length c1) ∧ w'.cell? ⟨g, 2, none⟩ = some (.slice (some ad2) l2.length c2) ∧ w'.cell? ⟨(ad2.add (i * 4)).block, (ad2.add (i * 4)).off + 3, none⟩ = some (.slice (some an) x.f3.length c3) ∧ w'.cell? (an.add kk) = some (.int .i64 n) ∧ w'.cell? (ad1.add (p.toNat * 5)) = some (.int .i64 b.f0) ∧ w'.cell? ⟨(ad1.add (p.toNat * 5)).block, (ad1.add (p.toNat * 5)).off + 1, none⟩ = some (.int .i64 b.f1) ∧ w'.cell? ⟨(ad1.add (p.toNat * 5)).block, (ad1.add (p.toNat * 5)).off + 2, none⟩ = some (.int .i64 b.f2) ∧ w'.cell? ⟨(ad1.add (p.toNat * 5)).block, (ad1.add (p.toNat * 5)).off + 3, none⟩ = some (.int .i64 b.f3) ∧ w'.cell? ⟨(ad1.add (p.toNat * 5)).block, (ad1.add (p.toNat * 5)).off + 4, none⟩ = some (.bool b.f4)) (ds := []) #[false, false, false, false, false, false, false, false, false, false, false, false, false, false, false, false, false, false, false, false, false] (by kernel_rfl) rfl rfl (HS _ hd) (fun hHeld => ?_)
      generalize wr.drew = wd at hd hHeld ⊢
      refine take_ (i := 0) (N := some 22) (v := ?_) (a' := ?_) #[true, false, false, false, false, false, false, false, false, false, false, false, false, false, false, false, false, false, false, false, false] rfl rfl (by kernel_rfl) (fun _ _ _ h => h) (Or.inl ⟨by rfl, ?_⟩) hHeld ?_ ?_
      rotate_left
      · rintro w' ⟨s0, s1, s2, s3, s4, s5, s6, s7, s8⟩
        go_simp
        with_reducible rfl
      rotate_left
      · simp only [Act.put, List.setIfInBounds_toArray, List.set_cons_zero, List.set_cons_succ, i64_w, i32_w]
        rfl
      refine take_ (i := 1) (N := some 23) (v := ?_) (a' := ?_) #[true, true, false, false, false, false, false, false, false, false, false, false, false, false, false, false, false, false, false, false, false] rfl rfl (by kernel_rfl) (fun _ _ _ h => h) (Or.inl ⟨by rfl, ?_⟩) hHeld ?_ ?_
      rotate_left
      · rintro w' ⟨s0, s1, s2, s3, s4, s5, s6, s7, s8⟩
        go_simp
        with_reducible rfl
      rotate_left
      · simp only [Act.put, List.setIfInBounds_toArray, List.set_cons_zero, List.set_cons_succ, i64_w, i32_w]
        rfl
      refine take_ (i := 2) (N := some 24) (v := ?_) (a' := ?_) #[true, true, true, false, false, false, false, false, false, false, false, false, false, false, false, false, false, false, false, false, false] rfl rfl (by kernel_rfl) (fun _ _ _ h => h) (Or.inl ⟨by rfl, ?_⟩) hHeld ?_ ?_
      rotate_left
      · rintro w' ⟨s0, s1, s2, s3, s4, s5, s6, s7, s8⟩
        go_simp
        with_reducible rfl
      rotate_left
      · simp only [Act.put, List.setIfInBounds_toArray, List.set_cons_zero, List.set_cons_succ, i64_w, i32_w]
        rfl
      refine take_ (i := 3) (N := some 25) (v := ?_) (a' := ?_) #[true, true, true, true, false, false, false, false, false, false, false, false, false, false, false, false, false, false, false, false, false] rfl rfl (by kernel_rfl) (fun _ _ _ h => h) (Or.inl ⟨by rfl, ?_⟩) hHeld ?_ ?_
      rotate_left
      · rintro w' ⟨s0, s1, s2, s3, s4, s5, s6, s7, s8⟩
        go_simp
        with_reducible rfl
      rotate_left
      · simp only [Act.put, List.setIfInBounds_toArray, List.set_cons_zero, List.set_cons_succ, i64_w, i32_w]
        rfl
      refine take_ (i := 4) (N := some 26) (v := ?_) (a' := ?_) #[true, true, true, true, true, false, false, false, false, false, false, false, false, false, false, false, false, false, false, false, false] rfl rfl (by kernel_rfl) (fun _ _ _ h => h) (Or.inl ⟨by rfl, ?_⟩) hHeld ?_ ?_
      rotate_left
      · rintro w' ⟨s0, s1, s2, s3, s4, s5, s6, s7, s8⟩
        go_simp
        with_reducible rfl
      rotate_left
      · simp only [Act.put, List.setIfInBounds_toArray, List.set_cons_zero, List.set_cons_succ, i64_w, i32_w]
        rfl
      refine take_ (i := 5) (N := some 27) (v := ?_) (a' := ?_) #[true, true, true, true, true, true, false, false, false, false, false, false, false, false, false, false, false, false, false, false, false] rfl rfl (by kernel_rfl) (fun _ _ _ h => h) (Or.inl ⟨by rfl, ?_⟩) hHeld ?_ ?_
      rotate_left
      · rintro w' ⟨s0, s1, s2, s3, s4, s5, s6, s7, s8⟩
        go_simp
        with_reducible rfl
      rotate_left
      · simp only [Act.put, List.setIfInBounds_toArray, List.set_cons_zero, List.set_cons_succ, i64_w, i32_w]
        rfl
      refine take_ (i := 6) (N := some 28) (v := ?_) (a' := ?_) #[true, true, true, true, true, true, true, false, false, false, false, false, false, false, false, false, false, false, false, false, false] rfl rfl (by kernel_rfl) (fun _ _ _ h => h) (Or.inl ⟨by rfl, ?_⟩) hHeld ?_ ?_
      rotate_left
      · rintro w' ⟨s0, s1, s2, s3, s4, s5, s6, s7, s8⟩
        go_simp
        with_reducible rfl
      rotate_left
      · simp only [Act.put, List.setIfInBounds_toArray, List.set_cons_zero, List.set_cons_succ, i64_w, i32_w]
        rfl
      refine take_ (i := 7) (N := some 29) (v := ?_) (a' := ?_) #[true, true, true, true, true, true, true, true, false, false, false, false, false, false, false, false, false, false, false, false, false] rfl rfl (by kernel_rfl) (fun _ _ _ h => h) (Or.inl ⟨by rfl, ?_⟩) hHeld ?_ ?_
      rotate_left
      · rintro w' ⟨s0, s1, s2, s3, s4, s5, s6, s7, s8⟩
        go_simp
        with_reducible rfl
      rotate_left
      · simp only [Act.put, List.setIfInBounds_toArray, List.set_cons_zero, List.set_cons_succ, i64_w, i32_w]
        rfl
      refine take_ (i := 8) (N := some 30) (v := ?_) (a' := ?_) #[true, true, true, true, true, true, true, true, true, false, false, false, false, false, false, false, false, false, false, false, false] rfl rfl (by kernel_rfl) (fun _ _ _ h => h) (Or.inl ⟨by rfl, ?_⟩) hHeld ?_ ?_
      rotate_left
      · rintro w' ⟨s0, s1, s2, s3, s4, s5, s6, s7, s8⟩
        go_simp
        with_reducible rfl
      rotate_left
      · simp only [Act.put, List.setIfInBounds_toArray, List.set_cons_zero, List.set_cons_succ, i64_w, i32_w]
        rfl
      refine take_ (i := 9) (N := some 31) (v := ?_) (a' := ?_) #[true, true, true, true, true, true, true, true, true, true, false, false, false, false, false, false, false, false, false, false, false] rfl rfl (by kernel_rfl) (fun _ _ _ h => h) (Or.inl ⟨by rfl, ?_⟩) hHeld ?_ ?_
      rotate_left
      · rintro w' ⟨s0, s1, s2, s3, s4, s5, s6, s7, s8⟩
        go_simp
        with_reducible rfl
      rotate_left
      · simp only [Act.put, List.setIfInBounds_toArray, List.set_cons_zero, List.set_cons_succ, i64_w, i32_w]
        rfl
      refine take_ (i := 10) (N := some 32) (v := ?_) (a' := ?_) #[true, true, true, true, true, true, true, true, true, true, true, false, false, false, false, false, false, false, false, false, false] rfl rfl (by kernel_rfl) (fun _ _ _ h => h) (Or.inl ⟨by rfl, ?_⟩) hHeld ?_ ?_
      rotate_left
      · rintro w' ⟨s0, s1, s2, s3, s4, s5, s6, s7, s8⟩
        go_simp
        with_reducible rfl
      rotate_left
      · simp only [Act.put, List.setIfInBounds_toArray, List.set_cons_zero, List.set_cons_succ, i64_w, i32_w]
        rfl
      refine take_ (i := 11) (N := some 33) (v := ?_) (a' := ?_) #[true, true, true, true, true, true, true, true, true, true, true, true, false, false, false, false, false, false, false, false, false] rfl rfl (by kernel_rfl) (fun _ _ _ h => h) (Or.inl ⟨by rfl, ?_⟩) hHeld ?_ ?_
      rotate_left
      · rintro w' ⟨s0, s1, s2, s3, s4, s5, s6, s7, s8⟩
        go_simp
        with_reducible rfl
      rotate_left
      · simp only [Act.put, List.setIfInBounds_toArray, List.set_cons_zero, List.set_cons_succ, i64_w, i32_w]
        rfl
      refine take_ (i := 12) (N := some 34) (v := ?_) (a' := ?_) #[true, true, true, true, true, true, true, true, true, true, true, true, true, false, false, false, false, false, false, false, false] rfl rfl (by kernel_rfl) (fun _ _ _ h => h) (Or.inl ⟨by rfl, ?_⟩) hHeld ?_ ?_
      rotate_left
      · rintro w' ⟨s0, s1, s2, s3, s4, s5, s6, s7, s8⟩
        go_simp
        with_reducible rfl
      rotate_left
      · simp only [Act.put, List.setIfInBounds_toArray, List.set_cons_zero, List.set_cons_succ, i64_w, i32_w]
        rfl
      refine take_ (i := 13) (N := some 35) (v := ?_) (a' := ?_) #[true, true, true, true, true, true, true, true, true, true, true, true, true, true, false, false, false, false, false, false, false] rfl rfl (by kernel_rfl) (fun _ _ _ h => h) (Or.inl ⟨by rfl, ?_⟩) hHeld ?_ ?_
      rotate_left
      · rintro w' ⟨s0, s1, s2, s3, s4, s5, s6, s7, s8⟩
        go_simp
        with_reducible rfl
      rotate_left
      · simp only [Act.put, List.setIfInBounds_toArray, List.set_cons_zero, List.set_cons_succ, i64_w, i32_w]
        rfl
      refine take_ (i := 14) (N := some 36) (v := ?_) (a' := ?_) #[true, true, true, true, true, true, true, true, true, true, true, true, true, true, true, false, false, false, false, false, false] rfl rfl (by kernel_rfl) (fun _ _ _ h => h) (Or.inl ⟨by rfl, ?_⟩) hHeld ?_ ?_
      rotate_left
      · rintro w' ⟨s0, s1, s2, s3, s4, s5, s6, s7, s8⟩
        go_simp
        with_reducible rfl
      rotate_left
      · simp only [Act.put, List.setIfInBounds_toArray, List.set_cons_zero, List.set_cons_succ, i64_w, i32_w]
        rfl
      refine take_ (i := 15) (N := some 37) (v := ?_) (a' := ?_) #[true, true, true, true, true, true, true, true, true, true, true, true, true, true, true, true, false, false, false, false, false] rfl rfl (by kernel_rfl) (fun _ _ _ h => h) (Or.inl ⟨by rfl, ?_⟩) hHeld ?_ ?_
      rotate_left
      · rintro w' ⟨s0, s1, s2, s3, s4, s5, s6, s7, s8⟩
        go_simp
        with_reducible rfl
      rotate_left
      · simp only [Act.put, List.setIfInBounds_toArray, List.set_cons_zero, List.set_cons_succ, i64_w, i32_w]
        rfl
      refine join_ (σ := Nat) 1 #[true, true, true, true, true, true, true, true, true, true, true, true, true, true, true, true, true, true, true, true, false] (fun s_ => [(38, .int .i64 p), (39, .pointer (some (ad1.add (p.toNat * 5)))), (40, .agg #[.int .i64 b.f0, .int .i64 b.f1, .int .i64 b.f2, .int .i64 b.f3, .bool b.f4]), (7, .pointer (some ⟨s_, 0, none⟩))]) (fun s_ w' => Below wr.heap.size wr w' ∧ w'.heap[s_]? = some (.cells #[.int .i64 0, .int .i64 0, .int .i64 0, .int .i64 0, .bool false] 36 (0, 0)) ∧ wr.heap.size ≤ s_) ?_ ?_
      rotate_left
      · intro hCont
        refine two_ (i := 16) (j := 19) (Ni := some 38) (Nj := some 7) #[true, true, true, true, true, true, true, true, true, true, true, true, true, true, true, true, true, false, false, false, false] #[true, true, true, true, true, true, true, true, true, true, true, true, true, true, true, true, false, false, false, true, false] rfl rfl rfl rfl (by kernel_rfl) (by decide) (by decide) (fun K hK => ?_) (fun K hK => ?_)
        · skip
          refine goes_ Try.func64 (by kernel_rfl) rfl #[.pointer (some ⟨g, 0, none⟩), .int .i64 n] (by rfl) rfl rfl (by (try simp only [List.map_toArray, List.map_cons, List.map_nil]); first | done | rfl) ?_
          refine (hcall _ (Cf.up BW.out hd)).mono ?_
          rintro e wc ⟨rfl, hbc⟩
          refine ⟨_, rfl, ?_⟩
          refine hK.out _ _ (HS _ (Cf.up hd hbc)) (fun hHeld => ?_)
          clear hK K
          refine norm_ (a' := ?_) ?_ ?_
          rotate_left
          · show Act.put _ (some 38) _ = _
            simp only [Act.put, List.setIfInBounds_toArray, List.set_cons_zero, List.set_cons_succ, i64_w, i32_w]
            rfl
          refine take_ (i := 17) (N := some 39) (v := ?_) (a' := ?_) #[true, true, true, true, true, true, true, true, true, true, true, true, true, true, true, true, true, true, false, false, false] rfl rfl (by kernel_rfl) (fun _ _ _ h => h) (Or.inl ⟨by rfl, ?_⟩) hHeld ?_ ?_
          rotate_left
          · rintro w' ⟨s0, s1, s2, s3, s4, s5, s6, s7, s8⟩
            go_simp
            with_reducible rfl
          rotate_left
          · simp only [Act.put, List.setIfInBounds_toArray, List.set_cons_zero, List.set_cons_succ, i64_w, i32_w]
            rfl
          refine take_ (i := 18) (N := some 40) (v := ?_) (a' := ?_) #[true, true, true, true, true, true, true, true, true, true, true, true, true, true, true, true, true, true, true, false, false] rfl rfl (by kernel_rfl) (fun _ _ _ h => h) (Or.inl ⟨by rfl, ?_⟩) hHeld ?_ ?_
          rotate_left
          · rintro w' ⟨s0, s1, s2, s3, s4, s5, s6, s7, s8⟩
            go_simp
            with_reducible rfl
          rotate_left
          · simp only [Act.put, List.setIfInBounds_toArray, List.set_cons_zero, List.set_cons_succ, i64_w, i32_w]
            rfl
          refine one_ (i := 19) (N := some 7) #[true, true, true, true, true, true, true, true, true, true, true, true, true, true, true, true, true, true, true, true, false] rfl rfl (by kernel_rfl) (by decide) (fun K hK => ?_)
          refine box_step ?hg (N := 7) ?hd (cs := #[.int .i64 0, .int .i64 0, .int .i64 0, .int .i64 0, .bool false]) (t := 36) ?hr ?_; (case hd => rfl); (case hg => rfl); (case hr => first | (go_simp; done) | (go_simp; rfl))
          intro gb hg_ wb hbox hbb
          refine hK.out _ _ (HS _ (Cf.up (Cf.up hd hbc) hbb)) (fun hHeld => ?_)
          clear hK K
          refine norm_ (a' := ?_) ?_ ?_
          rotate_left
          · show Act.put _ (some 7) _ = _
            simp only [Act.put, List.setIfInBounds_toArray, List.set_cons_zero, List.set_cons_succ, i64_w, i32_w]
            rfl
          exact norm_ (by simp only [putAll, Act.put, List.setIfInBounds_toArray, List.set_cons_zero, List.set_cons_succ]) (hCont gb _ ⟨Cf.up (Cf.up hd hbc) hbb, hbox, (by rw [hg_]; exact Nat.le_trans hd.size hbc.size)⟩)
        · skip
          refine box_step ?hg (N := 7) ?hd (cs := #[.int .i64 0, .int .i64 0, .int .i64 0, .int .i64 0, .bool false]) (t := 36) ?hr ?_; (case hd => rfl); (case hg => rfl); (case hr => first | (go_simp; done) | (go_simp; rfl))
          intro gb hg_ wb hbox hbb
          refine hK.out _ _ (HS _ (Cf.up hd hbb)) (fun hHeld => ?_)
          clear hK K
          refine norm_ (a' := ?_) ?_ ?_
          rotate_left
          · show Act.put _ (some 7) _ = _
            simp only [Act.put, List.setIfInBounds_toArray, List.set_cons_zero, List.set_cons_succ, i64_w, i32_w]
            rfl
          refine one_ (i := 16) (N := some 38) #[true, true, true, true, true, true, true, true, true, true, true, true, true, true, true, true, true, false, false, true, false] rfl rfl (by kernel_rfl) (by decide) (fun K hK => ?_)
          refine goes_ Try.func64 (by kernel_rfl) rfl #[.pointer (some ⟨g, 0, none⟩), .int .i64 n] (by rfl) rfl rfl (by (try simp only [List.map_toArray, List.map_cons, List.map_nil]); first | done | rfl) ?_
          refine (hcall _ (Cf.up (Cf.up BW.out hd) hbb)).mono ?_
          rintro e wc ⟨rfl, hbc⟩
          refine ⟨_, rfl, ?_⟩
          refine hK.out _ _ (HS _ (Cf.up (Cf.up hd hbb) hbc)) (fun hHeld => ?_)
          clear hK K
          refine norm_ (a' := ?_) ?_ ?_
          rotate_left
          · show Act.put _ (some 38) _ = _
            simp only [Act.put, List.setIfInBounds_toArray, List.set_cons_zero, List.set_cons_succ, i64_w, i32_w]
            rfl
          refine take_ (i := 17) (N := some 39) (v := ?_) (a' := ?_) #[true, true, true, true, true, true, true, true, true, true, true, true, true, true, true, true, true, true, false, true, false] rfl rfl (by kernel_rfl) (fun _ _ _ h => h) (Or.inl ⟨by rfl, ?_⟩) hHeld ?_ ?_
          rotate_left
          · rintro w' ⟨s0, s1, s2, s3, s4, s5, s6, s7, s8⟩
            go_simp
            with_reducible rfl
          rotate_left
          · simp only [Act.put, List.setIfInBounds_toArray, List.set_cons_zero, List.set_cons_succ, i64_w, i32_w]
            rfl
          refine take_ (i := 18) (N := some 40) (v := ?_) (a' := ?_) #[true, true, true, true, true, true, true, true, true, true, true, true, true, true, true, true, true, true, true, true, false] rfl rfl (by kernel_rfl) (fun _ _ _ h => h) (Or.inl ⟨by rfl, ?_⟩) hHeld ?_ ?_
          rotate_left
          · rintro w' ⟨s0, s1, s2, s3, s4, s5, s6, s7, s8⟩
            go_simp
            with_reducible rfl
          rotate_left
          · simp only [Act.put, List.setIfInBounds_toArray, List.set_cons_zero, List.set_cons_succ, i64_w, i32_w]
            rfl
          exact norm_ (by simp only [putAll, Act.put, List.setIfInBounds_toArray, List.set_cons_zero, List.set_cons_succ]) (hCont gb _ ⟨Cf.up (Cf.up hd hbb) hbc, blk_below hbox hbc, (by rw [hg_]; exact hd.size)⟩)
      clear hHeld hd
      intro gb wd' hF
      obtain ⟨hd', hbox, hge⟩ := hF
      have hHeld := HS _ hd'
      refine norm_ (a' := ?_) ?_ ?_
      rotate_left
      · simp only [putAll, Act.put, List.setIfInBounds_toArray, List.set_cons_zero, List.set_cons_succ]
        rfl
      refine one_ (i := 20) (N := none) #[true, true, true, true, true, true, true, true, true, true, true, true, true, true, true, true, true, true, true, true, true] rfl rfl (by kernel_rfl) (by decide) (fun K hK => ?_)
      have y0 := blk_cell hbox 0
      have f0 := blk_frozen hbox 0
      have y1 := blk_cell hbox 1
      have f1 := blk_frozen hbox 1
      have y2 := blk_cell hbox 2
      have f2 := blk_frozen hbox 2
      have y3 := blk_cell hbox 3
      have f3 := blk_frozen hbox 3
      have y4 := blk_cell hbox 4
      have f4 := blk_frozen hbox 4
      refine skip_ (w1 := ?_) (by rfl) rfl ?_ ?_
      rotate_left
      · go_simp
        rfl
      have hd2 : Below wr.heap.size wr (((((wd'.setCell ⟨gb, 0, none⟩ (.int .i64 b.f0)).setCell ⟨gb, 1, none⟩ (.int .i64 b.f1)).setCell ⟨gb, 2, none⟩ (.int .i64 b.f2)).setCell ⟨gb, 3, none⟩ (.int .i64 b.f3)).setCell ⟨gb, 4, none⟩ (.bool b.f4)) := by
        repeat (refine below_set ?_ hge)
        exact hd'
      have hbx : (((((wd'.setCell ⟨gb, 0, none⟩ (.int .i64 b.f0)).setCell ⟨gb, 1, none⟩ (.int .i64 b.f1)).setCell ⟨gb, 2, none⟩ (.int .i64 b.f2)).setCell ⟨gb, 3, none⟩ (.int .i64 b.f3)).setCell ⟨gb, 4, none⟩ (.bool b.f4)).heap[gb]? = some (.cells #[.int .i64 b.f0, .int .i64 b.f1, .int .i64 b.f2, .int .i64 b.f3, .bool b.f4] 36 (0, 0)) := Cf.put5 hbox _ _ _ _ _
      refine hK.out _ _ (HS _ hd2) (fun hHeld => ?_)
      clear hK K hHeld HS y0 y1 y2 y3 y4 f0 f1 f2 f3 f4 hbox hd'
      generalize (((((wd'.setCell ⟨gb, 0, none⟩ (.int .i64 b.f0)).setCell ⟨gb, 1, none⟩ (.int .i64 b.f1)).setCell ⟨gb, 2, none⟩ (.int .i64 b.f2)).setCell ⟨gb, 3, none⟩ (.int .i64 b.f3)).setCell ⟨gb, 4, none⟩ (.bool b.f4)) = w5 at hd2 hbx ⊢
      refine done_ (by kernel_rfl) ?_
      have hgo := Aside0.mk (Cf.up BW.out hd2)
      have HO5 := Aside0.mk (Kd.R_below HO.out hd2)
      have y0 := blk_cell hbx 0
      have y2 := blk_cell hbx 2
      have y3 := blk_cell hbx 3
      have y4 := blk_cell hbx 4
      clear hd2 z1 hn px_0 px_1 px_2 px_3 px_4 hcall bg hC3 hl3
      cases hb4 : b.f4 with
      | false =>
        rw [hb4] at y4
        go_wp2
        go_roundg (x.f3.length - (kk + 1))
        case measure => omega
        case rel =>
          refine ⟨kk + 1, by omega, by omega, by go_num, ?_, hgo.out⟩
          have h_ := HST.out
          unfold Cf.on at h_
          rw [hb4] at h_
          exact ⟨by rw [h_]; simpa using HO5.out⟩
      | true =>
        rw [hb4] at y4
        cases hb3 : (b.f3 == 1) with
        | false =>
          go_wp2
          go_roundg (x.f3.length - (kk + 1))
          case measure => omega
          case rel =>
            refine ⟨kk + 1, by omega, by omega, by go_num, ?_, hgo.out⟩
            have h_ := HST.out
            unfold Cf.on at h_
            rw [hb4, hb3] at h_
            exact ⟨by rw [h_]; simpa using HO5.out⟩
        | true =>
          have hlen : (Cf.shr l1 (List.take kk x.f3)).length ≤ 1048576 := by have := hsl; rw [List.length_take] at this; omega
          go_wp2_with ((with_reducible refine gate_builtin (b := .append) (xs := #[.tmp 48, .tmp 54]) rfl ?_); at_builtin; refine Kd.R_append k67 w.heap.size rfl (.tmp 48) (.tmp 54) 51 67 (.agg #[(.int .i64 0), (.int .i64 0)]) 16 rfl Try.underlying51 info67 rfl (by decide) (by omega) u5 (Cf.shr l1 (List.take kk x.f3)) (⟨b.f0, b.f2⟩ : S67) [.int .i64 b.f0, .int .i64 b.f2] (fun _ => True) (fun _ => False) rfl (by first | (go_simp; done) | (go_simp; rfl)) ?aP (fun _ hk => hk.elim) ?aF ?aO (Below.refl _ _) ?aS ?aL ?_; (case aP => exact k67_mkM _ _ _ (⟨b.f0, b.f2⟩ : S67)); (case aF => exact (fun _ _ => trivial)); (case aO => exact (by (with_reducible repeat (first | apply Kd.R_alloc | apply Kd.R_drewN | apply Kd.R_drew)); exact HO5.out)); (case aS => first | exact hgo.out.size | exact (hgo.out.alloc hgo.out.size _).size); (case aL => omega); intro v204 w22 ho hbq hgq hat)
          go_roundg (x.f3.length - (kk + 1))
          case measure => omega
          case rel =>
            refine ⟨kk + 1, by omega, by omega, by go_num, ⟨?_⟩, ?_⟩
            · have h_ := HST.out
              unfold Cf.on at h_
              rw [hb4, hb3] at h_
              rw [h_]
              exact ho
            · first | exact hgo.out.trans hbq | exact (hgo.out.alloc hgo.out.size _).trans hbq
    · have hltz : ¬ (kk : Int) < (x.f3.length : Int) := by omega
      have : kk = x.f3.length := by omega
      subst this
      go_wp2
      go_ret
      have h_ := HO.out
      rw [List.take_length] at h_
      exact ⟨_, rfl, h_, BW.out⟩
theorem Cf.l1in (a lo hi : Int) (w : World) : Calls Try.prog 70 #[.int .i64 a, .int .i64 lo, .int .i64 hi] w fun e w' => e = .returned (.bool (Cf.inB a lo hi)) ∧ Below w.heap.size w w' := (spec_l1In.calls a lo hi _ w (Cf.l1In_is a lo hi)).mono (fun _ _ h => ⟨h.1, h.2.below⟩)
set_option maxHeartbeats 8000000 in
set_option maxRecDepth 100000 in
theorem spec_SharesFor.cf (A1 : Option Addr) (c1 : Nat) (l1 : List S36) (A2 : Option Addr) (c2 : Nat) (l2 : List S64) (v vip : Int) (w : World) (hr1 : Kd.C k36 w A1 l1.length l1) (hr2 : Kd.C k64 w A2 l2.length l2) (hmx : ∀ y ∈ l2, y.f3.length ≤ 1048576) :
    Calls Try.prog 24 #[.agg #[.int .i64 v, .slice A1 l1.length c1, .slice A2 l2.length c2], .int .i64 vip] w fun e_ w' => ∃ u, e_ = .returned (.agg #[.int .i64 (Cf.scd v l1 l2 vip), u]) ∧ Kd.R k67 67 w' w.heap.size (fun _ => True) u (Cf.sval v l1 l2 vip) ∧ Below w.heap.size w w' := by
  have hu31 := Try.underlying31
  have hu53 := Try.underlying53
  have hbig : l2.length ≤ 9223372036854775807 := by have := hr2.2.1; have hs : (k64).sz = 4 := rfl; (try simp only [maxLen] at this); (try rw [hs] at this); omega
  have hwl : IntKind.i64.wrap ((l2.length : Int) - 1) = (l2.length : Int) - 1 := by rw [IntKind.wrap_i64]; omega
  obtain ⟨w1, hw1⟩ : ∃ W, W = (w.alloc (.cells #[.int .i64 v, .slice A1 l1.length c1, .slice A2 l2.length c2] 31)).alloc (.cells #[.int .i64 0, .slice none 0 0] 53) := ⟨_, rfl⟩
  have hs1 : w1.heap.size = w.heap.size + 2 := by rw [hw1]; simp
  have hB1 : Below w.heap.size w w1 := by rw [hw1]; exact (((Below.refl _ w).alloc (Nat.le_refl _) _).alloc (by simp) _)
  have bg1 : w1.heap[w.heap.size]? = some (.cells #[.int .i64 v, .slice A1 l1.length c1, .slice A2 l2.length c2] 31 (0, 0)) := by rw [hw1]; exact blk_alloc (blk_new w _) _
  have bk1 : w1.heap[w.heap.size + 1]? = some (.cells #[.int .i64 0, .slice none 0 0] 53 (0, 0)) := by
    rw [hw1]
    have h_ := heap_alloc_new (w.alloc (.cells #[.int .i64 v, .slice A1 l1.length c1, .slice A2 l2.length c2] 31)) (.cells #[.int .i64 0, .slice none 0 0] 53)
    rwa [World.size_alloc] at h_
  have hr11 := Kd.C_below hr1 hB1
  have hr21 := Kd.C_below hr2 hB1
  have hcallF := spec_l5Fault.cf w.heap.size A1 c1 l1 A2 c2 l2 v w1 bg1 hr11 hr21
  rw [hw1] at hcallF
  obtain ⟨q, hq⟩ : ∃ q, q = Cf.code v l1 l2 := ⟨_, rfl⟩
  rw [← hq] at hcallF
  obtain ⟨rc, hrc⟩ : ∃ r, r = Cf.scd v l1 l2 vip := ⟨_, rfl⟩
  obtain ⟨rv, hrv⟩ : ∃ r, r = Cf.sval v l1 l2 vip := ⟨_, rfl⟩
  rw [← hrc, ← hrv]
  unfold Cf.scd at hrc
  unfold Cf.sval at hrv
  rw [← hq] at hrc hrv
  have hcallI := fun (W : World) => Cf.l1in vip 0 ((l2.length : Int) - 1) W
  go_enter Try.func24, Try.ntmps24
  by_cases hq0 : q = 0
  · have hq1 : (q != 0) = false := bne_eq_false_iff_eq.mpr hq0
    have hq2 : (q == 0) = true := beq_iff_eq.mpr hq0
    rw [if_neg (by simp [hq0])] at hrc hrv
    cases hin : Cf.inB vip 0 ((l2.length : Int) - 1) with
    | false =>
      rw [hin, if_pos rfl] at hrc hrv
      simp only [hin] at hcallI
      clear hq
      go_wp2_with (first
        | (go_at_call 50; refine hcallF.mono ?_; rintro e_ w2 ⟨rfl, hb2⟩; rw [← hw1] at hb2; clear hcallF; have z2 := blk_cell (blk_below bg1 hb2) 2; have bk4 := blk_below bk1 hb2; have y0 := blk_cell bk4 0; have f0 := blk_frozen bk4 0; have y1 := blk_cell bk4 1; have f1 := blk_frozen bk4 1)
        | (go_at_call 70; refine (hcallI _).mono ?_; rintro e_ w3 ⟨rfl, hb3⟩; replace hb2 := Cf.up hb2 hb3; clear hb3; clear z2 bk4 y0 y1 f0 f1; have z2 := blk_cell (blk_below bg1 hb2) 2; have bk4 := blk_below bk1 hb2; have y0 := blk_cell bk4 0; have f0 := blk_frozen bk4 0; have y1 := blk_cell bk4 1; have f1 := blk_frozen bk4 1))
      refine bodyPost_ret (results_cell_row rfl _ _ (w.heap.size + 1) 53 #[.int .i64 3, .slice none 0 0] (0, 0) _ rfl (by exact Cf.put2 bk4 _ _) Try.underlying53 rfl (by kernel_rfl)) rfl ?_
      refine ⟨.slice none 0 0, by rw [hrc], ?_, ?_⟩
      · rw [hrv]; exact Cf.R67_put2 (Kd.R_nil _ _ _ _ _) bk4 _ _
      · have := hb2.size
        repeat (refine below_set ?_ (by show _ ≤ w.heap.size + 1; omega))
        exact Cf.up hB1 hb2
    | true =>
      rw [hin, if_neg (by simp)] at hrc hrv
      simp only [hin] at hcallI
      have hv := hin
      unfold Cf.inB at hv
      simp only [Bool.and_eq_true, decide_eq_true_eq] at hv
      obtain ⟨i, hi⟩ : ∃ i : Nat, (i : Int) = vip := ⟨vip.toNat, by omega⟩
      have hil : i < l2.length := by omega
      have hfd := Cf.code_found (hq.symm.trans hq0) i hil
      have hmi : (rd_T64 l2 (i : Int)).f3.length ≤ 1048576 := by
        have e : rd_T64 l2 (i : Int) = l2[i] := by simp [rd_T64, List.getD, hil]
        rw [e]; exact hmx _ (List.getElem_mem hil)
      subst hi
      have hcallS := fun (W : World) (hW : Below w1.heap.size w1 W) => spec_l5Shares.cf w.heap.size A1 c1 l1 A2 c2 l2 v i W (blk_below bg1 hW) (Kd.C_below hr11 hW) (Kd.C_below hr21 hW) hil hfd hmi
      clear hq hfd hmi hin hv
      go_wp2_with (first
        | (go_at_call 50; refine hcallF.mono ?_; rintro e_ w2 ⟨rfl, hb2⟩; rw [← hw1] at hb2; clear hcallF; have z2 := blk_cell (blk_below bg1 hb2) 2; have bk4 := blk_below bk1 hb2; have y0 := blk_cell bk4 0; have f0 := blk_frozen bk4 0; have y1 := blk_cell bk4 1; have f1 := blk_frozen bk4 1)
        | (go_at_call 70; refine (hcallI _).mono ?_; rintro e_ w3 ⟨rfl, hb3⟩; replace hb2 := Cf.up hb2 hb3; clear hb3; clear z2 bk4 y0 y1 f0 f1; have z2 := blk_cell (blk_below bg1 hb2) 2; have bk4 := blk_below bk1 hb2; have y0 := blk_cell bk4 0; have f0 := blk_frozen bk4 0; have y1 := blk_cell bk4 1; have f1 := blk_frozen bk4 1)
        | (go_at_call 71; refine (hcallS _ hb2).mono ?_; rintro e_ w4 ⟨u, rfl, hR, hb4⟩; have hsz := hb2.size; replace hb2 := Cf.up hb2 hb4; clear hb4; obtain ⟨Au, cu, eu⟩ := Kd.R_slice hR; subst eu; clear z2 bk4 y0 y1 f0 f1; have z2 := blk_cell (blk_below bg1 hb2) 2; have bk4 := blk_below bk1 hb2; have y0 := blk_cell bk4 0; have f0 := blk_frozen bk4 0; have y1 := blk_cell bk4 1; have f1 := blk_frozen bk4 1))
      refine bodyPost_ret (results_cell_row rfl _ _ (w.heap.size + 1) 53 #[.int .i64 0, .slice Au (Cf.shr l1 (rd_T64 l2 (i : Int)).f3).length cu] (0, 0) _ rfl (by exact Cf.put2 bk4 _ _) Try.underlying53 rfl (by kernel_rfl)) rfl ?_
      refine ⟨.slice Au (Cf.shr l1 (rd_T64 l2 (i : Int)).f3).length cu, by rw [hrc], ?_, ?_⟩
      · rw [hrv]; exact Cf.R67_put2 (Kd.R_lower hR (by omega)) bk4 _ _
      · have := hb2.size
        repeat (refine below_set ?_ (by show _ ≤ w.heap.size + 1; omega))
        exact Cf.up hB1 hb2
  · have hq1 : (q != 0) = true := bne_iff_ne.mpr hq0
    have hq2 : (q == 0) = false := beq_eq_false_iff_ne.mpr hq0
    rw [if_pos hq0] at hrc hrv
    clear hq
    go_wp2_with (first
      | (go_at_call 50; refine hcallF.mono ?_; rintro e_ w2 ⟨rfl, hb2⟩; rw [← hw1] at hb2; clear hcallF; have z2 := blk_cell (blk_below bg1 hb2) 2; have bk4 := blk_below bk1 hb2; have y0 := blk_cell bk4 0; have f0 := blk_frozen bk4 0; have y1 := blk_cell bk4 1; have f1 := blk_frozen bk4 1))
    refine bodyPost_ret (results_cell_row rfl _ _ (w.heap.size + 1) 53 #[.int .i64 q, .slice none 0 0] (0, 0) _ rfl (by exact Cf.put2 bk4 _ _) Try.underlying53 rfl (by kernel_rfl)) rfl ?_
    refine ⟨.slice none 0 0, by rw [hrc], ?_, ?_⟩
    · rw [hrv]; exact Cf.R67_put2 (Kd.R_nil _ _ _ _ _) bk4 _ _
    · have := hb2.size
      repeat (refine below_set ?_ (by show _ ≤ w.heap.size + 1; omega))
      exact Cf.up hB1 hb2
def spec_SharesFor.f (a0_0 : Int) (l0_1 : List (S36)) (l0_2 : List (S64)) (a1 : Int) : Option (Int × (List (S67))) := if (∀ y ∈ l0_2, y.f3.length ≤ 1048576) then some (Cf.scd a0_0 l0_1 l0_2 a1, Cf.sval a0_0 l0_1 l0_2 a1) else none
theorem spec_SharesFor.calls (a0_0 : Int) (A0_1 : Option Addr) (c0_1 : Nat) (l0_1 : List (S36)) (A0_2 : Option Addr) (c0_2 : Nat) (l0_2 : List (S64)) (a1 : Int) (r1 : Int) (r2 : List (S67)) (w : World) (hr0_1 : Kd.C k36 w A0_1 l0_1.length l0_1) (hc0_1 : l0_1.length ≤ c0_1) (hr0_2 : Kd.C k64 w A0_2 l0_2.length l0_2) (hc0_2 : l0_2.length ≤ c0_2) (h : spec_SharesFor.f a0_0 l0_1 l0_2 a1 = some (r1, r2)) :
    Calls Try.prog 24 #[.agg #[.int .i64 a0_0, .slice A0_1 l0_1.length c0_1, .slice A0_2 l0_2.length c0_2], .int .i64 a1] w fun e w' => ∃ v1_ : Value, e = .returned (.agg #[.int .i64 r1, v1_]) ∧ Kd.R k67 67 w' w.heap.size (fun _ => True) v1_ r2 ∧ Below w.heap.size w w' := by
  unfold spec_SharesFor.f at h
  split at h
  case isFalse => cases h
  case isTrue hmx =>
    cases h
    exact spec_SharesFor.cf A0_1 c0_1 l0_1 A0_2 c0_2 l0_2 a0_0 a1 w hr0_1 hr0_2 hmx

/-! ### impl_Vip: function 72 -/
def impl_Vip.f (l0 : List (S64)) : Option (Int) := some (l0.length : Int)
set_option maxHeartbeats 8000000 in
set_option maxRecDepth 100000 in
theorem impl_Vip.calls (A0 : Option Addr) (c0 : Nat) (l0 : List (S64)) (r : Int) (w : World) (hr0 : Kd.C k64 w A0 l0.length l0) (hc0 : l0.length ≤ c0) (h : impl_Vip.f l0 = some r) :
    Calls Try.prog 72 #[.slice A0 l0.length c0] w fun e w' => e = .returned (.int .i64 r) ∧ Drawn0 w w' := by
  have HR0 := Aside0.mk hr0
  have HC0 := Aside0.mk hc0
  clear hr0 hc0
  have H : (some (l0.length : Int)) = some r := h
  clear h
  obtain rfl := Option.some.inj H
  go_enter Try.func72, Try.ntmps72
  go_wp2
  go_ret
  exact ⟨by first | rfl | (simp; done) | (simp [*]; done), by repeat (first | exact Drawn0.refl _ | apply Drawn0.step)⟩

-- NOT PRINTED: function 73 (impl_Config_shares)

/-! ### impl_SharesFor: function 25 -/
set_option maxHeartbeats 2000000 in
/-- slices.IndexFunc over such a slice, whatever the function value, if it says p of each element and turns nothing that lay. -/
theorem Cf.bk.ix_calls (p : S36 → Bool) (g : Nat) (lb : Array Value) (eg : ∀ args w, (callFunc g args).run Try.prog w = .ok (.enter g args) w) (A0 : Option Addr) (c0 : Nat) (l0 : List (S36)) (w : World) (hr0 : Kd.C k36 w A0 l0.length l0) (hc0 : l0.length ≤ c0)
    (hp : ∀ (W : World) (x : S36), Below w.heap.size w W → Calls Try.prog g (#[.agg #[.int .i64 x.f0, .int .i64 x.f1, .int .i64 x.f2, .int .i64 x.f3, .bool x.f4]] ++ lb) W fun e w' => e = .returned (.bool (p x)) ∧ Below w.heap.size w w') :
    Calls Try.prog 110 #[.slice A0 l0.length c0, .func (.func g) #[] lb] w fun e w' => e = .returned (.int .i64 (Go.Proofs.Ytfmlhpoaipeoeaa.Ix.ixFrom p l0 0)) ∧ Below w.heap.size w w' := by
  have hbig : l0.length ≤ 9223372036854775807 := by have := hr0.2.1; have hs : (k36).sz = 5 := rfl; (try simp only [maxLen] at this); (try rw [hs] at this); omega
  go_enter Try.func110, Try.ntmps110
  go_wp2
  go_loopg [5, 8] l0.length (fun gg _ s8 wr => ∃ kk : Nat, kk ≤ l0.length ∧ l0.length - kk ≤ gg ∧ s8 = .int .i64 kk ∧ Aside (Below w.heap.size w wr) ∧ Aside (∀ j, j < kk → p (l0.getD j z36) = false))
  case atStart => exact ⟨0, Nat.zero_le _, by omega, rfl, Below.refl _ w, fun j hj => absurd hj (Nat.not_lt_zero _)⟩
  case round =>
    obtain ⟨kk, hkk, hg, rfl, BW, AA⟩ := hrel
    by_cases hlt : kk < l0.length
    · have hltz : (kk : Int) < (l0.length : Int) := by omega
      obtain ⟨ad, eA, hx_0, hx_1, hx_2, hx_3, hx_4⟩ := at_T36 (Kd.C_below hr0 BW.out) (kk : Int) (by omega) hltz
      cases eA
      have hcall := hp wr (rd_T36 l0 (kk : Int)) BW.out
      have hy : l0.getD kk z36 = rd_T36 l0 (kk : Int) := rfl
      generalize rd_T36 l0 (kk : Int) = y at hx_0 hx_1 hx_2 hx_3 hx_4 hcall hy
      have B : Aside (l0.getD kk z36 = y) := hy
      clear hy hp
      simp only [Int.toNat_natCast] at hx_0 hx_1 hx_2 hx_3 hx_4
      cases hq : p y with
      | true =>
        rw [hq] at hcall
        go_wp2_with (go_at_fn g; refine hcall.mono ?_; rintro e w' ⟨rfl, hb'⟩)
        go_ret
        refine ⟨?_, hb'⟩
        rw [Go.Proofs.Ytfmlhpoaipeoeaa.Ix.ixFrom_hit p z36 l0 0 kk hlt (by rw [B.out]; exact hq) AA.out]
        simp
      | false =>
        rw [hq] at hcall
        go_wp2_with (go_at_fn g; refine hcall.mono ?_; rintro e w' ⟨rfl, hb'⟩)
        go_roundg (l0.length - (kk + 1))
        case measure => omega
        case rel =>
          refine ⟨kk + 1, by omega, by omega, by go_num, hb', (show Aside _ from fun j hj => ?_)⟩
          by_cases e : j = kk
          · subst e
            rw [B.out]; exact hq
          · exact AA.out j (by omega)
    · have hltz : ¬ (kk : Int) < (l0.length : Int) := by omega
      have : kk = l0.length := by omega
      subst this
      go_wp2
      go_ret
      refine ⟨?_, BW.out⟩
      rw [Go.Proofs.Ytfmlhpoaipeoeaa.Ix.ixFrom_miss p z36 l0 0 AA.out]
      rfl
set_option maxHeartbeats 2000000 in
/-- slices.IndexFunc over such a slice, whatever the function value, if it says p of each element and turns nothing that lay. -/
theorem Cf.nm.ix_calls (p : Int → Bool) (g : Nat) (lb : Array Value) (eg : ∀ args w, (callFunc g args).run Try.prog w = .ok (.enter g args) w) (A0 : Option Addr) (c0 : Nat) (l0 : List Int) (w : World) (hr0 : Kd.C (Kd.int .i64) w A0 l0.length l0) (hc0 : l0.length ≤ c0)
    (hp : ∀ (W : World) (x : Int), Below w.heap.size w W → Calls Try.prog g (#[.int .i64 x] ++ lb) W fun e w' => e = .returned (.bool (p x)) ∧ Below w.heap.size w w') :
    Calls Try.prog 109 #[.slice A0 l0.length c0, .func (.func g) #[] lb] w fun e w' => e = .returned (.int .i64 (Go.Proofs.Ytfmlhpoaipeoeaa.Ix.ixFrom p l0 0)) ∧ Below w.heap.size w w' := by
  have hbig : l0.length ≤ 9223372036854775807 := by have := hr0.2.1; have hs : (Kd.int .i64).sz = 1 := rfl; (try simp only [maxLen] at this); (try rw [hs] at this); omega
  go_enter Try.func109, Try.ntmps109
  go_wp2
  go_loopg [5, 8] l0.length (fun gg _ s8 wr => ∃ kk : Nat, kk ≤ l0.length ∧ l0.length - kk ≤ gg ∧ s8 = .int .i64 kk ∧ Aside (Below w.heap.size w wr) ∧ Aside (∀ j, j < kk → p (l0.getD j 0) = false))
  case atStart => exact ⟨0, Nat.zero_le _, by omega, rfl, Below.refl _ w, fun j hj => absurd hj (Nat.not_lt_zero _)⟩
  case round =>
    obtain ⟨kk, hkk, hg, rfl, BW, AA⟩ := hrel
    by_cases hlt : kk < l0.length
    · have hltz : (kk : Int) < (l0.length : Int) := by omega
      obtain ⟨ad, eA, hx_0⟩ := Kd.at_int (Kd.C_below hr0 BW.out) (kk : Int) (by omega) hltz
      cases eA
      have hcall := hp wr (rd l0 (kk : Int)) BW.out
      have hy : l0.getD kk 0 = rd l0 (kk : Int) := rfl
      generalize rd l0 (kk : Int) = y at hx_0 hcall hy
      have B : Aside (l0.getD kk 0 = y) := hy
      clear hy hp
      simp only [Int.toNat_natCast] at hx_0
      cases hq : p y with
      | true =>
        rw [hq] at hcall
        go_wp2_with (go_at_fn g; refine hcall.mono ?_; rintro e w' ⟨rfl, hb'⟩)
        go_ret
        refine ⟨?_, hb'⟩
        rw [Go.Proofs.Ytfmlhpoaipeoeaa.Ix.ixFrom_hit p 0 l0 0 kk hlt (by rw [B.out]; exact hq) AA.out]
        simp
      | false =>
        rw [hq] at hcall
        go_wp2_with (go_at_fn g; refine hcall.mono ?_; rintro e w' ⟨rfl, hb'⟩)
        go_roundg (l0.length - (kk + 1))
        case measure => omega
        case rel =>
          refine ⟨kk + 1, by omega, by omega, by go_num, hb', (show Aside _ from fun j hj => ?_)⟩
          by_cases e : j = kk
          · subst e
            rw [B.out]; exact hq
          · exact AA.out j (by omega)
    · have hltz : ¬ (kk : Int) < (l0.length : Int) := by omega
      have : kk = l0.length := by omega
      subst this
      go_wp2
      go_ret
      refine ⟨?_, BW.out⟩
      rw [Go.Proofs.Ytfmlhpoaipeoeaa.Ix.ixFrom_miss p 0 l0 0 AA.out]
      rfl
set_option maxHeartbeats 2000000 in
/-- slices.ContainsFunc over such a slice. -/
theorem Cf.nm.has_calls (p : Int → Bool) (g : Nat) (lb : Array Value) (eg : ∀ args w, (callFunc g args).run Try.prog w = .ok (.enter g args) w) (A0 : Option Addr) (c0 : Nat) (l0 : List Int) (w : World) (hr0 : Kd.C (Kd.int .i64) w A0 l0.length l0) (hc0 : l0.length ≤ c0)
    (hp : ∀ (W : World) (x : Int), Below w.heap.size w W → Calls Try.prog g (#[.int .i64 x] ++ lb) W fun e w' => e = .returned (.bool (p x)) ∧ Below w.heap.size w w') :
    Calls Try.prog 59 #[.slice A0 l0.length c0, .func (.func g) #[] lb] w fun e w' => e = .returned (.bool (l0.any p)) ∧ Below w.heap.size w w' := by
  rw [← Go.Proofs.Ytfmlhpoaipeoeaa.Ix.ixFrom_ge p l0 0 (by omega)]
  have hcon := Cf.nm.ix_calls p g lb eg A0 c0 l0 w hr0 hc0 hp
  clear hp
  go_enter Try.func59, Try.ntmps59
  go_wp2_with (go_at_call 109; refine hcon.mono ?_; rintro e w' ⟨rfl, hb'⟩)
  go_ret
  exact ⟨rfl, hb'⟩
set_option maxHeartbeats 2000000 in
/-- backend's closure: is a backend of the name that lies in a box? -/
theorem Cf.clo (q : Nat) (n : Int) (w : World) (hq : w.cell? ⟨q, 0, none⟩ = some (.int .i64 n)) (x : S36) (hql : q < w.heap.size) :
    Calls Try.prog 111 #[.agg #[.int .i64 x.f0, .int .i64 x.f1, .int .i64 x.f2, .int .i64 x.f3, .bool x.f4], .pointer (some ⟨q, 0, none⟩)] w fun e w' => e = .returned (.bool (Cf.named n x)) ∧ Below w.heap.size w w' := by
  have hu36 := Try.underlying36
  have hB1 : Below w.heap.size w (w.alloc (.cells #[.int .i64 x.f0, .int .i64 x.f1, .int .i64 x.f2, .int .i64 x.f3, .bool x.f4] 36)) := (Below.refl _ w).alloc (Nat.le_refl _) _
  have hq1 := (hB1.cell (p := ⟨q, 0, none⟩) hql).trans hq
  go_enter Try.func111, Try.ntmps111
  go_wp2
  go_ret
  exact ⟨rfl, hB1⟩
set_option maxHeartbeats 2000000 in
/-- The place of a backend of a name. -/
theorem impl_backend.cf (g : Nat) (A1 : Option Addr) (c1 : Nat) (l1 : List S36) (A2 : Option Addr) (n2 c2 : Nat) (v name : Int) (w : World) (hb : w.heap[g]? = some (.cells #[.int .i64 v, .slice A1 l1.length c1, .slice A2 n2 c2] 31 (0, 0))) (hr1 : Kd.C k36 w A1 l1.length l1) (hc1 : l1.length ≤ c1) :
    Calls Try.prog 61 #[.pointer (some ⟨g, 0, none⟩), .int .i64 name] w fun e w' => e = .returned (.int .i64 (Cf.place l1 name)) ∧ Below w.heap.size w w' := by
  obtain ⟨w1, hw1⟩ : ∃ W, W = w.alloc (.cells #[.int .i64 name] 2) := ⟨_, rfl⟩
  have hB1 : Below w.heap.size w w1 := by rw [hw1]; exact (Below.refl _ w).alloc (Nat.le_refl _) _
  have hs1 : w1.heap.size = w.heap.size + 1 := by rw [hw1]; simp
  have hq1 : w1.cell? ⟨w.heap.size, 0, none⟩ = some (.int .i64 name) := by rw [hw1]; exact blk_cell (blk_new w _) 0
  have hz1 : w.cell? ⟨g, 1, none⟩ = some (.slice A1 l1.length c1) := blk_cell hb 1
  have hz1' : (w.alloc (.cells #[.int .i64 name] 2)).cell? ⟨g, 1, none⟩ = some (.slice A1 l1.length c1) := by rw [← hw1]; exact blk_cell (blk_below hb hB1) 1
  have hcall := Cf.bk.ix_calls (Cf.named name) 111 #[.pointer (some ⟨w.heap.size, 0, none⟩)] (enters_of Try.func111 (by kernel_rfl) rfl) A1 c1 l1 w1 (Kd.C_below hr1 hB1) hc1 (fun W x hW => show Calls Try.prog 111 #[.agg #[.int .i64 x.f0, .int .i64 x.f1, .int .i64 x.f2, .int .i64 x.f3, .bool x.f4], .pointer (some ⟨w.heap.size, 0, none⟩)] W _ from (Cf.clo w.heap.size name W ((hW.cell (p := ⟨w.heap.size, 0, none⟩) (by show w.heap.size < w1.heap.size; omega)).trans hq1) x (by have := hW.size; omega)).mono fun e w' hh => ⟨hh.1, Cf.up hW hh.2⟩)
  rw [hw1] at hcall
  go_enter Try.func61, Try.ntmps61
  go_wp2_with (go_at_call 110; refine hcall.mono ?_; rintro e w2 ⟨rfl, hb2⟩; rw [← hw1] at hb2)
  go_ret
  exact ⟨rfl, Cf.up hB1 hb2⟩
set_option maxHeartbeats 2000000 in
/-- ConfigFault's closure: is there no backend of a name? -/
theorem Cf.clo2 (g : Nat) (A1 : Option Addr) (c1 : Nat) (l1 : List S36) (A2 : Option Addr) (n2 c2 : Nat) (v name : Int) (w : World) (hb : w.heap[g]? = some (.cells #[.int .i64 v, .slice A1 l1.length c1, .slice A2 n2 c2] 31 (0, 0))) (hr1 : Kd.C k36 w A1 l1.length l1) (hc1 : l1.length ≤ c1) :
    Calls Try.prog 60 #[.int .i64 name, .pointer (some ⟨g, 0, none⟩)] w fun e w' => e = .returned (.bool (Cf.gone l1 name)) ∧ Below w.heap.size w w' := by
  have hcall := fun (W : World) (hW : Below w.heap.size w W) => impl_backend.cf g A1 c1 l1 A2 n2 c2 v name W (blk_below hb hW) (Kd.C_below hr1 hW) hc1
  have hcall0 := hcall w (Below.refl _ _)
  clear hcall
  unfold Cf.gone
  go_enter Try.func60, Try.ntmps60
  go_wp2_with (go_at_call 61; refine hcall0.mono ?_; rintro e w2 ⟨rfl, hb2⟩)
  go_ret
  exact ⟨rfl, hb2⟩
/-- Is one of the names no backend's? -/
theorem Cf.hasgone (g : Nat) (A1 : Option Addr) (c1 : Nat) (l1 : List S36) (A2 : Option Addr) (n2 c2 : Nat) (v : Int) (A3 : Option Addr) (c3 : Nat) (l3 : List Int) (w : World) (hb : w.heap[g]? = some (.cells #[.int .i64 v, .slice A1 l1.length c1, .slice A2 n2 c2] 31 (0, 0))) (hr1 : Kd.C k36 w A1 l1.length l1) (hc1 : l1.length ≤ c1) (hr3 : Kd.C (Kd.int .i64) w A3 l3.length l3) (hc3 : l3.length ≤ c3) :
    Calls Try.prog 59 #[.slice A3 l3.length c3, .func (.func 60) #[] #[.pointer (some ⟨g, 0, none⟩)]] w fun e w' => e = .returned (.bool (l3.any (Cf.gone l1))) ∧ Below w.heap.size w w' :=
  Cf.nm.has_calls (Cf.gone l1) 60 #[.pointer (some ⟨g, 0, none⟩)] (enters_of Try.func60 (by kernel_rfl) rfl) A3 c3 l3 w hr3 hc3 (fun W x hW => show Calls Try.prog 60 #[.int .i64 x, .pointer (some ⟨g, 0, none⟩)] W _ from (Cf.clo2 g A1 c1 l1 A2 n2 c2 v x W (blk_below hb hW) (Kd.C_below hr1 hW) hc1).mono fun e w' hh => ⟨hh.1, Cf.up hW hh.2⟩)
theorem Cf.bind_s {α β : Type} (x : α) (f : α → Option β) : (some x).bind f = f x := rfl
theorem Cf.w64 {n : Int} (h0 : -9223372036854775808 ≤ n) (h1 : n ≤ 9223372036854775807) : wrap64 n = n := by unfold wrap64; omega
theorem Cf.in_is (a lo hi : Int) : impl_in.f a lo hi = some (Cf.inB a lo hi) := by
  unfold impl_in.f Cf.inB
  by_cases h : a ≥ lo
  · rw [if_pos h]; simp [h]
  · rw [if_neg h]; simp [h]
theorem Cf.iaddr_is (a : Int) : impl_isAddress.f a = some (Cf.inB a 0 4294967295) := by unfold impl_isAddress.f; rw [Cf.in_is]; rfl
theorem Cf.iport_is (a : Int) : impl_isPort.f a = some (Cf.inB a 0 65535) := by unfold impl_isPort.f; rw [Cf.in_is]; rfl
theorem Cf.iproto_is (a : Int) : impl_isProto.f a = some (Cf.prB a) := by
  unfold impl_isProto.f Cf.prB
  by_cases h : a = 6
  · rw [if_pos h]; simp [h]
  · rw [if_neg h]; simp [h]; rfl
theorem Cf.ibackend_is (x : S36) : impl_isBackend.f x.f0 x.f1 x.f2 x.f3 x.f4 = some (Cf.isb x) := by
  unfold impl_isBackend.f impl_isName.f Cf.isb
  simp only [Cf.iaddr_is, Cf.in_is, Option.bind_some]
  cases Cf.inB x.f0 1 999 <;> cases Cf.inB x.f1 0 4294967295 <;> cases Cf.inB x.f2 0 9 <;> rfl
theorem Cf.Compare_is (a b : Int) : cmp_Compare_int64.f a b = some (if a < b then -1 else if a > b then 1 else 0) := by
  unfold cmp_Compare_int64.f cmp_isNaN_int64.f
  rw [Cf.bind_s, Cf.bind_s, bne_self_eq_false, bne_self_eq_false, if_neg (by decide), if_neg (by decide)]
  by_cases h : a < b
  · rw [if_pos h, if_pos h]
  · rw [if_neg h, if_neg h]
    by_cases h2 : a > b
    · rw [if_pos h2, if_pos h2]
    · rw [if_neg h2, if_neg h2]
theorem Cf.Or_is (a b c : Int) : cmp_Or_int.f 4 [a, b, c] = some (if a = 0 then (if b = 0 then c else b) else a) := by
  have w0 : wrap64 ((0 : Int) + 1) = 1 := Cf.w64 (by omega) (by omega)
  have w1 : wrap64 ((1 : Int) + 1) = 2 := Cf.w64 (by omega) (by omega)
  have w2 : wrap64 ((2 : Int) + 1) = 3 := Cf.w64 (by omega) (by omega)
  have r0 : rd [a, b, c] 0 = a := rfl
  have r1 : rd [a, b, c] 1 = b := rfl
  have r2 : rd [a, b, c] 2 = c := rfl
  unfold cmp_Or_int.f
  rw [cmp_Or_int.l0.eq_2, if_pos (by simp), if_pos (by omega), if_pos (by simp), r0, w0]
  by_cases h0 : a = 0
  · rw [if_pos h0, if_pos h0, cmp_Or_int.l0.eq_2, if_pos (by simp), if_pos (by omega), if_pos (by simp), r1, w1]
    by_cases h1 : b = 0
    · rw [if_pos h1, if_pos h1, cmp_Or_int.l0.eq_2, if_pos (by simp), if_pos (by omega), if_pos (by simp), r2, w2]
      by_cases h2 : c = 0
      · rw [if_pos h2, cmp_Or_int.l0.eq_2, if_neg (by simp), h2]
      · rw [if_neg h2]
    · rw [if_neg h1, if_neg h1]
  · rw [if_neg h0, if_neg h0]
def Cf.cmp (a b : Int) : Int := if a < b then -1 else if a > b then 1 else 0
def Cf.cmpV (x y : S64) : Int := if Cf.cmp x.f0 y.f0 = 0 then (if Cf.cmp x.f1 y.f1 = 0 then Cf.cmp x.f2 y.f2 else Cf.cmp x.f1 y.f1) else Cf.cmp x.f0 y.f0
theorem Cf.compare_is (x y : S64) : impl_compareVip.f 4 x.f0 x.f1 x.f2 x.f3 y.f0 y.f1 y.f2 y.f3 = some (Cf.cmpV x y) := by
  unfold impl_compareVip.f
  rw [Cf.Compare_is, Cf.bind_s, Cf.Compare_is, Cf.bind_s, Cf.Compare_is, Cf.bind_s, Cf.Or_is, Cf.bind_s]; rfl
theorem Cf.cmp_beh (x y : S64) : decide (0 ≤ Cf.cmpV x y) = !Cf.beh x y := by
  unfold Cf.cmpV Cf.beh Cf.cmp
  rcases Int.lt_trichotomy x.f0 y.f0 with h | h | h
  · rw [if_pos h, if_neg (by omega), if_neg (by omega), decide_eq_true h]; rfl
  · rw [if_neg (show ¬ x.f0 < y.f0 by omega), if_neg (show ¬ x.f0 > y.f0 by omega), if_pos rfl, if_pos h]
    rcases Int.lt_trichotomy x.f1 y.f1 with h | h | h
    · rw [if_pos h, if_neg (by omega), if_neg (by omega), decide_eq_true h]; rfl
    · rw [if_neg (show ¬ x.f1 < y.f1 by omega), if_neg (show ¬ x.f1 > y.f1 by omega), if_pos rfl, if_pos h]
      rcases Int.lt_trichotomy x.f2 y.f2 with h | h | h
      · rw [if_pos h, decide_eq_true h]; rfl
      · rw [if_neg (show ¬ x.f2 < y.f2 by omega), if_neg (show ¬ x.f2 > y.f2 by omega), decide_eq_false (show ¬ x.f2 < y.f2 by omega)]; rfl
      · rw [if_neg (show ¬ x.f2 < y.f2 by omega), if_pos h, decide_eq_false (show ¬ x.f2 < y.f2 by omega)]; rfl
    · rw [if_neg (show ¬ x.f1 < y.f1 by omega), if_pos h, if_neg (by omega), if_neg (by omega), decide_eq_false (show ¬ x.f1 < y.f1 by omega)]; rfl
  · rw [if_neg (show ¬ x.f0 < y.f0 by omega), if_pos h, if_neg (by omega), if_neg (by omega), decide_eq_false (show ¬ x.f0 < y.f0 by omega)]; rfl
theorem Cf.iin (a lo hi : Int) (w : World) : Calls Try.prog 53 #[.int .i64 a, .int .i64 lo, .int .i64 hi] w fun e w' => e = .returned (.bool (Cf.inB a lo hi)) ∧ Below w.heap.size w w' := (impl_in.calls a lo hi _ w (Cf.in_is a lo hi)).mono (fun _ _ h => ⟨h.1, h.2.below⟩)
theorem Cf.iaddr (a : Int) (w : World) : Calls Try.prog 55 #[.int .i64 a] w fun e w' => e = .returned (.bool (Cf.inB a 0 4294967295)) ∧ Below w.heap.size w w' := (impl_isAddress.calls a _ w (Cf.iaddr_is a)).mono (fun _ _ h => ⟨h.1, h.2.below⟩)
theorem Cf.iport (a : Int) (w : World) : Calls Try.prog 56 #[.int .i64 a] w fun e w' => e = .returned (.bool (Cf.inB a 0 65535)) ∧ Below w.heap.size w w' := (impl_isPort.calls a _ w (Cf.iport_is a)).mono (fun _ _ h => ⟨h.1, h.2.below⟩)
theorem Cf.iproto (a : Int) (w : World) : Calls Try.prog 57 #[.int .i64 a] w fun e w' => e = .returned (.bool (Cf.prB a)) ∧ Below w.heap.size w w' := (impl_isProto.calls a _ w (Cf.iproto_is a)).mono (fun _ _ h => ⟨h.1, h.2.below⟩)
/-! the codes of a vip, case by case -/
theorem Cf.vc_3 {l1 : List S36} {l2 : List S64} {i : Nat} {x : S64} (hx : l2.getD i z64 = x) (h : Cf.vok x = false) : Cf.vcode l1 l2 i = 3 := by unfold Cf.vcode; rw [hx, if_pos h]
theorem Cf.vc_1 {l1 : List S36} {l2 : List S64} {i : Nat} {x : S64} (hx : l2.getD i z64 = x) (h : Cf.vok x = true) (h1 : (decide (0 < i) && !Cf.beh (l2.getD (i - 1) z64) x) = true) : Cf.vcode l1 l2 i = 1 := by unfold Cf.vcode; rw [hx, if_neg (by rw [h]; simp), if_pos h1]
theorem Cf.vc_4 {l1 : List S36} {l2 : List S64} {i : Nat} {x : S64} (hx : l2.getD i z64 = x) (h : Cf.vok x = true) (h1 : (decide (0 < i) && !Cf.beh (l2.getD (i - 1) z64) x) = false) (h2 : x.f3.any (Cf.gone l1) = true) : Cf.vcode l1 l2 i = 4 := by unfold Cf.vcode; rw [hx, if_neg (by rw [h]; simp), if_neg (by rw [h1]; simp), if_pos h2]
theorem Cf.vc_r {l1 : List S36} {l2 : List S64} {i : Nat} {x : S64} (hx : l2.getD i z64 = x) (h : Cf.vok x = true) (h1 : (decide (0 < i) && !Cf.beh (l2.getD (i - 1) z64) x) = false) (h2 : x.f3.any (Cf.gone l1) = false) : Cf.vcode l1 l2 i = if (List.range x.f3.length).any (Cf.falls x.f3) = true then 1 else 0 := by unfold Cf.vcode; rw [hx, if_neg (by rw [h]; simp), if_neg (by rw [h1]; simp), if_neg (by rw [h2]; simp)]
set_option maxHeartbeats 16000000 in
set_option maxRecDepth 100000 in
/-- What is not right of a configuration: the program's. -/
theorem impl_ConfigFault.cf (A1 : Option Addr) (c1 : Nat) (l1 : List S36) (A2 : Option Addr) (c2 : Nat) (l2 : List S64) (v : Int) (w : World) (hr1 : Kd.C k36 w A1 l1.length l1) (hc1 : l1.length ≤ c1) (hr2 : Kd.C k64 w A2 l2.length l2) :
    Calls Try.prog 15 #[.agg #[.int .i64 v, .slice A1 l1.length c1, .slice A2 l2.length c2]] w fun e w' => e = .returned (.int .i64 (Cf.code v l1 l2)) ∧ Below w.heap.size w w' := by
  have hu36 := Try.underlying36
  have hu31 := Try.underlying31
  have hu64 := Try.underlying64
  obtain ⟨r, hr⟩ : ∃ r, r = Cf.code v l1 l2 := ⟨_, rfl⟩
  rw [← hr]
  have hbig1 : l1.length ≤ 9223372036854775807 := by have := hr1.2.1; have hs : (k36).sz = 5 := rfl; (try simp only [maxLen] at this); (try rw [hs] at this); omega
  have hbig2 : l2.length ≤ 9223372036854775807 := by have := hr2.2.1; have hs : (k64).sz = 4 := rfl; (try simp only [maxLen] at this); (try rw [hs] at this); omega
  obtain ⟨w1, hw1⟩ : ∃ W, W = w.alloc (.cells #[.int .i64 v, .slice A1 l1.length c1, .slice A2 l2.length c2] 31) := ⟨_, rfl⟩
  have hB1 : Below w.heap.size w w1 := by rw [hw1]; exact (Below.refl _ w).alloc (Nat.le_refl _) _
  have D1 : Aside0 (w1.heap[w.heap.size]? = some (.cells #[.int .i64 v, .slice A1 l1.length c1, .slice A2 l2.length c2] 31 (0, 0))) := ⟨by rw [hw1]; exact blk_new w _⟩
  have D2 : Aside0 (Kd.C k36 w1 A1 l1.length l1) := ⟨Kd.C_below hr1 hB1⟩
  have D3 : Aside0 (Kd.C k64 w1 A2 l2.length l2) := ⟨Kd.C_below hr2 hB1⟩
  have DB : Aside0 (Below w.heap.size w w1) := ⟨hB1⟩
  clear hr1 hr2 hB1
  have h0 := Cf.iin v 0 1000000
  go_enter Try.func15, Try.ntmps15
  cases e0 : Cf.inB v 0 1000000 with
  | false =>
    simp only [e0] at h0
    go_wp2_with (go_at_call 53; refine (h0 _).mono ?_; rintro e w2 ⟨rfl, hb2⟩; rw [← hw1] at hb2)
    go_ret
    exact ⟨by rw [hr]; unfold Cf.code; rw [e0]; rfl, Cf.up DB.out hb2⟩
  | true =>
    simp only [e0] at h0
    by_cases hm : (l1.length : Int) > 8
    · have hm0 : decide ((8 : Int) < (l1.length : Int)) = true := decide_eq_true hm
      go_wp2_with (go_at_call 53; refine (h0 _).mono ?_; rintro e w2 ⟨rfl, hb2⟩; rw [← hw1] at hb2; have z1 := blk_cell (blk_below D1.out hb2) 1)
      go_ret
      exact ⟨by rw [hr]; unfold Cf.code; rw [e0, if_neg (by simp), if_pos (by rw [decide_eq_true hm]; rfl)]; rfl, Cf.up DB.out hb2⟩
    have hm0 : decide ((8 : Int) < (l1.length : Int)) = false := decide_eq_false hm
    by_cases hm2 : (l2.length : Int) > 4
    · have hm20 : decide ((4 : Int) < (l2.length : Int)) = true := decide_eq_true hm2
      go_wp2_with (go_at_call 53; refine (h0 _).mono ?_; rintro e w2 ⟨rfl, hb2⟩; rw [← hw1] at hb2; have z1 := blk_cell (blk_below D1.out hb2) 1; have z2 := blk_cell (blk_below D1.out hb2) 2)
      go_ret
      exact ⟨by rw [hr]; unfold Cf.code; rw [e0, if_neg (by simp), if_pos (by rw [decide_eq_true hm2]; simp)]; rfl, Cf.up DB.out hb2⟩
    have hm20 : decide ((4 : Int) < (l2.length : Int)) = false := decide_eq_false hm2
    have HR := Aside0.mk (Cf.code_b hr e0 hm hm2)
    clear hr
    go_wp2_with (go_at_call 53; refine (h0 _).mono ?_; rintro e w2 ⟨rfl, hb2⟩; rw [← hw1] at hb2; have z1 := blk_cell (blk_below D1.out hb2) 1; have z2 := blk_cell (blk_below D1.out hb2) 2)
    go_loopg [3, 4, 27] l1.length (fun gg _ _ s27 wr => ∃ kk : Nat, kk ≤ l1.length ∧ l1.length - kk ≤ gg ∧ s27 = .int .i64 kk ∧ Aside (Below w1.heap.size w1 wr) ∧ Aside (∀ j, j < kk → Cf.bcode l1 j = 0))
    case atStart => exact ⟨0, Nat.zero_le _, by omega, rfl, hb2, fun j hj => absurd hj (Nat.not_lt_zero _)⟩
    case round =>
      clear z1 z2 hb2 h0 hw1
      obtain ⟨kk, hkk, hg_, rfl, BW, AA⟩ := hrel
      by_cases hlt : kk < l1.length
      · have hltz : (kk : Int) < (l1.length : Int) := by omega
        obtain ⟨ad, eA, hx_0, hx_1, hx_2, hx_3, hx_4⟩ := at_T36 (Kd.C_below D2.out BW.out) (kk : Int) (by omega) hltz
        cases eA
        have hy : l1.getD kk z36 = rd_T36 l1 (kk : Int) := rfl
        generalize rd_T36 l1 (kk : Int) = y at hx_0 hx_1 hx_2 hx_3 hx_4 hy
        have B : Aside (l1.getD kk z36 = y) := hy
        clear hy
        simp only [Int.toNat_natCast] at hx_0 hx_1 hx_2 hx_3 hx_4
        obtain ⟨wb, hwb⟩ : ∃ W, W = wr.alloc (.cells #[.int .i64 y.f0, .int .i64 y.f1, .int .i64 y.f2, .int .i64 y.f3, .bool y.f4] 36) := ⟨_, rfl⟩
        have HWB := Aside0.mk (show Below wr.heap.size wr wb by rw [hwb]; exact (Below.refl _ wr).alloc (Nat.le_refl _) _)
        have HBK := Aside0.mk (show wb.heap[wr.heap.size]? = some (.cells #[.int .i64 y.f0, .int .i64 y.f1, .int .i64 y.f2, .int .i64 y.f3, .bool y.f4] 36 (0, 0)) by rw [hwb]; exact blk_new wr _)
        have hc := fun (W : World) => impl_isBackend.calls y.f0 y.f1 y.f2 y.f3 y.f4 _ W (Cf.ibackend_is y)
        cases hq : Cf.isb y with
        | false =>
          simp only [hq] at hc
          go_wp2_with (go_at_call 54; refine (hc _).mono ?_; rintro e w3 ⟨rfl, hb3⟩; rw [← hwb] at hb3)
          go_ret
          exact ⟨by rw [Cf.code_hit (v := v) HR.out kk hlt (by rw [Cf.bcode_3 (by rw [B.out]; exact hq)]; simp) AA.out, Cf.bcode_3 (by rw [B.out]; exact hq)]; rfl, Cf.up DB.out (Cf.up BW.out (Cf.up HWB.out hb3))⟩
        | true =>
          simp only [hq] at hc
          by_cases hk0 : 0 < kk
          · have hg0 : decide ((0 : Int) < (kk : Int)) = true := decide_eq_true (by omega)
            obtain ⟨j, hj⟩ : ∃ j, j = kk - 1 := ⟨_, rfl⟩
            have hwj : IntKind.i64.wrap ((kk : Int) - 1) = (j : Int) := by rw [IntKind.wrap_i64]; omega
            have hjl : (j : Int) < (l1.length : Int) := by omega
            have C : Aside (l1.getD (kk - 1) z36 = rd_T36 l1 (j : Int)) := (by rw [← hj]; rfl)
            clear hj
            cases hle : decide (y.f0 ≤ (rd_T36 l1 (j : Int)).f0) with
            | true =>
              go_wp2_with (go_at_call 54; refine (hc _).mono ?_; rintro e w3 ⟨rfl, hb3⟩; rw [← hwb] at hb3; have hb3' := hb3; replace hb3 := Cf.up HWB.out hb3; have z1 := blk_cell (blk_below D1.out (Cf.up BW.out hb3)) 1; have zb := blk_cell (blk_below HBK.out hb3') 0; obtain ⟨ad2, eA2, px_0, px_1, px_2, px_3, px_4⟩ := at_T36 (Kd.C_below D2.out (Cf.up BW.out hb3)) (j : Int) (by omega) hjl; cases eA2; simp only [Int.toNat_natCast] at px_0)
              go_quiet (fail)
              go_wp2
              go_ret
              have hbc : Cf.bcode l1 kk = 1 := Cf.bcode_1 (by rw [B.out]; exact hq) hk0 (by rw [B.out, C.out]; exact hle)
              exact ⟨by rw [Cf.code_hit (v := v) HR.out kk hlt (by rw [hbc]; simp) AA.out, hbc]; rfl, Cf.up DB.out (pw_below_drewN (Cf.up BW.out hb3) _)⟩
            | false =>
              go_wp2_with (go_at_call 54; refine (hc _).mono ?_; rintro e w3 ⟨rfl, hb3⟩; rw [← hwb] at hb3; have hb3' := hb3; replace hb3 := Cf.up HWB.out hb3; have z1 := blk_cell (blk_below D1.out (Cf.up BW.out hb3)) 1; have zb := blk_cell (blk_below HBK.out hb3') 0; obtain ⟨ad2, eA2, px_0, px_1, px_2, px_3, px_4⟩ := at_T36 (Kd.C_below D2.out (Cf.up BW.out hb3)) (j : Int) (by omega) hjl; cases eA2; simp only [Int.toNat_natCast] at px_0)
              go_quiet (fail)
              go_wp2
              have hbc : Cf.bcode l1 kk = 0 := Cf.bcode_0 (by rw [B.out]; exact hq) (by rw [B.out, C.out, hle]; simp)
              go_roundg (l1.length - (kk + 1))
              case measure => omega
              case rel =>
                refine ⟨kk + 1, by omega, by omega, by go_num, pw_below_drewN (Cf.up BW.out hb3) _, (show Aside _ from fun j hj => ?_)⟩
                by_cases e : j = kk
                · subst e; exact hbc
                · exact AA.out j (by omega)
          · have hg0 : decide ((0 : Int) < (kk : Int)) = false := decide_eq_false (by omega)
            go_wp2_with (go_at_call 54; refine (hc _).mono ?_; rintro e w3 ⟨rfl, hb3⟩; rw [← hwb] at hb3; replace hb3 := Cf.up HWB.out hb3)
            go_quiet (fail)
            go_wp2
            have hbc : Cf.bcode l1 kk = 0 := Cf.bcode_0 (by rw [B.out]; exact hq) (by rw [decide_eq_false hk0]; rfl)
            go_roundg (l1.length - (kk + 1))
            case measure => omega
            case rel =>
              refine ⟨kk + 1, by omega, by omega, by go_num, pw_below_drewN (Cf.up BW.out hb3) _, (show Aside _ from fun j hj => ?_)⟩
              by_cases e : j = kk
              · subst e; exact hbc
              · exact AA.out j (by omega)
      · have hltz : ¬ (kk : Int) < (l1.length : Int) := by omega
        have : kk = l1.length := by omega
        subst this
        have HV := Aside0.mk (Cf.code_v HR.out AA.out)
        have BW0 : Aside0 (Below w1.heap.size w1 wr) := ⟨BW.out⟩
        have z2 := blk_cell (blk_below D1.out BW.out) 2
        clear AA BW hg_ hkk hlt HR
        go_wp2
        go_loopg [5, 6, 7, 53] l2.length (fun gg _ _ _ s53 wr => ∃ kk : Nat, kk ≤ l2.length ∧ l2.length - kk ≤ gg ∧ s53 = .int .i64 kk ∧ Aside (Below w1.heap.size w1 wr) ∧ Aside (∀ j, j < kk → Cf.vcode l1 l2 j = 0))
        case atStart => exact ⟨0, Nat.zero_le _, by omega, rfl, BW0.out, fun j hj => absurd hj (Nat.not_lt_zero _)⟩
        case round =>
          clear z2 BW0
          obtain ⟨kk, hkk, hg_, rfl, BW, AA⟩ := hrel
          by_cases hlt : kk < l2.length
          · have hltz : (kk : Int) < (l2.length : Int) := by omega
            obtain ⟨ad, A3, c3, eA, hx_0, hx_1, hx_2, hx_3, hl3, hC3⟩ := at_T64 (Kd.C_below D3.out BW.out) (kk : Int) (by omega) hltz
            cases eA
            have hy : l2.getD kk z64 = rd_T64 l2 (kk : Int) := rfl
            generalize rd_T64 l2 (kk : Int) = x at hx_0 hx_1 hx_2 hx_3 hl3 hC3 hy
            have B : Aside (l2.getD kk z64 = x) := hy
            clear hy
            simp only [Int.toNat_natCast] at hx_0 hx_1 hx_2 hx_3
            have hn3 : x.f3.length ≤ 9223372036854775807 := by have := hC3.2.1; have hs : (Kd.int .i64).sz = 1 := rfl; (try simp only [maxLen] at this); (try rw [hs] at this); omega
            obtain ⟨wv, hwv⟩ : ∃ W, W = wr.alloc (.cells #[.int .i64 x.f0, .int .i64 x.f1, .int .i64 x.f2, .slice A3 x.f3.length c3] 64) := ⟨_, rfl⟩
            have HWV : Below wr.heap.size wr wv := by rw [hwv]; exact (Below.refl _ wr).alloc (Nat.le_refl _) _
            have BV := Aside0.mk (Cf.up BW.out HWV)
            have HBK := Aside0.mk (show wv.heap[wr.heap.size]? = some (.cells #[.int .i64 x.f0, .int .i64 x.f1, .int .i64 x.f2, .slice A3 x.f3.length c3] 64 (0, 0)) by rw [hwv]; exact blk_new wr _)
            have HC3 := Aside0.mk (Kd.C_below hC3 HWV)
            clear HWV hC3
            have h0 := Cf.iaddr x.f0
            have h1 := Cf.iport x.f1
            have h2 := Cf.iproto x.f2
            cases e0 : Cf.inB x.f0 0 4294967295 with
            | false =>
              simp only [e0] at h0
              go_wp2_with (go_at_call 55; refine (h0 _).mono ?_; rintro e w2 ⟨rfl, hb2⟩; rw [← hwv] at hb2; have q1 := blk_cell (blk_below HBK.out hb2) 1)
              go_ret
              exact ⟨by rw [Cf.vhit HV.out kk hlt (by rw [Cf.vc_3 B.out (by unfold Cf.vok; rw [e0]; rfl)]; simp) AA.out, Cf.vc_3 B.out (by unfold Cf.vok; rw [e0]; rfl)]; rfl, Cf.up DB.out (Cf.up BV.out hb2)⟩
            | true =>
              simp only [e0] at h0
              cases e1 : Cf.inB x.f1 0 65535 with
              | false =>
                simp only [e1] at h1
                go_wp2_with (first | (go_at_call 55; refine (h0 _).mono ?_; rintro e w2 ⟨rfl, hb2⟩; rw [← hwv] at hb2; have q1 := blk_cell (blk_below HBK.out hb2) 1) | (go_at_call 56; refine (h1 _).mono ?_; rintro e w3 ⟨rfl, hb3⟩; replace hb2 := Cf.up hb2 hb3; clear hb3))
                go_ret
                exact ⟨by rw [Cf.vhit HV.out kk hlt (by rw [Cf.vc_3 B.out (by unfold Cf.vok; rw [e0, e1]; rfl)]; simp) AA.out, Cf.vc_3 B.out (by unfold Cf.vok; rw [e0, e1]; rfl)]; rfl, Cf.up DB.out (Cf.up BV.out hb2)⟩
              | true =>
                simp only [e1] at h1
                cases e2 : Cf.prB x.f2 with
                | false =>
                  simp only [e2] at h2
                  go_wp2_with (first | (go_at_call 55; refine (h0 _).mono ?_; rintro e w2 ⟨rfl, hb2⟩; rw [← hwv] at hb2; have q1 := blk_cell (blk_below HBK.out hb2) 1) | (go_at_call 56; refine (h1 _).mono ?_; rintro e w3 ⟨rfl, hb3⟩; replace hb2 := Cf.up hb2 hb3; clear hb3; clear q1; have q2 := blk_cell (blk_below HBK.out hb2) 2) | (go_at_call 57; refine (h2 _).mono ?_; rintro e w4 ⟨rfl, hb4⟩; replace hb2 := Cf.up hb2 hb4; clear hb4 q2))
                  go_ret
                  exact ⟨by rw [Cf.vhit HV.out kk hlt (by rw [Cf.vc_3 B.out (by unfold Cf.vok; rw [e0, e1, e2]; rfl)]; simp) AA.out, Cf.vc_3 B.out (by unfold Cf.vok; rw [e0, e1, e2]; rfl)]; rfl, Cf.up DB.out (Cf.up BV.out hb2)⟩
                | true =>
                  simp only [e2] at h2
                  have hok : Cf.vok x = true := by unfold Cf.vok; rw [e0, e1, e2]; rfl
                  go_wp2_with (first | (go_at_call 55; refine (h0 _).mono ?_; rintro e w2 ⟨rfl, hb2⟩; rw [← hwv] at hb2; have q1 := blk_cell (blk_below HBK.out hb2) 1) | (go_at_call 56; refine (h1 _).mono ?_; rintro e w3 ⟨rfl, hb3⟩; replace hb2 := Cf.up hb2 hb3; clear hb3; clear q1; have q2 := blk_cell (blk_below HBK.out hb2) 2) | (go_at_call 57; refine (h2 _).mono ?_; rintro e w4 ⟨rfl, hb4⟩; replace hb2 := Cf.up hb2 hb4; clear hb4 q2))
                  clear h0 h1 h2
                  by_cases hk0 : 0 < kk
                  · have hg0 : decide ((0 : Int) < (kk : Int)) = true := decide_eq_true (by omega)
                    obtain ⟨j, hj⟩ : ∃ j, j = kk - 1 := ⟨_, rfl⟩
                    have hwj : IntKind.i64.wrap ((kk : Int) - 1) = (j : Int) := by rw [IntKind.wrap_i64]; omega
                    have hjl : (j : Int) < (l2.length : Int) := by omega
                    have hjl0 : (0 : Int) ≤ (j : Int) := by omega
                    obtain ⟨ad2, A5, c5, eB, px_0, px_1, px_2, px_3, pl3, pC3⟩ := at_T64 (Kd.C_below D3.out (Cf.up BV.out hb2)) (j : Int) (by omega) hjl
                    cases eB
                    have C0 : l2.getD (kk - 1) z64 = rd_T64 l2 (j : Int) := (by rw [← hj]; rfl)
                    generalize rd_T64 l2 (j : Int) = y at px_0 px_1 px_2 px_3 pl3 pC3 C0
                    have C : Aside (l2.getD (kk - 1) z64 = y) := C0
                    clear C0 hj
                    simp only [Int.toNat_natCast] at px_0 px_1 px_2 px_3
                    have hz2' := blk_cell (blk_below D1.out (Cf.up BV.out hb2)) 2
                    have bv := blk_below HBK.out hb2
                    have v0 := blk_cell bv 0
                    have v1 := blk_cell bv 1
                    have v2 := blk_cell bv 2
                    have v3 := blk_cell bv 3
                    clear bv
                    have hcmp := fun (W : World) (hW : Below w4.heap.size w4 W) => impl_compareVip.calls 4 y.f0 y.f1 y.f2 A5 c5 y.f3 x.f0 x.f1 x.f2 A3 c3 x.f3 _ W (Kd.C_below pC3 hW) pl3 (Kd.C_below (Kd.C_below HC3.out hb2) hW) hl3 (Cf.compare_is y x)
                    have hcb := Cf.cmp_beh y x
                    cases hbh : Cf.beh y x with
                    | false =>
                      rw [hbh] at hcb
                      have hcb' : decide (0 ≤ Cf.cmpV y x) = true := hcb
                      clear hcb
                      go_still_tail 10, (by kernel_rfl)
                      change wpList _ _ _ _ _ w4.drew
                      have hd : Below w4.heap.size w4 w4.drew := below_drew1 (Below.refl _ _)
                      generalize w4.drew = wd at hd
                      go_wp2_with (go_at_call 58; refine (hcmp _ hd).mono ?_; rintro e w5 ⟨rfl, hb5⟩; replace hb2 := Cf.up (Cf.up hb2 hd) hb5)
                      go_ret
                      have H1 : (decide (0 < kk) && !Cf.beh (l2.getD (kk - 1) z64) x) = true := by rw [decide_eq_true hk0, C.out, hbh]; rfl
                      exact ⟨by rw [Cf.vhit HV.out kk hlt (by rw [Cf.vc_1 B.out hok H1]; simp) AA.out, Cf.vc_1 B.out hok H1]; rfl, Cf.up DB.out (Cf.up BV.out hb2)⟩
                    | true =>
                      rw [hbh] at hcb
                      have hcb' : decide (0 ≤ Cf.cmpV y x) = false := hcb
                      clear hcb
                      have H1 := Aside0.mk (show (decide (0 < kk) && !Cf.beh (l2.getD (kk - 1) z64) x) = false by rw [decide_eq_true hk0, C.out, hbh]; rfl)
                      go_still_tail 10, (by kernel_rfl)
                      change wpList _ _ _ _ _ w4.drew
                      have hd : Below w4.heap.size w4 w4.drew := below_drew1 (Below.refl _ _)
                      generalize w4.drew = wd at hd
                      go_wp2_with (go_at_call 58; refine (hcmp _ hd).mono ?_; rintro e w5 ⟨rfl, hb5⟩; replace hb2 := Cf.up (Cf.up hb2 hd) hb5; clear hb5 hd hcmp px_0 px_1 px_2 px_3 pl3 pC3 hz2' v0 v1 v2 v3; have q3 := blk_cell (blk_below HBK.out hb2) 3)
                      clear q3
                      have z3 := blk_cell (blk_below HBK.out hb2) 3
                      have hcall := Cf.hasgone w.heap.size A1 c1 l1 (some ad) l2.length c2 v A3 c3 x.f3 w5 (blk_below D1.out (Cf.up BV.out hb2)) (Kd.C_below D2.out (Cf.up BV.out hb2)) hc1 (Kd.C_below HC3.out hb2) hl3
                      cases hh : x.f3.any (Cf.gone l1) with
                      | true =>
                        rw [hh] at hcall
                        go_wp2_with (go_at_call 59; refine hcall.mono ?_; rintro e w6 ⟨rfl, hb6⟩; replace hb2 := Cf.up hb2 hb6)
                        go_ret
                        exact ⟨by rw [Cf.vhit HV.out kk hlt (by rw [Cf.vc_4 B.out hok H1.out hh]; simp) AA.out, Cf.vc_4 B.out hok H1.out hh]; rfl, Cf.up DB.out (Cf.up BV.out hb2)⟩
                      | false =>
                        rw [hh] at hcall
                        go_wp2_with (go_at_call 59; refine hcall.mono ?_; rintro e w6 ⟨rfl, hb6⟩; replace hb2 := Cf.up hb2 hb6; clear hb6)
                        have HVC := Aside0.mk (Cf.vc_r B.out hok H1.out hh)
                        go_loopg [7] x.f3.length (fun gg s7 wr2 => ∃ k2 : Nat, k2 ≤ x.f3.length + 1 ∧ 1 ≤ k2 ∧ x.f3.length - k2 ≤ gg ∧ s7 = .int .i64 k2 ∧ Aside (Below wv.heap.size wv wr2) ∧ Aside (∀ j, j < k2 → j < x.f3.length → Cf.falls x.f3 j = false))
                        case atStart => exact ⟨1, by omega, by omega, by omega, rfl, hb2, fun j hj _ => (show Cf.falls x.f3 j = false from by (obtain rfl : j = 0 := by omega); simp [Cf.falls])⟩
                        case round =>
                          clear z3 hb2 hcall
                          obtain ⟨k2, hk2, hk1, hg2, rfl, B2, A2_⟩ := hrel
                          have z3 := blk_cell (blk_below HBK.out B2.out) 3
                          by_cases hlt2 : k2 < x.f3.length
                          · have hltz2 : (k2 : Int) < (x.f3.length : Int) := by omega
                            obtain ⟨an, eN, hn⟩ := Kd.at_int (Kd.C_below HC3.out B2.out) (k2 : Int) (by omega) hltz2
                            cases eN
                            obtain ⟨j, hj⟩ : ∃ j, j = k2 - 1 := ⟨_, rfl⟩
                            have hwj : IntKind.i64.wrap ((k2 : Int) - 1) = (j : Int) := by rw [IntKind.wrap_i64]; omega
                            have hjl : (j : Int) < (x.f3.length : Int) := by omega
                            obtain ⟨an2, eN2, hn2⟩ := Kd.at_int (Kd.C_below HC3.out B2.out) (j : Int) (by omega) hjl
                            cases eN2
                            have HQ : Aside (Cf.falls x.f3 k2 = decide (rd x.f3 (k2 : Int) ≤ rd x.f3 (j : Int))) := (by
                              show Cf.falls x.f3 k2 = _
                              unfold Cf.falls
                              rw [decide_eq_true hk1, ← hj]; rfl)
                            clear hj
                            simp only [Int.toNat_natCast] at hn hn2
                            cases hq : decide (rd x.f3 (k2 : Int) ≤ rd x.f3 (j : Int)) with
                            | true =>
                              go_wp2
                              go_quiet (fail)
                              go_wp2
                              go_ret
                              have hvc : Cf.vcode l1 l2 kk = 1 := by rw [HVC.out, if_pos (Cf.range_hit (Cf.falls x.f3) x.f3.length k2 hlt2 (HQ.out.trans hq))]
                              exact ⟨by rw [Cf.vhit HV.out kk hlt (by rw [hvc]; simp) AA.out, hvc]; rfl, Cf.up DB.out (Cf.up BV.out (pw_below_drewN B2.out _))⟩
                            | false =>
                              go_wp2
                              go_quiet (fail)
                              go_wp2
                              go_roundg (x.f3.length - (k2 + 1))
                              case measure => omega
                              case rel =>
                                refine ⟨k2 + 1, by omega, by omega, by omega, by go_num, pw_below_drewN B2.out _, (show Aside _ from fun j hj hl => ?_)⟩
                                by_cases e : j = k2
                                · subst e
                                  exact HQ.out.trans hq
                                · exact A2_.out j (by omega) hl
                          · have hltz2 : ¬ (k2 : Int) < (x.f3.length : Int) := by omega
                            have hvc : Cf.vcode l1 l2 kk = 0 := by rw [HVC.out, if_neg (by rw [Cf.range_miss (Cf.falls x.f3) x.f3.length (fun j hj => A2_.out j (by omega) hj)]; simp)]
                            have HVC0 := Aside0.mk hvc
                            clear hvc
                            go_wp2
                            go_roundg (l2.length - (kk + 1))
                            case measure => omega
                            case rel =>
                              refine ⟨kk + 1, by omega, by omega, by go_num, Cf.up BV.out B2.out, (show Aside _ from fun j hj => ?_)⟩
                              by_cases e : j = kk
                              · subst e; exact HVC0.out
                              · exact AA.out j (by omega)
                  · have hg0 : decide ((0 : Int) < (kk : Int)) = false := decide_eq_false (by omega)
                    have H1 := Aside0.mk (show (decide (0 < kk) && !Cf.beh (l2.getD (kk - 1) z64) x) = false by rw [decide_eq_false hk0]; rfl)
                    go_quiet (fail)
                    replace hb2 := pw_below_drewN hb2 nq
                    have z3 := blk_cell (blk_below HBK.out hb2) 3
                    have hcall := Cf.hasgone w.heap.size A1 c1 l1 (some ad) l2.length c2 v A3 c3 x.f3 _ (blk_below D1.out (Cf.up BV.out hb2)) (Kd.C_below D2.out (Cf.up BV.out hb2)) hc1 (Kd.C_below HC3.out hb2) hl3
                    cases hh : x.f3.any (Cf.gone l1) with
                    | true =>
                      rw [hh] at hcall
                      go_wp2_with (go_at_call 59; refine hcall.mono ?_; rintro e w6 ⟨rfl, hb6⟩; replace hb2 := Cf.up hb2 hb6)
                      go_ret
                      exact ⟨by rw [Cf.vhit HV.out kk hlt (by rw [Cf.vc_4 B.out hok H1.out hh]; simp) AA.out, Cf.vc_4 B.out hok H1.out hh]; rfl, Cf.up DB.out (Cf.up BV.out hb2)⟩
                    | false =>
                      rw [hh] at hcall
                      go_wp2_with (go_at_call 59; refine hcall.mono ?_; rintro e w6 ⟨rfl, hb6⟩; replace hb2 := Cf.up hb2 hb6; clear hb6)
                      have HVC := Aside0.mk (Cf.vc_r B.out hok H1.out hh)
                      go_loopg [7] x.f3.length (fun gg s7 wr2 => ∃ k2 : Nat, k2 ≤ x.f3.length + 1 ∧ 1 ≤ k2 ∧ x.f3.length - k2 ≤ gg ∧ s7 = .int .i64 k2 ∧ Aside (Below wv.heap.size wv wr2) ∧ Aside (∀ j, j < k2 → j < x.f3.length → Cf.falls x.f3 j = false))
                      case atStart => exact ⟨1, by omega, by omega, by omega, rfl, hb2, fun j hj _ => (show Cf.falls x.f3 j = false from by (obtain rfl : j = 0 := by omega); simp [Cf.falls])⟩
                      case round =>
                        clear z3 hb2 hcall
                        obtain ⟨k2, hk2, hk1, hg2, rfl, B2, A2_⟩ := hrel
                        have z3 := blk_cell (blk_below HBK.out B2.out) 3
                        by_cases hlt2 : k2 < x.f3.length
                        · have hltz2 : (k2 : Int) < (x.f3.length : Int) := by omega
                          obtain ⟨an, eN, hn⟩ := Kd.at_int (Kd.C_below HC3.out B2.out) (k2 : Int) (by omega) hltz2
                          cases eN
                          obtain ⟨j, hj⟩ : ∃ j, j = k2 - 1 := ⟨_, rfl⟩
                          have hwj : IntKind.i64.wrap ((k2 : Int) - 1) = (j : Int) := by rw [IntKind.wrap_i64]; omega
                          have hjl : (j : Int) < (x.f3.length : Int) := by omega
                          obtain ⟨an2, eN2, hn2⟩ := Kd.at_int (Kd.C_below HC3.out B2.out) (j : Int) (by omega) hjl
                          cases eN2
                          have HQ : Aside (Cf.falls x.f3 k2 = decide (rd x.f3 (k2 : Int) ≤ rd x.f3 (j : Int))) := (by
                            show Cf.falls x.f3 k2 = _
                            unfold Cf.falls
                            rw [decide_eq_true hk1, ← hj]; rfl)
                          clear hj
                          simp only [Int.toNat_natCast] at hn hn2
                          cases hq : decide (rd x.f3 (k2 : Int) ≤ rd x.f3 (j : Int)) with
                          | true =>
                            go_wp2
                            go_quiet (fail)
                            go_wp2
                            go_ret
                            have hvc : Cf.vcode l1 l2 kk = 1 := by rw [HVC.out, if_pos (Cf.range_hit (Cf.falls x.f3) x.f3.length k2 hlt2 (HQ.out.trans hq))]
                            exact ⟨by rw [Cf.vhit HV.out kk hlt (by rw [hvc]; simp) AA.out, hvc]; rfl, Cf.up DB.out (Cf.up BV.out (pw_below_drewN B2.out _))⟩
                          | false =>
                            go_wp2
                            go_quiet (fail)
                            go_wp2
                            go_roundg (x.f3.length - (k2 + 1))
                            case measure => omega
                            case rel =>
                              refine ⟨k2 + 1, by omega, by omega, by omega, by go_num, pw_below_drewN B2.out _, (show Aside _ from fun j hj hl => ?_)⟩
                              by_cases e : j = k2
                              · subst e
                                exact HQ.out.trans hq
                              · exact A2_.out j (by omega) hl
                        · have hltz2 : ¬ (k2 : Int) < (x.f3.length : Int) := by omega
                          have hvc : Cf.vcode l1 l2 kk = 0 := by rw [HVC.out, if_neg (by rw [Cf.range_miss (Cf.falls x.f3) x.f3.length (fun j hj => A2_.out j (by omega) hj)]; simp)]
                          have HVC0 := Aside0.mk hvc
                          clear hvc
                          go_wp2
                          go_roundg (l2.length - (kk + 1))
                          case measure => omega
                          case rel =>
                            refine ⟨kk + 1, by omega, by omega, by go_num, Cf.up BV.out B2.out, (show Aside _ from fun j hj => ?_)⟩
                            by_cases e : j = kk
                            · subst e; exact HVC0.out
                            · exact AA.out j (by omega)
          · have hltz : ¬ (kk : Int) < (l2.length : Int) := by omega
            go_wp2
            go_ret
            exact ⟨by rw [Cf.vmiss HV.out (fun j hj => AA.out j (by omega))]; rfl, Cf.up DB.out BW.out⟩
set_option maxHeartbeats 8000000 in
set_option maxRecDepth 100000 in
/-- The shares of a vip: the program's. -/
theorem impl_shares.cf (g : Nat) (A1 : Option Addr) (c1 : Nat) (l1 : List S36) (A2 : Option Addr) (c2 : Nat) (l2 : List S64) (v : Int) (i : Nat) (w : World) (hb : w.heap[g]? = some (.cells #[.int .i64 v, .slice A1 l1.length c1, .slice A2 l2.length c2] 31 (0, 0))) (hr1 : Kd.C k36 w A1 l1.length l1) (hc1 : l1.length ≤ c1) (hr2 : Kd.C k64 w A2 l2.length l2) (hi : i < l2.length) (hf : ∀ n ∈ (rd_T64 l2 (i : Int)).f3, ¬ Cf.place l1 n < 0) (hmx : (rd_T64 l2 (i : Int)).f3.length ≤ 1048576) :
    Calls Try.prog 73 #[.pointer (some ⟨g, 0, none⟩), .int .i64 i] w fun e w' => ∃ u, e = .returned u ∧ Kd.R k67 67 w' w.heap.size (fun _ => True) u (Cf.shr l1 (rd_T64 l2 (i : Int)).f3) ∧ Below w.heap.size w w' := by
  have hu36 := Try.underlying36
  have hu67 := Try.underlying67
  have hu64 := Try.underlying64
  have hu31 := Try.underlying31
  have hiz : (i : Int) < (l2.length : Int) := by omega
  obtain ⟨ad2, A3, c3, e2, hx_0, hx_1, hx_2, hx_3, hl3, hC3⟩ := at_T64 hr2 (i : Int) (by omega) hiz
  cases e2
  clear hx_0 hx_1 hx_2
  generalize rd_T64 l2 (i : Int) = x at hf hmx hx_3 hl3 hC3 ⊢
  simp only [Int.toNat_natCast] at hx_3
  have hbig : x.f3.length ≤ 9223372036854775807 := by omega
  go_enter Try.func73, Try.ntmps73
  go_wp2_with ((with_reducible refine gate_dst (N := 9) rfl ?_); refine Kd.R_lit k67 _ 67 ?hg (N := 9) ?hd (xs := ([] : List (S67))) (inner := []) (ok := fun _ => True) (okp := fun _ => True) ?hr ?hp (fun _ hk => hk) trivial (Below.refl _ _) (Nat.le_refl _) (by simp) ?_; (case hd => rfl); (case hg => rfl); (case hr => first | (go_simp; done) | (go_simp; rfl)); (case hp => exact (Reps.none _ _)); intro v9 w3 ho4 hb4 hg_ hnew_; clear hg_ hnew_; have z2 := blk_cell (blk_below hb hb4) 2; have hx_4 := pw_cell_below hb4 hx_3)
  go_loopg [5, 19] x.f3.length (fun gg s5 s6 wr => ∃ kk : Nat, kk ≤ x.f3.length ∧ x.f3.length - kk ≤ gg ∧ s6 = .int .i64 kk ∧ Aside0 (Kd.R k67 67 wr w.heap.size (fun _ => True) s5 (Cf.shr l1 (x.f3.take kk))) ∧ Aside (Below w.heap.size w wr))
  case atStart => exact ⟨0, Nat.zero_le _, by omega, rfl, ⟨ho4⟩, hb4⟩
  case round =>
    clear ho4 hb4 z2 hx_4
    obtain ⟨kk, hkk, hg, rfl, HO, BW⟩ := hrel
    have bg := blk_below hb BW.out
    have z1 : wr.cell? ⟨g, 1, none⟩ = some (.slice A1 l1.length c1) := blk_cell bg 1
    by_cases hlt : kk < x.f3.length
    · have hltz : (kk : Int) < (x.f3.length : Int) := by omega
      obtain ⟨an, eN, hn⟩ := Kd.at_int (Kd.C_below hC3 BW.out) (kk : Int) (by omega) hltz
      cases eN
      simp only [Int.toNat_natCast] at hn
      have hrn : rd x.f3 (kk : Int) = x.f3.getD kk 0 := by simp [rd]
      rw [hrn] at hn
      have hmem : x.f3.getD kk 0 ∈ x.f3 := by
        have e : x.f3.getD kk 0 = x.f3[kk] := by simp [List.getD, hlt]
        rw [e]; exact List.getElem_mem hlt
      have hst := Cf.shr_step l1 x.f3 kk hlt
      have hp0 := hf _ hmem
      have hp1 := Cf.place_lt l1 (x.f3.getD kk 0) (by omega)
      have hnm := Cf.place_name l1 (x.f3.getD kk 0) (by omega)
      have hsl := Cf.shr_len l1 (x.f3.take kk)
      unfold Cf.sh1 at hst
      have hcall := fun (W : World) (hW : Below w.heap.size w W) => impl_backend.cf g A1 c1 l1 (some ad2) l2.length c2 v (x.f3.getD kk 0) W (blk_below hb hW) (Kd.C_below hr1 hW) hc1
      generalize x.f3.getD kk 0 = n at hn hst hp0 hp1 hnm hcall
      generalize Cf.place l1 n = p at hst hp0 hp1 hnm hcall
      obtain ⟨ad1, e1, px_0, px_1, px_2, px_3, px_4⟩ := at_T36 (Kd.C_below hr1 BW.out) p (by omega) hp1
      cases e1
      generalize rd_T36 l1 p = b at hst hnm px_0 px_1 px_2 px_3 px_4
      have HNM := Aside0.mk hnm
      clear hnm
      have HST := Aside0.mk hst
      clear hst hf hmem hrn hx_3
      go_wp2
      have HS : ∀ W, Below wr.heap.size wr W → (W.cell? ⟨g, 1, none⟩ = some (.slice (some ad1) l1.length c1) ∧ W.cell? (ad1.add (p.toNat * 5)) = some (.int .i64 b.f0) ∧ W.cell? ⟨(ad1.add (p.toNat * 5)).block, (ad1.add (p.toNat * 5)).off + 1, none⟩ = some (.int .i64 b.f1) ∧ W.cell? ⟨(ad1.add (p.toNat * 5)).block, (ad1.add (p.toNat * 5)).off + 2, none⟩ = some (.int .i64 b.f2) ∧ W.cell? ⟨(ad1.add (p.toNat * 5)).block, (ad1.add (p.toNat * 5)).off + 3, none⟩ = some (.int .i64 b.f3) ∧ W.cell? ⟨(ad1.add (p.toNat * 5)).block, (ad1.add (p.toNat * 5)).off + 4, none⟩ = some (.bool b.f4)) := fun W hW => ⟨pw_cell_below hW z1, pw_cell_below hW px_0, pw_cell_below hW px_1, pw_cell_below hW px_2, pw_cell_below hW px_3, pw_cell_below hW px_4⟩
      have hd : Below wr.heap.size wr wr.drew := below_drew1 (Below.refl _ _)
      refine start_ (n := 11) (S := fun w' => w'.cell? ⟨g, 1, none⟩ = some (.slice (some ad1) l1.length c1) ∧ w'.cell? (ad1.add (p.toNat * 5)) = some (.int .i64 b.f0) ∧ w'.cell? ⟨(ad1.add (p.toNat * 5)).block, (ad1.add (p.toNat * 5)).off + 1, none⟩ = some (.int .i64 b.f1) ∧ w'.cell? ⟨(ad1.add (p.toNat * 5)).block, (ad1.add (p.toNat * 5)).off + 2, none⟩ = some (.int .i64 b.f2) ∧ w'.cell? ⟨(ad1.add (p.toNat * 5)).block, (ad1.add (p.toNat * 5)).off + 3, none⟩ = some (.int .i64 b.f3) ∧ w'.cell? ⟨(ad1.add (p.toNat * 5)).block, (ad1.add (p.toNat * 5)).off + 4, none⟩ = some (.bool b.f4)) (ds := []) #[false, false, false, false, false, false, false, false, false, false, false] (by kernel_rfl) rfl rfl (HS _ hd) (fun hHeld => ?_)
      generalize wr.drew = wd at hd hHeld ⊢
      refine take_ (i := 0) (N := some 23) (v := ?_) (a' := ?_) #[true, false, false, false, false, false, false, false, false, false, false] rfl rfl (by kernel_rfl) (fun _ _ _ h => h) (Or.inl ⟨by rfl, ?_⟩) hHeld ?_ ?_
      rotate_left
      · rintro w' ⟨s0, s1, s2, s3, s4, s5⟩
        go_simp
        with_reducible rfl
      rotate_left
      · simp only [Act.put, List.setIfInBounds_toArray, List.set_cons_zero, List.set_cons_succ, i64_w, i32_w]
        rfl
      refine take_ (i := 1) (N := some 24) (v := ?_) (a' := ?_) #[true, true, false, false, false, false, false, false, false, false, false] rfl rfl (by kernel_rfl) (fun _ _ _ h => h) (Or.inl ⟨by rfl, ?_⟩) hHeld ?_ ?_
      rotate_left
      · rintro w' ⟨s0, s1, s2, s3, s4, s5⟩
        go_simp
        with_reducible rfl
      rotate_left
      · simp only [Act.put, List.setIfInBounds_toArray, List.set_cons_zero, List.set_cons_succ, i64_w, i32_w]
        rfl
      refine take_ (i := 2) (N := some 25) (v := ?_) (a' := ?_) #[true, true, true, false, false, false, false, false, false, false, false] rfl rfl (by kernel_rfl) (fun _ _ _ h => h) (Or.inl ⟨by rfl, ?_⟩) hHeld ?_ ?_
      rotate_left
      · rintro w' ⟨s0, s1, s2, s3, s4, s5⟩
        go_simp
        with_reducible rfl
      rotate_left
      · simp only [Act.put, List.setIfInBounds_toArray, List.set_cons_zero, List.set_cons_succ, i64_w, i32_w]
        rfl
      refine take_ (i := 3) (N := some 26) (v := ?_) (a' := ?_) #[true, true, true, true, false, false, false, false, false, false, false] rfl rfl (by kernel_rfl) (fun _ _ _ h => h) (Or.inl ⟨by rfl, ?_⟩) hHeld ?_ ?_
      rotate_left
      · rintro w' ⟨s0, s1, s2, s3, s4, s5⟩
        go_simp
        with_reducible rfl
      rotate_left
      · simp only [Act.put, List.setIfInBounds_toArray, List.set_cons_zero, List.set_cons_succ, i64_w, i32_w]
        rfl
      refine take_ (i := 4) (N := some 27) (v := ?_) (a' := ?_) #[true, true, true, true, true, false, false, false, false, false, false] rfl rfl (by kernel_rfl) (fun _ _ _ h => h) (Or.inl ⟨by rfl, ?_⟩) hHeld ?_ ?_
      rotate_left
      · rintro w' ⟨s0, s1, s2, s3, s4, s5⟩
        go_simp
        with_reducible rfl
      rotate_left
      · simp only [Act.put, List.setIfInBounds_toArray, List.set_cons_zero, List.set_cons_succ, i64_w, i32_w]
        rfl
      refine take_ (i := 5) (N := some 28) (v := ?_) (a' := ?_) #[true, true, true, true, true, true, false, false, false, false, false] rfl rfl (by kernel_rfl) (fun _ _ _ h => h) (Or.inl ⟨by rfl, ?_⟩) hHeld ?_ ?_
      rotate_left
      · rintro w' ⟨s0, s1, s2, s3, s4, s5⟩
        go_simp
        with_reducible rfl
      rotate_left
      · simp only [Act.put, List.setIfInBounds_toArray, List.set_cons_zero, List.set_cons_succ, i64_w, i32_w]
        rfl
      refine join_ (σ := Nat) 1 #[true, true, true, true, true, true, true, true, true, true, false] (fun s_ => [(29, .int .i64 p), (30, .pointer (some (ad1.add (p.toNat * 5)))), (31, .agg #[.int .i64 b.f0, .int .i64 b.f1, .int .i64 b.f2, .int .i64 b.f3, .bool b.f4]), (8, .pointer (some ⟨s_, 0, none⟩))]) (fun s_ w' => Below wr.heap.size wr w' ∧ w'.heap[s_]? = some (.cells #[.int .i64 0, .int .i64 0, .int .i64 0, .int .i64 0, .bool false] 36 (0, 0)) ∧ wr.heap.size ≤ s_) ?_ ?_
      rotate_left
      · intro hCont
        refine two_ (i := 6) (j := 9) (Ni := some 29) (Nj := some 8) #[true, true, true, true, true, true, true, false, false, false, false] #[true, true, true, true, true, true, false, false, false, true, false] rfl rfl rfl rfl (by kernel_rfl) (by decide) (by decide) (fun K hK => ?_) (fun K hK => ?_)
        · skip
          refine goes_ Try.func61 (by kernel_rfl) rfl #[.pointer (some ⟨g, 0, none⟩), .int .i64 n] (by rfl) rfl rfl (by (try simp only [List.map_toArray, List.map_cons, List.map_nil]); first | done | rfl) ?_
          refine (hcall _ (Cf.up BW.out hd)).mono ?_
          rintro e wc ⟨rfl, hbc⟩
          refine ⟨_, rfl, ?_⟩
          refine hK.out _ _ (HS _ (Cf.up hd hbc)) (fun hHeld => ?_)
          clear hK K
          refine norm_ (a' := ?_) ?_ ?_
          rotate_left
          · show Act.put _ (some 29) _ = _
            simp only [Act.put, List.setIfInBounds_toArray, List.set_cons_zero, List.set_cons_succ, i64_w, i32_w]
            rfl
          refine take_ (i := 7) (N := some 30) (v := ?_) (a' := ?_) #[true, true, true, true, true, true, true, true, false, false, false] rfl rfl (by kernel_rfl) (fun _ _ _ h => h) (Or.inl ⟨by rfl, ?_⟩) hHeld ?_ ?_
          rotate_left
          · rintro w' ⟨s0, s1, s2, s3, s4, s5⟩
            go_simp
            with_reducible rfl
          rotate_left
          · simp only [Act.put, List.setIfInBounds_toArray, List.set_cons_zero, List.set_cons_succ, i64_w, i32_w]
            rfl
          refine take_ (i := 8) (N := some 31) (v := ?_) (a' := ?_) #[true, true, true, true, true, true, true, true, true, false, false] rfl rfl (by kernel_rfl) (fun _ _ _ h => h) (Or.inl ⟨by rfl, ?_⟩) hHeld ?_ ?_
          rotate_left
          · rintro w' ⟨s0, s1, s2, s3, s4, s5⟩
            go_simp
            with_reducible rfl
          rotate_left
          · simp only [Act.put, List.setIfInBounds_toArray, List.set_cons_zero, List.set_cons_succ, i64_w, i32_w]
            rfl
          refine one_ (i := 9) (N := some 8) #[true, true, true, true, true, true, true, true, true, true, false] rfl rfl (by kernel_rfl) (by decide) (fun K hK => ?_)
          refine box_step ?hg (N := 8) ?hd (cs := #[.int .i64 0, .int .i64 0, .int .i64 0, .int .i64 0, .bool false]) (t := 36) ?hr ?_; (case hd => rfl); (case hg => rfl); (case hr => first | (go_simp; done) | (go_simp; rfl))
          intro gb hg_ wb hbox hbb
          refine hK.out _ _ (HS _ (Cf.up (Cf.up hd hbc) hbb)) (fun hHeld => ?_)
          clear hK K
          refine norm_ (a' := ?_) ?_ ?_
          rotate_left
          · show Act.put _ (some 8) _ = _
            simp only [Act.put, List.setIfInBounds_toArray, List.set_cons_zero, List.set_cons_succ, i64_w, i32_w]
            rfl
          exact norm_ (by simp only [putAll, Act.put, List.setIfInBounds_toArray, List.set_cons_zero, List.set_cons_succ]) (hCont gb _ ⟨Cf.up (Cf.up hd hbc) hbb, hbox, (by rw [hg_]; exact Nat.le_trans hd.size hbc.size)⟩)
        · skip
          refine box_step ?hg (N := 8) ?hd (cs := #[.int .i64 0, .int .i64 0, .int .i64 0, .int .i64 0, .bool false]) (t := 36) ?hr ?_; (case hd => rfl); (case hg => rfl); (case hr => first | (go_simp; done) | (go_simp; rfl))
          intro gb hg_ wb hbox hbb
          refine hK.out _ _ (HS _ (Cf.up hd hbb)) (fun hHeld => ?_)
          clear hK K
          refine norm_ (a' := ?_) ?_ ?_
          rotate_left
          · show Act.put _ (some 8) _ = _
            simp only [Act.put, List.setIfInBounds_toArray, List.set_cons_zero, List.set_cons_succ, i64_w, i32_w]
            rfl
          refine one_ (i := 6) (N := some 29) #[true, true, true, true, true, true, true, false, false, true, false] rfl rfl (by kernel_rfl) (by decide) (fun K hK => ?_)
          refine goes_ Try.func61 (by kernel_rfl) rfl #[.pointer (some ⟨g, 0, none⟩), .int .i64 n] (by rfl) rfl rfl (by (try simp only [List.map_toArray, List.map_cons, List.map_nil]); first | done | rfl) ?_
          refine (hcall _ (Cf.up (Cf.up BW.out hd) hbb)).mono ?_
          rintro e wc ⟨rfl, hbc⟩
          refine ⟨_, rfl, ?_⟩
          refine hK.out _ _ (HS _ (Cf.up (Cf.up hd hbb) hbc)) (fun hHeld => ?_)
          clear hK K
          refine norm_ (a' := ?_) ?_ ?_
          rotate_left
          · show Act.put _ (some 29) _ = _
            simp only [Act.put, List.setIfInBounds_toArray, List.set_cons_zero, List.set_cons_succ, i64_w, i32_w]
            rfl
          refine take_ (i := 7) (N := some 30) (v := ?_) (a' := ?_) #[true, true, true, true, true, true, true, true, false, true, false] rfl rfl (by kernel_rfl) (fun _ _ _ h => h) (Or.inl ⟨by rfl, ?_⟩) hHeld ?_ ?_
          rotate_left
          · rintro w' ⟨s0, s1, s2, s3, s4, s5⟩
            go_simp
            with_reducible rfl
          rotate_left
          · simp only [Act.put, List.setIfInBounds_toArray, List.set_cons_zero, List.set_cons_succ, i64_w, i32_w]
            rfl
          refine take_ (i := 8) (N := some 31) (v := ?_) (a' := ?_) #[true, true, true, true, true, true, true, true, true, true, false] rfl rfl (by kernel_rfl) (fun _ _ _ h => h) (Or.inl ⟨by rfl, ?_⟩) hHeld ?_ ?_
          rotate_left
          · rintro w' ⟨s0, s1, s2, s3, s4, s5⟩
            go_simp
            with_reducible rfl
          rotate_left
          · simp only [Act.put, List.setIfInBounds_toArray, List.set_cons_zero, List.set_cons_succ, i64_w, i32_w]
            rfl
          exact norm_ (by simp only [putAll, Act.put, List.setIfInBounds_toArray, List.set_cons_zero, List.set_cons_succ]) (hCont gb _ ⟨Cf.up (Cf.up hd hbb) hbc, blk_below hbox hbc, (by rw [hg_]; exact hd.size)⟩)
      clear hHeld hd
      intro gb wd' hF
      obtain ⟨hd', hbox, hge⟩ := hF
      have hHeld := HS _ hd'
      refine norm_ (a' := ?_) ?_ ?_
      rotate_left
      · simp only [putAll, Act.put, List.setIfInBounds_toArray, List.set_cons_zero, List.set_cons_succ]
        rfl
      refine one_ (i := 10) (N := none) #[true, true, true, true, true, true, true, true, true, true, true] rfl rfl (by kernel_rfl) (by decide) (fun K hK => ?_)
      have y0 := blk_cell hbox 0
      have f0 := blk_frozen hbox 0
      have y1 := blk_cell hbox 1
      have f1 := blk_frozen hbox 1
      have y2 := blk_cell hbox 2
      have f2 := blk_frozen hbox 2
      have y3 := blk_cell hbox 3
      have f3 := blk_frozen hbox 3
      have y4 := blk_cell hbox 4
      have f4 := blk_frozen hbox 4
      refine skip_ (w1 := ?_) (by rfl) rfl ?_ ?_
      rotate_left
      · go_simp
        rfl
      have hd2 : Below wr.heap.size wr (((((wd'.setCell ⟨gb, 0, none⟩ (.int .i64 b.f0)).setCell ⟨gb, 1, none⟩ (.int .i64 b.f1)).setCell ⟨gb, 2, none⟩ (.int .i64 b.f2)).setCell ⟨gb, 3, none⟩ (.int .i64 b.f3)).setCell ⟨gb, 4, none⟩ (.bool b.f4)) := by
        repeat (refine below_set ?_ hge)
        exact hd'
      have hbx : (((((wd'.setCell ⟨gb, 0, none⟩ (.int .i64 b.f0)).setCell ⟨gb, 1, none⟩ (.int .i64 b.f1)).setCell ⟨gb, 2, none⟩ (.int .i64 b.f2)).setCell ⟨gb, 3, none⟩ (.int .i64 b.f3)).setCell ⟨gb, 4, none⟩ (.bool b.f4)).heap[gb]? = some (.cells #[.int .i64 b.f0, .int .i64 b.f1, .int .i64 b.f2, .int .i64 b.f3, .bool b.f4] 36 (0, 0)) := Cf.put5 hbox _ _ _ _ _
      refine hK.out _ _ (HS _ hd2) (fun hHeld => ?_)
      clear hK K hHeld HS y0 y1 y2 y3 y4 f0 f1 f2 f3 f4 hbox hd'
      generalize (((((wd'.setCell ⟨gb, 0, none⟩ (.int .i64 b.f0)).setCell ⟨gb, 1, none⟩ (.int .i64 b.f1)).setCell ⟨gb, 2, none⟩ (.int .i64 b.f2)).setCell ⟨gb, 3, none⟩ (.int .i64 b.f3)).setCell ⟨gb, 4, none⟩ (.bool b.f4)) = w5 at hd2 hbx ⊢
      refine done_ (by kernel_rfl) ?_
      have hgo := Aside0.mk (Cf.up BW.out hd2)
      have HO5 := Aside0.mk (Kd.R_below HO.out hd2)
      have y0 := blk_cell hbx 0
      have y2 := blk_cell hbx 2
      have y3 := blk_cell hbx 3
      have y4 := blk_cell hbx 4
      clear hd2 z1 hn px_0 px_1 px_2 px_3 px_4 hcall bg hC3 hl3
      cases hb4 : b.f4 with
      | false =>
        rw [hb4] at y4
        go_wp2
        go_roundg (x.f3.length - (kk + 1))
        case measure => omega
        case rel =>
          refine ⟨kk + 1, by omega, by omega, by go_num, ?_, hgo.out⟩
          have h_ := HST.out
          unfold Cf.on at h_
          rw [hb4] at h_
          exact ⟨by rw [h_]; simpa using HO5.out⟩
      | true =>
        rw [hb4] at y4
        cases hb3 : (b.f3 == 1) with
        | false =>
          go_wp2
          go_roundg (x.f3.length - (kk + 1))
          case measure => omega
          case rel =>
            refine ⟨kk + 1, by omega, by omega, by go_num, ?_, hgo.out⟩
            have h_ := HST.out
            unfold Cf.on at h_
            rw [hb4, hb3] at h_
            exact ⟨by rw [h_]; simpa using HO5.out⟩
        | true =>
          have hlen : (Cf.shr l1 (List.take kk x.f3)).length ≤ 1048576 := by have := hsl; rw [List.length_take] at this; omega
          go_wp2_with ((with_reducible refine gate_builtin (b := .append) (xs := #[.tmp 39, .tmp 44]) rfl ?_); at_builtin; refine Kd.R_append k67 w.heap.size rfl (.tmp 39) (.tmp 44) 51 67 (.agg #[(.int .i64 0), (.int .i64 0)]) 16 rfl Try.underlying51 info67 rfl (by decide) (by omega) u5 (Cf.shr l1 (List.take kk x.f3)) (⟨n, b.f2⟩ : S67) [.int .i64 n, .int .i64 b.f2] (fun _ => True) (fun _ => False) rfl (by first | (go_simp; done) | (go_simp; rfl)) ?aP (fun _ hk => hk.elim) ?aF ?aO (Below.refl _ _) ?aS ?aL ?_; (case aP => exact k67_mkM _ _ _ (⟨n, b.f2⟩ : S67)); (case aF => exact (fun _ _ => trivial)); (case aO => exact (by (with_reducible repeat (first | apply Kd.R_alloc | apply Kd.R_drewN | apply Kd.R_drew)); exact HO5.out)); (case aS => first | exact hgo.out.size | exact (hgo.out.alloc hgo.out.size _).size); (case aL => omega); intro v204 w22 ho hbq hgq hat)
          go_roundg (x.f3.length - (kk + 1))
          case measure => omega
          case rel =>
            refine ⟨kk + 1, by omega, by omega, by go_num, ⟨?_⟩, ?_⟩
            · have h_ := HST.out
              unfold Cf.on at h_
              rw [hb4, hb3] at h_
              rw [h_]
              rw [HNM.out]
              exact ho
            · first | exact hgo.out.trans hbq | exact (hgo.out.alloc hgo.out.size _).trans hbq
    · have hltz : ¬ (kk : Int) < (x.f3.length : Int) := by omega
      have : kk = x.f3.length := by omega
      subst this
      go_wp2
      go_ret
      have h_ := HO.out
      rw [List.take_length] at h_
      exact ⟨_, rfl, h_, BW.out⟩
set_option maxHeartbeats 1000000 in
theorem Cf.sizeV (A : Option Addr) (c n : Nat) (w : World) : Calls Try.prog 72 #[.slice A n c] w fun e w' => e = .returned (.int .i64 n) ∧ Below w.heap.size w w' := by
  go_enter Try.func72, Try.ntmps72
  go_wp2
  go_ret
  exact ⟨rfl, Below.refl _ _⟩
set_option maxHeartbeats 8000000 in
set_option maxRecDepth 100000 in
theorem impl_SharesFor.cf (A1 : Option Addr) (c1 : Nat) (l1 : List S36) (A2 : Option Addr) (c2 : Nat) (l2 : List S64) (v vip : Int) (w : World) (hr1 : Kd.C k36 w A1 l1.length l1) (hr2 : Kd.C k64 w A2 l2.length l2) (hc1 : l1.length ≤ c1) (hc2 : l2.length ≤ c2) (hmx : ∀ y ∈ l2, y.f3.length ≤ 1048576) :
    Calls Try.prog 25 #[.agg #[.int .i64 v, .slice A1 l1.length c1, .slice A2 l2.length c2], .int .i64 vip] w fun e_ w' => ∃ u, e_ = .returned (.agg #[.int .i64 (Cf.scd v l1 l2 vip), u]) ∧ Kd.R k67 67 w' w.heap.size (fun _ => True) u (Cf.sval v l1 l2 vip) ∧ Below w.heap.size w w' := by
  have hu31 := Try.underlying31
  have hu53 := Try.underlying53
  have hbig : l2.length ≤ 9223372036854775807 := by have := hr2.2.1; have hs : (k64).sz = 4 := rfl; (try simp only [maxLen] at this); (try rw [hs] at this); omega
  have hwl : IntKind.i64.wrap ((l2.length : Int) - 1) = (l2.length : Int) - 1 := by rw [IntKind.wrap_i64]; omega
  obtain ⟨w1, hw1⟩ : ∃ W, W = (w.alloc (.cells #[.int .i64 v, .slice A1 l1.length c1, .slice A2 l2.length c2] 31)).alloc (.cells #[.int .i64 0, .slice none 0 0] 53) := ⟨_, rfl⟩
  have hs1 : w1.heap.size = w.heap.size + 2 := by rw [hw1]; simp
  have hB1 : Below w.heap.size w w1 := by rw [hw1]; exact (((Below.refl _ w).alloc (Nat.le_refl _) _).alloc (by simp) _)
  have bg1 : w1.heap[w.heap.size]? = some (.cells #[.int .i64 v, .slice A1 l1.length c1, .slice A2 l2.length c2] 31 (0, 0)) := by rw [hw1]; exact blk_alloc (blk_new w _) _
  have bk1 : w1.heap[w.heap.size + 1]? = some (.cells #[.int .i64 0, .slice none 0 0] 53 (0, 0)) := by
    rw [hw1]
    have h_ := heap_alloc_new (w.alloc (.cells #[.int .i64 v, .slice A1 l1.length c1, .slice A2 l2.length c2] 31)) (.cells #[.int .i64 0, .slice none 0 0] 53)
    rwa [World.size_alloc] at h_
  have hr11 := Kd.C_below hr1 hB1
  have hr21 := Kd.C_below hr2 hB1
  have hcallF := impl_ConfigFault.cf A1 c1 l1 A2 c2 l2 v w1 hr11 hc1 hr21
  rw [hw1] at hcallF
  rw [hw1] at bg1
  have k0 := blk_cell bg1 0
  have k1 := blk_cell bg1 1
  have k2 := blk_cell bg1 2
  rw [← hw1] at bg1
  obtain ⟨q, hq⟩ : ∃ q, q = Cf.code v l1 l2 := ⟨_, rfl⟩
  rw [← hq] at hcallF
  obtain ⟨rc, hrc⟩ : ∃ r, r = Cf.scd v l1 l2 vip := ⟨_, rfl⟩
  obtain ⟨rv, hrv⟩ : ∃ r, r = Cf.sval v l1 l2 vip := ⟨_, rfl⟩
  rw [← hrc, ← hrv]
  unfold Cf.scd at hrc
  unfold Cf.sval at hrv
  rw [← hq] at hrc hrv
  have hcallI := fun (W : World) => Cf.iin vip 0 ((l2.length : Int) - 1) W
  go_enter Try.func25, Try.ntmps25
  by_cases hq0 : q = 0
  · have hq1 : (q != 0) = false := bne_eq_false_iff_eq.mpr hq0
    have hq2 : (q == 0) = true := beq_iff_eq.mpr hq0
    rw [if_neg (by simp [hq0])] at hrc hrv
    cases hin : Cf.inB vip 0 ((l2.length : Int) - 1) with
    | false =>
      rw [hin, if_pos rfl] at hrc hrv
      simp only [hin] at hcallI
      clear hq
      go_wp2_with (first
        | (go_at_call 15; refine hcallF.mono ?_; rintro e_ w2 ⟨rfl, hb2⟩; rw [← hw1] at hb2; clear hcallF; have z2 := blk_cell (blk_below bg1 hb2) 2; have bk4 := blk_below bk1 hb2; have y0 := blk_cell bk4 0; have f0 := blk_frozen bk4 0; have y1 := blk_cell bk4 1; have f1 := blk_frozen bk4 1)
        | (go_at_call 72; refine (Cf.sizeV A2 c2 l2.length _).mono ?_; rintro e_ w9 ⟨rfl, hb9⟩; replace hb2 := Cf.up hb2 hb9; clear hb9; clear z2 bk4 y0 y1 f0 f1; have z2 := blk_cell (blk_below bg1 hb2) 2; have bk4 := blk_below bk1 hb2; have y0 := blk_cell bk4 0; have f0 := blk_frozen bk4 0; have y1 := blk_cell bk4 1; have f1 := blk_frozen bk4 1)
        | (go_at_call 53; refine (hcallI _).mono ?_; rintro e_ w3 ⟨rfl, hb3⟩; replace hb2 := Cf.up hb2 hb3; clear hb3; clear z2 bk4 y0 y1 f0 f1; have z2 := blk_cell (blk_below bg1 hb2) 2; have bk4 := blk_below bk1 hb2; have y0 := blk_cell bk4 0; have f0 := blk_frozen bk4 0; have y1 := blk_cell bk4 1; have f1 := blk_frozen bk4 1))
      refine bodyPost_ret (results_cell_row rfl _ _ (w.heap.size + 1) 53 #[.int .i64 3, .slice none 0 0] (0, 0) _ rfl (by exact Cf.put2 bk4 _ _) Try.underlying53 rfl (by kernel_rfl)) rfl ?_
      refine ⟨.slice none 0 0, by rw [hrc], ?_, ?_⟩
      · rw [hrv]; exact Cf.R67_put2 (Kd.R_nil _ _ _ _ _) bk4 _ _
      · have := hb2.size
        repeat (refine below_set ?_ (by show _ ≤ w.heap.size + 1; omega))
        exact Cf.up hB1 hb2
    | true =>
      rw [hin, if_neg (by simp)] at hrc hrv
      simp only [hin] at hcallI
      have hv := hin
      unfold Cf.inB at hv
      simp only [Bool.and_eq_true, decide_eq_true_eq] at hv
      obtain ⟨i, hi⟩ : ∃ i : Nat, (i : Int) = vip := ⟨vip.toNat, by omega⟩
      have hil : i < l2.length := by omega
      have hfd := Cf.code_found (hq.symm.trans hq0) i hil
      have hmi : (rd_T64 l2 (i : Int)).f3.length ≤ 1048576 := by
        have e : rd_T64 l2 (i : Int) = l2[i] := by simp [rd_T64, List.getD, hil]
        rw [e]; exact hmx _ (List.getElem_mem hil)
      subst hi
      have hcallS := fun (W : World) (hW : Below w1.heap.size w1 W) => impl_shares.cf w.heap.size A1 c1 l1 A2 c2 l2 v i W (blk_below bg1 hW) (Kd.C_below hr11 hW) hc1 (Kd.C_below hr21 hW) hil hfd hmi
      clear hq hfd hmi hin hv
      go_wp2_with (first
        | (go_at_call 15; refine hcallF.mono ?_; rintro e_ w2 ⟨rfl, hb2⟩; rw [← hw1] at hb2; clear hcallF; have z2 := blk_cell (blk_below bg1 hb2) 2; have bk4 := blk_below bk1 hb2; have y0 := blk_cell bk4 0; have f0 := blk_frozen bk4 0; have y1 := blk_cell bk4 1; have f1 := blk_frozen bk4 1)
        | (go_at_call 72; refine (Cf.sizeV A2 c2 l2.length _).mono ?_; rintro e_ w9 ⟨rfl, hb9⟩; replace hb2 := Cf.up hb2 hb9; clear hb9; clear z2 bk4 y0 y1 f0 f1; have z2 := blk_cell (blk_below bg1 hb2) 2; have bk4 := blk_below bk1 hb2; have y0 := blk_cell bk4 0; have f0 := blk_frozen bk4 0; have y1 := blk_cell bk4 1; have f1 := blk_frozen bk4 1)
        | (go_at_call 53; refine (hcallI _).mono ?_; rintro e_ w3 ⟨rfl, hb3⟩; replace hb2 := Cf.up hb2 hb3; clear hb3; clear z2 bk4 y0 y1 f0 f1; have z2 := blk_cell (blk_below bg1 hb2) 2; have bk4 := blk_below bk1 hb2; have y0 := blk_cell bk4 0; have f0 := blk_frozen bk4 0; have y1 := blk_cell bk4 1; have f1 := blk_frozen bk4 1)
        | (go_at_call 73; refine (hcallS _ hb2).mono ?_; rintro e_ w4 ⟨u, rfl, hR, hb4⟩; have hsz := hb2.size; replace hb2 := Cf.up hb2 hb4; clear hb4; obtain ⟨Au, cu, eu⟩ := Kd.R_slice hR; subst eu; clear z2 bk4 y0 y1 f0 f1; have z2 := blk_cell (blk_below bg1 hb2) 2; have bk4 := blk_below bk1 hb2; have y0 := blk_cell bk4 0; have f0 := blk_frozen bk4 0; have y1 := blk_cell bk4 1; have f1 := blk_frozen bk4 1))
      refine bodyPost_ret (results_cell_row rfl _ _ (w.heap.size + 1) 53 #[.int .i64 0, .slice Au (Cf.shr l1 (rd_T64 l2 (i : Int)).f3).length cu] (0, 0) _ rfl (by exact Cf.put2 bk4 _ _) Try.underlying53 rfl (by kernel_rfl)) rfl ?_
      refine ⟨.slice Au (Cf.shr l1 (rd_T64 l2 (i : Int)).f3).length cu, by rw [hrc], ?_, ?_⟩
      · rw [hrv]; exact Cf.R67_put2 (Kd.R_lower hR (by omega)) bk4 _ _
      · have := hb2.size
        repeat (refine below_set ?_ (by show _ ≤ w.heap.size + 1; omega))
        exact Cf.up hB1 hb2
  · have hq1 : (q != 0) = true := bne_iff_ne.mpr hq0
    have hq2 : (q == 0) = false := beq_eq_false_iff_ne.mpr hq0
    rw [if_pos hq0] at hrc hrv
    clear hq
    go_wp2_with (first
      | (go_at_call 15; refine hcallF.mono ?_; rintro e_ w2 ⟨rfl, hb2⟩; rw [← hw1] at hb2; clear hcallF; have z2 := blk_cell (blk_below bg1 hb2) 2; have bk4 := blk_below bk1 hb2; have y0 := blk_cell bk4 0; have f0 := blk_frozen bk4 0; have y1 := blk_cell bk4 1; have f1 := blk_frozen bk4 1))
    refine bodyPost_ret (results_cell_row rfl _ _ (w.heap.size + 1) 53 #[.int .i64 q, .slice none 0 0] (0, 0) _ rfl (by exact Cf.put2 bk4 _ _) Try.underlying53 rfl (by kernel_rfl)) rfl ?_
    refine ⟨.slice none 0 0, by rw [hrc], ?_, ?_⟩
    · rw [hrv]; exact Cf.R67_put2 (Kd.R_nil _ _ _ _ _) bk4 _ _
    · have := hb2.size
      repeat (refine below_set ?_ (by show _ ≤ w.heap.size + 1; omega))
      exact Cf.up hB1 hb2
def impl_SharesFor.f (a0_0 : Int) (l0_1 : List (S36)) (l0_2 : List (S64)) (a1 : Int) : Option (Int × (List (S67))) := if (∀ y ∈ l0_2, y.f3.length ≤ 1048576) then some (Cf.scd a0_0 l0_1 l0_2 a1, Cf.sval a0_0 l0_1 l0_2 a1) else none
theorem impl_SharesFor.calls (a0_0 : Int) (A0_1 : Option Addr) (c0_1 : Nat) (l0_1 : List (S36)) (A0_2 : Option Addr) (c0_2 : Nat) (l0_2 : List (S64)) (a1 : Int) (r1 : Int) (r2 : List (S67)) (w : World) (hr0_1 : Kd.C k36 w A0_1 l0_1.length l0_1) (hc0_1 : l0_1.length ≤ c0_1) (hr0_2 : Kd.C k64 w A0_2 l0_2.length l0_2) (hc0_2 : l0_2.length ≤ c0_2) (h : impl_SharesFor.f a0_0 l0_1 l0_2 a1 = some (r1, r2)) :
    Calls Try.prog 25 #[.agg #[.int .i64 a0_0, .slice A0_1 l0_1.length c0_1, .slice A0_2 l0_2.length c0_2], .int .i64 a1] w fun e w' => ∃ v1_ : Value, e = .returned (.agg #[.int .i64 r1, v1_]) ∧ Kd.R k67 67 w' w.heap.size (fun _ => True) v1_ r2 ∧ Below w.heap.size w w' := by
  unfold impl_SharesFor.f at h
  split at h
  case isFalse => cases h
  case isTrue hmx =>
    cases h
    exact impl_SharesFor.cf A0_1 c0_1 l0_1 A0_2 c0_2 l0_2 a0_0 a1 w hr0_1 hr0_2 hc0_1 hc0_2 hmx

/-! ### laws_lwBig: function 30 -/
def laws_lwBig.f (l0 : List Int) : Option (Bool) := some (decide ((l0.length : Int) > 1048576))
set_option maxHeartbeats 8000000 in
set_option maxRecDepth 100000 in
theorem laws_lwBig.calls (A0 : Option Addr) (c0 : Nat) (l0 : List Int) (r : Bool) (w : World) (hr0 : Kd.C (Kd.int .u8) w A0 l0.length l0) (hc0 : l0.length ≤ c0) (h : laws_lwBig.f l0 = some r) :
    Calls Try.prog 30 #[.slice A0 l0.length c0] w fun e w' => e = .returned (.bool r) ∧ Drawn0 w w' := by
  have HR0 := Aside0.mk hr0
  have HC0 := Aside0.mk hc0
  clear hr0 hc0
  have H : (some (decide ((l0.length : Int) > 1048576))) = some r := h
  clear h
  obtain rfl := Option.some.inj H
  go_enter Try.func30, Try.ntmps30
  go_wp2
  go_ret
  exact ⟨by first | rfl | (simp; done) | (simp [*]; done), by repeat (first | exact Drawn0.refl _ | apply Drawn0.step)⟩

/-- A state of type 148 at block g of W; what its slices lead to came in by w0. -/
def IsS148 (w0 W : World) (g : Nat) (f0 : List Int) (f1 : Int) : Prop := ∃ A0 c0, W.heap[g]? = some (.cells #[.slice A0 f0.length c0, .int .i64 f1] 148 (0, 0)) ∧ w0.heap.size ≤ g ∧ Kd.C (Kd.int .u8) w0 A0 f0.length f0
theorem IsS148.grown {w0 W : World} {g : Nat} {f0 : List Int} {f1 : Int} {W1 : World} {row : Option Nat} (h : IsS148 w0 W g f0 f1) (hw : W.grownBy W1 row) (hne : some g ≠ row) : IsS148 w0 W1 g f0 f1 := by
  obtain ⟨A0, c0, hb, hg, hr0⟩ := h
  exact ⟨A0, c0, blk_grown hb hw hne, hg, hr0⟩
theorem IsS148.own_neN {w0 W : World} {g : Nat} {f0 : List Int} {f1 : Int} {α : Type} {d : Kd α} {e : Nat} {base : Nat} {ok : Nat → Prop} {v : Value} {xs : List α} (h : IsS148 w0 W g f0 f1) (ho : Kd.N d e W base ok v xs) (ht : e ≠ 148) : some g ≠ v.ownBlock := by
  obtain ⟨A0, c0, hb, hg, hr0⟩ := h
  exact Kd.N_ne ho hb ht
theorem IsS148.fresh {w0 W : World} {g : Nat} {f0 : List Int} {f1 : Int} (h : IsS148 w0 W g f0 f1) : ∀ k, W.heap.size ≤ k → k ≠ g := by
  obtain ⟨A0, c0, hb, hg, hr0⟩ := h
  exact Kd.freshB hb
theorem IsS148.kept {w0 W : World} {g : Nat} {f0 : List Int} {f1 : Int} {W1 : World} {S : Nat → Prop} (h : IsS148 w0 W g f0 f1) (hk : Kept W W1 S) (hne : ¬ S g) : IsS148 w0 W1 g f0 f1 := by
  obtain ⟨A0, c0, hb, hg, hr0⟩ := h
  exact ⟨A0, c0, blk_kept hb hk hne, hg, hr0⟩
theorem IsS148.below {w0 W : World} {g : Nat} {f0 : List Int} {f1 : Int} {W1 : World} (h : IsS148 w0 W g f0 f1) (hw : Below W.heap.size W W1) : IsS148 w0 W1 g f0 f1 := h.grown (grown_of_below hw none) (by simp)
theorem IsS148.alloc {w0 W : World} {g : Nat} {f0 : List Int} {f1 : Int} (h : IsS148 w0 W g f0 f1) (o : Obj) : IsS148 w0 (W.alloc o) g f0 f1 := h.below (below_alloc (Below.refl _ _) o)
theorem IsS148.drewN {w0 W : World} {g : Nat} {f0 : List Int} {f1 : Int} (h : IsS148 w0 W g f0 f1) (m : Nat) : IsS148 w0 (W.drewN m) g f0 f1 := h
theorem IsS148.drew {w0 W : World} {g : Nat} {f0 : List Int} {f1 : Int} (h : IsS148 w0 W g f0 f1) : IsS148 w0 W.drew g f0 f1 := h
theorem IsS148.at_ {w0 W : World} {g : Nat} {f0 : List Int} {f1 : Int} {w' : World} {m : Nat} (hq : W.drewN m = w') (h : IsS148 w0 W g f0 f1) : IsS148 w0 w' g f0 f1 := by subst hq; exact IsS148.drewN h m
theorem IsS148.apart {w0 W : World} {g : Nat} {f0 : List Int} {f1 : Int} {α : Type} {d : Kd α} {e : Nat} {base : Nat} {ok : Nat → Prop} {v : Value} {xs : List α} (h : IsS148 w0 W g f0 f1) (ho : d.R e W base ok v xs) (ht : ∀ q, q ∈ e :: d.E → q ≠ 148) : d.R e W base (fun k => ok k ∧ k ≠ g) v xs := by
  obtain ⟨A0, c0, hb, hg, hr0⟩ := h
  exact Kd.R_types ho hb ht
theorem IsS148.own_ne {w0 W : World} {g : Nat} {f0 : List Int} {f1 : Int} {α : Type} {d : Kd α} {e : Nat} {base : Nat} {ok : Nat → Prop} {v : Value} {xs : List α} (h : IsS148 w0 W g f0 f1) (ho : d.R e W base ok v xs) (ht : e ≠ 148) : some g ≠ v.ownBlock := by
  obtain ⟨A0, c0, hb, hg, hr0⟩ := h
  exact Kd.R_ne ho hb ht
theorem IsS148.apartQ {w0 W : World} {g : Nat} {f0 : List Int} {f1 : Int} {α : Type} {d : Kd α} {e : Nat} {base : Nat} {ok : Nat → Prop} {v : Value} {xs : List α} (h : IsS148 w0 W g f0 f1) (ho : d.Q e W base ok v xs) (ht : ∀ q, q ∈ e :: d.E → q ≠ 148) : d.Q e W base (fun k => ok k ∧ k ≠ g) v xs := by
  obtain ⟨A0, c0, hb, hg, hr0⟩ := h
  exact Kd.Q_types ho hb ht
theorem IsS148.own_neQ {w0 W : World} {g : Nat} {f0 : List Int} {f1 : Int} {α : Type} {d : Kd α} {e : Nat} {base : Nat} {ok : Nat → Prop} {v : Value} {xs : List α} (h : IsS148 w0 W g f0 f1) (ho : d.Q e W base ok v xs) (ht : e ≠ 148) : some g ≠ v.ownBlock := by
  obtain ⟨A0, c0, hb, hg, hr0⟩ := h
  exact Kd.Q_ne ho hb ht
theorem IsS148.apartS {w0 W : World} {g : Nat} {f0 : List Int} {f1 : Int} {α : Type} {d : Kd α} {e : Nat} {base : Nat} {ok : Nat → Prop} {v : Value} {xs : List α} (h : IsS148 w0 W g f0 f1) (ho : d.S e W base ok v xs) (ht : ∀ q, q ∈ e :: d.E → q ≠ 148) : d.S e W base (fun k => ok k ∧ k ≠ g) v xs := by
  obtain ⟨A0, c0, hb, hg, hr0⟩ := h
  exact Kd.S_types ho hb ht
theorem IsS148.own_neS {w0 W : World} {g : Nat} {f0 : List Int} {f1 : Int} {α : Type} {d : Kd α} {e : Nat} {base : Nat} {ok : Nat → Prop} {v : Value} {xs : List α} (h : IsS148 w0 W g f0 f1) (ho : d.S e W base ok v xs) (ht : e ≠ 148) : some g ≠ v.ownBlock := by
  obtain ⟨A0, c0, hb, hg, hr0⟩ := h
  exact Kd.S_ne ho hb ht
theorem IsS148.lt {w0 W : World} {g : Nat} {f0 : List Int} {f1 : Int} (h : IsS148 w0 W g f0 f1) : g < W.heap.size := by
  obtain ⟨A0, c0, hb, hg, hr0⟩ := h
  exact blk_lt hb
theorem IsS148.ge {w0 W : World} {g : Nat} {f0 : List Int} {f1 : Int} (h : IsS148 w0 W g f0 f1) : w0.heap.size ≤ g := by
  obtain ⟨A0, c0, hb, hg, hr0⟩ := h
  exact hg
theorem IsS148.ne_blk {w0 W : World} {g : Nat} {f0 : List Int} {f1 : Int} {a : Nat} {cs : Array Value} {t : TypeId} {fr : Nat × Nat} (h : IsS148 w0 W g f0 f1) (hb2 : W.heap[a]? = some (.cells cs t fr)) (ht : t ≠ 148) : g ≠ a := by
  obtain ⟨A0, c0, hb, hg, hr0⟩ := h
  rintro rfl
  rw [hb] at hb2
  injection hb2 with hb2
  injection hb2 with _ ht2
  exact ht ht2.symm
theorem IsS148.far {w0 W : World} {g : Nat} {f0 : List Int} {f1 : Int} {p : Addr} (h : IsS148 w0 W g f0 f1) (hne : g ≠ p.block) (u : Value) : IsS148 w0 (W.setCell p u) g f0 f1 := by
  obtain ⟨A0, c0, hb, hg, hr0⟩ := h
  exact ⟨A0, c0, blk_far hb hne u, hg, hr0⟩
theorem cellS148_0 {W : World} {g : Nat} {A0 : Option Addr} {c0 : Nat} {f0 : List Int} {f1 : Int} (h : W.heap[g]? = some (.cells #[.slice A0 f0.length c0, .int .i64 f1] 148 (0, 0))) : W.cell? ⟨g, 0, none⟩ = some (.slice A0 f0.length c0) := (blk_cell h 0).trans rfl
theorem cellS148_1 {W : World} {g : Nat} {A0 : Option Addr} {c0 : Nat} {f0 : List Int} {f1 : Int} (h : W.heap[g]? = some (.cells #[.slice A0 f0.length c0, .int .i64 f1] 148 (0, 0))) : W.cell? ⟨g, 1, none⟩ = some (.int .i64 f1) := (blk_cell h 1).trans rfl
theorem IsS148.set_1 {w0 W : World} {g : Nat} {f0 : List Int} {f1 : Int} (h : IsS148 w0 W g f0 f1) (x : Int) : IsS148 w0 (W.setCell ⟨g, 1, none⟩ (.int .i64 x)) g f0 x := by
  obtain ⟨A0, c0, hb, hg, hr0⟩ := h
  exact ⟨A0, c0, by simpa using blk_set hb 1 (.int .i64 x), hg, hr0⟩
theorem IsS148.new (w0 W : World) (A0 : Option Addr) (c0 : Nat) (f0 : List Int) (f1 : Int) (hB : Below w0.heap.size w0 W) (hr0 : Kd.C (Kd.int .u8) w0 A0 f0.length f0) : IsS148 w0 (W.alloc (.cells #[.slice A0 f0.length c0, .int .i64 f1] 148)) W.heap.size f0 f1 := ⟨A0, c0, by simpa using heap_alloc_new W _, hB.size, hr0⟩

/-! ### spec_l1Source: function 79 -/
def spec_l1Source.f (l0 : List Int) : Option (List Int × Int) := some (l0, 0)
set_option maxHeartbeats 8000000 in
set_option maxRecDepth 100000 in
theorem spec_l1Source.calls (A0 : Option Addr) (c0 : Nat) (l0 : List Int) (r1 : List Int) (r2 : Int) (w0 w : World) (hB : Below w0.heap.size w0 w) (hr0 : Kd.C (Kd.int .u8) w0 A0 l0.length l0) (hc0 : l0.length ≤ c0) (h : spec_l1Source.f l0 = some (r1, r2)) :
    Calls Try.prog 79 #[.slice A0 l0.length c0] w fun e w' => ∃ g_ : Nat, e = .returned (.pointer (some ⟨g_, 0, none⟩)) ∧ IsS148 w0 w' g_ r1 r2 ∧ Below w0.heap.size w0 w' ∧ Below w.heap.size w w' := by
  have hu148 := Try.underlying148
  have HR0 := Aside0.mk hr0
  have HC0 := Aside0.mk hc0
  clear hr0 hc0
  have HBW := Aside0.mk (Below.refl w.heap.size w)
  have HW0 := Aside0.mk hB.size
  have HB := Aside0.mk hB
  clear hB
  have H : (some (l0, 0)) = some (r1, r2) := h
  clear h
  simp only [Option.some.injEq, Prod.mk.injEq] at H
  obtain ⟨rfl, rfl⟩ := H
  go_enter Try.func79, Try.ntmps79
  go_wp2_with (first | ((with_reducible refine gate_dst (N := 5) rfl ?_); refine box_event ?hg (N := 5) ?hd (cs := #[.slice A0 l0.length c0, .int .i64 0]) (t := 148) ?hr ?_; (case hd => rfl); (case hg => rfl); (case hr => first | (go_simp; done) | (go_simp; rfl)); intro gb187 hg w2 hbox hb; have n0_ := Aside0.mk (below_step HBW.out hb); have n1_ := Aside0.mk (below_step (by repeat (first | (with_reducible first | exact HB.out | apply below_alloc | apply pw_below_drewN | apply below_drew1) | exact HB.out)) hb); have n2_ := Aside0.mk (hbox); have n3_ := Aside0.mk ((by rw [hg]; exact (below_size (by repeat (first | (with_reducible first | exact HBW.out | apply below_alloc | apply pw_below_drewN | apply below_drew1) | exact HBW.out))) : w.heap.size ≤ gb187)); have n4_ := Aside0.mk ((Nat.le_trans HW0.out (by rw [hg]; exact (below_size (by repeat (first | (with_reducible first | exact HBW.out | apply below_alloc | apply pw_below_drewN | apply below_drew1) | exact HBW.out))) : w.heap.size ≤ gb187) : w0.heap.size ≤ gb187)); clear HBW; clear HB; have HBW := n0_; have HB := n1_; have BK187 := n2_; have GW187 := n3_; have GE187 := n4_; clear n0_ n1_ n2_ n3_ n4_; clear hb hbox hg))
  go_ret
  exact ⟨_, rfl, (show IsS148 w0 _ gb187 l0 0 from ⟨_, _, by (with_reducible repeat (first | refine blk_drewN ?_ _ | refine blk_drew ?_ | refine blk_alloc ?_ _)); exact BK187.out, GE187.out, HR0.out⟩), by repeat (first | (with_reducible first | exact HB.out | apply below_alloc | apply pw_below_drewN | apply below_drew1 | refine below_set ?_ GE187.out) | exact HB.out), by repeat (first | (with_reducible first | exact HBW.out | apply below_alloc | apply pw_below_drewN | apply below_drew1 | refine below_set ?_ GW187.out) | exact HBW.out)⟩

/-! ### spec_l1Next: function 120 -/
def spec_l1Next.f (s0_0 : List Int) (s0_1 : Int) (a1 : Int) : Option (Int × Int) := if a1 < 1 then (some (0, wrap64 (s0_1 + 1))) else (if (s0_0.length : Int) = 0 then (if a1 = 0 then (none) else (some (Int.tmod (wrap64 ((wrap64 ((wrap64 (s0_1 + 1)) - 1)) * 7)) a1, wrap64 (s0_1 + 1)))) else (if 0 ≤ (Int.tmod (wrap64 ((wrap64 (s0_1 + 1)) - 1)) (s0_0.length : Int)) then (if (Int.tmod (wrap64 ((wrap64 (s0_1 + 1)) - 1)) (s0_0.length : Int)) < (s0_0.length : Int) then (if a1 > 200 then (if 0 ≤ (Int.tmod (wrap64 ((wrap64 ((wrap64 (s0_1 + 1)) - 1)) + 1)) (s0_0.length : Int)) then (if (Int.tmod (wrap64 ((wrap64 ((wrap64 (s0_1 + 1)) - 1)) + 1)) (s0_0.length : Int)) < (s0_0.length : Int) then (if a1 = 0 then (none) else (some (Int.tmod (wrap64 ((wrap64 ((wrap64 ((wrap64 ((wrap64 (rd s0_0 (Int.tmod (wrap64 ((wrap64 (s0_1 + 1)) - 1)) (s0_0.length : Int)))) + (wrap64 ((wrap64 (Int.tdiv (wrap64 ((wrap64 (s0_1 + 1)) - 1)) (s0_0.length : Int))) * 37)))) * 251)) + (wrap64 ((wrap64 (rd s0_0 (Int.tmod (wrap64 ((wrap64 ((wrap64 (s0_1 + 1)) - 1)) + 1)) (s0_0.length : Int)))) * 13)))) + (wrap64 ((wrap64 (s0_1 + 1)) - 1)))) a1, wrap64 (s0_1 + 1)))) else (none)) else (none)) else (if a1 = 0 then (none) else (some (Int.tmod (wrap64 ((wrap64 (rd s0_0 (Int.tmod (wrap64 ((wrap64 (s0_1 + 1)) - 1)) (s0_0.length : Int)))) + (wrap64 ((wrap64 (Int.tdiv (wrap64 ((wrap64 (s0_1 + 1)) - 1)) (s0_0.length : Int))) * 37)))) a1, wrap64 (s0_1 + 1))))) else (none)) else (none)))
set_option maxHeartbeats 8000000 in
set_option maxRecDepth 100000 in
theorem spec_l1Next.calls (g : Nat) (s0_0 : List Int) (s0_1 : Int) (a1 : Int) (r1 : Int) (r2 : Int) (w0 w : World) (hI : IsS148 w0 w g s0_0 s0_1) (hB : Below w0.heap.size w0 w) (h : spec_l1Next.f s0_0 s0_1 a1 = some (r1, r2)) :
    Calls Try.prog 120 #[.pointer (some ⟨g, 0, none⟩), .int .i64 a1] w fun e w' => e = .returned (.int .i64 r1) ∧ IsS148 w0 w' g s0_0 r2 ∧ Below w0.heap.size w0 w' ∧ KeepBut w w' g none := by
  have HI0 := Aside0.mk hI
  have HK := Aside0.mk (KeepBut.refl w g none)
  have HL := Aside0.mk hB.size
  clear hI
  have HW0 := Aside0.mk hB.size
  have HB := Aside0.mk hB
  clear hB
  have H : (if a1 < 1 then (some (0, wrap64 (s0_1 + 1))) else (if (s0_0.length : Int) = 0 then (if a1 = 0 then (none) else (some (Int.tmod (wrap64 ((wrap64 ((wrap64 (s0_1 + 1)) - 1)) * 7)) a1, wrap64 (s0_1 + 1)))) else (if 0 ≤ (Int.tmod (wrap64 ((wrap64 (s0_1 + 1)) - 1)) (s0_0.length : Int)) then (if (Int.tmod (wrap64 ((wrap64 (s0_1 + 1)) - 1)) (s0_0.length : Int)) < (s0_0.length : Int) then (if a1 > 200 then (if 0 ≤ (Int.tmod (wrap64 ((wrap64 ((wrap64 (s0_1 + 1)) - 1)) + 1)) (s0_0.length : Int)) then (if (Int.tmod (wrap64 ((wrap64 ((wrap64 (s0_1 + 1)) - 1)) + 1)) (s0_0.length : Int)) < (s0_0.length : Int) then (if a1 = 0 then (none) else (some (Int.tmod (wrap64 ((wrap64 ((wrap64 ((wrap64 ((wrap64 (rd s0_0 (Int.tmod (wrap64 ((wrap64 (s0_1 + 1)) - 1)) (s0_0.length : Int)))) + (wrap64 ((wrap64 (Int.tdiv (wrap64 ((wrap64 (s0_1 + 1)) - 1)) (s0_0.length : Int))) * 37)))) * 251)) + (wrap64 ((wrap64 (rd s0_0 (Int.tmod (wrap64 ((wrap64 ((wrap64 (s0_1 + 1)) - 1)) + 1)) (s0_0.length : Int)))) * 13)))) + (wrap64 ((wrap64 (s0_1 + 1)) - 1)))) a1, wrap64 (s0_1 + 1)))) else (none)) else (none)) else (if a1 = 0 then (none) else (some (Int.tmod (wrap64 ((wrap64 (rd s0_0 (Int.tmod (wrap64 ((wrap64 (s0_1 + 1)) - 1)) (s0_0.length : Int)))) + (wrap64 ((wrap64 (Int.tdiv (wrap64 ((wrap64 (s0_1 + 1)) - 1)) (s0_0.length : Int))) * 37)))) a1, wrap64 (s0_1 + 1))))) else (none)) else (none)))) = some (r1, r2) := h
  clear h
  by_cases c3 : a1 < 1
  · rw [if_pos c3] at H
    have c3b0 : decide (a1 < 1) = true := decide_eq_true c3
    clear c3
    simp only [Option.some.injEq, Prod.mk.injEq] at H
    obtain ⟨rfl, rfl⟩ := H
    obtain ⟨ASz4_0, cSz4_0, HGz4, hgz4, HSz4_0⟩ := HI0.out
    have hcz4_0 := cellS148_0 HGz4
    have hcz4_1 := cellS148_1 HGz4
    have hfz4_1 := blk_frozen HGz4 1
    clear HGz4 hgz4
    go_enter Try.func120, Try.ntmps120
    go_wp2
    repeat (go_quiet (fail); try go_wp2)
    go_ret
    exact ⟨by first | rfl | (simp [errW_none, errW_some] <;> rfl) | (simp [*, errW_none, errW_some] <;> rfl), by repeat (first | (with_reducible first | exact HI0.out | apply IsS148.alloc | apply IsS148.drewN | apply IsS148.drew | apply IsS148.set_1) | exact HI0.out), by repeat (first | (with_reducible first | exact HB.out | apply below_alloc | apply pw_below_drewN | apply below_drew1 | refine below_set ?_ (IsS148.ge HI0.out)) | exact HB.out), by repeat (first | (with_reducible first | exact HK.out | apply KeepBut.set_ | apply keep_drewN | apply keep_drew | apply keep_alloc) | exact HK.out)⟩
  · rw [if_neg c3] at H
    have c3b0 : decide (a1 < 1) = false := decide_eq_false c3
    clear c3
    by_cases c5 : (s0_0.length : Int) = 0
    · rw [if_pos c5] at H
      have c5b0 : ((s0_0.length : Int) == 0) = true := beq_iff_eq.mpr c5
      have c5b1 : ((s0_0.length : Int) != 0) = false := bne_eq_false_iff_eq.mpr c5
      clear c5
      by_cases c6 : a1 = 0
      · rw [if_pos c6] at H
        exact absurd H (by simp)
      · rw [if_neg c6] at H
        have c6b0 : (a1 == 0) = false := beq_eq_false_iff_ne.mpr c6
        have c6b1 : (a1 != 0) = true := bne_iff_ne.mpr c6
        simp only [Option.some.injEq, Prod.mk.injEq] at H
        obtain ⟨rfl, rfl⟩ := H
        obtain ⟨ASz7_0, cSz7_0, HGz7, hgz7, HSz7_0⟩ := HI0.out
        have hcz7_0 := cellS148_0 HGz7
        have hcz7_1 := cellS148_1 HGz7
        have hfz7_1 := blk_frozen HGz7 1
        clear HGz7 hgz7
        go_enter Try.func120, Try.ntmps120
        go_wp2
        repeat (go_quiet (fail); try go_wp2)
        go_ret
        exact ⟨by first | rfl | (simp [errW_none, errW_some] <;> rfl) | (simp [*, errW_none, errW_some] <;> rfl), by repeat (first | (with_reducible first | exact HI0.out | apply IsS148.alloc | apply IsS148.drewN | apply IsS148.drew | apply IsS148.set_1) | exact HI0.out), by repeat (first | (with_reducible first | exact HB.out | apply below_alloc | apply pw_below_drewN | apply below_drew1 | refine below_set ?_ (IsS148.ge HI0.out)) | exact HB.out), by repeat (first | (with_reducible first | exact HK.out | apply KeepBut.set_ | apply keep_drewN | apply keep_drew | apply keep_alloc) | exact HK.out)⟩
    · rw [if_neg c5] at H
      have c5b0 : ((s0_0.length : Int) == 0) = false := beq_eq_false_iff_ne.mpr c5
      have c5b1 : ((s0_0.length : Int) != 0) = true := bne_iff_ne.mpr c5
      have c5b2 : ¬ (s0_0 = []) := fun h_ => c5 (by rw [h_]; rfl)
      obtain ⟨ji8, hji8⟩ : ∃ j_ : Int, (Int.tmod (wrap64 ((wrap64 (s0_1 + 1)) - 1)) (s0_0.length : Int)) = j_ := ⟨_, rfl⟩
      replace H : (if 0 ≤ (ji8) then (if (ji8) < (s0_0.length : Int) then (if a1 > 200 then (if 0 ≤ (Int.tmod (wrap64 ((wrap64 ((wrap64 (s0_1 + 1)) - 1)) + 1)) (s0_0.length : Int)) then (if (Int.tmod (wrap64 ((wrap64 ((wrap64 (s0_1 + 1)) - 1)) + 1)) (s0_0.length : Int)) < (s0_0.length : Int) then (if a1 = 0 then (none) else (some (Int.tmod (wrap64 ((wrap64 ((wrap64 ((wrap64 ((wrap64 (rd s0_0 (ji8))) + (wrap64 ((wrap64 (Int.tdiv (wrap64 ((wrap64 (s0_1 + 1)) - 1)) (s0_0.length : Int))) * 37)))) * 251)) + (wrap64 ((wrap64 (rd s0_0 (Int.tmod (wrap64 ((wrap64 ((wrap64 (s0_1 + 1)) - 1)) + 1)) (s0_0.length : Int)))) * 13)))) + (wrap64 ((wrap64 (s0_1 + 1)) - 1)))) a1, wrap64 (s0_1 + 1)))) else (none)) else (none)) else (if a1 = 0 then (none) else (some (Int.tmod (wrap64 ((wrap64 (rd s0_0 (ji8))) + (wrap64 ((wrap64 (Int.tdiv (wrap64 ((wrap64 (s0_1 + 1)) - 1)) (s0_0.length : Int))) * 37)))) a1, wrap64 (s0_1 + 1))))) else (none)) else (none)) = some (r1, r2) := by first | (rw [hji8] at H; exact H) | (simp only [hji8] at H ⊢; exact H)
      by_cases c9 : 0 ≤ (ji8)
      · rw [if_pos c9] at H
        have c9b0 : decide (0 ≤ (ji8)) = true := decide_eq_true c9
        clear c9
        by_cases c10 : (ji8) < (s0_0.length : Int)
        · rw [if_pos c10] at H
          have c10b0 : decide ((ji8) < (s0_0.length : Int)) = true := decide_eq_true c10
          clear c10
          by_cases c11 : a1 > 200
          · rw [if_pos c11] at H
            have c11b0 : decide (200 < a1) = true := decide_eq_true c11
            clear c11
            obtain ⟨ji12, hji12⟩ : ∃ j_ : Int, (Int.tmod (wrap64 ((wrap64 ((wrap64 (s0_1 + 1)) - 1)) + 1)) (s0_0.length : Int)) = j_ := ⟨_, rfl⟩
            replace H : (if 0 ≤ (ji12) then (if (ji12) < (s0_0.length : Int) then (if a1 = 0 then (none) else (some (Int.tmod (wrap64 ((wrap64 ((wrap64 ((wrap64 ((wrap64 (rd s0_0 (ji8))) + (wrap64 ((wrap64 (Int.tdiv (wrap64 ((wrap64 (s0_1 + 1)) - 1)) (s0_0.length : Int))) * 37)))) * 251)) + (wrap64 ((wrap64 (rd s0_0 (ji12))) * 13)))) + (wrap64 ((wrap64 (s0_1 + 1)) - 1)))) a1, wrap64 (s0_1 + 1)))) else (none)) else (none)) = some (r1, r2) := by first | (rw [hji12] at H; exact H) | (simp only [hji12] at H ⊢; exact H)
            by_cases c13 : 0 ≤ (ji12)
            · rw [if_pos c13] at H
              have c13b0 : decide (0 ≤ (ji12)) = true := decide_eq_true c13
              clear c13
              by_cases c14 : (ji12) < (s0_0.length : Int)
              · rw [if_pos c14] at H
                have c14b0 : decide ((ji12) < (s0_0.length : Int)) = true := decide_eq_true c14
                clear c14
                by_cases c15 : a1 = 0
                · rw [if_pos c15] at H
                  exact absurd H (by simp)
                · rw [if_neg c15] at H
                  have c15b0 : (a1 == 0) = false := beq_eq_false_iff_ne.mpr c15
                  have c15b1 : (a1 != 0) = true := bne_iff_ne.mpr c15
                  simp only [Option.some.injEq, Prod.mk.injEq] at H
                  obtain ⟨rfl, rfl⟩ := H
                  obtain ⟨ASz16_0, cSz16_0, HGz16, hgz16, HSz16_0⟩ := HI0.out
                  have hcz16_0 := cellS148_0 HGz16
                  have hcz16_1 := cellS148_1 HGz16
                  have hfz16_1 := blk_frozen HGz16 1
                  clear HGz16 hgz16
                  have p188 : 0 ≤ ((ji8) : Int) := of_decide_eq_true (by first | (with_reducible assumption) | assumption)
                  have q188 : (ji8) < (s0_0.length : Int) := of_decide_eq_true (by first | (with_reducible assumption) | assumption)
                  obtain ⟨ad188, e188, hx188_0⟩ := Kd.at_int HSz16_0 (ji8) p188 q188
                  cases e188
                  have hn188_0 : ad188.block ≠ g := Nat.ne_of_lt (Nat.lt_of_lt_of_le (by have := World.block_lt_of_cell? _ _ hx188_0; first | rwa [add_block] at this | exact this) (IsS148.ge HI0.out))
                  replace hx188_0 := pw_cell_below HB.out hx188_0
                  replace hx188_0 := (cell_far (p := ⟨g, 1, none⟩) (by first | (rw [add_block]; exact hn188_0) | (show (Addr.add _ _).block ≠ _; rw [add_block]; exact hn188_0) | exact hn188_0) (.int .i64 (wrap64 (s0_1 + 1)))).trans hx188_0
                  (try have hy188_0 := fun (n_ : Nat) => (show (((w.drewN n_).setCell ⟨g, 1, none⟩ (.int .i64 (wrap64 (s0_1 + 1))))).cell? _ = some _ from hx188_0))
                  clear hn188_0
                  replace p188 := eq_true p188
                  replace q188 := eq_true q188
                  have p189 : 0 ≤ ((ji12) : Int) := of_decide_eq_true (by first | (with_reducible assumption) | assumption)
                  have q189 : (ji12) < (s0_0.length : Int) := of_decide_eq_true (by first | (with_reducible assumption) | assumption)
                  obtain ⟨ad189, e189, hx189_0⟩ := Kd.at_int HSz16_0 (ji12) p189 q189
                  obtain rfl : ad188 = ad189 := (by injection e189)
                  have hn189_0 : ad188.block ≠ g := Nat.ne_of_lt (Nat.lt_of_lt_of_le (by have := World.block_lt_of_cell? _ _ hx189_0; first | rwa [add_block] at this | exact this) (IsS148.ge HI0.out))
                  replace hx189_0 := pw_cell_below HB.out hx189_0
                  replace hx189_0 := (cell_far (p := ⟨g, 1, none⟩) (by first | (rw [add_block]; exact hn189_0) | (show (Addr.add _ _).block ≠ _; rw [add_block]; exact hn189_0) | exact hn189_0) (.int .i64 (wrap64 (s0_1 + 1)))).trans hx189_0
                  (try have hy189_0 := fun (n_ : Nat) => (show (((w.drewN n_).setCell ⟨g, 1, none⟩ (.int .i64 (wrap64 (s0_1 + 1))))).cell? _ = some _ from hx189_0))
                  clear hn189_0
                  replace p189 := eq_true p189
                  replace q189 := eq_true q189
                  go_enter Try.func120, Try.ntmps120
                  go_wp2
                  repeat (go_quiet (fail); try go_wp2)
                  go_ret
                  exact ⟨by first | rfl | (simp [errW_none, errW_some] <;> rfl) | (simp only [← hji8, ← hji12]; first | rfl | (simp [errW_none, errW_some] <;> rfl)) | (simp [*, errW_none, errW_some] <;> rfl), by repeat (first | (with_reducible first | exact HI0.out | apply IsS148.alloc | apply IsS148.drewN | apply IsS148.drew | apply IsS148.set_1) | exact HI0.out), by repeat (first | (with_reducible first | exact HB.out | apply below_alloc | apply pw_below_drewN | apply below_drew1 | refine below_set ?_ (IsS148.ge HI0.out)) | exact HB.out), by repeat (first | (with_reducible first | exact HK.out | apply KeepBut.set_ | apply keep_drewN | apply keep_drew | apply keep_alloc) | exact HK.out)⟩
              · rw [if_neg c14] at H
                exact absurd H (by simp)
            · rw [if_neg c13] at H
              exact absurd H (by simp)
          · rw [if_neg c11] at H
            have c11b0 : decide (200 < a1) = false := decide_eq_false c11
            clear c11
            by_cases c17 : a1 = 0
            · rw [if_pos c17] at H
              exact absurd H (by simp)
            · rw [if_neg c17] at H
              have c17b0 : (a1 == 0) = false := beq_eq_false_iff_ne.mpr c17
              have c17b1 : (a1 != 0) = true := bne_iff_ne.mpr c17
              simp only [Option.some.injEq, Prod.mk.injEq] at H
              obtain ⟨rfl, rfl⟩ := H
              obtain ⟨ASz18_0, cSz18_0, HGz18, hgz18, HSz18_0⟩ := HI0.out
              have hcz18_0 := cellS148_0 HGz18
              have hcz18_1 := cellS148_1 HGz18
              have hfz18_1 := blk_frozen HGz18 1
              clear HGz18 hgz18
              have p188 : 0 ≤ ((ji8) : Int) := of_decide_eq_true (by first | (with_reducible assumption) | assumption)
              have q188 : (ji8) < (s0_0.length : Int) := of_decide_eq_true (by first | (with_reducible assumption) | assumption)
              obtain ⟨ad188, e188, hx188_0⟩ := Kd.at_int HSz18_0 (ji8) p188 q188
              cases e188
              have hn188_0 : ad188.block ≠ g := Nat.ne_of_lt (Nat.lt_of_lt_of_le (by have := World.block_lt_of_cell? _ _ hx188_0; first | rwa [add_block] at this | exact this) (IsS148.ge HI0.out))
              replace hx188_0 := pw_cell_below HB.out hx188_0
              replace hx188_0 := (cell_far (p := ⟨g, 1, none⟩) (by first | (rw [add_block]; exact hn188_0) | (show (Addr.add _ _).block ≠ _; rw [add_block]; exact hn188_0) | exact hn188_0) (.int .i64 (wrap64 (s0_1 + 1)))).trans hx188_0
              (try have hy188_0 := fun (n_ : Nat) => (show (((w.drewN n_).setCell ⟨g, 1, none⟩ (.int .i64 (wrap64 (s0_1 + 1))))).cell? _ = some _ from hx188_0))
              clear hn188_0
              replace p188 := eq_true p188
              replace q188 := eq_true q188
              go_enter Try.func120, Try.ntmps120
              go_wp2
              repeat (go_quiet (fail); try go_wp2)
              go_ret
              exact ⟨by first | rfl | (simp [errW_none, errW_some] <;> rfl) | (simp only [← hji8]; first | rfl | (simp [errW_none, errW_some] <;> rfl)) | (simp [*, errW_none, errW_some] <;> rfl), by repeat (first | (with_reducible first | exact HI0.out | apply IsS148.alloc | apply IsS148.drewN | apply IsS148.drew | apply IsS148.set_1) | exact HI0.out), by repeat (first | (with_reducible first | exact HB.out | apply below_alloc | apply pw_below_drewN | apply below_drew1 | refine below_set ?_ (IsS148.ge HI0.out)) | exact HB.out), by repeat (first | (with_reducible first | exact HK.out | apply KeepBut.set_ | apply keep_drewN | apply keep_drew | apply keep_alloc) | exact HK.out)⟩
        · rw [if_neg c10] at H
          exact absurd H (by simp)
      · rw [if_neg c9] at H
        exact absurd H (by simp)

/-! ### spec_l1Pick: function 81 -/
def spec_l1Pick.f (s0_0 : List Int) (s0_1 : Int) (l1 : List Int) : Option (Int × Int) := (spec_l1Next.f s0_0 s0_1 (l1.length : Int)).bind fun bt190 => (if 0 ≤ bt190.1 then (if bt190.1 < (l1.length : Int) then (some (rd l1 bt190.1, bt190.2)) else (none)) else (none))
set_option maxHeartbeats 8000000 in
set_option maxRecDepth 100000 in
theorem spec_l1Pick.calls (g : Nat) (s0_0 : List Int) (s0_1 : Int) (A1 : Option Addr) (c1 : Nat) (l1 : List Int) (r1 : Int) (r2 : Int) (w0 w : World) (hI : IsS148 w0 w g s0_0 s0_1) (hB : Below w0.heap.size w0 w) (hr1 : Kd.C (Kd.int .i64) w A1 l1.length l1) (hc1 : l1.length ≤ c1) (hf1 : ∀ ad, A1 = some ad → 0 < l1.length → ad.block ≠ g) (h : spec_l1Pick.f s0_0 s0_1 l1 = some (r1, r2)) :
    Calls Try.prog 81 #[.pointer (some ⟨g, 0, none⟩), .slice A1 l1.length c1] w fun e w' => e = .returned (.int .i64 r1) ∧ IsS148 w0 w' g s0_0 r2 ∧ Below w0.heap.size w0 w' ∧ KeepBut w w' g none := by
  have HR1 := Aside0.mk hr1
  have HC1 := Aside0.mk hc1
  clear hr1 hc1
  have HI0 := Aside0.mk hI
  have HK := Aside0.mk (KeepBut.refl w g none)
  have HL := Aside0.mk hB.size
  clear hI
  have HW0 := Aside0.mk hB.size
  have HB := Aside0.mk hB
  clear hB
  have H : ((spec_l1Next.f s0_0 s0_1 (l1.length : Int)).bind fun bt190 => (if 0 ≤ bt190.1 then (if bt190.1 < (l1.length : Int) then (some (rd l1 bt190.1, bt190.2)) else (none)) else (none))) = some (r1, r2) := h
  clear h
  replace H := Option.bind_eq_some_iff.mp H
  obtain ⟨⟨t190, t191⟩, A30, H⟩ := H
  replace H : (if 0 ≤ t190 then (if t190 < (l1.length : Int) then (some (rd l1 t190, t191)) else (none)) else (none)) = some (r1, r2) := H
  have A3 := Aside0.mk A30
  clear A30
  by_cases c4 : 0 ≤ t190
  · rw [if_pos c4] at H
    have c4b0 : decide (0 ≤ t190) = true := decide_eq_true c4
    clear c4
    by_cases c5 : t190 < (l1.length : Int)
    · rw [if_pos c5] at H
      have c5b0 : decide (t190 < (l1.length : Int)) = true := decide_eq_true c5
      clear c5
      simp only [Option.some.injEq, Prod.mk.injEq] at H
      obtain ⟨rfl, rfl⟩ := H
      go_enter Try.func81, Try.ntmps81
      go_wp2_with (first | ((with_reducible refine gate_callee (f := 120) rfl ?_); refine goesL_ (some 9) rfl rfl Try.func120 (by kernel_rfl) rfl #[.pointer (some ⟨g, 0, none⟩), .int .i64 (l1.length : Int)] rfl (by (try simp only [List.map_toArray, List.map_cons, List.map_nil]); first | done | rfl | (simp only [List.length_drop, List.length_take]; rfl)) ?_; (with_reducible refine (spec_l1Next.calls g s0_0 s0_1 (l1.length : Int) t190 t191 w0 _ ?side1 ?side2 A3.out).mono ?_); (case side1 => repeat (first | (with_reducible first | exact HI0.out | apply IsS148.alloc | apply IsS148.drewN | apply IsS148.drew | apply IsS148.set_1) | exact HI0.out)); (case side2 => repeat (first | (with_reducible first | exact HB.out | apply below_alloc | apply pw_below_drewN | apply below_drew1 | refine below_set ?_ (IsS148.ge HI0.out)) | exact HB.out)); rintro e w6 ⟨rfl, hi, hb, hk⟩; refine ⟨_, rfl, ?_⟩; have n0_ := Aside0.mk (KeepBut.trans (by repeat (first | (with_reducible first | exact HK.out | apply KeepBut.set_ | apply keep_drewN | apply keep_drew | apply keep_alloc) | exact HK.out)) hk (.inl rfl)); have n1_ := Aside0.mk (hb); have n2_ := Aside0.mk (hi); clear HK; clear HB; clear HI0; have HK := n0_; have HB := n1_; have HI0 := n2_; clear n0_ n1_ n2_; (try clear hb); (try clear hb2); (try clear hk); (try clear hi); have p192 : 0 ≤ (t190 : Int) := of_decide_eq_true (by first | (with_reducible assumption) | assumption); have q192 : t190 < (l1.length : Int) := of_decide_eq_true (by first | (with_reducible assumption) | assumption); obtain ⟨ad192, e192, hx192_0⟩ := Kd.at_int HR1.out t190 p192 q192; cases e192; replace hx192_0 := keep_cell HK.out hx192_0 (by first | (rw [add_block]; exact hf1 _ rfl (by omega)) | exact hf1 _ rfl (by omega) | exact hf1 ad192 rfl (by omega)); replace p192 := eq_true p192; replace q192 := eq_true q192))
      go_ret
      exact ⟨by first | rfl | (simp [errW_none, errW_some] <;> rfl) | (simp [*, errW_none, errW_some] <;> rfl), by repeat (first | (with_reducible first | exact HI0.out | apply IsS148.alloc | apply IsS148.drewN | apply IsS148.drew | apply IsS148.set_1) | exact HI0.out), by repeat (first | (with_reducible first | exact HB.out | apply below_alloc | apply pw_below_drewN | apply below_drew1 | refine below_set ?_ (IsS148.ge HI0.out)) | exact HB.out), by repeat (first | (with_reducible first | exact HK.out | apply KeepBut.set_ | apply keep_drewN | apply keep_drew | apply keep_alloc) | exact HK.out)⟩
    · rw [if_neg c5] at H
      exact absurd H (by simp)
  · rw [if_neg c4] at H
    exact absurd H (by simp)

/-! ### spec_l1Chance: function 97 -/
def spec_l1Chance.f (s0_0 : List Int) (s0_1 : Int) (a1 : Int) : Option (Bool × Int) := (spec_l1Next.f s0_0 s0_1 a1).bind fun bt193 => (some ((bt193.1 == 0), bt193.2))
set_option maxHeartbeats 8000000 in
set_option maxRecDepth 100000 in
theorem spec_l1Chance.calls (g : Nat) (s0_0 : List Int) (s0_1 : Int) (a1 : Int) (r1 : Bool) (r2 : Int) (w0 w : World) (hI : IsS148 w0 w g s0_0 s0_1) (hB : Below w0.heap.size w0 w) (h : spec_l1Chance.f s0_0 s0_1 a1 = some (r1, r2)) :
    Calls Try.prog 97 #[.pointer (some ⟨g, 0, none⟩), .int .i64 a1] w fun e w' => e = .returned (.bool r1) ∧ IsS148 w0 w' g s0_0 r2 ∧ Below w0.heap.size w0 w' ∧ KeepBut w w' g none := by
  have HI0 := Aside0.mk hI
  have HK := Aside0.mk (KeepBut.refl w g none)
  have HL := Aside0.mk hB.size
  clear hI
  have HW0 := Aside0.mk hB.size
  have HB := Aside0.mk hB
  clear hB
  have H : ((spec_l1Next.f s0_0 s0_1 a1).bind fun bt193 => (some ((bt193.1 == 0), bt193.2))) = some (r1, r2) := h
  clear h
  replace H := Option.bind_eq_some_iff.mp H
  obtain ⟨⟨t193, t194⟩, A30, H⟩ := H
  replace H : (some ((t193 == 0), t194)) = some (r1, r2) := H
  have A3 := Aside0.mk A30
  clear A30
  simp only [Option.some.injEq, Prod.mk.injEq] at H
  obtain ⟨rfl, rfl⟩ := H
  go_enter Try.func97, Try.ntmps97
  go_wp2_with (first | ((with_reducible refine gate_callee (f := 120) rfl ?_); refine goesL_ (some 7) rfl rfl Try.func120 (by kernel_rfl) rfl #[.pointer (some ⟨g, 0, none⟩), .int .i64 a1] rfl (by (try simp only [List.map_toArray, List.map_cons, List.map_nil]); first | done | rfl | (simp only [List.length_drop, List.length_take]; rfl)) ?_; (with_reducible refine (spec_l1Next.calls g s0_0 s0_1 a1 t193 t194 w0 _ ?side1 ?side2 A3.out).mono ?_); (case side1 => repeat (first | (with_reducible first | exact HI0.out | apply IsS148.alloc | apply IsS148.drewN | apply IsS148.drew | apply IsS148.set_1) | exact HI0.out)); (case side2 => repeat (first | (with_reducible first | exact HB.out | apply below_alloc | apply pw_below_drewN | apply below_drew1 | refine below_set ?_ (IsS148.ge HI0.out)) | exact HB.out)); rintro e w4 ⟨rfl, hi, hb, hk⟩; refine ⟨_, rfl, ?_⟩; have n0_ := Aside0.mk (KeepBut.trans (by repeat (first | (with_reducible first | exact HK.out | apply KeepBut.set_ | apply keep_drewN | apply keep_drew | apply keep_alloc) | exact HK.out)) hk (.inl rfl)); have n1_ := Aside0.mk (hb); have n2_ := Aside0.mk (hi); clear HK; clear HB; clear HI0; have HK := n0_; have HB := n1_; have HI0 := n2_; clear n0_ n1_ n2_; (try clear hb); (try clear hb2); (try clear hk); (try clear hi)))
  go_ret
  exact ⟨by first | rfl | (simp [errW_none, errW_some] <;> rfl) | (simp [*, errW_none, errW_some] <;> rfl), by repeat (first | (with_reducible first | exact HI0.out | apply IsS148.alloc | apply IsS148.drewN | apply IsS148.drew | apply IsS148.set_1) | exact HI0.out), by repeat (first | (with_reducible first | exact HB.out | apply below_alloc | apply pw_below_drewN | apply below_drew1 | refine below_set ?_ (IsS148.ge HI0.out)) | exact HB.out), by repeat (first | (with_reducible first | exact HK.out | apply KeepBut.set_ | apply keep_drewN | apply keep_drew | apply keep_alloc) | exact HK.out)⟩

/-! ### spec_l5Needs: function 131 -/
def spec_l5Needs.f (a0 : Int) : Option (Bool × Bool × Bool × Bool) := (spec_l1In.f a0 5 8).bind fun t195 => (if a0 = 5 then (if a0 = 1 then (some (false, true, (a0 != 4), t195)) else (some (false, t195, (a0 != 4), t195))) else (if a0 = 1 then (some ((a0 != 6), true, (a0 != 4), t195)) else (some ((a0 != 6), t195, (a0 != 4), t195))))
set_option maxHeartbeats 8000000 in
set_option maxRecDepth 100000 in
theorem spec_l5Needs.calls (a0 : Int) (r1 : Bool) (r2 : Bool) (r3 : Bool) (r4 : Bool) (w : World) (h : spec_l5Needs.f a0 = some (r1, r2, r3, r4)) :
    Calls Try.prog 131 #[.int .i64 a0] w fun e w' => e = .returned (.tuple #[.bool r1, .bool r2, .bool r3, .bool r4]) ∧ Drawn0 w w' := by
  have H : ((spec_l1In.f a0 5 8).bind fun t195 => (if a0 = 5 then (if a0 = 1 then (some (false, true, (a0 != 4), t195)) else (some (false, t195, (a0 != 4), t195))) else (if a0 = 1 then (some ((a0 != 6), true, (a0 != 4), t195)) else (some ((a0 != 6), t195, (a0 != 4), t195))))) = some (r1, r2, r3, r4) := h
  clear h
  replace H := Option.bind_eq_some_iff.mp H
  obtain ⟨t195, A20, H⟩ := H
  replace H : (if a0 = 5 then (if a0 = 1 then (some (false, true, (a0 != 4), t195)) else (some (false, t195, (a0 != 4), t195))) else (if a0 = 1 then (some ((a0 != 6), true, (a0 != 4), t195)) else (some ((a0 != 6), t195, (a0 != 4), t195)))) = some (r1, r2, r3, r4) := H
  have A2 := Aside0.mk A20
  clear A20
  by_cases c3 : a0 = 5
  · rw [if_pos c3] at H
    have c3b0 : (a0 == 5) = true := beq_iff_eq.mpr c3
    have c3b1 : (a0 != 5) = false := bne_eq_false_iff_eq.mpr c3
    clear c3
    by_cases c4 : a0 = 1
    · rw [if_pos c4] at H
      have c4b0 : (a0 == 1) = true := beq_iff_eq.mpr c4
      have c4b1 : (a0 != 1) = false := bne_eq_false_iff_eq.mpr c4
      clear c4
      simp only [Option.some.injEq, Prod.mk.injEq] at H
      obtain ⟨rfl, rfl, rfl, rfl⟩ := H
      go_enter Try.func131, Try.ntmps131
      go_wp2_with (first | ((with_reducible refine gate_callee (f := 70) rfl ?_); refine goesL_ (some 8) rfl rfl Try.func70 (by kernel_rfl) rfl #[.int .i64 a0, .int .i64 5, .int .i64 8] rfl (by (try simp only [List.map_toArray, List.map_cons, List.map_nil]); first | done | rfl | (simp only [List.length_drop, List.length_take]; rfl)) ?_; (with_reducible refine (spec_l1In.calls a0 5 8 t195 _ A2.out).mono ?_); rintro e w' ⟨rfl, ⟨nd, rfl⟩⟩; refine ⟨_, rfl, ?_⟩))
      refine bodyPost_ret (results_list (rs := [.tmp 2, .tmp 3, .tmp 4, .tmp 5]) rfl (by simp) (.tmp (.tmp (.tmp (.tmp .nil))))) rfl ?_
      exact ⟨by first | rfl | (simp; done) | (simp [*]; done), by repeat (first | exact Drawn0.refl _ | apply Drawn0.step)⟩
    · rw [if_neg c4] at H
      have c4b0 : (a0 == 1) = false := beq_eq_false_iff_ne.mpr c4
      have c4b1 : (a0 != 1) = true := bne_iff_ne.mpr c4
      simp only [Option.some.injEq, Prod.mk.injEq] at H
      obtain ⟨rfl, rfl, rfl, rfl⟩ := H
      go_enter Try.func131, Try.ntmps131
      go_wp2_with (first | ((with_reducible refine gate_callee (f := 70) rfl ?_); refine goesL_ (some 8) rfl rfl Try.func70 (by kernel_rfl) rfl #[.int .i64 a0, .int .i64 5, .int .i64 8] rfl (by (try simp only [List.map_toArray, List.map_cons, List.map_nil]); first | done | rfl | (simp only [List.length_drop, List.length_take]; rfl)) ?_; (with_reducible refine (spec_l1In.calls a0 5 8 t195 _ A2.out).mono ?_); rintro e w' ⟨rfl, ⟨nd, rfl⟩⟩; refine ⟨_, rfl, ?_⟩))
      refine bodyPost_ret (results_list (rs := [.tmp 2, .tmp 3, .tmp 4, .tmp 5]) rfl (by simp) (.tmp (.tmp (.tmp (.tmp .nil))))) rfl ?_
      exact ⟨by first | rfl | (simp; done) | (simp [*]; done), by repeat (first | exact Drawn0.refl _ | apply Drawn0.step)⟩
  · rw [if_neg c3] at H
    have c3b0 : (a0 == 5) = false := beq_eq_false_iff_ne.mpr c3
    have c3b1 : (a0 != 5) = true := bne_iff_ne.mpr c3
    by_cases c5 : a0 = 1
    · rw [if_pos c5] at H
      have c5b0 : (a0 == 1) = true := beq_iff_eq.mpr c5
      have c5b1 : (a0 != 1) = false := bne_eq_false_iff_eq.mpr c5
      clear c5
      simp only [Option.some.injEq, Prod.mk.injEq] at H
      obtain ⟨rfl, rfl, rfl, rfl⟩ := H
      go_enter Try.func131, Try.ntmps131
      go_wp2_with (first | ((with_reducible refine gate_callee (f := 70) rfl ?_); refine goesL_ (some 8) rfl rfl Try.func70 (by kernel_rfl) rfl #[.int .i64 a0, .int .i64 5, .int .i64 8] rfl (by (try simp only [List.map_toArray, List.map_cons, List.map_nil]); first | done | rfl | (simp only [List.length_drop, List.length_take]; rfl)) ?_; (with_reducible refine (spec_l1In.calls a0 5 8 t195 _ A2.out).mono ?_); rintro e w' ⟨rfl, ⟨nd, rfl⟩⟩; refine ⟨_, rfl, ?_⟩))
      refine bodyPost_ret (results_list (rs := [.tmp 2, .tmp 3, .tmp 4, .tmp 5]) rfl (by simp) (.tmp (.tmp (.tmp (.tmp .nil))))) rfl ?_
      exact ⟨by first | rfl | (simp; done) | (simp [*]; done), by repeat (first | exact Drawn0.refl _ | apply Drawn0.step)⟩
    · rw [if_neg c5] at H
      have c5b0 : (a0 == 1) = false := beq_eq_false_iff_ne.mpr c5
      have c5b1 : (a0 != 1) = true := bne_iff_ne.mpr c5
      simp only [Option.some.injEq, Prod.mk.injEq] at H
      obtain ⟨rfl, rfl, rfl, rfl⟩ := H
      go_enter Try.func131, Try.ntmps131
      go_wp2_with (first | ((with_reducible refine gate_callee (f := 70) rfl ?_); refine goesL_ (some 8) rfl rfl Try.func70 (by kernel_rfl) rfl #[.int .i64 a0, .int .i64 5, .int .i64 8] rfl (by (try simp only [List.map_toArray, List.map_cons, List.map_nil]); first | done | rfl | (simp only [List.length_drop, List.length_take]; rfl)) ?_; (with_reducible refine (spec_l1In.calls a0 5 8 t195 _ A2.out).mono ?_); rintro e w' ⟨rfl, ⟨nd, rfl⟩⟩; refine ⟨_, rfl, ?_⟩))
      refine bodyPost_ret (results_list (rs := [.tmp 2, .tmp 3, .tmp 4, .tmp 5]) rfl (by simp) (.tmp (.tmp (.tmp (.tmp .nil))))) rfl ?_
      exact ⟨by first | rfl | (simp; done) | (simp [*]; done), by repeat (first | exact Drawn0.refl _ | apply Drawn0.step)⟩

end Go.Proofs.Ytfmlhpoaipeoeaa.QFnDrained
