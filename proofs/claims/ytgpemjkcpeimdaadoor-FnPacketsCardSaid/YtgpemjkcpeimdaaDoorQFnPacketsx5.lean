-- MADE BY PROGRAM (qprint.py): walks of the functions that the law FnPackets reaches. Lean checks it.
import Derived.Test.YtgpemjkcpeimdaaDoorQFnPacketsx0
import Derived.Test.YtgpemjkcpeimdaaDoorQFnPacketsx4
namespace Go.Proofs.YtgpemjkcpeimdaaDoor.QFnPackets
open Go.RowKit Go.Proofs.YtgpemjkcpeimdaaDoorW.PrintWords Go.Proofs.YtgpemjkcpeimdaaDoorW.PrintLast Go.Proofs.YtgpemjkcpeimdaaDoorW.PrintMore
open Go.Proofs.YtgpemjkcpeimdaaDoorW.PrintWords renaming blk_drewN → bN, blk_drew → bd, blk_alloc → ba, blk_cell → bc, blk_frozen → bf, below_set → bs, pw_below_drewN → pN, below_drew1 → p1, below_alloc → pa, blk_below → bb, below_size → bz, below_step → bp, blk_lt → bl, blk_far → bq, add_block → ab
open Go.Proofs.YtgpemjkcpeimdaaDoorW.PrintWords.Kd renaming R_drewN → rN, R_drew → rd1, R_alloc → ra, R_far → rf, R_below → rb, R_new' → rn, R_lt → rl, R_elder' → re, R_lower → rw1, C_alloc → ca, C_drewN → cN, C_drew → cd1, S_alloc → sa, S_drewN → sN, S_drew → sd, S_far → sf, S_mono → sm, S_types → st, S_lt → sl
open Go.Proofs.YtgpemjkcpeimdaaDoorW.PrintWords.Aside0 renaming mk → am
open Go.Value renaming int → I, slice → J
open Go.IntKind renaming i64 → q
attribute [local go_sem] max2_int min2_int max_two min_two max_three min_three max_four min_four   -- for this text's walks alone
set_option linter.unusedVariables false
set_option linter.unusedSimpArgs false
theorem pu7f {W : World} {g t : Nat} {u0 u1 u2 u3 u4 u5 u6 v0 v1 v2 v3 v4 v5 v6 : Value} (h : W.heap[g]? = some (.cells #[u0, u1, u2, u3, u4, u5, u6] t (0, 0))) : (((((((W.setCell ⟨g, 0, none⟩ v0).setCell ⟨g, 1, none⟩ v1).setCell ⟨g, 2, none⟩ v2).setCell ⟨g, 3, none⟩ v3).setCell ⟨g, 4, none⟩ v4).setCell ⟨g, 5, none⟩ v5).setCell ⟨g, 6, none⟩ v6).heap[g]? = some (.cells #[v0, v1, v2, v3, v4, v5, v6] t (0, 0)) := by
  refine blk_put (cs := #[v0, v1, v2, v3, v4, v5, u6]) ?_ 6 _ rfl
  refine blk_put (cs := #[v0, v1, v2, v3, v4, u5, u6]) ?_ 5 _ rfl
  refine blk_put (cs := #[v0, v1, v2, v3, u4, u5, u6]) ?_ 4 _ rfl
  refine blk_put (cs := #[v0, v1, v2, u3, u4, u5, u6]) ?_ 3 _ rfl
  refine blk_put (cs := #[v0, v1, u2, u3, u4, u5, u6]) ?_ 2 _ rfl
  refine blk_put (cs := #[v0, u1, u2, u3, u4, u5, u6]) ?_ 1 _ rfl
  exact blk_put (cs := #[u0, u1, u2, u3, u4, u5, u6]) h 0 _ rfl

/-! ### spec_ParsePacket: function 7 -/
mutual
def spec_ParsePacket.j0 : Nat → List Int → Bool → Option (Int × Int × Int × Int × Int × Int × List Int)
  | 0, _, _ => none
  | k + 1, x0, x20 => if x20 = true then (some (5, 0, 0, 0, 0, 0, ([] : List Int))) else (if 20 ≤ (x0.length : Int) then ((spec_WholeSum.f k (x0.take 20)).bind fun t344 => (if t344 = true then (if 6 < (x0.length : Int) then (if (rd x0 6) = 0 then (if 7 < (x0.length : Int) then (if (rd x0 7) = 0 then (if 9 < (x0.length : Int) then (if (rd x0 9) = 6 then (spec_ParsePacket.j1 k x0 false) else (spec_ParsePacket.j1 k x0 ((rd x0 9) != 17))) else (none)) else (spec_ParsePacket.j1 k x0 true)) else (none)) else (spec_ParsePacket.j1 k x0 true)) else (none)) else (some (6, 0, 0, 0, 0, 0, ([] : List Int))))) else (none))
def spec_ParsePacket.j1 : Nat → List Int → Bool → Option (Int × Int × Int × Int × Int × Int × List Int)
  | 0, _, _ => none
  | k + 1, x0, x48 => if x48 = true then (some (1, 0, 0, 0, 0, 0, ([] : List Int))) else ((spec_l1Take.f k x0 12 4).bind fun t349 => ((spec_l1Take.f k x0 16 4).bind fun t350 => (if 9 < (x0.length : Int) then ((spec_l1Take.f k x0 20 2).bind fun t352 => ((spec_l1Take.f k x0 22 2).bind fun t353 => ((some (([] : List Int) : List Int)).bind fun y354 => (if 24 ≤ (x0.length : Int) then (if y354.length + (x0.drop 24).length < 140737488355328 then (some (0, t349, t350, wrap64 (rd x0 9), t352, t353, (y354 ++ (x0.drop 24)))) else (none)) else (none))))) else (none))))
end
def spec_ParsePacket.f (k : Nat) (l0 : List Int) : Option (Int × Int × Int × Int × Int × Int × List Int) := (spec_l1In.f (l0.length : Int) 24 224).bind fun t340 => (if t340 = true then (if 0 < (l0.length : Int) then (if (rd l0 0) = 69 then ((spec_l1Take.f k l0 2 2).bind fun t342 => (spec_ParsePacket.j0 k l0 (t342 != (l0.length : Int)))) else (spec_ParsePacket.j0 k l0 true)) else (none)) else (spec_ParsePacket.j0 k l0 true))
theorem spec_ParsePacket.mono_l : ∀ k, (∀ y0 y1, LeO (spec_ParsePacket.j0 k y0 y1) (spec_ParsePacket.j0 (k + 1) y0 y1)) ∧ (∀ y0 y1, LeO (spec_ParsePacket.j1 k y0 y1) (spec_ParsePacket.j1 (k + 1) y0 y1))
  | 0 => ⟨fun _ _ r h => by simp [spec_ParsePacket.j0] at h, fun _ _ r h => by simp [spec_ParsePacket.j1] at h⟩
  | k + 1 => by
    obtain ⟨ih0, ih1⟩ := spec_ParsePacket.mono_l k
    refine ⟨?_, ?_⟩
    · intro y0 y1
      unfold spec_ParsePacket.j0
      repeat' first
      | (with_reducible exact ih0 _ _)
      | (with_reducible exact ih1 _ _)
      | (with_reducible exact spec_WholeSum.mono _ _)
      | (with_reducible exact spec_l1Take.mono _ _ _ _)
      | (with_reducible exact LeO.refl _)
      | (with_reducible exact LeO.none _)
      | (with_reducible refine LeO.ite ?_ ?_)
      | (with_reducible refine LeO.bind ?_ (fun _ => ?_))
      | exact ih0 _ _
      | exact ih1 _ _
      | exact spec_WholeSum.mono _ _
      | exact spec_l1Take.mono _ _ _ _
      | exact LeO.none _
      | refine LeO.ite ?_ ?_
      | refine LeO.bind ?_ (fun _ => ?_)
    · intro y0 y1
      unfold spec_ParsePacket.j1
      repeat' first
      | (with_reducible exact ih0 _ _)
      | (with_reducible exact ih1 _ _)
      | (with_reducible exact spec_WholeSum.mono _ _)
      | (with_reducible exact spec_l1Take.mono _ _ _ _)
      | (with_reducible exact LeO.refl _)
      | (with_reducible exact LeO.none _)
      | (with_reducible refine LeO.ite ?_ ?_)
      | (with_reducible refine LeO.bind ?_ (fun _ => ?_))
      | exact ih0 _ _
      | exact ih1 _ _
      | exact spec_WholeSum.mono _ _
      | exact spec_l1Take.mono _ _ _ _
      | exact LeO.none _
      | refine LeO.ite ?_ ?_
      | refine LeO.bind ?_ (fun _ => ?_)
theorem spec_ParsePacket.mono : ∀ a0 k, LeO (spec_ParsePacket.f k a0) (spec_ParsePacket.f (k + 1) a0) := by
  intro a0 k
  obtain ⟨ih0, ih1⟩ := spec_ParsePacket.mono_l k
  unfold spec_ParsePacket.f
  repeat' first
      | (with_reducible exact ih0 _ _)
      | (with_reducible exact ih1 _ _)
      | (with_reducible exact spec_WholeSum.mono _ _)
      | (with_reducible exact spec_l1Take.mono _ _ _ _)
      | (with_reducible exact LeO.refl _)
      | (with_reducible exact LeO.none _)
      | (with_reducible refine LeO.ite ?_ ?_)
      | (with_reducible refine LeO.bind ?_ (fun _ => ?_))
      | exact ih0 _ _
      | exact ih1 _ _
      | exact spec_WholeSum.mono _ _
      | exact spec_l1Take.mono _ _ _ _
      | exact LeO.none _
      | refine LeO.ite ?_ ?_
      | refine LeO.bind ?_ (fun _ => ?_)
def spec_ParsePacket.T8 : Bool × List (List Nat × List Nat) := (true, [([], []), ([0], [0]), ([], []), ([2, 1], [2]), ([], []), ([4], [4]), ([5], [5]), ([6], [6]), ([], []), ([8, 3], [8]), ([], []), ([10, 9], [10]), ([], []), ([], []), ([13], [13]), ([12, 14, 11], [12, 14]), ([1, 3, 7, 9, 11, 15], [1, 3, 7, 9, 11, 15]), ([16], [16]), ([17, 15, 0, 1, 2, 3, 4, 5, 6, 7, 8, 9, 10, 11, 12, 13, 14, 15, 16, 17], [17])])
def spec_ParsePacket.B8 : List Nat := [0, 1, 0, 7, 0, 16, 48, 112, 0, 271, 0, 1807, 0, 0, 8192, 32527, 65535, 131071, 262143]
theorem spec_ParsePacket.tab8 : rtab .any (opsOf Tryd.f7 8) = spec_ParsePacket.T8 := by kernel_rfl
theorem spec_ParsePacket.bits8 : waitsOk spec_ParsePacket.T8.2 spec_ParsePacket.B8 = true := by kernel_rfl
set_option maxHeartbeats 8000000 in
set_option maxRecDepth 100000 in
theorem spec_ParsePacket.calls (k : Nat) (A0 : Option Addr) (c0 : Nat) (l0 : List Int) (r1 : Int) (r2 : Int) (r3 : Int) (r4 : Int) (r5 : Int) (r6 : Int) (r7 : List Int) (w : World) (hr0 : Kd.C (Kd.int .u8) w A0 l0.length l0) (hc0 : l0.length ≤ c0) (h : spec_ParsePacket.f k l0 = some (r1, r2, r3, r4, r5, r6, r7)) :
    Calls Tryd.prog 7 #[J A0 l0.length c0] w fun e w' => ∃ v6_ : Value, e = .returned (.agg #[I q r1, I q r2, I q r3, I q r4, I q r5, I q r6, v6_]) ∧ Kd.R (Kd.int .u8) 5 w' w.heap.size (fun _ => True) v6_ r7 ∧ Below w.heap.size w w' := by
  have hu28 := Tryd.underlying28
  have hu26 := Tryd.underlying26
  have HR0 := am hr0
  have HC0 := am hc0
  clear hr0 hc0
  have HB := am (Below.refl w.heap.size w)
  have H : ((spec_l1In.f (l0.length : Int) 24 224).bind fun t340 => (if t340 = true then (if 0 < (l0.length : Int) then (if (rd l0 0) = 69 then ((spec_l1Take.f k l0 2 2).bind fun t342 => (spec_ParsePacket.j0 k l0 (t342 != (l0.length : Int)))) else (spec_ParsePacket.j0 k l0 true)) else (none)) else (spec_ParsePacket.j0 k l0 true))) = some (r1, r2, r3, r4, r5, r6, r7) := h
  clear h
  have HC2 := am H
  clear H
  go_enter Tryd.func7, Tryd.ntmps7
  go_upto_region 2 with (first | ((with_reducible refine gate_dst (N := 2) rfl ?_); refine box_event ?hg (N := 2) ?hd (cs := #[I q 0, I q 0, I q 0, I q 0, I q 0, I q 0, .slice none 0 0]) (t := 28) ?hr ?_; (case hd => rfl); (case hg => rfl); (case hr => first | (go_simp; done) | (go_simp; rfl)); intro g339 hg w3 hbox hb; have N0 := am (bp (by repeat (first | (with_reducible first | exact HB.out | apply pa | apply pN | apply p1) | exact HB.out)) hb); have N1 := am (hbox); have N2 := am ((by rw [hg]; exact (bz (by repeat (first | (with_reducible first | exact HB.out | apply pa | apply pN | apply p1) | exact HB.out))) : w.heap.size ≤ g339)); have N3 := am ((by rw [hg]; exact (bz (by repeat (first | (with_reducible first | exact HB.out | apply pa | apply pN | apply p1) | exact HB.out))) : w.heap.size ≤ g339)); clear HB; have HB := N0; have B339 := N1; have GW339 := N2; have E339 := N3; clear N0 N1 N2 N3 hb hbox hg))
  (try simp only [Act.put, List.setIfInBounds_toArray, List.set_cons_zero, List.set_cons_succ])
  go_cut [20] (fun v20 wc => ∃ (kq : Nat) (x20_1 : Bool), v20 = .bool x20_1 ∧ Aside0 (spec_ParsePacket.j0 kq l0 x20_1 = some (r1, r2, r3, r4, r5, r6, r7)) ∧ Aside0 (kq ≤ k) ∧ Aside0 (wc.heap[g339]? = some (.cells #[I q 0, I q 0, I q 0, I q 0, I q 0, I q 0, (.slice none 0 0)] 28 (0, 0))) ∧ Aside0 (Below w.heap.size w wc))
  case first =>
    have H := HC2.out
    clear HC2
    replace H := Option.bind_eq_some_iff.mp H
    obtain ⟨t340, A40, H⟩ := H
    replace H : (if t340 = true then (if 0 < (l0.length : Int) then (if (rd l0 0) = 69 then ((spec_l1Take.f k l0 2 2).bind fun t342 => (spec_ParsePacket.j0 k l0 (t342 != (l0.length : Int)))) else (spec_ParsePacket.j0 k l0 true)) else (none)) else (spec_ParsePacket.j0 k l0 true)) = some (r1, r2, r3, r4, r5, r6, r7) := H
    have A4 := am A40
    clear A40
    by_cases c5 : t340 = true
    · subst c5
      have H1 : (if 0 < (l0.length : Int) then (if (rd l0 0) = 69 then ((spec_l1Take.f k l0 2 2).bind fun t342 => (spec_ParsePacket.j0 k l0 (t342 != (l0.length : Int)))) else (spec_ParsePacket.j0 k l0 true)) else (none)) = some (r1, r2, r3, r4, r5, r6, r7) := by rw [if_pos rfl] at H; exact H
      clear H
      have H := H1
      clear H1
      by_cases c6 : 0 < (l0.length : Int)
      · rw [if_pos c6] at H
        have c6b0 : decide (0 < (l0.length : Int)) = true := decide_eq_true c6
        have c6b1 : decide (0 < l0.length) = true := decide_eq_true (by omega)
        clear c6
        (first | rw [c6b0] | (simp only [i64_w, i32_w]; rw [c6b0]) | skip)
        by_cases c7 : (rd l0 0) = 69
        · rw [if_pos c7] at H
          have c7b0 : ((rd l0 0) == 69) = true := beq_iff_eq.mpr c7
          have c7b1 : ((rd l0 0) != 69) = false := bne_eq_false_iff_eq.mpr c7
          clear c7
          replace H := Option.bind_eq_some_iff.mp H
          obtain ⟨t342, A80, H⟩ := H
          replace H : (spec_ParsePacket.j0 k l0 (t342 != (l0.length : Int))) = some (r1, r2, r3, r4, r5, r6, r7) := H
          have A8 := am A80
          clear A80
          have H' := am H
          clear H
          go_wp2_with (first | ((with_reducible refine gate_callee (f := 22) rfl ?_); refine goesL_ (some 7) rfl rfl Tryd.func22 (by kernel_rfl) rfl #[I q (l0.length : Int), I q 24, I q 224] rfl (by (try simp only [List.map_toArray, List.map_cons, List.map_nil]); first | done | rfl) ?_; (with_reducible refine (spec_l1In.calls (l0.length : Int) 24 224 true _ A4.out).mono ?_); rintro e w' ⟨rfl, ⟨nd, rfl⟩⟩; refine ⟨_, rfl, ?_⟩; have p341 : 0 ≤ (0 : Int) := (by omega); have q341 : 0 < (l0.length : Int) := of_decide_eq_true (by first | (with_reducible assumption) | assumption); obtain ⟨ad341, e341, hx341_0⟩ := Kd.at_int HR0.out 0 p341 q341; cases e341; have qi341 : (0 < l0.length) = True := eq_true (by omega); (try rw [show ((0 : Int)).toNat = 0 from rfl] at hx341_0); (try rw [Addr.add_zero'] at hx341_0); replace hx341_0 := (HB.out.cell (World.block_lt_of_cell? w _ hx341_0)).trans hx341_0; replace p341 := eq_true p341; replace q341 := eq_true q341) | (go_at_call 23; (with_reducible refine (spec_l1Take.calls k _ _ l0 2 2 t342 _ ?side1 ?side2 A8.out).mono ?_); (case side1 => repeat (first | exact (Kd.C_below HR0.out (by repeat (first | (with_reducible first | exact HB.out | apply pa | apply pN | apply p1 | refine bs ?_ E339.out) | exact HB.out))) | (with_reducible refine ca ?_ _) | (with_reducible refine cN ?_ _) | (with_reducible refine cd1 ?_))); (case side2 => exact HC0.out); rintro e w' ⟨rfl, ⟨nd, rfl⟩⟩))
          go_meet
          case rel => exact ⟨_, ((t342 != (l0.length : Int))), (by first | rfl | (simp; done) | (simp [*]; done)), H', ⟨by first | omega | exact Nat.le_refl _⟩, ⟨by (with_reducible repeat (first | apply bN | apply bd | apply ba)); exact B339.out⟩, ⟨by repeat (first | (with_reducible first | exact HB.out | apply pa | apply pN | apply p1 | refine bs ?_ E339.out) | exact HB.out)⟩⟩
        · rw [if_neg c7] at H
          have c7b0 : ((rd l0 0) == 69) = false := beq_eq_false_iff_ne.mpr c7
          have c7b1 : ((rd l0 0) != 69) = true := bne_iff_ne.mpr c7
          have H' := am H
          clear H
          go_wp2_with (first | ((with_reducible refine gate_callee (f := 22) rfl ?_); refine goesL_ (some 7) rfl rfl Tryd.func22 (by kernel_rfl) rfl #[I q (l0.length : Int), I q 24, I q 224] rfl (by (try simp only [List.map_toArray, List.map_cons, List.map_nil]); first | done | rfl) ?_; (with_reducible refine (spec_l1In.calls (l0.length : Int) 24 224 true _ A4.out).mono ?_); rintro e w' ⟨rfl, ⟨nd, rfl⟩⟩; refine ⟨_, rfl, ?_⟩; have p341 : 0 ≤ (0 : Int) := (by omega); have q341 : 0 < (l0.length : Int) := of_decide_eq_true (by first | (with_reducible assumption) | assumption); obtain ⟨ad341, e341, hx341_0⟩ := Kd.at_int HR0.out 0 p341 q341; cases e341; have qi341 : (0 < l0.length) = True := eq_true (by omega); (try rw [show ((0 : Int)).toNat = 0 from rfl] at hx341_0); (try rw [Addr.add_zero'] at hx341_0); replace hx341_0 := (HB.out.cell (World.block_lt_of_cell? w _ hx341_0)).trans hx341_0; replace p341 := eq_true p341; replace q341 := eq_true q341))
          go_meet
          case rel => exact ⟨_, (true), (by first | rfl | (simp; done) | (simp [*]; done)), H', ⟨by first | omega | exact Nat.le_refl _⟩, ⟨by (with_reducible repeat (first | apply bN | apply bd | apply ba)); exact B339.out⟩, ⟨by repeat (first | (with_reducible first | exact HB.out | apply pa | apply pN | apply p1 | refine bs ?_ E339.out) | exact HB.out)⟩⟩
      · rw [if_neg c6] at H
        exact absurd H (by simp)
    · replace c5 := Bool.eq_false_iff.mpr c5
      subst c5
      have H1 : (spec_ParsePacket.j0 k l0 true) = some (r1, r2, r3, r4, r5, r6, r7) := by rw [if_neg (show ¬ (false = true) by decide)] at H; exact H
      clear H
      have H := H1
      clear H1
      have H' := am H
      clear H
      go_wp2_with (first | ((with_reducible refine gate_callee (f := 22) rfl ?_); refine goesL_ (some 7) rfl rfl Tryd.func22 (by kernel_rfl) rfl #[I q (l0.length : Int), I q 24, I q 224] rfl (by (try simp only [List.map_toArray, List.map_cons, List.map_nil]); first | done | rfl) ?_; (with_reducible refine (spec_l1In.calls (l0.length : Int) 24 224 false _ A4.out).mono ?_); rintro e w' ⟨rfl, ⟨nd, rfl⟩⟩; refine ⟨_, rfl, ?_⟩))
      go_meet
      case rel => exact ⟨_, (true), (by first | rfl | (simp; done) | (simp [*]; done)), H', ⟨by first | omega | exact Nat.le_refl _⟩, ⟨by (with_reducible repeat (first | apply bN | apply bd | apply ba)); exact B339.out⟩, ⟨by repeat (first | (with_reducible first | exact HB.out | apply pa | apply pN | apply p1 | refine bs ?_ E339.out) | exact HB.out)⟩⟩
  case rest =>
    clear HC2
    try clear c2
    try clear p2
    try clear p3
    try clear q3
    try clear hx3
    try clear qi3
    try clear c5
    try clear c6
    try clear c6b0
    try clear c6b1
    try clear c7
    try clear c7b0
    try clear c7b1
    try clear hx341_0
    try clear p341
    try clear q341
    obtain ⟨kq, x20_1, rfl, HA, HJ1, B339, HB⟩ := hcut
    cases kq with
    | zero => exact absurd HA.out (by simp [spec_ParsePacket.j0])
    | succ kj1 =>
      have H := HA.out
      clear HA
      simp only [spec_ParsePacket.j0] at H
      by_cases c9 : x20_1 = true
      · subst c9
        have H1 : (some (5, 0, 0, 0, 0, 0, ([] : List Int))) = some (r1, r2, r3, r4, r5, r6, r7) := by rw [if_pos rfl] at H; exact H
        clear H
        have H := H1
        clear H1
        simp only [Option.some.injEq, Prod.mk.injEq] at H
        obtain ⟨rfl, rfl, rfl, rfl, rfl, rfl, rfl⟩ := H
        have hcz10_0 : wc.cell? ⟨g339, 0, none⟩ = some (I q 0) := (bc B339.out 0).trans rfl
        have hcz10_1 : wc.cell? ⟨g339, 1, none⟩ = some (I q 0) := (bc B339.out 1).trans rfl
        have hcz10_2 : wc.cell? ⟨g339, 2, none⟩ = some (I q 0) := (bc B339.out 2).trans rfl
        have hcz10_3 : wc.cell? ⟨g339, 3, none⟩ = some (I q 0) := (bc B339.out 3).trans rfl
        have hcz10_4 : wc.cell? ⟨g339, 4, none⟩ = some (I q 0) := (bc B339.out 4).trans rfl
        have hcz10_5 : wc.cell? ⟨g339, 5, none⟩ = some (I q 0) := (bc B339.out 5).trans rfl
        have hcz10_6 : wc.cell? ⟨g339, 6, none⟩ = some (.slice none 0 0) := (bc B339.out 6).trans rfl
        have hfz10_0 := bf B339.out 0
        have hfz10_1 := bf B339.out 1
        have hfz10_2 := bf B339.out 2
        have hfz10_3 := bf B339.out 3
        have hfz10_4 := bf B339.out 4
        have hfz10_5 := bf B339.out 5
        have hfz10_6 := bf B339.out 6
        go_wp2
        refine bodyPost_ret (results_cell_row rfl _ _ g339 28 #[I q 5, I q 0, I q 0, I q 0, I q 0, I q 0, .slice none 0 0] (0, 0) _ rfl (by (with_reducible repeat (first | apply bN | apply bd | apply ba)); exact pu7f B339.out) Tryd.underlying28 rfl (by kernel_rfl)) rfl ?_
        exact ⟨_, by first | rfl | (simp [errW_none, errW_some] <;> rfl) | (simp [*, errW_none, errW_some] <;> rfl), by first | exact Kd.R_nil _ _ _ _ _ | exact Kd.N_nil _ _ _ _ _ | exact Kd.V_nil _ _ _ _ _ | exact Kd.Q_nil _ _ _ _ _ | exact Kd.S_nil _ _ _ _ _, by repeat (first | (with_reducible first | exact HB.out | apply pa | apply pN | apply p1 | refine bs ?_ E339.out) | exact HB.out)⟩
      · replace c9 := Bool.eq_false_iff.mpr c9
        subst c9
        have H1 : (if 20 ≤ (l0.length : Int) then ((spec_WholeSum.f kj1 (l0.take 20)).bind fun t344 => (if t344 = true then (if 6 < (l0.length : Int) then (if (rd l0 6) = 0 then (if 7 < (l0.length : Int) then (if (rd l0 7) = 0 then (if 9 < (l0.length : Int) then (if (rd l0 9) = 6 then (spec_ParsePacket.j1 kj1 l0 false) else (spec_ParsePacket.j1 kj1 l0 ((rd l0 9) != 17))) else (none)) else (spec_ParsePacket.j1 kj1 l0 true)) else (none)) else (spec_ParsePacket.j1 kj1 l0 true)) else (none)) else (some (6, 0, 0, 0, 0, 0, ([] : List Int))))) else (none)) = some (r1, r2, r3, r4, r5, r6, r7) := by rw [if_neg (show ¬ (false = true) by decide)] at H; exact H
        clear H
        have H := H1
        clear H1
        by_cases c11 : 20 ≤ (l0.length : Int)
        · rw [if_pos c11] at H
          have c11b0 := eq_true c11
          have c11b1 : decide (20 ≤ (l0.length : Int)) = true := decide_eq_true c11
          clear c11
          replace H := Option.bind_eq_some_iff.mp H
          obtain ⟨t344, A120, H⟩ := H
          replace H : (if t344 = true then (if 6 < (l0.length : Int) then (if (rd l0 6) = 0 then (if 7 < (l0.length : Int) then (if (rd l0 7) = 0 then (if 9 < (l0.length : Int) then (if (rd l0 9) = 6 then (spec_ParsePacket.j1 kj1 l0 false) else (spec_ParsePacket.j1 kj1 l0 ((rd l0 9) != 17))) else (none)) else (spec_ParsePacket.j1 kj1 l0 true)) else (none)) else (spec_ParsePacket.j1 kj1 l0 true)) else (none)) else (some (6, 0, 0, 0, 0, 0, ([] : List Int)))) = some (r1, r2, r3, r4, r5, r6, r7) := H
          have A12 := am A120
          clear A120
          by_cases c13 : t344 = true
          · subst c13
            have H1 : (if 6 < (l0.length : Int) then (if (rd l0 6) = 0 then (if 7 < (l0.length : Int) then (if (rd l0 7) = 0 then (if 9 < (l0.length : Int) then (if (rd l0 9) = 6 then (spec_ParsePacket.j1 kj1 l0 false) else (spec_ParsePacket.j1 kj1 l0 ((rd l0 9) != 17))) else (none)) else (spec_ParsePacket.j1 kj1 l0 true)) else (none)) else (spec_ParsePacket.j1 kj1 l0 true)) else (none)) = some (r1, r2, r3, r4, r5, r6, r7) := by rw [if_pos rfl] at H; exact H
            clear H
            have H := H1
            clear H1
            have HC14 := am H
            clear H
            obtain ⟨i015, hi015, _, hsz15, _⟩ := info_parts info5
            obtain ⟨hcut15, hA15, hC15⟩ := print_take_of (P := Tryd.prog) (Value.int .u8) 0 22 5 .i64 Tryd.underlying22 hi015 hsz15 A0 c0 l0 20 (by omega) (of_decide_eq_true (by first | (with_reducible assumption) | assumption)) HC0.out
            have HR343 := am (Kd.C_of_reads (h1 := fun _ => rfl) (hA15 _ (Kd.reads_of_C HR0.out)))
            have HC343 := am hC15
            clear hA15 hC15 hi015 hsz15
            go_upto_region 6 with (first | ((with_reducible refine gate_callee (f := 24) rfl ?_); refine goesL_ (some 24) rfl rfl Tryd.func24 (by kernel_rfl) rfl #[J A0 (l0.take 20).length c0] rfl (by (try simp only [List.map_toArray, List.map_cons, List.map_nil]); first | done | (rw [show (l0.take 20).length = 20 from (by rw [List.length_take]; have h_ : (20 : Int) ≤ (l0.length : Int) := of_decide_eq_true (by first | (with_reducible assumption) | assumption); omega)] <;> rfl) | rfl | (simp only [List.length_drop, List.length_take]; rfl)) ?_; (with_reducible refine (spec_WholeSum.calls kj1 _ _ (l0.take 20) true _ ?side1 ?side2 A12.out).mono ?_); (case side1 => repeat (first | exact (Kd.C_below HR343.out HB.out) | (with_reducible refine ca ?_ _) | (with_reducible refine cN ?_ _) | (with_reducible refine cd1 ?_))); (case side2 => exact HC343.out); rintro e w' ⟨rfl, ⟨nd, rfl⟩⟩; refine ⟨_, rfl, ?_⟩))
            (try simp only [Act.put, List.setIfInBounds_toArray, List.set_cons_zero, List.set_cons_succ])
            go_cut [48] (fun v48 wc => ∃ (kq : Nat) (x48_13 : Bool), v48 = .bool x48_13 ∧ Aside0 (spec_ParsePacket.j1 kq l0 x48_13 = some (r1, r2, r3, r4, r5, r6, r7)) ∧ Aside0 (kq ≤ kj1) ∧ Aside0 (wc.heap[g339]? = some (.cells #[I q 0, I q 0, I q 0, I q 0, I q 0, I q 0, (.slice none 0 0)] 28 (0, 0))) ∧ Aside0 (Below w.heap.size w wc))
            case first =>
              have H := HC14.out
              clear HC14
              by_cases c16 : 6 < (l0.length : Int)
              · rw [if_pos c16] at H
                have c16b0 : decide (6 < (l0.length : Int)) = true := decide_eq_true c16
                have c16b1 : decide (6 < l0.length) = true := decide_eq_true (by omega)
                clear c16
                (first | rw [c16b0] | (simp only [i64_w, i32_w]; rw [c16b0]) | skip)
                by_cases c17 : (rd l0 6) = 0
                · rw [if_pos c17] at H
                  have c17b0 : ((rd l0 6) == 0) = true := beq_iff_eq.mpr c17
                  have c17b1 : ((rd l0 6) != 0) = false := bne_eq_false_iff_eq.mpr c17
                  clear c17
                  by_cases c18 : 7 < (l0.length : Int)
                  · rw [if_pos c18] at H
                    have c18b0 : decide (7 < (l0.length : Int)) = true := decide_eq_true c18
                    have c18b1 : decide (7 < l0.length) = true := decide_eq_true (by omega)
                    clear c18
                    by_cases c19 : (rd l0 7) = 0
                    · rw [if_pos c19] at H
                      have c19b0 : ((rd l0 7) == 0) = true := beq_iff_eq.mpr c19
                      have c19b1 : ((rd l0 7) != 0) = false := bne_eq_false_iff_eq.mpr c19
                      clear c19
                      by_cases c20 : 9 < (l0.length : Int)
                      · rw [if_pos c20] at H
                        have c20b0 : decide (9 < (l0.length : Int)) = true := decide_eq_true c20
                        have c20b1 : decide (9 < l0.length) = true := decide_eq_true (by omega)
                        clear c20
                        by_cases c21 : (rd l0 9) = 6
                        · rw [if_pos c21] at H
                          have c21b0 : ((rd l0 9) == 6) = true := beq_iff_eq.mpr c21
                          have c21b1 : ((rd l0 9) != 6) = false := bne_eq_false_iff_eq.mpr c21
                          clear c21
                          have H' := am H
                          clear H
                          have p345 : 0 ≤ (6 : Int) := (by omega)
                          have q345 : 6 < (l0.length : Int) := of_decide_eq_true (by first | (with_reducible assumption) | assumption)
                          obtain ⟨ad345, e345, hx345_0⟩ := Kd.at_int HR0.out 6 p345 q345
                          cases e345
                          (try simp only [show (6 : Int).toNat = 6 from rfl, Nat.reduceMul, Nat.reduceEqDiff, Go.Addr.add, ↓reduceIte] at hx345_0)
                          have qi345 : (6 < l0.length) = True := eq_true (by omega)
                          (try rw [show ((6 : Int)).toNat = 6 from rfl] at hx345_0)
                          replace hx345_0 := (HB.out.cell (World.block_lt_of_cell? w _ hx345_0)).trans hx345_0
                          replace p345 := eq_true p345
                          replace q345 := eq_true q345
                          have p346 : 0 ≤ (7 : Int) := (by omega)
                          have q346 : 7 < (l0.length : Int) := of_decide_eq_true (by first | (with_reducible assumption) | assumption)
                          obtain ⟨ad346, e346, hx346_0⟩ := Kd.at_int HR0.out 7 p346 q346
                          obtain rfl : ad345 = ad346 := (by injection e346)
                          (try simp only [show (7 : Int).toNat = 7 from rfl, Nat.reduceMul, Nat.reduceEqDiff, Go.Addr.add, ↓reduceIte] at hx346_0)
                          have qi346 : (7 < l0.length) = True := eq_true (by omega)
                          (try rw [show ((7 : Int)).toNat = 7 from rfl] at hx346_0)
                          replace hx346_0 := (HB.out.cell (World.block_lt_of_cell? w _ hx346_0)).trans hx346_0
                          replace p346 := eq_true p346
                          replace q346 := eq_true q346
                          have p347 : 0 ≤ (9 : Int) := (by omega)
                          have q347 : 9 < (l0.length : Int) := of_decide_eq_true (by first | (with_reducible assumption) | assumption)
                          obtain ⟨ad347, e347, hx347_0⟩ := Kd.at_int HR0.out 9 p347 q347
                          obtain rfl : ad345 = ad347 := (by injection e347)
                          (try simp only [show (9 : Int).toNat = 9 from rfl, Nat.reduceMul, Nat.reduceEqDiff, Go.Addr.add, ↓reduceIte] at hx347_0)
                          have qi347 : (9 < l0.length) = True := eq_true (by omega)
                          (try rw [show ((9 : Int)).toNat = 9 from rfl] at hx347_0)
                          replace hx347_0 := (HB.out.cell (World.block_lt_of_cell? w _ hx347_0)).trans hx347_0
                          replace p347 := eq_true p347
                          replace q347 := eq_true q347
                          go_wp2
                          go_meet
                          case rel => exact ⟨_, (false), (by first | rfl | (simp; done) | (simp [*]; done)), H', ⟨by have := HJ1.out; first | omega | exact Nat.le_refl _⟩, ⟨by (with_reducible repeat (first | apply bN | apply bd | apply ba)); exact B339.out⟩, ⟨by repeat (first | (with_reducible first | exact HB.out | apply pa | apply pN | apply p1 | refine bs ?_ E339.out) | exact HB.out)⟩⟩
                        · rw [if_neg c21] at H
                          have c21b0 : ((rd l0 9) == 6) = false := beq_eq_false_iff_ne.mpr c21
                          have c21b1 : ((rd l0 9) != 6) = true := bne_iff_ne.mpr c21
                          have H' := am H
                          clear H
                          have p345 : 0 ≤ (6 : Int) := (by omega)
                          have q345 : 6 < (l0.length : Int) := of_decide_eq_true (by first | (with_reducible assumption) | assumption)
                          obtain ⟨ad345, e345, hx345_0⟩ := Kd.at_int HR0.out 6 p345 q345
                          cases e345
                          (try simp only [show (6 : Int).toNat = 6 from rfl, Nat.reduceMul, Nat.reduceEqDiff, Go.Addr.add, ↓reduceIte] at hx345_0)
                          have qi345 : (6 < l0.length) = True := eq_true (by omega)
                          (try rw [show ((6 : Int)).toNat = 6 from rfl] at hx345_0)
                          replace hx345_0 := (HB.out.cell (World.block_lt_of_cell? w _ hx345_0)).trans hx345_0
                          replace p345 := eq_true p345
                          replace q345 := eq_true q345
                          have p346 : 0 ≤ (7 : Int) := (by omega)
                          have q346 : 7 < (l0.length : Int) := of_decide_eq_true (by first | (with_reducible assumption) | assumption)
                          obtain ⟨ad346, e346, hx346_0⟩ := Kd.at_int HR0.out 7 p346 q346
                          obtain rfl : ad345 = ad346 := (by injection e346)
                          (try simp only [show (7 : Int).toNat = 7 from rfl, Nat.reduceMul, Nat.reduceEqDiff, Go.Addr.add, ↓reduceIte] at hx346_0)
                          have qi346 : (7 < l0.length) = True := eq_true (by omega)
                          (try rw [show ((7 : Int)).toNat = 7 from rfl] at hx346_0)
                          replace hx346_0 := (HB.out.cell (World.block_lt_of_cell? w _ hx346_0)).trans hx346_0
                          replace p346 := eq_true p346
                          replace q346 := eq_true q346
                          have p347 : 0 ≤ (9 : Int) := (by omega)
                          have q347 : 9 < (l0.length : Int) := of_decide_eq_true (by first | (with_reducible assumption) | assumption)
                          obtain ⟨ad347, e347, hx347_0⟩ := Kd.at_int HR0.out 9 p347 q347
                          obtain rfl : ad345 = ad347 := (by injection e347)
                          (try simp only [show (9 : Int).toNat = 9 from rfl, Nat.reduceMul, Nat.reduceEqDiff, Go.Addr.add, ↓reduceIte] at hx347_0)
                          have qi347 : (9 < l0.length) = True := eq_true (by omega)
                          (try rw [show ((9 : Int)).toNat = 9 from rfl] at hx347_0)
                          replace hx347_0 := (HB.out.cell (World.block_lt_of_cell? w _ hx347_0)).trans hx347_0
                          replace p347 := eq_true p347
                          replace q347 := eq_true q347
                          have p348 : 0 ≤ (9 : Int) := (by omega)
                          have q348 : 9 < (l0.length : Int) := of_decide_eq_true (by first | (with_reducible assumption) | assumption)
                          obtain ⟨ad348, e348, hx348_0⟩ := Kd.at_int HR0.out 9 p348 q348
                          obtain rfl : ad345 = ad348 := (by injection e348)
                          (try simp only [show (9 : Int).toNat = 9 from rfl, Nat.reduceMul, Nat.reduceEqDiff, Go.Addr.add, ↓reduceIte] at hx348_0)
                          have qi348 : (9 < l0.length) = True := eq_true (by omega)
                          (try rw [show ((9 : Int)).toNat = 9 from rfl] at hx348_0)
                          replace hx348_0 := (HB.out.cell (World.block_lt_of_cell? w _ hx348_0)).trans hx348_0
                          replace p348 := eq_true p348
                          replace q348 := eq_true q348
                          go_wp2
                          go_meet
                          case rel => exact ⟨_, (((rd l0 9) != 17)), (by first | rfl | (simp; done) | (simp [*]; done)), H', ⟨by have := HJ1.out; first | omega | exact Nat.le_refl _⟩, ⟨by (with_reducible repeat (first | apply bN | apply bd | apply ba)); exact B339.out⟩, ⟨by repeat (first | (with_reducible first | exact HB.out | apply pa | apply pN | apply p1 | refine bs ?_ E339.out) | exact HB.out)⟩⟩
                      · rw [if_neg c20] at H
                        exact absurd H (by simp)
                    · rw [if_neg c19] at H
                      have c19b0 : ((rd l0 7) == 0) = false := beq_eq_false_iff_ne.mpr c19
                      have c19b1 : ((rd l0 7) != 0) = true := bne_iff_ne.mpr c19
                      have H' := am H
                      clear H
                      have p345 : 0 ≤ (6 : Int) := (by omega)
                      have q345 : 6 < (l0.length : Int) := of_decide_eq_true (by first | (with_reducible assumption) | assumption)
                      obtain ⟨ad345, e345, hx345_0⟩ := Kd.at_int HR0.out 6 p345 q345
                      cases e345
                      (try simp only [show (6 : Int).toNat = 6 from rfl, Nat.reduceMul, Nat.reduceEqDiff, Go.Addr.add, ↓reduceIte] at hx345_0)
                      have qi345 : (6 < l0.length) = True := eq_true (by omega)
                      (try rw [show ((6 : Int)).toNat = 6 from rfl] at hx345_0)
                      replace hx345_0 := (HB.out.cell (World.block_lt_of_cell? w _ hx345_0)).trans hx345_0
                      replace p345 := eq_true p345
                      replace q345 := eq_true q345
                      have p346 : 0 ≤ (7 : Int) := (by omega)
                      have q346 : 7 < (l0.length : Int) := of_decide_eq_true (by first | (with_reducible assumption) | assumption)
                      obtain ⟨ad346, e346, hx346_0⟩ := Kd.at_int HR0.out 7 p346 q346
                      obtain rfl : ad345 = ad346 := (by injection e346)
                      (try simp only [show (7 : Int).toNat = 7 from rfl, Nat.reduceMul, Nat.reduceEqDiff, Go.Addr.add, ↓reduceIte] at hx346_0)
                      have qi346 : (7 < l0.length) = True := eq_true (by omega)
                      (try rw [show ((7 : Int)).toNat = 7 from rfl] at hx346_0)
                      replace hx346_0 := (HB.out.cell (World.block_lt_of_cell? w _ hx346_0)).trans hx346_0
                      replace p346 := eq_true p346
                      replace q346 := eq_true q346
                      go_wp2
                      go_meet
                      case rel => exact ⟨_, (true), (by first | rfl | (simp; done) | (simp [*]; done)), H', ⟨by have := HJ1.out; first | omega | exact Nat.le_refl _⟩, ⟨by (with_reducible repeat (first | apply bN | apply bd | apply ba)); exact B339.out⟩, ⟨by repeat (first | (with_reducible first | exact HB.out | apply pa | apply pN | apply p1 | refine bs ?_ E339.out) | exact HB.out)⟩⟩
                  · rw [if_neg c18] at H
                    exact absurd H (by simp)
                · rw [if_neg c17] at H
                  have c17b0 : ((rd l0 6) == 0) = false := beq_eq_false_iff_ne.mpr c17
                  have c17b1 : ((rd l0 6) != 0) = true := bne_iff_ne.mpr c17
                  have H' := am H
                  clear H
                  have p345 : 0 ≤ (6 : Int) := (by omega)
                  have q345 : 6 < (l0.length : Int) := of_decide_eq_true (by first | (with_reducible assumption) | assumption)
                  obtain ⟨ad345, e345, hx345_0⟩ := Kd.at_int HR0.out 6 p345 q345
                  cases e345
                  (try simp only [show (6 : Int).toNat = 6 from rfl, Nat.reduceMul, Nat.reduceEqDiff, Go.Addr.add, ↓reduceIte] at hx345_0)
                  have qi345 : (6 < l0.length) = True := eq_true (by omega)
                  (try rw [show ((6 : Int)).toNat = 6 from rfl] at hx345_0)
                  replace hx345_0 := (HB.out.cell (World.block_lt_of_cell? w _ hx345_0)).trans hx345_0
                  replace p345 := eq_true p345
                  replace q345 := eq_true q345
                  go_wp2
                  go_meet
                  case rel => exact ⟨_, (true), (by first | rfl | (simp; done) | (simp [*]; done)), H', ⟨by have := HJ1.out; first | omega | exact Nat.le_refl _⟩, ⟨by (with_reducible repeat (first | apply bN | apply bd | apply ba)); exact B339.out⟩, ⟨by repeat (first | (with_reducible first | exact HB.out | apply pa | apply pN | apply p1 | refine bs ?_ E339.out) | exact HB.out)⟩⟩
              · rw [if_neg c16] at H
                exact absurd H (by simp)
            case rest =>
              clear HC14
              try clear c1
              try clear c2
              try clear p2
              try clear p3
              try clear q3
              try clear hx3
              try clear qi3
              try clear c5
              try clear c6
              try clear c6b0
              try clear c6b1
              try clear c7
              try clear c7b0
              try clear c7b1
              try clear c9
              try clear c11
              try clear c11b0
              try clear c11b1
              try clear c13
              try clear c16
              try clear c16b0
              try clear c16b1
              try clear c17
              try clear c17b0
              try clear c17b1
              try clear c18
              try clear c18b0
              try clear c18b1
              try clear c19
              try clear c19b0
              try clear c19b1
              try clear c20
              try clear c20b0
              try clear c20b1
              try clear c21
              try clear c21b0
              try clear c21b1
              try clear hcz10_0
              try clear hcz10_1
              try clear hcz10_2
              try clear hcz10_3
              try clear hcz10_4
              try clear hcz10_5
              try clear hcz10_6
              try clear hfz10_0
              try clear hfz10_1
              try clear hfz10_2
              try clear hfz10_3
              try clear hfz10_4
              try clear hfz10_5
              try clear hfz10_6
              try clear hx341_0
              try clear hx345_0
              try clear hx346_0
              try clear hx347_0
              try clear hx348_0
              try clear p2
              try clear p3
              try clear p341
              try clear p345
              try clear p346
              try clear p347
              try clear p348
              try clear q3
              try clear q341
              try clear q345
              try clear q346
              try clear q347
              try clear q348
              obtain ⟨kq, x48_13, rfl, HA, HJ13, B339, HB⟩ := hcut
              cases kq with
              | zero => exact absurd HA.out (by simp [spec_ParsePacket.j1])
              | succ kj13 =>
                have H := HA.out
                clear HA
                simp only [spec_ParsePacket.j1] at H
                by_cases c22 : x48_13 = true
                · subst c22
                  have H1 : (some (1, 0, 0, 0, 0, 0, ([] : List Int))) = some (r1, r2, r3, r4, r5, r6, r7) := by rw [if_pos rfl] at H; exact H
                  clear H
                  have H := H1
                  clear H1
                  simp only [Option.some.injEq, Prod.mk.injEq] at H
                  obtain ⟨rfl, rfl, rfl, rfl, rfl, rfl, rfl⟩ := H
                  have hcz23_0 : wc.cell? ⟨g339, 0, none⟩ = some (I q 0) := (bc B339.out 0).trans rfl
                  have hcz23_1 : wc.cell? ⟨g339, 1, none⟩ = some (I q 0) := (bc B339.out 1).trans rfl
                  have hcz23_2 : wc.cell? ⟨g339, 2, none⟩ = some (I q 0) := (bc B339.out 2).trans rfl
                  have hcz23_3 : wc.cell? ⟨g339, 3, none⟩ = some (I q 0) := (bc B339.out 3).trans rfl
                  have hcz23_4 : wc.cell? ⟨g339, 4, none⟩ = some (I q 0) := (bc B339.out 4).trans rfl
                  have hcz23_5 : wc.cell? ⟨g339, 5, none⟩ = some (I q 0) := (bc B339.out 5).trans rfl
                  have hcz23_6 : wc.cell? ⟨g339, 6, none⟩ = some (.slice none 0 0) := (bc B339.out 6).trans rfl
                  have hfz23_0 := bf B339.out 0
                  have hfz23_1 := bf B339.out 1
                  have hfz23_2 := bf B339.out 2
                  have hfz23_3 := bf B339.out 3
                  have hfz23_4 := bf B339.out 4
                  have hfz23_5 := bf B339.out 5
                  have hfz23_6 := bf B339.out 6
                  go_wp2
                  refine bodyPost_ret (results_cell_row rfl _ _ g339 28 #[I q 1, I q 0, I q 0, I q 0, I q 0, I q 0, .slice none 0 0] (0, 0) _ rfl (by (with_reducible repeat (first | apply bN | apply bd | apply ba)); exact pu7f B339.out) Tryd.underlying28 rfl (by kernel_rfl)) rfl ?_
                  exact ⟨_, by first | rfl | (simp [errW_none, errW_some] <;> rfl) | (simp [*, errW_none, errW_some] <;> rfl), by first | exact Kd.R_nil _ _ _ _ _ | exact Kd.N_nil _ _ _ _ _ | exact Kd.V_nil _ _ _ _ _ | exact Kd.Q_nil _ _ _ _ _ | exact Kd.S_nil _ _ _ _ _, by repeat (first | (with_reducible first | exact HB.out | apply pa | apply pN | apply p1 | refine bs ?_ E339.out) | exact HB.out)⟩
                · replace c22 := Bool.eq_false_iff.mpr c22
                  subst c22
                  have H1 : ((spec_l1Take.f kj13 l0 12 4).bind fun t349 => ((spec_l1Take.f kj13 l0 16 4).bind fun t350 => (if 9 < (l0.length : Int) then ((spec_l1Take.f kj13 l0 20 2).bind fun t352 => ((spec_l1Take.f kj13 l0 22 2).bind fun t353 => ((some (([] : List Int) : List Int)).bind fun y354 => (if 24 ≤ (l0.length : Int) then (if y354.length + (l0.drop 24).length < 140737488355328 then (some (0, t349, t350, wrap64 (rd l0 9), t352, t353, (y354 ++ (l0.drop 24)))) else (none)) else (none))))) else (none)))) = some (r1, r2, r3, r4, r5, r6, r7) := by rw [if_neg (show ¬ (false = true) by decide)] at H; exact H
                  clear H
                  have H := H1
                  clear H1
                  replace H := Option.bind_eq_some_iff.mp H
                  obtain ⟨t349, A240, H⟩ := H
                  replace H : ((spec_l1Take.f kj13 l0 16 4).bind fun t350 => (if 9 < (l0.length : Int) then ((spec_l1Take.f kj13 l0 20 2).bind fun t352 => ((spec_l1Take.f kj13 l0 22 2).bind fun t353 => ((some (([] : List Int) : List Int)).bind fun y354 => (if 24 ≤ (l0.length : Int) then (if y354.length + (l0.drop 24).length < 140737488355328 then (some (0, t349, t350, wrap64 (rd l0 9), t352, t353, (y354 ++ (l0.drop 24)))) else (none)) else (none))))) else (none))) = some (r1, r2, r3, r4, r5, r6, r7) := H
                  have A24 := am A240
                  clear A240
                  replace H := Option.bind_eq_some_iff.mp H
                  obtain ⟨t350, A250, H⟩ := H
                  replace H : (if 9 < (l0.length : Int) then ((spec_l1Take.f kj13 l0 20 2).bind fun t352 => ((spec_l1Take.f kj13 l0 22 2).bind fun t353 => ((some (([] : List Int) : List Int)).bind fun y354 => (if 24 ≤ (l0.length : Int) then (if y354.length + (l0.drop 24).length < 140737488355328 then (some (0, t349, t350, wrap64 (rd l0 9), t352, t353, (y354 ++ (l0.drop 24)))) else (none)) else (none))))) else (none)) = some (r1, r2, r3, r4, r5, r6, r7) := H
                  have A25 := am A250
                  clear A250
                  by_cases c26 : 9 < (l0.length : Int)
                  · rw [if_pos c26] at H
                    have c26b0 : decide (9 < (l0.length : Int)) = true := decide_eq_true c26
                    have c26b1 : decide (9 < l0.length) = true := decide_eq_true (by omega)
                    clear c26
                    replace H := Option.bind_eq_some_iff.mp H
                    obtain ⟨t352, A270, H⟩ := H
                    replace H : ((spec_l1Take.f kj13 l0 22 2).bind fun t353 => ((some (([] : List Int) : List Int)).bind fun y354 => (if 24 ≤ (l0.length : Int) then (if y354.length + (l0.drop 24).length < 140737488355328 then (some (0, t349, t350, wrap64 (rd l0 9), t352, t353, (y354 ++ (l0.drop 24)))) else (none)) else (none)))) = some (r1, r2, r3, r4, r5, r6, r7) := H
                    have A27 := am A270
                    clear A270
                    replace H := Option.bind_eq_some_iff.mp H
                    obtain ⟨t353, A280, H⟩ := H
                    replace H : ((some (([] : List Int) : List Int)).bind fun y354 => (if 24 ≤ (l0.length : Int) then (if y354.length + (l0.drop 24).length < 140737488355328 then (some (0, t349, t350, wrap64 (rd l0 9), t352, t353, (y354 ++ (l0.drop 24)))) else (none)) else (none))) = some (r1, r2, r3, r4, r5, r6, r7) := H
                    have A28 := am A280
                    clear A280
                    obtain ⟨y354, hy354⟩ : ∃ y_ : List Int, y_ = (([] : List Int)) := ⟨_, rfl⟩
                    replace H : (if 24 ≤ (l0.length : Int) then (if y354.length + (l0.drop 24).length < 140737488355328 then (some (0, t349, t350, wrap64 (rd l0 9), t352, t353, (y354 ++ (l0.drop 24)))) else (none)) else (none)) = some (r1, r2, r3, r4, r5, r6, r7) := by first | (rw [hy354]; with_reducible exact H) | (have H2_ := (Option.bind_some _ _).symm.trans H; rw [hy354]; with_reducible exact H2_) | (have H2_ := (Option.bind_some _ _).symm.trans H; with_reducible exact H2_) | with_reducible exact H | (rw [hy354]; exact H) | exact H
                    have Ny354 := am hy354
                    clear hy354
                    by_cases c29 : 24 ≤ (l0.length : Int)
                    · rw [if_pos c29] at H
                      have c29b0 := eq_true c29
                      have c29b1 : decide (24 ≤ (l0.length : Int)) = true := decide_eq_true c29
                      clear c29
                      by_cases c30 : y354.length + (l0.drop 24).length < 140737488355328
                      · rw [if_pos c30] at H
                        have LMc30 := am c30
                        clear c30
                        obtain ⟨y358, hy358⟩ : ∃ y_ : List Int, y_ = (y354 ++ (l0.drop 24)) := ⟨_, rfl⟩
                        replace H : (some (0, t349, t350, wrap64 (rd l0 9), t352, t353, y358)) = some (r1, r2, r3, r4, r5, r6, r7) := by first | (rw [hy358]; with_reducible exact H) | (have H2_ := (Option.bind_some _ _).symm.trans H; rw [hy358]; with_reducible exact H2_) | (have H2_ := (Option.bind_some _ _).symm.trans H; with_reducible exact H2_) | with_reducible exact H | (rw [hy358]; exact H) | exact H
                        have Ny358 := am hy358
                        clear hy358
                        simp only [Option.some.injEq, Prod.mk.injEq] at H
                        obtain ⟨rfl, rfl, rfl, rfl, rfl, rfl, rfl⟩ := H
                        try go_wp2
                        have N0 := am (bd B339.out)
                        have N1 := am (p1 HB.out)
                        clear B339
                        clear HB
                        have B339 := N0
                        have HB := N1
                        clear N0 N1
                        have p351 : 0 ≤ (9 : Int) := (by omega)
                        have q351 : 9 < (l0.length : Int) := of_decide_eq_true (by first | (with_reducible assumption) | assumption)
                        obtain ⟨ad351, e351, hx351_0⟩ := Kd.at_int HR0.out 9 p351 q351
                        have hw351_0 := hx351_0
                        (try rw [show ((9 : Int)).toNat = 9 from rfl] at hw351_0)
                        (try rw [show 9 * 1 = 9 from rfl] at hw351_0)
                        (try simp only [Nat.reduceMul, Nat.reduceEqDiff, Go.Addr.add, ↓reduceIte] at hw351_0)
                        cases e351
                        (try simp only [show (9 : Int).toNat = 9 from rfl, Nat.reduceMul, Nat.reduceEqDiff, Go.Addr.add, ↓reduceIte] at hx351_0)
                        have qi351 : (9 < l0.length) = True := eq_true (by omega)
                        (try rw [show ((9 : Int)).toNat = 9 from rfl] at hx351_0)
                        replace hx351_0 := (HB.out.cell (World.block_lt_of_cell? w _ hx351_0)).trans hx351_0
                        replace p351 := eq_true p351
                        replace q351 := eq_true q351
                        obtain ⟨i032, hi032, _, hsz32, _⟩ := info_parts info5
                        obtain ⟨A32, hcut32, hA32, hC32⟩ := print_drop_of (P := Tryd.prog) (Value.int .u8) 0 22 5 .i64 Tryd.underlying22 hi032 hsz32 (some ad351) c0 l0 24 (by omega) (of_decide_eq_true (by first | (with_reducible assumption) | assumption)) HC0.out
                        have HR357 := am (Kd.C_of_reads (h1 := fun _ => rfl) (hA32 _ (Kd.reads_of_C HR0.out)))
                        have HC357 := am hC32
                        clear hA32 hC32 hi032 hsz32
                        refine start_ (n := 19) (S := fun w' => w'.cell? ⟨ad351.block, ad351.off + 9, none⟩ = some (.int .u8 (rd l0 9))) (ds := []) #[false, false, false, false, false, false, false, false, false, false, false, false, false, false, false, false, false, false, false] (by kernel_rfl) rfl rfl (((HB.out.cell (World.block_lt_of_cell? w _ hw351_0)).trans hw351_0)) (fun hHeld => ?_); refine with_tabW spec_ParsePacket.tab8 spec_ParsePacket.bits8 (fun HT_ HW_ => ?_)
                        generalize wc.drew = w31 at B339 HB HR357 hx351_0 hHeld ⊢
                        refine pure_ (i := 0) (N := some 50) (v := ?_) (a' := ?_) #[true, false, false, false, false, false, false, false, false, false, false, false, false, false, false, false, false, false, false] rfl rfl (any_of HT_.out (by kernel_rfl)) (fun _ _ _ h => h) (Or.inl ⟨by rfl, ?_⟩) ?_ ?_
                        rotate_left
                        · intro w'
                          first | (go_simp; with_reducible rfl) | (go_simp; (try unfold Instr.field); go_simp; (try simp only [asAgg]); go_simp; with_reducible rfl)
                        rotate_left
                        · simp only [Act.put, List.setIfInBounds_toArray, List.set_cons_zero, List.set_cons_succ, i64_w, i32_w]
                          rfl
                        refine pure_ (i := 2) (N := some 52) (v := ?_) (a' := ?_) #[true, false, true, false, false, false, false, false, false, false, false, false, false, false, false, false, false, false, false] rfl rfl (any_of HT_.out (by kernel_rfl)) (fun _ _ _ h => h) (Or.inl ⟨by rfl, ?_⟩) ?_ ?_
                        rotate_left
                        · intro w'
                          first | (go_simp; with_reducible rfl) | (go_simp; (try unfold Instr.field); go_simp; (try simp only [asAgg]); go_simp; with_reducible rfl)
                        rotate_left
                        · simp only [Act.put, List.setIfInBounds_toArray, List.set_cons_zero, List.set_cons_succ, i64_w, i32_w]
                          rfl
                        refine pure_ (i := 4) (N := some 54) (v := ?_) (a' := ?_) #[true, false, true, false, true, false, false, false, false, false, false, false, false, false, false, false, false, false, false] rfl rfl (any_of HT_.out (by kernel_rfl)) (fun _ _ _ h => h) (Or.inl ⟨by rfl, ?_⟩) ?_ ?_
                        rotate_left
                        · intro w'
                          first | (go_simp; with_reducible rfl) | (go_simp; (try unfold Instr.field); go_simp; (try simp only [asAgg]); go_simp; with_reducible rfl)
                        rotate_left
                        · simp only [Act.put, List.setIfInBounds_toArray, List.set_cons_zero, List.set_cons_succ, i64_w, i32_w]
                          rfl
                        refine pure_ (i := 5) (N := some 55) (v := ?_) (a' := ?_) #[true, false, true, false, true, true, false, false, false, false, false, false, false, false, false, false, false, false, false] rfl rfl (any_of HT_.out (by kernel_rfl)) (fun _ _ _ h => h) (Or.inl ⟨by rfl, ?_⟩) ?_ ?_
                        rotate_left
                        · intro w'
                          first | (go_simp; with_reducible rfl) | (go_simp; (try unfold Instr.field); go_simp; (try simp only [asAgg]); go_simp; with_reducible rfl)
                        rotate_left
                        · simp only [Act.put, List.setIfInBounds_toArray, List.set_cons_zero, List.set_cons_succ, i64_w, i32_w]
                          rfl
                        refine pure_ (i := 8) (N := some 58) (v := ?_) (a' := ?_) #[true, false, true, false, true, true, false, false, true, false, false, false, false, false, false, false, false, false, false] rfl rfl (any_of HT_.out (by kernel_rfl)) (fun _ _ _ h => h) (Or.inl ⟨by rfl, ?_⟩) ?_ ?_
                        rotate_left
                        · intro w'
                          first | (go_simp; with_reducible rfl) | (go_simp; (try unfold Instr.field); go_simp; (try simp only [asAgg]); go_simp; with_reducible rfl)
                        rotate_left
                        · simp only [Act.put, List.setIfInBounds_toArray, List.set_cons_zero, List.set_cons_succ, i64_w, i32_w]
                          rfl
                        refine pure_ (i := 10) (N := some 60) (v := ?_) (a' := ?_) #[true, false, true, false, true, true, false, false, true, false, true, false, false, false, false, false, false, false, false] rfl rfl (any_of HT_.out (by kernel_rfl)) (fun _ _ _ h => h) (Or.inl ⟨by rfl, ?_⟩) ?_ ?_
                        rotate_left
                        · intro w'
                          first | (go_simp; with_reducible rfl) | (go_simp; (try unfold Instr.field); go_simp; (try simp only [asAgg]); go_simp; with_reducible rfl)
                        rotate_left
                        · simp only [Act.put, List.setIfInBounds_toArray, List.set_cons_zero, List.set_cons_succ, i64_w, i32_w]
                          rfl
                        refine pure_ (i := 13) (N := some 63) (v := ?_) (a' := ?_) #[true, false, true, false, true, true, false, false, true, false, true, false, false, true, false, false, false, false, false] rfl rfl (any_of HT_.out (by kernel_rfl)) (fun _ _ _ h => h) (Or.inl ⟨by rfl, ?_⟩) ?_ ?_
                        rotate_left
                        · intro w'
                          first | (go_simp; with_reducible rfl) | (go_simp; (try unfold Instr.field); go_simp; (try simp only [asAgg]); go_simp; with_reducible rfl)
                        rotate_left
                        · simp only [Act.put, List.setIfInBounds_toArray, List.set_cons_zero, List.set_cons_succ, i64_w, i32_w]
                          rfl
                        refine pure_ (i := 14) (N := some 64) (v := ?_) (a' := ?_) #[true, false, true, false, true, true, false, false, true, false, true, false, false, true, true, false, false, false, false] rfl rfl (any_of HT_.out (by kernel_rfl)) (fun _ _ _ h => h) (Or.inl ⟨by rfl, ?_⟩) ?_ ?_
                        rotate_left
                        · intro w'
                          first | (go_simp; with_reducible rfl) | (go_simp; (try unfold Instr.field); go_simp; (try simp only [asAgg]); go_simp; with_reducible rfl)
                        rotate_left
                        · simp only [Act.put, List.setIfInBounds_toArray, List.set_cons_zero, List.set_cons_succ, i64_w, i32_w]
                          rfl
                        refine take_ (i := 6) (N := some 56) (v := ?_) (a' := ?_) #[true, false, true, false, true, true, true, false, true, false, true, false, false, true, true, false, false, false, false] rfl rfl (take_ofW HT_.out HW_.out (by kernel_rfl)) (fun _ _ _ h => h) (Or.inl ⟨by rfl, ?_⟩) hHeld ?_ ?_
                        rotate_left
                        · intro w' s0
                          go_simp
                          with_reducible rfl
                        rotate_left
                        · simp only [Act.put, List.setIfInBounds_toArray, List.set_cons_zero, List.set_cons_succ, i64_w, i32_w]
                          rfl
                        refine pure_ (i := 7) (N := some 57) (v := ?_) (a' := ?_) #[true, false, true, false, true, true, true, true, true, false, true, false, false, true, true, false, false, false, false] rfl rfl (any_of HT_.out (by kernel_rfl)) (fun _ _ _ h => h) (Or.inl ⟨by rfl, ?_⟩) ?_ ?_
                        rotate_left
                        · intro w'
                          first | (go_simp; with_reducible rfl) | (go_simp; (try unfold Instr.field); go_simp; (try simp only [asAgg]); go_simp; with_reducible rfl)
                        rotate_left
                        · simp only [Act.put, List.setIfInBounds_toArray, List.set_cons_zero, List.set_cons_succ, i64_w, i32_w]
                          rfl
                        refine join_ (σ := Value) 4 #[true, true, true, true, true, true, true, true, true, true, true, true, true, true, true, false, false, false, false] (fun s_ => [(51, I q t349), (53, I q t350), (59, I q t352), (61, I q t353), (62, s_)]) (fun s_ w' => (w'.cell? ⟨ad351.block, ad351.off + 9, none⟩ = some (.int .u8 (rd l0 9))) ∧ (Kd.R (Kd.int .u8) 5 w' w.heap.size (fun _ => True) s_ y354) ∧ (w'.heap[g339]? = some (.cells #[I q 0, I q 0, I q 0, I q 0, I q 0, I q 0, .slice none 0 0] 28 (0, 0))) ∧ (Below w.heap.size w w')) ?_ ?_
                        rotate_left
                        · intro hJ1_3_9_11_12
                          refine join_ (σ := Unit) 5 #[true, true, true, true, true, true, true, true, true, true, true, true, false, true, true, false, false, false, false] (fun s_ => [(51, I q t349), (53, I q t350), (59, I q t352), (61, I q t353)]) (fun s_ w' => (w'.cell? ⟨ad351.block, ad351.off + 9, none⟩ = some (.int .u8 (rd l0 9))) ∧ (w'.heap[g339]? = some (.cells #[I q 0, I q 0, I q 0, I q 0, I q 0, I q 0, .slice none 0 0] 28 (0, 0))) ∧ (Below w.heap.size w w')) ?_ ?_
                          rotate_left
                          · intro hJ1_3_9_11
                            refine join_ (σ := Value) 5 #[true, true, true, true, true, true, true, true, true, true, true, false, true, true, true, false, false, false, false] (fun s_ => [(51, I q t349), (53, I q t350), (59, I q t352), (62, s_)]) (fun s_ w' => (w'.cell? ⟨ad351.block, ad351.off + 9, none⟩ = some (.int .u8 (rd l0 9))) ∧ (Kd.R (Kd.int .u8) 5 w' w.heap.size (fun _ => True) s_ y354) ∧ (w'.heap[g339]? = some (.cells #[I q 0, I q 0, I q 0, I q 0, I q 0, I q 0, .slice none 0 0] 28 (0, 0))) ∧ (Below w.heap.size w w')) ?_ ?_
                            rotate_left
                            · intro hJ1_3_9_12
                              refine join_ (σ := Unit) 6 #[true, true, true, true, true, true, true, true, true, true, true, false, false, true, true, false, false, false, false] (fun s_ => [(51, I q t349), (53, I q t350), (59, I q t352)]) (fun s_ w' => (w'.cell? ⟨ad351.block, ad351.off + 9, none⟩ = some (.int .u8 (rd l0 9))) ∧ (w'.heap[g339]? = some (.cells #[I q 0, I q 0, I q 0, I q 0, I q 0, I q 0, .slice none 0 0] 28 (0, 0))) ∧ (Below w.heap.size w w')) ?_ ?_
                              rotate_left
                              · intro hJ1_3_9
                                refine join_ (σ := Value) 6 #[true, true, true, true, true, true, true, true, true, false, true, false, true, true, true, false, false, false, false] (fun s_ => [(51, I q t349), (53, I q t350), (62, s_)]) (fun s_ w' => (w'.cell? ⟨ad351.block, ad351.off + 9, none⟩ = some (.int .u8 (rd l0 9))) ∧ (Kd.R (Kd.int .u8) 5 w' w.heap.size (fun _ => True) s_ y354) ∧ (w'.heap[g339]? = some (.cells #[I q 0, I q 0, I q 0, I q 0, I q 0, I q 0, .slice none 0 0] 28 (0, 0))) ∧ (Below w.heap.size w w')) ?_ ?_
                                rotate_left
                                · intro hJ1_3_12
                                  refine join_ (σ := Unit) 7 #[true, true, true, true, true, true, true, true, true, false, true, false, false, true, true, false, false, false, false] (fun s_ => [(51, I q t349), (53, I q t350)]) (fun s_ w' => (w'.cell? ⟨ad351.block, ad351.off + 9, none⟩ = some (.int .u8 (rd l0 9))) ∧ (w'.heap[g339]? = some (.cells #[I q 0, I q 0, I q 0, I q 0, I q 0, I q 0, .slice none 0 0] 28 (0, 0))) ∧ (Below w.heap.size w w')) ?_ ?_
                                  rotate_left
                                  · intro hJ1_3
                                    refine join_ (σ := Value) 7 #[true, true, true, false, true, true, true, true, true, false, true, false, true, true, true, false, false, false, false] (fun s_ => [(51, I q t349), (62, s_)]) (fun s_ w' => (w'.cell? ⟨ad351.block, ad351.off + 9, none⟩ = some (.int .u8 (rd l0 9))) ∧ (Kd.R (Kd.int .u8) 5 w' w.heap.size (fun _ => True) s_ y354) ∧ (w'.heap[g339]? = some (.cells #[I q 0, I q 0, I q 0, I q 0, I q 0, I q 0, .slice none 0 0] 28 (0, 0))) ∧ (Below w.heap.size w w')) ?_ ?_
                                    rotate_left
                                    · intro hJ1_12
                                      refine join_ (σ := Unit) 8 #[true, true, true, false, true, true, true, true, true, false, true, false, false, true, true, false, false, false, false] (fun s_ => [(51, I q t349)]) (fun s_ w' => (w'.cell? ⟨ad351.block, ad351.off + 9, none⟩ = some (.int .u8 (rd l0 9))) ∧ (w'.heap[g339]? = some (.cells #[I q 0, I q 0, I q 0, I q 0, I q 0, I q 0, .slice none 0 0] 28 (0, 0))) ∧ (Below w.heap.size w w')) ?_ ?_
                                      rotate_left
                                      · intro hJ1
                                        refine join_ (σ := Value) 8 #[true, false, true, false, true, true, true, true, true, false, true, false, true, true, true, false, false, false, false] (fun s_ => [(62, s_)]) (fun s_ w' => (w'.cell? ⟨ad351.block, ad351.off + 9, none⟩ = some (.int .u8 (rd l0 9))) ∧ (Kd.R (Kd.int .u8) 5 w' w.heap.size (fun _ => True) s_ y354) ∧ (w'.heap[g339]? = some (.cells #[I q 0, I q 0, I q 0, I q 0, I q 0, I q 0, .slice none 0 0] 28 (0, 0))) ∧ (Below w.heap.size w w')) ?_ ?_
                                        rotate_left
                                        · intro hJ12
                                          refine two_ (i := 1) (j := 12) (Ni := some 51) (Nj := some 62) #[true, true, true, false, true, true, true, true, true, false, true, false, false, true, true, false, false, false, false] #[true, false, true, false, true, true, true, true, true, false, true, false, true, true, true, false, false, false, false] rfl rfl rfl rfl (two_of HT_.out (by kernel_rfl)) (by decide) (by decide) (fun K hK => ?_) (fun K hK => ?_)
                                          · skip
                                            refine goes_ Tryd.func23 (by kernel_rfl) rfl #[.slice (some ad351) l0.length c0, I q 12, I q 4] (by rfl) rfl rfl (by (try simp only [List.map_toArray, List.map_cons, List.map_nil]); first | done | rfl | (simp only [List.length_drop, List.length_take]; rfl)) ?_
                                            with_reducible refine (spec_l1Take.calls kj13 _ _ l0 12 4 t349 _ ?side1 ?side2 A24.out).mono ?_
                                            (case side1 => repeat (first | exact (Kd.C_below HR0.out HB.out) | (with_reducible refine ca ?_ _) | (with_reducible refine cN ?_ _) | (with_reducible refine cd1 ?_)))
                                            (case side2 => exact HC0.out)
                                            rintro e w' ⟨rfl, ⟨nd, rfl⟩⟩
                                            refine ⟨_, rfl, ?_⟩
                                            refine hK.out _ _ (((HB.out.cell (World.block_lt_of_cell? w _ hw351_0)).trans hw351_0)) (fun hHeld => ?_)
                                            clear hK K
                                            refine norm_ (a' := ?_) ?_ ?_
                                            rotate_left
                                            · show Act.put _ (some 51) _ = _
                                              simp only [Act.put, List.setIfInBounds_toArray, List.set_cons_zero, List.set_cons_succ, i64_w, i32_w]
                                              rfl
                                            exact norm_ (by first | (simp only [putAll, Act.put, List.setIfInBounds_toArray, List.set_cons_zero, List.set_cons_succ]; done) | (simp only [putAll, Act.put, List.setIfInBounds_toArray, List.set_cons_zero, List.set_cons_succ]; rfl)) (hJ1 () _ ⟨hHeld, (by (with_reducible repeat (first | apply bN | apply bd | apply ba)); exact B339.out), (by repeat (first | (with_reducible first | exact HB.out | apply pa | apply pN | apply p1 | refine bs ?_ E339.out) | exact HB.out))⟩)
                                          · skip
                                            refine Kd.R_lit_step (Kd.int .u8) _ 5 ?hg (N := 62) ?hd (xs := ([] : List Int)) (inner := []) (ok := fun _ => True) (okp := fun _ => True) ?hr ?hp (fun _ hk => hk) trivial (Below.refl _ _) (Nat.le_refl _) (by simp) ?_; (case hd => rfl); (case hg => rfl); (case hr => first | (go_simp; done) | (go_simp; rfl)); (case hp => exact (Reps.none _ _))
                                            intro v355 w33 ho34 hb hg_ hnew_
                                            clear hg_ hnew_
                                            (first | rw [← Ny354.out] at ho34 | (simp only [Int.reduceToNat] at ho34; rw [← Ny354.out] at ho34))
                                            have N0 := am (rw1 ho34 (bz (by repeat (first | (with_reducible first | exact HB.out | apply pa | apply pN | apply p1 | refine bs ?_ E339.out) | exact HB.out))))
                                            have N1 := am (bb (g := g339) (by (with_reducible repeat (first | apply bN | apply bd | apply ba)); exact B339.out) hb)
                                            have N2 := am (bp (by repeat (first | (with_reducible first | exact HB.out | apply pa | apply pN | apply p1 | refine bs ?_ E339.out) | exact HB.out)) hb)
                                            clear B339
                                            clear HB
                                            have O356 := N0
                                            have B339 := N1
                                            have HB := N2
                                            clear N0 N1 N2
                                            clear hb ho34
                                            refine hK.out _ _ (((HB.out.cell (World.block_lt_of_cell? w _ hw351_0)).trans hw351_0)) (fun hHeld => ?_)
                                            clear hK K
                                            refine norm_ (a' := ?_) ?_ ?_
                                            rotate_left
                                            · show Act.put _ (some 62) _ = _
                                              simp only [Act.put, List.setIfInBounds_toArray, List.set_cons_zero, List.set_cons_succ, i64_w, i32_w]
                                              rfl
                                            exact norm_ (by first | (simp only [putAll, Act.put, List.setIfInBounds_toArray, List.set_cons_zero, List.set_cons_succ]; done) | (simp only [putAll, Act.put, List.setIfInBounds_toArray, List.set_cons_zero, List.set_cons_succ]; rfl)) (hJ12 (v355) _ ⟨hHeld, (by (with_reducible repeat (first | apply ra | apply rN | apply rd1)); exact O356.out), (by (with_reducible repeat (first | apply bN | apply bd | apply ba)); exact B339.out), (by repeat (first | (with_reducible first | exact HB.out | apply pa | apply pN | apply p1 | refine bs ?_ E339.out) | exact HB.out))⟩)
                                        · skip
                                          rintro v355 w35 ⟨hS_, h0_, h1_, h2_⟩
                                          have N0 : Aside0 (Kd.R (Kd.int .u8) 5 w35 w.heap.size (fun _ => True) v355 y354) := ⟨h0_⟩
                                          have N1 : Aside0 (w35.heap[g339]? = some (.cells #[I q 0, I q 0, I q 0, I q 0, I q 0, I q 0, .slice none 0 0] 28 (0, 0))) := ⟨h1_⟩
                                          have N2 : Aside0 (Below w.heap.size w w35) := ⟨h2_⟩
                                          clear B339
                                          clear HB
                                          clear h0_ h1_ h2_
                                          have O356 := N0
                                          have B339 := N1
                                          have HB := N2
                                          clear N0 N1 N2
                                          have hHeld : w35.cell? ⟨ad351.block, ad351.off + 9, none⟩ = some (.int .u8 (rd l0 9)) := hS_
                                          refine norm_ (a' := ?_) ?_ ?_
                                          rotate_left
                                          · simp only [putAll, Act.put, List.setIfInBounds_toArray, List.set_cons_zero, List.set_cons_succ]
                                            rfl
                                          refine one_ (i := 1) (N := some 51) #[true, true, true, false, true, true, true, true, true, false, true, false, true, true, true, false, false, false, false] rfl rfl (one_of HT_.out (by kernel_rfl)) (by decide) (fun K hK => ?_)
                                          refine goes_ Tryd.func23 (by kernel_rfl) rfl #[.slice (some ad351) l0.length c0, I q 12, I q 4] (by rfl) rfl rfl (by (try simp only [List.map_toArray, List.map_cons, List.map_nil]); first | done | rfl | (simp only [List.length_drop, List.length_take]; rfl)) ?_
                                          with_reducible refine (spec_l1Take.calls kj13 _ _ l0 12 4 t349 _ ?side1 ?side2 A24.out).mono ?_
                                          (case side1 => repeat (first | exact (Kd.C_below HR0.out HB.out) | (with_reducible refine ca ?_ _) | (with_reducible refine cN ?_ _) | (with_reducible refine cd1 ?_)))
                                          (case side2 => exact HC0.out)
                                          rintro e w' ⟨rfl, ⟨nd, rfl⟩⟩
                                          refine ⟨_, rfl, ?_⟩
                                          refine hK.out _ _ (((HB.out.cell (World.block_lt_of_cell? w _ hw351_0)).trans hw351_0)) (fun hHeld => ?_)
                                          clear hK K
                                          refine norm_ (a' := ?_) ?_ ?_
                                          rotate_left
                                          · show Act.put _ (some 51) _ = _
                                            simp only [Act.put, List.setIfInBounds_toArray, List.set_cons_zero, List.set_cons_succ, i64_w, i32_w]
                                            rfl
                                          exact norm_ (by first | (simp only [putAll, Act.put, List.setIfInBounds_toArray, List.set_cons_zero, List.set_cons_succ]; done) | (simp only [putAll, Act.put, List.setIfInBounds_toArray, List.set_cons_zero, List.set_cons_succ]; rfl)) (hJ1_12 (v355) _ ⟨hHeld, (by (with_reducible repeat (first | apply ra | apply rN | apply rd1)); exact O356.out), (by (with_reducible repeat (first | apply bN | apply bd | apply ba)); exact B339.out), (by repeat (first | (with_reducible first | exact HB.out | apply pa | apply pN | apply p1 | refine bs ?_ E339.out) | exact HB.out))⟩)
                                      · skip
                                        rintro _ w33 ⟨hS_, h0_, h1_⟩
                                        have N0 : Aside0 (w33.heap[g339]? = some (.cells #[I q 0, I q 0, I q 0, I q 0, I q 0, I q 0, .slice none 0 0] 28 (0, 0))) := ⟨h0_⟩
                                        have N1 : Aside0 (Below w.heap.size w w33) := ⟨h1_⟩
                                        clear B339
                                        clear HB
                                        clear h0_ h1_
                                        have B339 := N0
                                        have HB := N1
                                        clear N0 N1
                                        have hHeld : w33.cell? ⟨ad351.block, ad351.off + 9, none⟩ = some (.int .u8 (rd l0 9)) := hS_
                                        refine norm_ (a' := ?_) ?_ ?_
                                        rotate_left
                                        · simp only [putAll, Act.put, List.setIfInBounds_toArray, List.set_cons_zero, List.set_cons_succ]
                                          rfl
                                        refine two_ (i := 3) (j := 12) (Ni := some 53) (Nj := some 62) #[true, true, true, true, true, true, true, true, true, false, true, false, false, true, true, false, false, false, false] #[true, true, true, false, true, true, true, true, true, false, true, false, true, true, true, false, false, false, false] rfl rfl rfl rfl (two_of HT_.out (by kernel_rfl)) (by decide) (by decide) (fun K hK => ?_) (fun K hK => ?_)
                                        · skip
                                          refine goes_ Tryd.func23 (by kernel_rfl) rfl #[.slice (some ad351) l0.length c0, I q 16, I q 4] (by rfl) rfl rfl (by (try simp only [List.map_toArray, List.map_cons, List.map_nil]); first | done | rfl | (simp only [List.length_drop, List.length_take]; rfl)) ?_
                                          with_reducible refine (spec_l1Take.calls kj13 _ _ l0 16 4 t350 _ ?side1 ?side2 A25.out).mono ?_
                                          (case side1 => repeat (first | exact (Kd.C_below HR0.out HB.out) | (with_reducible refine ca ?_ _) | (with_reducible refine cN ?_ _) | (with_reducible refine cd1 ?_)))
                                          (case side2 => exact HC0.out)
                                          rintro e w' ⟨rfl, ⟨nd, rfl⟩⟩
                                          refine ⟨_, rfl, ?_⟩
                                          refine hK.out _ _ (((HB.out.cell (World.block_lt_of_cell? w _ hw351_0)).trans hw351_0)) (fun hHeld => ?_)
                                          clear hK K
                                          refine norm_ (a' := ?_) ?_ ?_
                                          rotate_left
                                          · show Act.put _ (some 53) _ = _
                                            simp only [Act.put, List.setIfInBounds_toArray, List.set_cons_zero, List.set_cons_succ, i64_w, i32_w]
                                            rfl
                                          exact norm_ (by first | (simp only [putAll, Act.put, List.setIfInBounds_toArray, List.set_cons_zero, List.set_cons_succ]; done) | (simp only [putAll, Act.put, List.setIfInBounds_toArray, List.set_cons_zero, List.set_cons_succ]; rfl)) (hJ1_3 () _ ⟨hHeld, (by (with_reducible repeat (first | apply bN | apply bd | apply ba)); exact B339.out), (by repeat (first | (with_reducible first | exact HB.out | apply pa | apply pN | apply p1 | refine bs ?_ E339.out) | exact HB.out))⟩)
                                        · skip
                                          refine Kd.R_lit_step (Kd.int .u8) _ 5 ?hg (N := 62) ?hd (xs := ([] : List Int)) (inner := []) (ok := fun _ => True) (okp := fun _ => True) ?hr ?hp (fun _ hk => hk) trivial (Below.refl _ _) (Nat.le_refl _) (by simp) ?_; (case hd => rfl); (case hg => rfl); (case hr => first | (go_simp; done) | (go_simp; rfl)); (case hp => exact (Reps.none _ _))
                                          intro v355 w34 ho35 hb hg_ hnew_
                                          clear hg_ hnew_
                                          (first | rw [← Ny354.out] at ho35 | (simp only [Int.reduceToNat] at ho35; rw [← Ny354.out] at ho35))
                                          have N0 := am (rw1 ho35 (bz (by repeat (first | (with_reducible first | exact HB.out | apply pa | apply pN | apply p1 | refine bs ?_ E339.out) | exact HB.out))))
                                          have N1 := am (bb (g := g339) (by (with_reducible repeat (first | apply bN | apply bd | apply ba)); exact B339.out) hb)
                                          have N2 := am (bp (by repeat (first | (with_reducible first | exact HB.out | apply pa | apply pN | apply p1 | refine bs ?_ E339.out) | exact HB.out)) hb)
                                          clear B339
                                          clear HB
                                          have O356 := N0
                                          have B339 := N1
                                          have HB := N2
                                          clear N0 N1 N2
                                          clear hb ho35
                                          refine hK.out _ _ (((HB.out.cell (World.block_lt_of_cell? w _ hw351_0)).trans hw351_0)) (fun hHeld => ?_)
                                          clear hK K
                                          refine norm_ (a' := ?_) ?_ ?_
                                          rotate_left
                                          · show Act.put _ (some 62) _ = _
                                            simp only [Act.put, List.setIfInBounds_toArray, List.set_cons_zero, List.set_cons_succ, i64_w, i32_w]
                                            rfl
                                          exact norm_ (by first | (simp only [putAll, Act.put, List.setIfInBounds_toArray, List.set_cons_zero, List.set_cons_succ]; done) | (simp only [putAll, Act.put, List.setIfInBounds_toArray, List.set_cons_zero, List.set_cons_succ]; rfl)) (hJ1_12 (v355) _ ⟨hHeld, (by (with_reducible repeat (first | apply ra | apply rN | apply rd1)); exact O356.out), (by (with_reducible repeat (first | apply bN | apply bd | apply ba)); exact B339.out), (by repeat (first | (with_reducible first | exact HB.out | apply pa | apply pN | apply p1 | refine bs ?_ E339.out) | exact HB.out))⟩)
                                    · skip
                                      rintro v355 w35 ⟨hS_, h0_, h1_, h2_⟩
                                      have N0 : Aside0 (Kd.R (Kd.int .u8) 5 w35 w.heap.size (fun _ => True) v355 y354) := ⟨h0_⟩
                                      have N1 : Aside0 (w35.heap[g339]? = some (.cells #[I q 0, I q 0, I q 0, I q 0, I q 0, I q 0, .slice none 0 0] 28 (0, 0))) := ⟨h1_⟩
                                      have N2 : Aside0 (Below w.heap.size w w35) := ⟨h2_⟩
                                      clear B339
                                      clear HB
                                      clear h0_ h1_ h2_
                                      have O356 := N0
                                      have B339 := N1
                                      have HB := N2
                                      clear N0 N1 N2
                                      have hHeld : w35.cell? ⟨ad351.block, ad351.off + 9, none⟩ = some (.int .u8 (rd l0 9)) := hS_
                                      refine norm_ (a' := ?_) ?_ ?_
                                      rotate_left
                                      · simp only [putAll, Act.put, List.setIfInBounds_toArray, List.set_cons_zero, List.set_cons_succ]
                                        rfl
                                      refine one_ (i := 3) (N := some 53) #[true, true, true, true, true, true, true, true, true, false, true, false, true, true, true, false, false, false, false] rfl rfl (one_of HT_.out (by kernel_rfl)) (by decide) (fun K hK => ?_)
                                      refine goes_ Tryd.func23 (by kernel_rfl) rfl #[.slice (some ad351) l0.length c0, I q 16, I q 4] (by rfl) rfl rfl (by (try simp only [List.map_toArray, List.map_cons, List.map_nil]); first | done | rfl | (simp only [List.length_drop, List.length_take]; rfl)) ?_
                                      with_reducible refine (spec_l1Take.calls kj13 _ _ l0 16 4 t350 _ ?side1 ?side2 A25.out).mono ?_
                                      (case side1 => repeat (first | exact (Kd.C_below HR0.out HB.out) | (with_reducible refine ca ?_ _) | (with_reducible refine cN ?_ _) | (with_reducible refine cd1 ?_)))
                                      (case side2 => exact HC0.out)
                                      rintro e w' ⟨rfl, ⟨nd, rfl⟩⟩
                                      refine ⟨_, rfl, ?_⟩
                                      refine hK.out _ _ (((HB.out.cell (World.block_lt_of_cell? w _ hw351_0)).trans hw351_0)) (fun hHeld => ?_)
                                      clear hK K
                                      refine norm_ (a' := ?_) ?_ ?_
                                      rotate_left
                                      · show Act.put _ (some 53) _ = _
                                        simp only [Act.put, List.setIfInBounds_toArray, List.set_cons_zero, List.set_cons_succ, i64_w, i32_w]
                                        rfl
                                      exact norm_ (by first | (simp only [putAll, Act.put, List.setIfInBounds_toArray, List.set_cons_zero, List.set_cons_succ]; done) | (simp only [putAll, Act.put, List.setIfInBounds_toArray, List.set_cons_zero, List.set_cons_succ]; rfl)) (hJ1_3_12 (v355) _ ⟨hHeld, (by (with_reducible repeat (first | apply ra | apply rN | apply rd1)); exact O356.out), (by (with_reducible repeat (first | apply bN | apply bd | apply ba)); exact B339.out), (by repeat (first | (with_reducible first | exact HB.out | apply pa | apply pN | apply p1 | refine bs ?_ E339.out) | exact HB.out))⟩)
                                  · skip
                                    rintro _ w33 ⟨hS_, h0_, h1_⟩
                                    have N0 : Aside0 (w33.heap[g339]? = some (.cells #[I q 0, I q 0, I q 0, I q 0, I q 0, I q 0, .slice none 0 0] 28 (0, 0))) := ⟨h0_⟩
                                    have N1 : Aside0 (Below w.heap.size w w33) := ⟨h1_⟩
                                    clear B339
                                    clear HB
                                    clear h0_ h1_
                                    have B339 := N0
                                    have HB := N1
                                    clear N0 N1
                                    have hHeld : w33.cell? ⟨ad351.block, ad351.off + 9, none⟩ = some (.int .u8 (rd l0 9)) := hS_
                                    refine norm_ (a' := ?_) ?_ ?_
                                    rotate_left
                                    · simp only [putAll, Act.put, List.setIfInBounds_toArray, List.set_cons_zero, List.set_cons_succ]
                                      rfl
                                    refine two_ (i := 9) (j := 12) (Ni := some 59) (Nj := some 62) #[true, true, true, true, true, true, true, true, true, true, true, false, false, true, true, false, false, false, false] #[true, true, true, true, true, true, true, true, true, false, true, false, true, true, true, false, false, false, false] rfl rfl rfl rfl (two_of HT_.out (by kernel_rfl)) (by decide) (by decide) (fun K hK => ?_) (fun K hK => ?_)
                                    · skip
                                      refine goes_ Tryd.func23 (by kernel_rfl) rfl #[.slice (some ad351) l0.length c0, I q 20, I q 2] (by rfl) rfl rfl (by (try simp only [List.map_toArray, List.map_cons, List.map_nil]); first | done | rfl | (simp only [List.length_drop, List.length_take]; rfl)) ?_
                                      with_reducible refine (spec_l1Take.calls kj13 _ _ l0 20 2 t352 _ ?side1 ?side2 A27.out).mono ?_
                                      (case side1 => repeat (first | exact (Kd.C_below HR0.out HB.out) | (with_reducible refine ca ?_ _) | (with_reducible refine cN ?_ _) | (with_reducible refine cd1 ?_)))
                                      (case side2 => exact HC0.out)
                                      rintro e w' ⟨rfl, ⟨nd, rfl⟩⟩
                                      refine ⟨_, rfl, ?_⟩
                                      refine hK.out _ _ (((HB.out.cell (World.block_lt_of_cell? w _ hw351_0)).trans hw351_0)) (fun hHeld => ?_)
                                      clear hK K
                                      refine norm_ (a' := ?_) ?_ ?_
                                      rotate_left
                                      · show Act.put _ (some 59) _ = _
                                        simp only [Act.put, List.setIfInBounds_toArray, List.set_cons_zero, List.set_cons_succ, i64_w, i32_w]
                                        rfl
                                      exact norm_ (by first | (simp only [putAll, Act.put, List.setIfInBounds_toArray, List.set_cons_zero, List.set_cons_succ]; done) | (simp only [putAll, Act.put, List.setIfInBounds_toArray, List.set_cons_zero, List.set_cons_succ]; rfl)) (hJ1_3_9 () _ ⟨hHeld, (by (with_reducible repeat (first | apply bN | apply bd | apply ba)); exact B339.out), (by repeat (first | (with_reducible first | exact HB.out | apply pa | apply pN | apply p1 | refine bs ?_ E339.out) | exact HB.out))⟩)
                                    · skip
                                      refine Kd.R_lit_step (Kd.int .u8) _ 5 ?hg (N := 62) ?hd (xs := ([] : List Int)) (inner := []) (ok := fun _ => True) (okp := fun _ => True) ?hr ?hp (fun _ hk => hk) trivial (Below.refl _ _) (Nat.le_refl _) (by simp) ?_; (case hd => rfl); (case hg => rfl); (case hr => first | (go_simp; done) | (go_simp; rfl)); (case hp => exact (Reps.none _ _))
                                      intro v355 w34 ho35 hb hg_ hnew_
                                      clear hg_ hnew_
                                      (first | rw [← Ny354.out] at ho35 | (simp only [Int.reduceToNat] at ho35; rw [← Ny354.out] at ho35))
                                      have N0 := am (rw1 ho35 (bz (by repeat (first | (with_reducible first | exact HB.out | apply pa | apply pN | apply p1 | refine bs ?_ E339.out) | exact HB.out))))
                                      have N1 := am (bb (g := g339) (by (with_reducible repeat (first | apply bN | apply bd | apply ba)); exact B339.out) hb)
                                      have N2 := am (bp (by repeat (first | (with_reducible first | exact HB.out | apply pa | apply pN | apply p1 | refine bs ?_ E339.out) | exact HB.out)) hb)
                                      clear B339
                                      clear HB
                                      have O356 := N0
                                      have B339 := N1
                                      have HB := N2
                                      clear N0 N1 N2
                                      clear hb ho35
                                      refine hK.out _ _ (((HB.out.cell (World.block_lt_of_cell? w _ hw351_0)).trans hw351_0)) (fun hHeld => ?_)
                                      clear hK K
                                      refine norm_ (a' := ?_) ?_ ?_
                                      rotate_left
                                      · show Act.put _ (some 62) _ = _
                                        simp only [Act.put, List.setIfInBounds_toArray, List.set_cons_zero, List.set_cons_succ, i64_w, i32_w]
                                        rfl
                                      exact norm_ (by first | (simp only [putAll, Act.put, List.setIfInBounds_toArray, List.set_cons_zero, List.set_cons_succ]; done) | (simp only [putAll, Act.put, List.setIfInBounds_toArray, List.set_cons_zero, List.set_cons_succ]; rfl)) (hJ1_3_12 (v355) _ ⟨hHeld, (by (with_reducible repeat (first | apply ra | apply rN | apply rd1)); exact O356.out), (by (with_reducible repeat (first | apply bN | apply bd | apply ba)); exact B339.out), (by repeat (first | (with_reducible first | exact HB.out | apply pa | apply pN | apply p1 | refine bs ?_ E339.out) | exact HB.out))⟩)
                                · skip
                                  rintro v355 w35 ⟨hS_, h0_, h1_, h2_⟩
                                  have N0 : Aside0 (Kd.R (Kd.int .u8) 5 w35 w.heap.size (fun _ => True) v355 y354) := ⟨h0_⟩
                                  have N1 : Aside0 (w35.heap[g339]? = some (.cells #[I q 0, I q 0, I q 0, I q 0, I q 0, I q 0, .slice none 0 0] 28 (0, 0))) := ⟨h1_⟩
                                  have N2 : Aside0 (Below w.heap.size w w35) := ⟨h2_⟩
                                  clear B339
                                  clear HB
                                  clear h0_ h1_ h2_
                                  have O356 := N0
                                  have B339 := N1
                                  have HB := N2
                                  clear N0 N1 N2
                                  have hHeld : w35.cell? ⟨ad351.block, ad351.off + 9, none⟩ = some (.int .u8 (rd l0 9)) := hS_
                                  refine norm_ (a' := ?_) ?_ ?_
                                  rotate_left
                                  · simp only [putAll, Act.put, List.setIfInBounds_toArray, List.set_cons_zero, List.set_cons_succ]
                                    rfl
                                  refine one_ (i := 9) (N := some 59) #[true, true, true, true, true, true, true, true, true, true, true, false, true, true, true, false, false, false, false] rfl rfl (one_of HT_.out (by kernel_rfl)) (by decide) (fun K hK => ?_)
                                  refine goes_ Tryd.func23 (by kernel_rfl) rfl #[.slice (some ad351) l0.length c0, I q 20, I q 2] (by rfl) rfl rfl (by (try simp only [List.map_toArray, List.map_cons, List.map_nil]); first | done | rfl | (simp only [List.length_drop, List.length_take]; rfl)) ?_
                                  with_reducible refine (spec_l1Take.calls kj13 _ _ l0 20 2 t352 _ ?side1 ?side2 A27.out).mono ?_
                                  (case side1 => repeat (first | exact (Kd.C_below HR0.out HB.out) | (with_reducible refine ca ?_ _) | (with_reducible refine cN ?_ _) | (with_reducible refine cd1 ?_)))
                                  (case side2 => exact HC0.out)
                                  rintro e w' ⟨rfl, ⟨nd, rfl⟩⟩
                                  refine ⟨_, rfl, ?_⟩
                                  refine hK.out _ _ (((HB.out.cell (World.block_lt_of_cell? w _ hw351_0)).trans hw351_0)) (fun hHeld => ?_)
                                  clear hK K
                                  refine norm_ (a' := ?_) ?_ ?_
                                  rotate_left
                                  · show Act.put _ (some 59) _ = _
                                    simp only [Act.put, List.setIfInBounds_toArray, List.set_cons_zero, List.set_cons_succ, i64_w, i32_w]
                                    rfl
                                  exact norm_ (by first | (simp only [putAll, Act.put, List.setIfInBounds_toArray, List.set_cons_zero, List.set_cons_succ]; done) | (simp only [putAll, Act.put, List.setIfInBounds_toArray, List.set_cons_zero, List.set_cons_succ]; rfl)) (hJ1_3_9_12 (v355) _ ⟨hHeld, (by (with_reducible repeat (first | apply ra | apply rN | apply rd1)); exact O356.out), (by (with_reducible repeat (first | apply bN | apply bd | apply ba)); exact B339.out), (by repeat (first | (with_reducible first | exact HB.out | apply pa | apply pN | apply p1 | refine bs ?_ E339.out) | exact HB.out))⟩)
                              · skip
                                rintro _ w33 ⟨hS_, h0_, h1_⟩
                                have N0 : Aside0 (w33.heap[g339]? = some (.cells #[I q 0, I q 0, I q 0, I q 0, I q 0, I q 0, .slice none 0 0] 28 (0, 0))) := ⟨h0_⟩
                                have N1 : Aside0 (Below w.heap.size w w33) := ⟨h1_⟩
                                clear B339
                                clear HB
                                clear h0_ h1_
                                have B339 := N0
                                have HB := N1
                                clear N0 N1
                                have hHeld : w33.cell? ⟨ad351.block, ad351.off + 9, none⟩ = some (.int .u8 (rd l0 9)) := hS_
                                refine norm_ (a' := ?_) ?_ ?_
                                rotate_left
                                · simp only [putAll, Act.put, List.setIfInBounds_toArray, List.set_cons_zero, List.set_cons_succ]
                                  rfl
                                refine two_ (i := 11) (j := 12) (Ni := some 61) (Nj := some 62) #[true, true, true, true, true, true, true, true, true, true, true, true, false, true, true, false, false, false, false] #[true, true, true, true, true, true, true, true, true, true, true, false, true, true, true, false, false, false, false] rfl rfl rfl rfl (two_of HT_.out (by kernel_rfl)) (by decide) (by decide) (fun K hK => ?_) (fun K hK => ?_)
                                · skip
                                  refine goes_ Tryd.func23 (by kernel_rfl) rfl #[.slice (some ad351) l0.length c0, I q 22, I q 2] (by rfl) rfl rfl (by (try simp only [List.map_toArray, List.map_cons, List.map_nil]); first | done | rfl | (simp only [List.length_drop, List.length_take]; rfl)) ?_
                                  with_reducible refine (spec_l1Take.calls kj13 _ _ l0 22 2 t353 _ ?side1 ?side2 A28.out).mono ?_
                                  (case side1 => repeat (first | exact (Kd.C_below HR0.out HB.out) | (with_reducible refine ca ?_ _) | (with_reducible refine cN ?_ _) | (with_reducible refine cd1 ?_)))
                                  (case side2 => exact HC0.out)
                                  rintro e w' ⟨rfl, ⟨nd, rfl⟩⟩
                                  refine ⟨_, rfl, ?_⟩
                                  refine hK.out _ _ (((HB.out.cell (World.block_lt_of_cell? w _ hw351_0)).trans hw351_0)) (fun hHeld => ?_)
                                  clear hK K
                                  refine norm_ (a' := ?_) ?_ ?_
                                  rotate_left
                                  · show Act.put _ (some 61) _ = _
                                    simp only [Act.put, List.setIfInBounds_toArray, List.set_cons_zero, List.set_cons_succ, i64_w, i32_w]
                                    rfl
                                  exact norm_ (by first | (simp only [putAll, Act.put, List.setIfInBounds_toArray, List.set_cons_zero, List.set_cons_succ]; done) | (simp only [putAll, Act.put, List.setIfInBounds_toArray, List.set_cons_zero, List.set_cons_succ]; rfl)) (hJ1_3_9_11 () _ ⟨hHeld, (by (with_reducible repeat (first | apply bN | apply bd | apply ba)); exact B339.out), (by repeat (first | (with_reducible first | exact HB.out | apply pa | apply pN | apply p1 | refine bs ?_ E339.out) | exact HB.out))⟩)
                                · skip
                                  refine Kd.R_lit_step (Kd.int .u8) _ 5 ?hg (N := 62) ?hd (xs := ([] : List Int)) (inner := []) (ok := fun _ => True) (okp := fun _ => True) ?hr ?hp (fun _ hk => hk) trivial (Below.refl _ _) (Nat.le_refl _) (by simp) ?_; (case hd => rfl); (case hg => rfl); (case hr => first | (go_simp; done) | (go_simp; rfl)); (case hp => exact (Reps.none _ _))
                                  intro v355 w34 ho35 hb hg_ hnew_
                                  clear hg_ hnew_
                                  (first | rw [← Ny354.out] at ho35 | (simp only [Int.reduceToNat] at ho35; rw [← Ny354.out] at ho35))
                                  have N0 := am (rw1 ho35 (bz (by repeat (first | (with_reducible first | exact HB.out | apply pa | apply pN | apply p1 | refine bs ?_ E339.out) | exact HB.out))))
                                  have N1 := am (bb (g := g339) (by (with_reducible repeat (first | apply bN | apply bd | apply ba)); exact B339.out) hb)
                                  have N2 := am (bp (by repeat (first | (with_reducible first | exact HB.out | apply pa | apply pN | apply p1 | refine bs ?_ E339.out) | exact HB.out)) hb)
                                  clear B339
                                  clear HB
                                  have O356 := N0
                                  have B339 := N1
                                  have HB := N2
                                  clear N0 N1 N2
                                  clear hb ho35
                                  refine hK.out _ _ (((HB.out.cell (World.block_lt_of_cell? w _ hw351_0)).trans hw351_0)) (fun hHeld => ?_)
                                  clear hK K
                                  refine norm_ (a' := ?_) ?_ ?_
                                  rotate_left
                                  · show Act.put _ (some 62) _ = _
                                    simp only [Act.put, List.setIfInBounds_toArray, List.set_cons_zero, List.set_cons_succ, i64_w, i32_w]
                                    rfl
                                  exact norm_ (by first | (simp only [putAll, Act.put, List.setIfInBounds_toArray, List.set_cons_zero, List.set_cons_succ]; done) | (simp only [putAll, Act.put, List.setIfInBounds_toArray, List.set_cons_zero, List.set_cons_succ]; rfl)) (hJ1_3_9_12 (v355) _ ⟨hHeld, (by (with_reducible repeat (first | apply ra | apply rN | apply rd1)); exact O356.out), (by (with_reducible repeat (first | apply bN | apply bd | apply ba)); exact B339.out), (by repeat (first | (with_reducible first | exact HB.out | apply pa | apply pN | apply p1 | refine bs ?_ E339.out) | exact HB.out))⟩)
                            · skip
                              rintro v355 w35 ⟨hS_, h0_, h1_, h2_⟩
                              have N0 : Aside0 (Kd.R (Kd.int .u8) 5 w35 w.heap.size (fun _ => True) v355 y354) := ⟨h0_⟩
                              have N1 : Aside0 (w35.heap[g339]? = some (.cells #[I q 0, I q 0, I q 0, I q 0, I q 0, I q 0, .slice none 0 0] 28 (0, 0))) := ⟨h1_⟩
                              have N2 : Aside0 (Below w.heap.size w w35) := ⟨h2_⟩
                              clear B339
                              clear HB
                              clear h0_ h1_ h2_
                              have O356 := N0
                              have B339 := N1
                              have HB := N2
                              clear N0 N1 N2
                              have hHeld : w35.cell? ⟨ad351.block, ad351.off + 9, none⟩ = some (.int .u8 (rd l0 9)) := hS_
                              refine norm_ (a' := ?_) ?_ ?_
                              rotate_left
                              · simp only [putAll, Act.put, List.setIfInBounds_toArray, List.set_cons_zero, List.set_cons_succ]
                                rfl
                              refine one_ (i := 11) (N := some 61) #[true, true, true, true, true, true, true, true, true, true, true, true, true, true, true, false, false, false, false] rfl rfl (one_of HT_.out (by kernel_rfl)) (by decide) (fun K hK => ?_)
                              refine goes_ Tryd.func23 (by kernel_rfl) rfl #[.slice (some ad351) l0.length c0, I q 22, I q 2] (by rfl) rfl rfl (by (try simp only [List.map_toArray, List.map_cons, List.map_nil]); first | done | rfl | (simp only [List.length_drop, List.length_take]; rfl)) ?_
                              with_reducible refine (spec_l1Take.calls kj13 _ _ l0 22 2 t353 _ ?side1 ?side2 A28.out).mono ?_
                              (case side1 => repeat (first | exact (Kd.C_below HR0.out HB.out) | (with_reducible refine ca ?_ _) | (with_reducible refine cN ?_ _) | (with_reducible refine cd1 ?_)))
                              (case side2 => exact HC0.out)
                              rintro e w' ⟨rfl, ⟨nd, rfl⟩⟩
                              refine ⟨_, rfl, ?_⟩
                              refine hK.out _ _ (((HB.out.cell (World.block_lt_of_cell? w _ hw351_0)).trans hw351_0)) (fun hHeld => ?_)
                              clear hK K
                              refine norm_ (a' := ?_) ?_ ?_
                              rotate_left
                              · show Act.put _ (some 61) _ = _
                                simp only [Act.put, List.setIfInBounds_toArray, List.set_cons_zero, List.set_cons_succ, i64_w, i32_w]
                                rfl
                              exact norm_ (by first | (simp only [putAll, Act.put, List.setIfInBounds_toArray, List.set_cons_zero, List.set_cons_succ]; done) | (simp only [putAll, Act.put, List.setIfInBounds_toArray, List.set_cons_zero, List.set_cons_succ]; rfl)) (hJ1_3_9_11_12 (v355) _ ⟨hHeld, (by (with_reducible repeat (first | apply ra | apply rN | apply rd1)); exact O356.out), (by (with_reducible repeat (first | apply bN | apply bd | apply ba)); exact B339.out), (by repeat (first | (with_reducible first | exact HB.out | apply pa | apply pN | apply p1 | refine bs ?_ E339.out) | exact HB.out))⟩)
                          · skip
                            rintro _ w33 ⟨hS_, h0_, h1_⟩
                            have N0 : Aside0 (w33.heap[g339]? = some (.cells #[I q 0, I q 0, I q 0, I q 0, I q 0, I q 0, .slice none 0 0] 28 (0, 0))) := ⟨h0_⟩
                            have N1 : Aside0 (Below w.heap.size w w33) := ⟨h1_⟩
                            clear B339
                            clear HB
                            clear h0_ h1_
                            have B339 := N0
                            have HB := N1
                            clear N0 N1
                            have hHeld : w33.cell? ⟨ad351.block, ad351.off + 9, none⟩ = some (.int .u8 (rd l0 9)) := hS_
                            refine norm_ (a' := ?_) ?_ ?_
                            rotate_left
                            · simp only [putAll, Act.put, List.setIfInBounds_toArray, List.set_cons_zero, List.set_cons_succ]
                              rfl
                            refine one_ (i := 12) (N := some 62) #[true, true, true, true, true, true, true, true, true, true, true, true, true, true, true, false, false, false, false] rfl rfl (one_of HT_.out (by kernel_rfl)) (by decide) (fun K hK => ?_)
                            refine Kd.R_lit_step (Kd.int .u8) _ 5 ?hg (N := 62) ?hd (xs := ([] : List Int)) (inner := []) (ok := fun _ => True) (okp := fun _ => True) ?hr ?hp (fun _ hk => hk) trivial (Below.refl _ _) (Nat.le_refl _) (by simp) ?_; (case hd => rfl); (case hg => rfl); (case hr => first | (go_simp; done) | (go_simp; rfl)); (case hp => exact (Reps.none _ _))
                            intro v355 w34 ho35 hb hg_ hnew_
                            clear hg_ hnew_
                            (first | rw [← Ny354.out] at ho35 | (simp only [Int.reduceToNat] at ho35; rw [← Ny354.out] at ho35))
                            have N0 := am (rw1 ho35 (bz (by repeat (first | (with_reducible first | exact HB.out | apply pa | apply pN | apply p1 | refine bs ?_ E339.out) | exact HB.out))))
                            have N1 := am (bb (g := g339) (by (with_reducible repeat (first | apply bN | apply bd | apply ba)); exact B339.out) hb)
                            have N2 := am (bp (by repeat (first | (with_reducible first | exact HB.out | apply pa | apply pN | apply p1 | refine bs ?_ E339.out) | exact HB.out)) hb)
                            clear B339
                            clear HB
                            have O356 := N0
                            have B339 := N1
                            have HB := N2
                            clear N0 N1 N2
                            clear hb ho35
                            refine hK.out _ _ (((HB.out.cell (World.block_lt_of_cell? w _ hw351_0)).trans hw351_0)) (fun hHeld => ?_)
                            clear hK K
                            refine norm_ (a' := ?_) ?_ ?_
                            rotate_left
                            · show Act.put _ (some 62) _ = _
                              simp only [Act.put, List.setIfInBounds_toArray, List.set_cons_zero, List.set_cons_succ, i64_w, i32_w]
                              rfl
                            exact norm_ (by first | (simp only [putAll, Act.put, List.setIfInBounds_toArray, List.set_cons_zero, List.set_cons_succ]; done) | (simp only [putAll, Act.put, List.setIfInBounds_toArray, List.set_cons_zero, List.set_cons_succ]; rfl)) (hJ1_3_9_11_12 (v355) _ ⟨hHeld, (by (with_reducible repeat (first | apply ra | apply rN | apply rd1)); exact O356.out), (by (with_reducible repeat (first | apply bN | apply bd | apply ba)); exact B339.out), (by repeat (first | (with_reducible first | exact HB.out | apply pa | apply pN | apply p1 | refine bs ?_ E339.out) | exact HB.out))⟩)
                        rintro v355 w35 ⟨hS_, h0_, h1_, h2_⟩
                        have N0 : Aside0 (Kd.R (Kd.int .u8) 5 w35 w.heap.size (fun _ => True) v355 y354) := ⟨h0_⟩
                        have N1 : Aside0 (w35.heap[g339]? = some (.cells #[I q 0, I q 0, I q 0, I q 0, I q 0, I q 0, .slice none 0 0] 28 (0, 0))) := ⟨h1_⟩
                        have N2 : Aside0 (Below w.heap.size w w35) := ⟨h2_⟩
                        clear B339
                        clear HB
                        clear h0_ h1_ h2_
                        have O356 := N0
                        have B339 := N1
                        have HB := N2
                        clear N0 N1 N2
                        have hHeld : w35.cell? ⟨ad351.block, ad351.off + 9, none⟩ = some (.int .u8 (rd l0 9)) := hS_
                        refine norm_ (a' := ?_) ?_ ?_
                        rotate_left
                        · simp only [putAll, Act.put, List.setIfInBounds_toArray, List.set_cons_zero, List.set_cons_succ]
                          rfl
                        refine one_ (i := 15) (N := some 65) #[true, true, true, true, true, true, true, true, true, true, true, true, true, true, true, true, false, false, false] rfl rfl (one_of HT_.out (by kernel_rfl)) (by decide) (fun K hK => ?_)
                        refine Kd.R_append_rows_step (Kd.int .u8) (w0 := w) w.heap.size (by rfl) (.tmp 62) (.tmp 64) 22 5 (.int .u8 0) 1 rfl Tryd.underlying22 info5 rfl (by decide) (by omega) v355 y354 (l0.drop 24) _ _ _ (fun _ => True) (fun _ => False) rfl rfl ?aO ?aR (fun _ _ h => h) (fun _ h => h.elim) ?aF ?aB ?aS ?aL ?_
                        (case aR => first | (rw [← show (l0.drop 24).length = (l0.length - 24) from List.length_drop]; repeat (first | exact (Kd.C_below HR357.out HB.out) | (with_reducible refine ca ?_ _) | (with_reducible refine cN ?_ _) | (with_reducible refine cd1 ?_))) | (repeat (first | exact (Kd.C_below HR357.out HB.out) | (with_reducible refine ca ?_ _) | (with_reducible refine cN ?_ _) | (with_reducible refine cd1 ?_))))
                        (case aB => exact (by repeat (first | (with_reducible first | exact HB.out | apply pa | apply pN | apply p1 | refine bs ?_ E339.out) | exact HB.out)))
                        (case aF => exact (fun _ _ => trivial))
                        (case aO => exact (by (with_reducible repeat (first | apply ra | apply rN | apply rd1)); exact O356.out))
                        (case aS => exact (bz (by repeat (first | (with_reducible first | exact HB.out | apply pa | apply pN | apply p1 | refine bs ?_ E339.out) | exact HB.out))))
                        (case aL => have := LMc30.out; have hlx_ := (show (l0.drop 24).length = (l0.length - 24) from List.length_drop); omega)
                        intro v359 w36 ho hb hg hat
                        rw [← Ny358.out] at ho
                        have N0 := am (blk_grown (g := g339) (o := .cells #[I q 0, I q 0, I q 0, I q 0, I q 0, I q 0, .slice none 0 0] 28 (0, 0)) (by (with_reducible repeat (first | apply bN | apply bd | apply ba)); exact B339.out) hg (Kd.R_ne O356.out B339.out (by decide)))
                        have N1 := am (hb)
                        have N2 := am (ho)
                        clear B339
                        clear HB
                        clear O356
                        have B339 := N0
                        have HB := N1
                        have O360 := N2
                        clear N0 N1 N2
                        clear ho hb hg hat
                        obtain ⟨Ao37, co37, eo37⟩ := Kd.R_slice O360.out
                        (first | subst eo37 | (injection eo37 with f1_ f2_ f3_; have f4_ := f1_.symm; have f5_ := f3_.symm; clear f1_ f2_ f3_; subst f4_; subst f5_))
                        refine hK.out _ _ (((HB.out.cell (World.block_lt_of_cell? w _ hw351_0)).trans hw351_0)) (fun hHeld => ?_)
                        clear hK K
                        refine norm_ (a' := ?_) ?_ ?_
                        rotate_left
                        · show Act.put _ (some 65) _ = _
                          simp only [Act.put, List.setIfInBounds_toArray, List.set_cons_zero, List.set_cons_succ, i64_w, i32_w]
                          rfl
                        refine pure_ (i := 16) (N := some 66) (v := ?_) (a' := ?_) #[true, true, true, true, true, true, true, true, true, true, true, true, true, true, true, true, true, false, false] rfl rfl (any_of HT_.out (by kernel_rfl)) (fun _ _ _ h => h) (Or.inl ⟨by rfl, ?_⟩) ?_ ?_
                        rotate_left
                        · intro w'
                          first | (go_simp; with_reducible rfl) | (go_simp; (try unfold Instr.field); go_simp; (try simp only [asAgg]); go_simp; with_reducible rfl)
                        rotate_left
                        · simp only [Act.put, List.setIfInBounds_toArray, List.set_cons_zero, List.set_cons_succ, i64_w, i32_w]
                          rfl
                        refine pure_ (i := 17) (N := some 67) (v := ?_) (a' := ?_) #[true, true, true, true, true, true, true, true, true, true, true, true, true, true, true, true, true, true, false] rfl rfl (any_of HT_.out (by kernel_rfl)) (fun _ _ _ h => h) (Or.inl ⟨by rfl, ?_⟩) ?_ ?_
                        rotate_left
                        · intro w'
                          first | (go_simp; with_reducible rfl) | (go_simp; (try unfold Instr.field); go_simp; (try simp only [asAgg]); go_simp; with_reducible rfl)
                        rotate_left
                        · simp only [Act.put, List.setIfInBounds_toArray, List.set_cons_zero, List.set_cons_succ, i64_w, i32_w]
                          rfl
                        refine one_ (i := 18) (N := none) #[true, true, true, true, true, true, true, true, true, true, true, true, true, true, true, true, true, true, true] rfl rfl (one_of HT_.out (by kernel_rfl)) (by decide) (fun K hK => ?_)
                        have hs38 : w36.cell? ⟨g339, 0, none⟩ = some (I q 0) := (bc B339.out 0).trans rfl
                        have hfs38 := bf B339.out 0
                        have hs39 : w36.cell? ⟨g339, 1, none⟩ = some (I q 0) := (bc B339.out 1).trans rfl
                        have hfs39 := bf B339.out 1
                        have hs40 : w36.cell? ⟨g339, 2, none⟩ = some (I q 0) := (bc B339.out 2).trans rfl
                        have hfs40 := bf B339.out 2
                        have hs41 : w36.cell? ⟨g339, 3, none⟩ = some (I q 0) := (bc B339.out 3).trans rfl
                        have hfs41 := bf B339.out 3
                        have hs42 : w36.cell? ⟨g339, 4, none⟩ = some (I q 0) := (bc B339.out 4).trans rfl
                        have hfs42 := bf B339.out 4
                        have hs43 : w36.cell? ⟨g339, 5, none⟩ = some (I q 0) := (bc B339.out 5).trans rfl
                        have hfs43 := bf B339.out 5
                        have hs44 : w36.cell? ⟨g339, 6, none⟩ = some (.slice none 0 0) := (bc B339.out 6).trans rfl
                        have hfs44 := bf B339.out 6
                        refine skip_ (w1 := ?_) (by rfl) rfl ?_ ?_
                        rotate_left
                        · go_simp
                          rfl
                        refine hK.out _ _ (((cell_far (p := ⟨g339, _, none⟩) (by first | exact Nat.ne_of_lt (Nat.lt_of_lt_of_le (by have := World.block_lt_of_cell? _ _ hw351_0; first | rwa [ab] at this | exact this) GW339.out) | (rw [ab]; exact Nat.ne_of_lt (Nat.lt_of_lt_of_le (by have := World.block_lt_of_cell? _ _ hw351_0; first | rwa [ab] at this | exact this) GW339.out)) | (show (Addr.add _ _).block ≠ _; rw [ab]; exact Nat.ne_of_lt (Nat.lt_of_lt_of_le (by have := World.block_lt_of_cell? _ _ hw351_0; first | rwa [ab] at this | exact this) GW339.out)) | (dsimp only; exact Nat.ne_of_lt (Nat.lt_of_lt_of_le (by have := World.block_lt_of_cell? _ _ hw351_0; first | rwa [ab] at this | exact this) GW339.out))) _).trans (((cell_far (p := ⟨g339, _, none⟩) (by first | exact Nat.ne_of_lt (Nat.lt_of_lt_of_le (by have := World.block_lt_of_cell? _ _ hw351_0; first | rwa [ab] at this | exact this) GW339.out) | (rw [ab]; exact Nat.ne_of_lt (Nat.lt_of_lt_of_le (by have := World.block_lt_of_cell? _ _ hw351_0; first | rwa [ab] at this | exact this) GW339.out)) | (show (Addr.add _ _).block ≠ _; rw [ab]; exact Nat.ne_of_lt (Nat.lt_of_lt_of_le (by have := World.block_lt_of_cell? _ _ hw351_0; first | rwa [ab] at this | exact this) GW339.out)) | (dsimp only; exact Nat.ne_of_lt (Nat.lt_of_lt_of_le (by have := World.block_lt_of_cell? _ _ hw351_0; first | rwa [ab] at this | exact this) GW339.out))) _).trans (((cell_far (p := ⟨g339, _, none⟩) (by first | exact Nat.ne_of_lt (Nat.lt_of_lt_of_le (by have := World.block_lt_of_cell? _ _ hw351_0; first | rwa [ab] at this | exact this) GW339.out) | (rw [ab]; exact Nat.ne_of_lt (Nat.lt_of_lt_of_le (by have := World.block_lt_of_cell? _ _ hw351_0; first | rwa [ab] at this | exact this) GW339.out)) | (show (Addr.add _ _).block ≠ _; rw [ab]; exact Nat.ne_of_lt (Nat.lt_of_lt_of_le (by have := World.block_lt_of_cell? _ _ hw351_0; first | rwa [ab] at this | exact this) GW339.out)) | (dsimp only; exact Nat.ne_of_lt (Nat.lt_of_lt_of_le (by have := World.block_lt_of_cell? _ _ hw351_0; first | rwa [ab] at this | exact this) GW339.out))) _).trans (((cell_far (p := ⟨g339, _, none⟩) (by first | exact Nat.ne_of_lt (Nat.lt_of_lt_of_le (by have := World.block_lt_of_cell? _ _ hw351_0; first | rwa [ab] at this | exact this) GW339.out) | (rw [ab]; exact Nat.ne_of_lt (Nat.lt_of_lt_of_le (by have := World.block_lt_of_cell? _ _ hw351_0; first | rwa [ab] at this | exact this) GW339.out)) | (show (Addr.add _ _).block ≠ _; rw [ab]; exact Nat.ne_of_lt (Nat.lt_of_lt_of_le (by have := World.block_lt_of_cell? _ _ hw351_0; first | rwa [ab] at this | exact this) GW339.out)) | (dsimp only; exact Nat.ne_of_lt (Nat.lt_of_lt_of_le (by have := World.block_lt_of_cell? _ _ hw351_0; first | rwa [ab] at this | exact this) GW339.out))) _).trans (((cell_far (p := ⟨g339, _, none⟩) (by first | exact Nat.ne_of_lt (Nat.lt_of_lt_of_le (by have := World.block_lt_of_cell? _ _ hw351_0; first | rwa [ab] at this | exact this) GW339.out) | (rw [ab]; exact Nat.ne_of_lt (Nat.lt_of_lt_of_le (by have := World.block_lt_of_cell? _ _ hw351_0; first | rwa [ab] at this | exact this) GW339.out)) | (show (Addr.add _ _).block ≠ _; rw [ab]; exact Nat.ne_of_lt (Nat.lt_of_lt_of_le (by have := World.block_lt_of_cell? _ _ hw351_0; first | rwa [ab] at this | exact this) GW339.out)) | (dsimp only; exact Nat.ne_of_lt (Nat.lt_of_lt_of_le (by have := World.block_lt_of_cell? _ _ hw351_0; first | rwa [ab] at this | exact this) GW339.out))) _).trans (((cell_far (p := ⟨g339, _, none⟩) (by first | exact Nat.ne_of_lt (Nat.lt_of_lt_of_le (by have := World.block_lt_of_cell? _ _ hw351_0; first | rwa [ab] at this | exact this) GW339.out) | (rw [ab]; exact Nat.ne_of_lt (Nat.lt_of_lt_of_le (by have := World.block_lt_of_cell? _ _ hw351_0; first | rwa [ab] at this | exact this) GW339.out)) | (show (Addr.add _ _).block ≠ _; rw [ab]; exact Nat.ne_of_lt (Nat.lt_of_lt_of_le (by have := World.block_lt_of_cell? _ _ hw351_0; first | rwa [ab] at this | exact this) GW339.out)) | (dsimp only; exact Nat.ne_of_lt (Nat.lt_of_lt_of_le (by have := World.block_lt_of_cell? _ _ hw351_0; first | rwa [ab] at this | exact this) GW339.out))) _).trans (((cell_far (p := ⟨g339, _, none⟩) (by first | exact Nat.ne_of_lt (Nat.lt_of_lt_of_le (by have := World.block_lt_of_cell? _ _ hw351_0; first | rwa [ab] at this | exact this) GW339.out) | (rw [ab]; exact Nat.ne_of_lt (Nat.lt_of_lt_of_le (by have := World.block_lt_of_cell? _ _ hw351_0; first | rwa [ab] at this | exact this) GW339.out)) | (show (Addr.add _ _).block ≠ _; rw [ab]; exact Nat.ne_of_lt (Nat.lt_of_lt_of_le (by have := World.block_lt_of_cell? _ _ hw351_0; first | rwa [ab] at this | exact this) GW339.out)) | (dsimp only; exact Nat.ne_of_lt (Nat.lt_of_lt_of_le (by have := World.block_lt_of_cell? _ _ hw351_0; first | rwa [ab] at this | exact this) GW339.out))) _).trans (hHeld))))))))))))))) (fun hHeld => ?_)
                        clear hK K
                        refine done_ (done_of HT_.out (by kernel_rfl)) ?_
                        try go_wp2
                        refine bodyPost_ret (results_cell_row rfl _ _ g339 28 #[I q 0, I q t349, I q t350, I q (wrap64 (rd l0 9)), I q t352, I q t353, J Ao37 y358.length co37] (0, 0) _ rfl (by (with_reducible repeat (first | apply bN | apply bd | apply ba)); exact pu7f B339.out) Tryd.underlying28 rfl (by kernel_rfl)) rfl ?_
                        exact ⟨_, by first | rfl | (simp [errW_none, errW_some] <;> rfl) | (simp [*, errW_none, errW_some] <;> rfl), by (with_reducible repeat (first | apply ra | apply rN | apply rd1)); exact Kd.R_mono (rf (p := ⟨g339, 6, none⟩) (rf (p := ⟨g339, 5, none⟩) (rf (p := ⟨g339, 4, none⟩) (rf (p := ⟨g339, 3, none⟩) (rf (p := ⟨g339, 2, none⟩) (rf (p := ⟨g339, 1, none⟩) (rf (p := ⟨g339, 0, none⟩) (Kd.R_types O360.out B339.out (by decide)) (fun _ hk => hk.2) (I q 0)) (fun _ hk => hk.2) (I q t349)) (fun _ hk => hk.2) (I q t350)) (fun _ hk => hk.2) (I q (wrap64 (rd l0 9)))) (fun _ hk => hk.2) (I q t352)) (fun _ hk => hk.2) (I q t353)) (fun _ hk => hk.2) (J Ao37 y358.length co37)) (fun _ hk => trivial), by repeat (first | (with_reducible first | exact HB.out | apply pa | apply pN | apply p1 | refine bs ?_ E339.out) | exact HB.out)⟩
                      · rw [if_neg c30] at H
                        exact absurd H (by simp)
                    · rw [if_neg c29] at H
                      exact absurd H (by simp)
                  · rw [if_neg c26] at H
                    exact absurd H (by simp)
          · replace c13 := Bool.eq_false_iff.mpr c13
            subst c13
            have H1 : (some (6, 0, 0, 0, 0, 0, ([] : List Int))) = some (r1, r2, r3, r4, r5, r6, r7) := by rw [if_neg (show ¬ (false = true) by decide)] at H; exact H
            clear H
            have H := H1
            clear H1
            simp only [Option.some.injEq, Prod.mk.injEq] at H
            obtain ⟨rfl, rfl, rfl, rfl, rfl, rfl, rfl⟩ := H
            obtain ⟨i045, hi045, _, hsz45, _⟩ := info_parts info5
            obtain ⟨hcut45, hA45, hC45⟩ := print_take_of (P := Tryd.prog) (Value.int .u8) 0 22 5 .i64 Tryd.underlying22 hi045 hsz45 A0 c0 l0 20 (by omega) (of_decide_eq_true (by first | (with_reducible assumption) | assumption)) HC0.out
            have HR343 := am (Kd.C_of_reads (h1 := fun _ => rfl) (hA45 _ (Kd.reads_of_C HR0.out)))
            have HC343 := am hC45
            clear hA45 hC45 hi045 hsz45
            go_wp2_with (first | ((with_reducible refine gate_callee (f := 24) rfl ?_); refine goesL_ (some 24) rfl rfl Tryd.func24 (by kernel_rfl) rfl #[J A0 (l0.take 20).length c0] rfl (by (try simp only [List.map_toArray, List.map_cons, List.map_nil]); first | done | (rw [show (l0.take 20).length = 20 from (by rw [List.length_take]; have h_ : (20 : Int) ≤ (l0.length : Int) := of_decide_eq_true (by first | (with_reducible assumption) | assumption); omega)] <;> rfl) | rfl | (simp only [List.length_drop, List.length_take]; rfl)) ?_; (with_reducible refine (spec_WholeSum.calls kj1 _ _ (l0.take 20) false _ ?side1 ?side2 A12.out).mono ?_); (case side1 => repeat (first | exact (Kd.C_below HR343.out HB.out) | (with_reducible refine ca ?_ _) | (with_reducible refine cN ?_ _) | (with_reducible refine cd1 ?_))); (case side2 => exact HC343.out); rintro e w' ⟨rfl, ⟨nd, rfl⟩⟩; refine ⟨_, rfl, ?_⟩; (try (rw [drewN_self wc]; generalize hq_ : World.drewN wc _ = wc; have N0 : Aside0 (wc.heap[g339]? = some (.cells #[I q 0, I q 0, I q 0, I q 0, I q 0, I q 0, .slice none 0 0] 28 (0, 0))) := ⟨by rw [← hq_]; exact (by (with_reducible repeat (first | apply bN | apply bd | apply ba)); exact B339.out)⟩; have N1 : Aside0 (Below w.heap.size w wc) := ⟨by rw [← hq_]; exact (by repeat (first | (with_reducible first | exact HB.out | apply pa | apply pN | apply p1 | refine bs ?_ E339.out) | exact HB.out))⟩; clear B339 HB hq_; have B339 := N0; have HB := N1; clear N0 N1)); have hcz46_0 : wc.cell? ⟨g339, 0, none⟩ = some (I q 0) := (bc B339.out 0).trans rfl; have hcz46_1 : wc.cell? ⟨g339, 1, none⟩ = some (I q 0) := (bc B339.out 1).trans rfl; have hcz46_2 : wc.cell? ⟨g339, 2, none⟩ = some (I q 0) := (bc B339.out 2).trans rfl; have hcz46_3 : wc.cell? ⟨g339, 3, none⟩ = some (I q 0) := (bc B339.out 3).trans rfl; have hcz46_4 : wc.cell? ⟨g339, 4, none⟩ = some (I q 0) := (bc B339.out 4).trans rfl; have hcz46_5 : wc.cell? ⟨g339, 5, none⟩ = some (I q 0) := (bc B339.out 5).trans rfl; have hcz46_6 : wc.cell? ⟨g339, 6, none⟩ = some (.slice none 0 0) := (bc B339.out 6).trans rfl; have hfz46_0 := bf B339.out 0; have hfz46_1 := bf B339.out 1; have hfz46_2 := bf B339.out 2; have hfz46_3 := bf B339.out 3; have hfz46_4 := bf B339.out 4; have hfz46_5 := bf B339.out 5; have hfz46_6 := bf B339.out 6))
            refine bodyPost_ret (results_cell_row rfl _ _ g339 28 #[I q 6, I q 0, I q 0, I q 0, I q 0, I q 0, .slice none 0 0] (0, 0) _ rfl (by (with_reducible repeat (first | apply bN | apply bd | apply ba)); exact pu7f B339.out) Tryd.underlying28 rfl (by kernel_rfl)) rfl ?_
            exact ⟨_, by first | rfl | (simp [errW_none, errW_some] <;> rfl) | (simp [*, errW_none, errW_some] <;> rfl), by first | exact Kd.R_nil _ _ _ _ _ | exact Kd.N_nil _ _ _ _ _ | exact Kd.V_nil _ _ _ _ _ | exact Kd.Q_nil _ _ _ _ _ | exact Kd.S_nil _ _ _ _ _, by repeat (first | (with_reducible first | exact HB.out | apply pa | apply pN | apply p1 | refine bs ?_ E339.out) | exact HB.out)⟩
        · rw [if_neg c11] at H
          exact absurd H (by simp)

end Go.Proofs.YtgpemjkcpeimdaaDoor.QFnPackets
