-- MADE BY PROGRAM (qprint.py): walks of the functions that the law FnPackets reaches. Lean checks it.
import Derived.Test.YtgpemjkcpeimdaaDoorQFnPacketsx0
import Derived.Test.YtgpemjkcpeimdaaDoorQFnPacketsx1
import Derived.Test.YtgpemjkcpeimdaaDoorQFnPacketsx3
namespace Go.Proofs.YtgpemjkcpeimdaaDoor.QFnPackets
open Go.RowKit Go.Proofs.YtgpemjkcpeimdaaDoorW.PrintWords Go.Proofs.YtgpemjkcpeimdaaDoorW.PrintLast Go.Proofs.YtgpemjkcpeimdaaDoorW.PrintMore
open Go.Proofs.YtgpemjkcpeimdaaDoorW.PrintWords renaming blk_drewN → bN, blk_drew → bd, blk_alloc → ba, blk_cell → bc, blk_frozen → bf, below_set → bs, pw_below_drewN → pN, below_drew1 → p1, below_alloc → pa, blk_below → bb, below_size → bz, below_step → bp, blk_lt → bl, blk_far → bq, add_block → ab
open Go.Proofs.YtgpemjkcpeimdaaDoorW.PrintWords.Kd renaming R_drewN → rN, R_drew → rd1, R_alloc → ra, R_far → rf, R_below → rb, R_new' → rn, R_lt → rl, R_elder' → re, R_lower → rw1, C_alloc → ca, C_drewN → cN, C_drew → cd1, S_alloc → sa, S_drewN → sN, S_drew → sd, S_far → sf, S_mono → sm, S_types → st, S_lt → sl
open Go.Proofs.YtgpemjkcpeimdaaDoorW.PrintWords.Aside0 renaming mk → am
open Go.Value renaming int → I, slice → J
open Go.IntKind renaming i64 → q
attribute [local go_sem] max2_int min2_int max_two min_two max_three min_three max_four min_four   -- for this text's walks alone
set_option linter.unusedVariables false
set_option linter.unusedSimpArgs false
theorem pu7e {W : World} {g t : Nat} {u0 u1 u2 u3 u4 u5 u6 v0 v1 v2 v3 v4 v5 v6 : Value} (h : W.heap[g]? = some (.cells #[u0, u1, u2, u3, u4, u5, u6] t (0, 0))) : (((((((W.setCell ⟨g, 0, none⟩ v0).setCell ⟨g, 1, none⟩ v1).setCell ⟨g, 2, none⟩ v2).setCell ⟨g, 3, none⟩ v3).setCell ⟨g, 4, none⟩ v4).setCell ⟨g, 5, none⟩ v5).setCell ⟨g, 6, none⟩ v6).heap[g]? = some (.cells #[v0, v1, v2, v3, v4, v5, v6] t (0, 0)) := by
  refine blk_put (cs := #[v0, v1, v2, v3, v4, v5, u6]) ?_ 6 _ rfl
  refine blk_put (cs := #[v0, v1, v2, v3, v4, u5, u6]) ?_ 5 _ rfl
  refine blk_put (cs := #[v0, v1, v2, v3, u4, u5, u6]) ?_ 4 _ rfl
  refine blk_put (cs := #[v0, v1, v2, u3, u4, u5, u6]) ?_ 3 _ rfl
  refine blk_put (cs := #[v0, v1, u2, u3, u4, u5, u6]) ?_ 2 _ rfl
  refine blk_put (cs := #[v0, u1, u2, u3, u4, u5, u6]) ?_ 1 _ rfl
  exact blk_put (cs := #[u0, u1, u2, u3, u4, u5, u6]) h 0 _ rfl

/-! ### impl_ParsePacket: function 6 -/
def impl_ParsePacket.j0 : Nat → List Int → Bool → Option (Int × Int × Int × Int × Int × Int × List Int)
  | 0, _, _ => none
  | k + 1, x0, x3 => if x3 = true then (some (5, 0, 0, 0, 0, 0, ([] : List Int))) else (if 20 ≤ (x0.length : Int) then ((impl_WholeSum.f k (x0.take 20)).bind fun t319 => (if t319 = true then (if 6 < (x0.length : Int) then (if (rd x0 6) = 0 then (if 7 < (x0.length : Int) then (if (rd x0 7) = 0 then (if 9 < (x0.length : Int) then ((impl_isProto.f (wrap64 (rd x0 9))).bind fun t323 => (if t323 = true then (if 12 ≤ 16 then (if 16 ≤ (x0.length : Int) then ((impl_number.f k ((x0.take 16).drop 12)).bind fun t325 => (if 16 ≤ 20 then ((impl_number.f k ((x0.take 20).drop 16)).bind fun t327 => (if 20 ≤ 22 then (if 22 ≤ (x0.length : Int) then ((impl_number.f k ((x0.take 22).drop 20)).bind fun t330 => (if 22 ≤ 24 then (if 24 ≤ (x0.length : Int) then ((impl_number.f k ((x0.take 24).drop 22)).bind fun t332 => ((slices_Clone_byte_byte.f (x0.drop 24)).bind fun t334 => (some (0, t325, t327, wrap64 (rd x0 9), t330, t332, t334)))) else (none)) else (none))) else (none)) else (none))) else (none))) else (none)) else (none)) else (some (1, 0, 0, 0, 0, 0, ([] : List Int))))) else (none)) else (some (1, 0, 0, 0, 0, 0, ([] : List Int)))) else (none)) else (some (1, 0, 0, 0, 0, 0, ([] : List Int)))) else (none)) else (some (6, 0, 0, 0, 0, 0, ([] : List Int))))) else (none))
def impl_ParsePacket.f (k : Nat) (l0 : List Int) : Option (Int × Int × Int × Int × Int × Int × List Int) := (impl_size_byte.f l0).bind fun t312 => ((impl_in.f t312 24 224).bind fun t313 => (if t313 = true then (if 0 < (l0.length : Int) then (if (rd l0 0) = 69 then (if 2 ≤ 4 then (if 4 ≤ (l0.length : Int) then ((impl_number.f k ((l0.take 4).drop 2)).bind fun t316 => ((impl_size_byte.f l0).bind fun t317 => (impl_ParsePacket.j0 k l0 (t316 != t317)))) else (none)) else (none)) else (impl_ParsePacket.j0 k l0 true)) else (none)) else (impl_ParsePacket.j0 k l0 true)))
theorem impl_ParsePacket.mono_l : ∀ k, (∀ y0 y1, LeO (impl_ParsePacket.j0 k y0 y1) (impl_ParsePacket.j0 (k + 1) y0 y1))
  | 0 => fun _ _ r h => by simp [impl_ParsePacket.j0] at h
  | k + 1 => by
    have ih0 := impl_ParsePacket.mono_l k
    · intro y0 y1
      unfold impl_ParsePacket.j0
      repeat' first
      | (with_reducible exact ih0 _ _)
      | (with_reducible exact impl_WholeSum.mono _ _)
      | (with_reducible exact impl_number.mono _ _)
      | (with_reducible exact LeO.refl _)
      | (with_reducible exact LeO.none _)
      | (with_reducible refine LeO.ite ?_ ?_)
      | (with_reducible refine LeO.bind ?_ (fun _ => ?_))
      | exact ih0 _ _
      | exact impl_WholeSum.mono _ _
      | exact impl_number.mono _ _
      | exact LeO.none _
      | refine LeO.ite ?_ ?_
      | refine LeO.bind ?_ (fun _ => ?_)
theorem impl_ParsePacket.mono : ∀ a0 k, LeO (impl_ParsePacket.f k a0) (impl_ParsePacket.f (k + 1) a0) := by
  intro a0 k
  have ih0 := impl_ParsePacket.mono_l k
  unfold impl_ParsePacket.f
  repeat' first
      | (with_reducible exact ih0 _ _)
      | (with_reducible exact impl_WholeSum.mono _ _)
      | (with_reducible exact impl_number.mono _ _)
      | (with_reducible exact LeO.refl _)
      | (with_reducible exact LeO.none _)
      | (with_reducible refine LeO.ite ?_ ?_)
      | (with_reducible refine LeO.bind ?_ (fun _ => ?_))
      | exact ih0 _ _
      | exact impl_WholeSum.mono _ _
      | exact impl_number.mono _ _
      | exact LeO.none _
      | refine LeO.ite ?_ ?_
      | refine LeO.bind ?_ (fun _ => ?_)
def impl_ParsePacket.T7 : Bool × List (List Nat × List Nat) := (true, [([], []), ([0], [0]), ([1], [1]), ([], []), ([3], [3]), ([4, 2], [4]), ([], []), ([6], [6]), ([7], [7]), ([8], [8]), ([], []), ([10], [10]), ([11, 5], [11]), ([], []), ([13], [13]), ([14, 12], [14]), ([], []), ([16], [16]), ([17, 15], [17]), ([2, 5, 9, 12, 15, 18], [2, 5, 9, 12, 15, 18]), ([19], [19]), ([20, 18, 0, 1, 2, 3, 4, 5, 6, 7, 8, 9, 10, 11, 12, 13, 14, 15, 16, 17, 18, 19, 20], [20])])
def impl_ParsePacket.B7 : List Nat := [0, 1, 3, 0, 8, 31, 0, 64, 192, 448, 0, 1024, 3135, 0, 8192, 31807, 0, 65536, 261183, 524287, 1048575, 2097151]
theorem impl_ParsePacket.tab7 : rtab .any (opsOf Tryd.f6 7) = impl_ParsePacket.T7 := by kernel_rfl
theorem impl_ParsePacket.bits7 : waitsOk impl_ParsePacket.T7.2 impl_ParsePacket.B7 = true := by kernel_rfl
set_option maxHeartbeats 8000000 in
set_option maxRecDepth 100000 in
theorem impl_ParsePacket.calls (k : Nat) (A0 : Option Addr) (c0 : Nat) (l0 : List Int) (r1 : Int) (r2 : Int) (r3 : Int) (r4 : Int) (r5 : Int) (r6 : Int) (r7 : List Int) (w : World) (hr0 : Kd.C (Kd.int .u8) w A0 l0.length l0) (hc0 : l0.length ≤ c0) (h : impl_ParsePacket.f k l0 = some (r1, r2, r3, r4, r5, r6, r7)) :
    Calls Tryd.prog 6 #[J A0 l0.length c0] w fun e w' => ∃ v6_ : Value, e = .returned (.agg #[I q r1, I q r2, I q r3, I q r4, I q r5, I q r6, v6_]) ∧ Kd.R (Kd.int .u8) 5 w' w.heap.size (fun _ => True) v6_ r7 ∧ Below w.heap.size w w' := by
  have hu28 := Tryd.underlying28
  have hu26 := Tryd.underlying26
  have HR0 := am hr0
  have HC0 := am hc0
  clear hr0 hc0
  have HB := am (Below.refl w.heap.size w)
  have H : ((impl_size_byte.f l0).bind fun t312 => ((impl_in.f t312 24 224).bind fun t313 => (if t313 = true then (if 0 < (l0.length : Int) then (if (rd l0 0) = 69 then (if 2 ≤ 4 then (if 4 ≤ (l0.length : Int) then ((impl_number.f k ((l0.take 4).drop 2)).bind fun t316 => ((impl_size_byte.f l0).bind fun t317 => (impl_ParsePacket.j0 k l0 (t316 != t317)))) else (none)) else (none)) else (impl_ParsePacket.j0 k l0 true)) else (none)) else (impl_ParsePacket.j0 k l0 true)))) = some (r1, r2, r3, r4, r5, r6, r7) := h
  clear h
  have HC2 := am H
  clear H
  go_enter Tryd.func6, Tryd.ntmps6
  go_upto_region 1 with (first | ((with_reducible refine gate_dst (N := 2) rfl ?_); refine box_event ?hg (N := 2) ?hd (cs := #[I q 0, I q 0, I q 0, I q 0, I q 0, I q 0, .slice none 0 0]) (t := 28) ?hr ?_; (case hd => rfl); (case hg => rfl); (case hr => first | (go_simp; done) | (go_simp; rfl)); intro g311 hg w3 hbox hb; have N0 := am (bp (by repeat (first | (with_reducible first | exact HB.out | apply pa | apply pN | apply p1) | exact HB.out)) hb); have N1 := am (hbox); have N2 := am ((by rw [hg]; exact (bz (by repeat (first | (with_reducible first | exact HB.out | apply pa | apply pN | apply p1) | exact HB.out))) : w.heap.size ≤ g311)); have N3 := am ((by rw [hg]; exact (bz (by repeat (first | (with_reducible first | exact HB.out | apply pa | apply pN | apply p1) | exact HB.out))) : w.heap.size ≤ g311)); clear HB; have HB := N0; have B311 := N1; have GW311 := N2; have E311 := N3; clear N0 N1 N2 N3 hb hbox hg))
  (try simp only [Act.put, List.setIfInBounds_toArray, List.set_cons_zero, List.set_cons_succ])
  go_cut [3] (fun v3 wc => ∃ (kq : Nat) (x3_1 : Bool), v3 = .bool x3_1 ∧ Aside0 (impl_ParsePacket.j0 kq l0 x3_1 = some (r1, r2, r3, r4, r5, r6, r7)) ∧ Aside0 (kq ≤ k) ∧ Aside0 (wc.heap[g311]? = some (.cells #[I q 0, I q 0, I q 0, I q 0, I q 0, I q 0, (.slice none 0 0)] 28 (0, 0))) ∧ Aside0 (Below w.heap.size w wc))
  case first =>
    have H := HC2.out
    clear HC2
    replace H := Option.bind_eq_some_iff.mp H
    obtain ⟨t312, A40, H⟩ := H
    replace H : ((impl_in.f t312 24 224).bind fun t313 => (if t313 = true then (if 0 < (l0.length : Int) then (if (rd l0 0) = 69 then (if 2 ≤ 4 then (if 4 ≤ (l0.length : Int) then ((impl_number.f k ((l0.take 4).drop 2)).bind fun t316 => ((impl_size_byte.f l0).bind fun t317 => (impl_ParsePacket.j0 k l0 (t316 != t317)))) else (none)) else (none)) else (impl_ParsePacket.j0 k l0 true)) else (none)) else (impl_ParsePacket.j0 k l0 true))) = some (r1, r2, r3, r4, r5, r6, r7) := H
    have A4 := am A40
    clear A40
    replace H := Option.bind_eq_some_iff.mp H
    obtain ⟨t313, A50, H⟩ := H
    replace H : (if t313 = true then (if 0 < (l0.length : Int) then (if (rd l0 0) = 69 then (if 2 ≤ 4 then (if 4 ≤ (l0.length : Int) then ((impl_number.f k ((l0.take 4).drop 2)).bind fun t316 => ((impl_size_byte.f l0).bind fun t317 => (impl_ParsePacket.j0 k l0 (t316 != t317)))) else (none)) else (none)) else (impl_ParsePacket.j0 k l0 true)) else (none)) else (impl_ParsePacket.j0 k l0 true)) = some (r1, r2, r3, r4, r5, r6, r7) := H
    have A5 := am A50
    clear A50
    by_cases c6 : t313 = true
    · subst c6
      have H1 : (if 0 < (l0.length : Int) then (if (rd l0 0) = 69 then (if 2 ≤ 4 then (if 4 ≤ (l0.length : Int) then ((impl_number.f k ((l0.take 4).drop 2)).bind fun t316 => ((impl_size_byte.f l0).bind fun t317 => (impl_ParsePacket.j0 k l0 (t316 != t317)))) else (none)) else (none)) else (impl_ParsePacket.j0 k l0 true)) else (none)) = some (r1, r2, r3, r4, r5, r6, r7) := by rw [if_pos rfl] at H; exact H
      clear H
      have H := H1
      clear H1
      by_cases c7 : 0 < (l0.length : Int)
      · rw [if_pos c7] at H
        have c7b0 : decide (0 < (l0.length : Int)) = true := decide_eq_true c7
        have c7b1 : decide (0 < l0.length) = true := decide_eq_true (by omega)
        clear c7
        (first | rw [c7b0] | (simp only [i64_w, i32_w]; rw [c7b0]) | skip)
        by_cases c8 : (rd l0 0) = 69
        · rw [if_pos c8] at H
          have c8b0 : ((rd l0 0) == 69) = true := beq_iff_eq.mpr c8
          have c8b1 : ((rd l0 0) != 69) = false := bne_eq_false_iff_eq.mpr c8
          clear c8
          by_cases c9 : 2 ≤ 4
          · rw [if_pos c9] at H
            have c9b0 := eq_true c9
            have c9b1 : decide (2 ≤ 4) = true := decide_eq_true c9
            clear c9
            by_cases c10 : 4 ≤ (l0.length : Int)
            · rw [if_pos c10] at H
              have c10b0 := eq_true c10
              have c10b1 : decide (4 ≤ (l0.length : Int)) = true := decide_eq_true c10
              clear c10
              replace H := Option.bind_eq_some_iff.mp H
              obtain ⟨t316, A110, H⟩ := H
              replace H : ((impl_size_byte.f l0).bind fun t317 => (impl_ParsePacket.j0 k l0 (t316 != t317))) = some (r1, r2, r3, r4, r5, r6, r7) := H
              have A11 := am A110
              clear A110
              replace H := Option.bind_eq_some_iff.mp H
              obtain ⟨t317, A120, H⟩ := H
              replace H : (impl_ParsePacket.j0 k l0 (t316 != t317)) = some (r1, r2, r3, r4, r5, r6, r7) := H
              have A12 := am A120
              clear A120
              have H' := am H
              clear H
              go_wp2_with (first | ((with_reducible refine gate_callee (f := 18) rfl ?_); refine goesL_ (some 5) rfl rfl Tryd.func18 (by kernel_rfl) rfl #[J A0 l0.length c0] rfl (by (try simp only [List.map_toArray, List.map_cons, List.map_nil]); first | done | rfl) ?_; (with_reducible refine (impl_size_byte.calls _ _ l0 t312 _ ?side1 ?side2 A4.out).mono ?_); (case side1 => repeat (first | exact (Kd.C_below HR0.out HB.out) | (with_reducible refine ca ?_ _) | (with_reducible refine cN ?_ _) | (with_reducible refine cd1 ?_))); (case side2 => exact HC0.out); rintro e w' ⟨rfl, ⟨nd, rfl⟩⟩; refine ⟨_, rfl, ?_⟩) | ((with_reducible refine gate_callee (f := 17) rfl ?_); refine goesL_ (some 6) rfl rfl Tryd.func17 (by kernel_rfl) rfl #[I q t312, I q 24, I q 224] rfl (by (try simp only [List.map_toArray, List.map_cons, List.map_nil]); first | done | rfl) ?_; (with_reducible refine (impl_in.calls t312 24 224 true _ A5.out).mono ?_); rintro e w' ⟨rfl, ⟨nd, rfl⟩⟩; refine ⟨_, rfl, ?_⟩; have p314 : 0 ≤ (0 : Int) := (by omega); have q314 : 0 < (l0.length : Int) := of_decide_eq_true (by first | (with_reducible assumption) | assumption); obtain ⟨ad314, e314, hx314_0⟩ := Kd.at_int HR0.out 0 p314 q314; cases e314; have qi314 : (0 < l0.length) = True := eq_true (by omega); (try rw [show ((0 : Int)).toNat = 0 from rfl] at hx314_0); (try rw [Addr.add_zero'] at hx314_0); replace hx314_0 := (HB.out.cell (World.block_lt_of_cell? w _ hx314_0)).trans hx314_0; replace p314 := eq_true p314; replace q314 := eq_true q314; obtain ⟨i013, hi013, _, hsz13, _⟩ := info_parts info5; obtain ⟨A13, hcut13, hA13, hC13⟩ := print_mid_of (P := Tryd.prog) (Value.int .u8) 0 22 5 .i64 .i64 Tryd.underlying22 hi013 hsz13 (some ad314) c0 l0 2 4 (by omega) (by first | omega | exact of_decide_eq_true (by first | (with_reducible assumption) | assumption)) (of_decide_eq_true (by first | (with_reducible assumption) | assumption)) HC0.out; have HR315 := am (Kd.C_of_reads (h1 := fun _ => rfl) (hA13 _ (Kd.reads_of_C HR0.out))); have HC315 := am hC13; clear hA13 hC13 hi013 hsz13) | (go_at_call 19; (try refine (congrArg (fun z_ => Calls _ 19 #[.slice _ z_ _] _ _) (show _ = (((l0.take 4).drop 2)).length by simp only [List.length_drop, List.length_take])).mpr ?_); (with_reducible refine (impl_number.calls k _ _ ((l0.take 4).drop 2) t316 _ ?side1 ?side2 A11.out).mono ?_); (case side1 => repeat (first | exact (Kd.C_below HR315.out (by repeat (first | (with_reducible first | exact HB.out | apply pa | apply pN | apply p1 | refine bs ?_ E311.out) | exact HB.out))) | (with_reducible refine ca ?_ _) | (with_reducible refine cN ?_ _) | (with_reducible refine cd1 ?_))); (case side2 => exact HC315.out); rintro e w' ⟨rfl, ⟨nd, rfl⟩⟩) | (go_at_call 18; (with_reducible refine (impl_size_byte.calls _ _ l0 t317 _ ?side1 ?side2 A12.out).mono ?_); (case side1 => repeat (first | exact (Kd.C_below HR0.out (by repeat (first | (with_reducible first | exact HB.out | apply pa | apply pN | apply p1 | refine bs ?_ E311.out) | exact HB.out))) | (with_reducible refine ca ?_ _) | (with_reducible refine cN ?_ _) | (with_reducible refine cd1 ?_))); (case side2 => exact HC0.out); rintro e w' ⟨rfl, ⟨nd, rfl⟩⟩))
              go_meet
              case rel => exact ⟨_, ((t316 != t317)), (by first | rfl | (simp; done) | (simp [*]; done)), H', ⟨by first | omega | exact Nat.le_refl _⟩, ⟨by (with_reducible repeat (first | apply bN | apply bd | apply ba)); exact B311.out⟩, ⟨by repeat (first | (with_reducible first | exact HB.out | apply pa | apply pN | apply p1 | refine bs ?_ E311.out) | exact HB.out)⟩⟩
            · rw [if_neg c10] at H
              exact absurd H (by simp)
          · rw [if_neg c9] at H
            exact absurd H (by simp)
        · rw [if_neg c8] at H
          have c8b0 : ((rd l0 0) == 69) = false := beq_eq_false_iff_ne.mpr c8
          have c8b1 : ((rd l0 0) != 69) = true := bne_iff_ne.mpr c8
          have H' := am H
          clear H
          go_wp2_with (first | ((with_reducible refine gate_callee (f := 18) rfl ?_); refine goesL_ (some 5) rfl rfl Tryd.func18 (by kernel_rfl) rfl #[J A0 l0.length c0] rfl (by (try simp only [List.map_toArray, List.map_cons, List.map_nil]); first | done | rfl) ?_; (with_reducible refine (impl_size_byte.calls _ _ l0 t312 _ ?side1 ?side2 A4.out).mono ?_); (case side1 => repeat (first | exact (Kd.C_below HR0.out HB.out) | (with_reducible refine ca ?_ _) | (with_reducible refine cN ?_ _) | (with_reducible refine cd1 ?_))); (case side2 => exact HC0.out); rintro e w' ⟨rfl, ⟨nd, rfl⟩⟩; refine ⟨_, rfl, ?_⟩) | ((with_reducible refine gate_callee (f := 17) rfl ?_); refine goesL_ (some 6) rfl rfl Tryd.func17 (by kernel_rfl) rfl #[I q t312, I q 24, I q 224] rfl (by (try simp only [List.map_toArray, List.map_cons, List.map_nil]); first | done | rfl) ?_; (with_reducible refine (impl_in.calls t312 24 224 true _ A5.out).mono ?_); rintro e w' ⟨rfl, ⟨nd, rfl⟩⟩; refine ⟨_, rfl, ?_⟩; have p314 : 0 ≤ (0 : Int) := (by omega); have q314 : 0 < (l0.length : Int) := of_decide_eq_true (by first | (with_reducible assumption) | assumption); obtain ⟨ad314, e314, hx314_0⟩ := Kd.at_int HR0.out 0 p314 q314; cases e314; have qi314 : (0 < l0.length) = True := eq_true (by omega); (try rw [show ((0 : Int)).toNat = 0 from rfl] at hx314_0); (try rw [Addr.add_zero'] at hx314_0); replace hx314_0 := (HB.out.cell (World.block_lt_of_cell? w _ hx314_0)).trans hx314_0; replace p314 := eq_true p314; replace q314 := eq_true q314))
          go_meet
          case rel => exact ⟨_, (true), (by first | rfl | (simp; done) | (simp [*]; done)), H', ⟨by first | omega | exact Nat.le_refl _⟩, ⟨by (with_reducible repeat (first | apply bN | apply bd | apply ba)); exact B311.out⟩, ⟨by repeat (first | (with_reducible first | exact HB.out | apply pa | apply pN | apply p1 | refine bs ?_ E311.out) | exact HB.out)⟩⟩
      · rw [if_neg c7] at H
        exact absurd H (by simp)
    · replace c6 := Bool.eq_false_iff.mpr c6
      subst c6
      have H1 : (impl_ParsePacket.j0 k l0 true) = some (r1, r2, r3, r4, r5, r6, r7) := by rw [if_neg (show ¬ (false = true) by decide)] at H; exact H
      clear H
      have H := H1
      clear H1
      have H' := am H
      clear H
      go_wp2_with (first | ((with_reducible refine gate_callee (f := 18) rfl ?_); refine goesL_ (some 5) rfl rfl Tryd.func18 (by kernel_rfl) rfl #[J A0 l0.length c0] rfl (by (try simp only [List.map_toArray, List.map_cons, List.map_nil]); first | done | rfl) ?_; (with_reducible refine (impl_size_byte.calls _ _ l0 t312 _ ?side1 ?side2 A4.out).mono ?_); (case side1 => repeat (first | exact (Kd.C_below HR0.out HB.out) | (with_reducible refine ca ?_ _) | (with_reducible refine cN ?_ _) | (with_reducible refine cd1 ?_))); (case side2 => exact HC0.out); rintro e w' ⟨rfl, ⟨nd, rfl⟩⟩; refine ⟨_, rfl, ?_⟩) | ((with_reducible refine gate_callee (f := 17) rfl ?_); refine goesL_ (some 6) rfl rfl Tryd.func17 (by kernel_rfl) rfl #[I q t312, I q 24, I q 224] rfl (by (try simp only [List.map_toArray, List.map_cons, List.map_nil]); first | done | rfl) ?_; (with_reducible refine (impl_in.calls t312 24 224 false _ A5.out).mono ?_); rintro e w' ⟨rfl, ⟨nd, rfl⟩⟩; refine ⟨_, rfl, ?_⟩))
      go_meet
      case rel => exact ⟨_, (true), (by first | rfl | (simp; done) | (simp [*]; done)), H', ⟨by first | omega | exact Nat.le_refl _⟩, ⟨by (with_reducible repeat (first | apply bN | apply bd | apply ba)); exact B311.out⟩, ⟨by repeat (first | (with_reducible first | exact HB.out | apply pa | apply pN | apply p1 | refine bs ?_ E311.out) | exact HB.out)⟩⟩
  case rest =>
    clear HC2
    try clear c1
    try clear p2
    try clear p3
    try clear q3
    try clear hx3
    try clear qi3
    try clear c6
    try clear c7
    try clear c7b0
    try clear c7b1
    try clear c8
    try clear c8b0
    try clear c8b1
    try clear c9
    try clear c9b0
    try clear c9b1
    try clear c10
    try clear c10b0
    try clear c10b1
    try clear hx314_0
    try clear p314
    try clear q314
    obtain ⟨kq, x3_1, rfl, HA, HJ1, B311, HB⟩ := hcut
    cases kq with
    | zero => exact absurd HA.out (by simp [impl_ParsePacket.j0])
    | succ kj1 =>
      have H := HA.out
      clear HA
      simp only [impl_ParsePacket.j0] at H
      by_cases c14 : x3_1 = true
      · subst c14
        have H1 : (some (5, 0, 0, 0, 0, 0, ([] : List Int))) = some (r1, r2, r3, r4, r5, r6, r7) := by rw [if_pos rfl] at H; exact H
        clear H
        have H := H1
        clear H1
        simp only [Option.some.injEq, Prod.mk.injEq] at H
        obtain ⟨rfl, rfl, rfl, rfl, rfl, rfl, rfl⟩ := H
        have hcz15_0 : wc.cell? ⟨g311, 0, none⟩ = some (I q 0) := (bc B311.out 0).trans rfl
        have hcz15_1 : wc.cell? ⟨g311, 1, none⟩ = some (I q 0) := (bc B311.out 1).trans rfl
        have hcz15_2 : wc.cell? ⟨g311, 2, none⟩ = some (I q 0) := (bc B311.out 2).trans rfl
        have hcz15_3 : wc.cell? ⟨g311, 3, none⟩ = some (I q 0) := (bc B311.out 3).trans rfl
        have hcz15_4 : wc.cell? ⟨g311, 4, none⟩ = some (I q 0) := (bc B311.out 4).trans rfl
        have hcz15_5 : wc.cell? ⟨g311, 5, none⟩ = some (I q 0) := (bc B311.out 5).trans rfl
        have hcz15_6 : wc.cell? ⟨g311, 6, none⟩ = some (.slice none 0 0) := (bc B311.out 6).trans rfl
        have hfz15_0 := bf B311.out 0
        have hfz15_1 := bf B311.out 1
        have hfz15_2 := bf B311.out 2
        have hfz15_3 := bf B311.out 3
        have hfz15_4 := bf B311.out 4
        have hfz15_5 := bf B311.out 5
        have hfz15_6 := bf B311.out 6
        go_wp2
        refine bodyPost_ret (results_cell_row rfl _ _ g311 28 #[I q 5, I q 0, I q 0, I q 0, I q 0, I q 0, .slice none 0 0] (0, 0) _ rfl (by (with_reducible repeat (first | apply bN | apply bd | apply ba)); exact pu7e B311.out) Tryd.underlying28 rfl (by kernel_rfl)) rfl ?_
        exact ⟨_, by first | rfl | (simp [errW_none, errW_some] <;> rfl) | (simp [*, errW_none, errW_some] <;> rfl), by first | exact Kd.R_nil _ _ _ _ _ | exact Kd.N_nil _ _ _ _ _ | exact Kd.V_nil _ _ _ _ _ | exact Kd.Q_nil _ _ _ _ _ | exact Kd.S_nil _ _ _ _ _, by repeat (first | (with_reducible first | exact HB.out | apply pa | apply pN | apply p1 | refine bs ?_ E311.out) | exact HB.out)⟩
      · replace c14 := Bool.eq_false_iff.mpr c14
        subst c14
        have H1 : (if 20 ≤ (l0.length : Int) then ((impl_WholeSum.f kj1 (l0.take 20)).bind fun t319 => (if t319 = true then (if 6 < (l0.length : Int) then (if (rd l0 6) = 0 then (if 7 < (l0.length : Int) then (if (rd l0 7) = 0 then (if 9 < (l0.length : Int) then ((impl_isProto.f (wrap64 (rd l0 9))).bind fun t323 => (if t323 = true then (if 12 ≤ 16 then (if 16 ≤ (l0.length : Int) then ((impl_number.f kj1 ((l0.take 16).drop 12)).bind fun t325 => (if 16 ≤ 20 then ((impl_number.f kj1 ((l0.take 20).drop 16)).bind fun t327 => (if 20 ≤ 22 then (if 22 ≤ (l0.length : Int) then ((impl_number.f kj1 ((l0.take 22).drop 20)).bind fun t330 => (if 22 ≤ 24 then (if 24 ≤ (l0.length : Int) then ((impl_number.f kj1 ((l0.take 24).drop 22)).bind fun t332 => ((slices_Clone_byte_byte.f (l0.drop 24)).bind fun t334 => (some (0, t325, t327, wrap64 (rd l0 9), t330, t332, t334)))) else (none)) else (none))) else (none)) else (none))) else (none))) else (none)) else (none)) else (some (1, 0, 0, 0, 0, 0, ([] : List Int))))) else (none)) else (some (1, 0, 0, 0, 0, 0, ([] : List Int)))) else (none)) else (some (1, 0, 0, 0, 0, 0, ([] : List Int)))) else (none)) else (some (6, 0, 0, 0, 0, 0, ([] : List Int))))) else (none)) = some (r1, r2, r3, r4, r5, r6, r7) := by rw [if_neg (show ¬ (false = true) by decide)] at H; exact H
        clear H
        have H := H1
        clear H1
        by_cases c16 : 20 ≤ (l0.length : Int)
        · rw [if_pos c16] at H
          have c16b0 := eq_true c16
          have c16b1 : decide (20 ≤ (l0.length : Int)) = true := decide_eq_true c16
          clear c16
          replace H := Option.bind_eq_some_iff.mp H
          obtain ⟨t319, A170, H⟩ := H
          replace H : (if t319 = true then (if 6 < (l0.length : Int) then (if (rd l0 6) = 0 then (if 7 < (l0.length : Int) then (if (rd l0 7) = 0 then (if 9 < (l0.length : Int) then ((impl_isProto.f (wrap64 (rd l0 9))).bind fun t323 => (if t323 = true then (if 12 ≤ 16 then (if 16 ≤ (l0.length : Int) then ((impl_number.f kj1 ((l0.take 16).drop 12)).bind fun t325 => (if 16 ≤ 20 then ((impl_number.f kj1 ((l0.take 20).drop 16)).bind fun t327 => (if 20 ≤ 22 then (if 22 ≤ (l0.length : Int) then ((impl_number.f kj1 ((l0.take 22).drop 20)).bind fun t330 => (if 22 ≤ 24 then (if 24 ≤ (l0.length : Int) then ((impl_number.f kj1 ((l0.take 24).drop 22)).bind fun t332 => ((slices_Clone_byte_byte.f (l0.drop 24)).bind fun t334 => (some (0, t325, t327, wrap64 (rd l0 9), t330, t332, t334)))) else (none)) else (none))) else (none)) else (none))) else (none))) else (none)) else (none)) else (some (1, 0, 0, 0, 0, 0, ([] : List Int))))) else (none)) else (some (1, 0, 0, 0, 0, 0, ([] : List Int)))) else (none)) else (some (1, 0, 0, 0, 0, 0, ([] : List Int)))) else (none)) else (some (6, 0, 0, 0, 0, 0, ([] : List Int)))) = some (r1, r2, r3, r4, r5, r6, r7) := H
          have A17 := am A170
          clear A170
          by_cases c18 : t319 = true
          · subst c18
            have H1 : (if 6 < (l0.length : Int) then (if (rd l0 6) = 0 then (if 7 < (l0.length : Int) then (if (rd l0 7) = 0 then (if 9 < (l0.length : Int) then ((impl_isProto.f (wrap64 (rd l0 9))).bind fun t323 => (if t323 = true then (if 12 ≤ 16 then (if 16 ≤ (l0.length : Int) then ((impl_number.f kj1 ((l0.take 16).drop 12)).bind fun t325 => (if 16 ≤ 20 then ((impl_number.f kj1 ((l0.take 20).drop 16)).bind fun t327 => (if 20 ≤ 22 then (if 22 ≤ (l0.length : Int) then ((impl_number.f kj1 ((l0.take 22).drop 20)).bind fun t330 => (if 22 ≤ 24 then (if 24 ≤ (l0.length : Int) then ((impl_number.f kj1 ((l0.take 24).drop 22)).bind fun t332 => ((slices_Clone_byte_byte.f (l0.drop 24)).bind fun t334 => (some (0, t325, t327, wrap64 (rd l0 9), t330, t332, t334)))) else (none)) else (none))) else (none)) else (none))) else (none))) else (none)) else (none)) else (some (1, 0, 0, 0, 0, 0, ([] : List Int))))) else (none)) else (some (1, 0, 0, 0, 0, 0, ([] : List Int)))) else (none)) else (some (1, 0, 0, 0, 0, 0, ([] : List Int)))) else (none)) = some (r1, r2, r3, r4, r5, r6, r7) := by rw [if_pos rfl] at H; exact H
            clear H
            have H := H1
            clear H1
            by_cases c19 : 6 < (l0.length : Int)
            · rw [if_pos c19] at H
              have c19b0 : decide (6 < (l0.length : Int)) = true := decide_eq_true c19
              have c19b1 : decide (6 < l0.length) = true := decide_eq_true (by omega)
              clear c19
              by_cases c20 : (rd l0 6) = 0
              · rw [if_pos c20] at H
                have c20b0 : ((rd l0 6) == 0) = true := beq_iff_eq.mpr c20
                have c20b1 : ((rd l0 6) != 0) = false := bne_eq_false_iff_eq.mpr c20
                clear c20
                by_cases c21 : 7 < (l0.length : Int)
                · rw [if_pos c21] at H
                  have c21b0 : decide (7 < (l0.length : Int)) = true := decide_eq_true c21
                  have c21b1 : decide (7 < l0.length) = true := decide_eq_true (by omega)
                  clear c21
                  by_cases c22 : (rd l0 7) = 0
                  · rw [if_pos c22] at H
                    have c22b0 : ((rd l0 7) == 0) = true := beq_iff_eq.mpr c22
                    have c22b1 : ((rd l0 7) != 0) = false := bne_eq_false_iff_eq.mpr c22
                    clear c22
                    by_cases c23 : 9 < (l0.length : Int)
                    · rw [if_pos c23] at H
                      have c23b0 : decide (9 < (l0.length : Int)) = true := decide_eq_true c23
                      have c23b1 : decide (9 < l0.length) = true := decide_eq_true (by omega)
                      clear c23
                      replace H := Option.bind_eq_some_iff.mp H
                      obtain ⟨t323, A240, H⟩ := H
                      replace H : (if t323 = true then (if 12 ≤ 16 then (if 16 ≤ (l0.length : Int) then ((impl_number.f kj1 ((l0.take 16).drop 12)).bind fun t325 => (if 16 ≤ 20 then ((impl_number.f kj1 ((l0.take 20).drop 16)).bind fun t327 => (if 20 ≤ 22 then (if 22 ≤ (l0.length : Int) then ((impl_number.f kj1 ((l0.take 22).drop 20)).bind fun t330 => (if 22 ≤ 24 then (if 24 ≤ (l0.length : Int) then ((impl_number.f kj1 ((l0.take 24).drop 22)).bind fun t332 => ((slices_Clone_byte_byte.f (l0.drop 24)).bind fun t334 => (some (0, t325, t327, wrap64 (rd l0 9), t330, t332, t334)))) else (none)) else (none))) else (none)) else (none))) else (none))) else (none)) else (none)) else (some (1, 0, 0, 0, 0, 0, ([] : List Int)))) = some (r1, r2, r3, r4, r5, r6, r7) := H
                      have A24 := am A240
                      clear A240
                      by_cases c25 : t323 = true
                      · subst c25
                        have H1 : (if 12 ≤ 16 then (if 16 ≤ (l0.length : Int) then ((impl_number.f kj1 ((l0.take 16).drop 12)).bind fun t325 => (if 16 ≤ 20 then ((impl_number.f kj1 ((l0.take 20).drop 16)).bind fun t327 => (if 20 ≤ 22 then (if 22 ≤ (l0.length : Int) then ((impl_number.f kj1 ((l0.take 22).drop 20)).bind fun t330 => (if 22 ≤ 24 then (if 24 ≤ (l0.length : Int) then ((impl_number.f kj1 ((l0.take 24).drop 22)).bind fun t332 => ((slices_Clone_byte_byte.f (l0.drop 24)).bind fun t334 => (some (0, t325, t327, wrap64 (rd l0 9), t330, t332, t334)))) else (none)) else (none))) else (none)) else (none))) else (none))) else (none)) else (none)) = some (r1, r2, r3, r4, r5, r6, r7) := by rw [if_pos rfl] at H; exact H
                        clear H
                        have H := H1
                        clear H1
                        by_cases c26 : 12 ≤ 16
                        · rw [if_pos c26] at H
                          have c26b0 := eq_true c26
                          have c26b1 : decide (12 ≤ 16) = true := decide_eq_true c26
                          clear c26
                          by_cases c27 : 16 ≤ (l0.length : Int)
                          · rw [if_pos c27] at H
                            have c27b0 := eq_true c27
                            have c27b1 : decide (16 ≤ (l0.length : Int)) = true := decide_eq_true c27
                            clear c27
                            replace H := Option.bind_eq_some_iff.mp H
                            obtain ⟨t325, A280, H⟩ := H
                            replace H : (if 16 ≤ 20 then ((impl_number.f kj1 ((l0.take 20).drop 16)).bind fun t327 => (if 20 ≤ 22 then (if 22 ≤ (l0.length : Int) then ((impl_number.f kj1 ((l0.take 22).drop 20)).bind fun t330 => (if 22 ≤ 24 then (if 24 ≤ (l0.length : Int) then ((impl_number.f kj1 ((l0.take 24).drop 22)).bind fun t332 => ((slices_Clone_byte_byte.f (l0.drop 24)).bind fun t334 => (some (0, t325, t327, wrap64 (rd l0 9), t330, t332, t334)))) else (none)) else (none))) else (none)) else (none))) else (none)) = some (r1, r2, r3, r4, r5, r6, r7) := H
                            have A28 := am A280
                            clear A280
                            by_cases c29 : 16 ≤ 20
                            · rw [if_pos c29] at H
                              have c29b0 := eq_true c29
                              have c29b1 : decide (16 ≤ 20) = true := decide_eq_true c29
                              clear c29
                              have c30b0 := eq_true (of_decide_eq_true (by first | (with_reducible assumption) | assumption) : 20 ≤ (l0.length : Int))
                              replace H := Option.bind_eq_some_iff.mp H
                              obtain ⟨t327, A310, H⟩ := H
                              replace H : (if 20 ≤ 22 then (if 22 ≤ (l0.length : Int) then ((impl_number.f kj1 ((l0.take 22).drop 20)).bind fun t330 => (if 22 ≤ 24 then (if 24 ≤ (l0.length : Int) then ((impl_number.f kj1 ((l0.take 24).drop 22)).bind fun t332 => ((slices_Clone_byte_byte.f (l0.drop 24)).bind fun t334 => (some (0, t325, t327, wrap64 (rd l0 9), t330, t332, t334)))) else (none)) else (none))) else (none)) else (none)) = some (r1, r2, r3, r4, r5, r6, r7) := H
                              have A31 := am A310
                              clear A310
                              by_cases c32 : 20 ≤ 22
                              · rw [if_pos c32] at H
                                have c32b0 := eq_true c32
                                have c32b1 : decide (20 ≤ 22) = true := decide_eq_true c32
                                clear c32
                                by_cases c33 : 22 ≤ (l0.length : Int)
                                · rw [if_pos c33] at H
                                  have c33b0 := eq_true c33
                                  have c33b1 : decide (22 ≤ (l0.length : Int)) = true := decide_eq_true c33
                                  clear c33
                                  replace H := Option.bind_eq_some_iff.mp H
                                  obtain ⟨t330, A340, H⟩ := H
                                  replace H : (if 22 ≤ 24 then (if 24 ≤ (l0.length : Int) then ((impl_number.f kj1 ((l0.take 24).drop 22)).bind fun t332 => ((slices_Clone_byte_byte.f (l0.drop 24)).bind fun t334 => (some (0, t325, t327, wrap64 (rd l0 9), t330, t332, t334)))) else (none)) else (none)) = some (r1, r2, r3, r4, r5, r6, r7) := H
                                  have A34 := am A340
                                  clear A340
                                  by_cases c35 : 22 ≤ 24
                                  · rw [if_pos c35] at H
                                    have c35b0 := eq_true c35
                                    have c35b1 : decide (22 ≤ 24) = true := decide_eq_true c35
                                    clear c35
                                    by_cases c36 : 24 ≤ (l0.length : Int)
                                    · rw [if_pos c36] at H
                                      have c36b0 := eq_true c36
                                      have c36b1 : decide (24 ≤ (l0.length : Int)) = true := decide_eq_true c36
                                      clear c36
                                      replace H := Option.bind_eq_some_iff.mp H
                                      obtain ⟨t332, A370, H⟩ := H
                                      replace H : ((slices_Clone_byte_byte.f (l0.drop 24)).bind fun t334 => (some (0, t325, t327, wrap64 (rd l0 9), t330, t332, t334))) = some (r1, r2, r3, r4, r5, r6, r7) := H
                                      have A37 := am A370
                                      clear A370
                                      have c38b0 := eq_true (of_decide_eq_true (by first | (with_reducible assumption) | assumption) : 24 ≤ (l0.length : Int))
                                      replace H := Option.bind_eq_some_iff.mp H
                                      obtain ⟨t334, A390, H⟩ := H
                                      replace H : (some (0, t325, t327, wrap64 (rd l0 9), t330, t332, t334)) = some (r1, r2, r3, r4, r5, r6, r7) := H
                                      have A39 := am A390
                                      clear A390
                                      simp only [Option.some.injEq, Prod.mk.injEq] at H
                                      obtain ⟨rfl, rfl, rfl, rfl, rfl, rfl, rfl⟩ := H
                                      obtain ⟨i040, hi040, _, hsz40, _⟩ := info_parts info5
                                      obtain ⟨hcut40, hA40, hC40⟩ := print_take_of (P := Tryd.prog) (Value.int .u8) 0 22 5 .i64 Tryd.underlying22 hi040 hsz40 A0 c0 l0 20 (by omega) (of_decide_eq_true (by first | (with_reducible assumption) | assumption)) HC0.out
                                      have HR318 := am (Kd.C_of_reads (h1 := fun _ => rfl) (hA40 _ (Kd.reads_of_C HR0.out)))
                                      have HC318 := am hC40
                                      clear hA40 hC40 hi040 hsz40
                                      try go_wp2_with (first | ((with_reducible refine gate_callee (f := 13) rfl ?_); refine goesL_ (some 26) rfl rfl Tryd.func13 (by kernel_rfl) rfl #[J A0 (l0.take 20).length c0] rfl (by (try simp only [List.map_toArray, List.map_cons, List.map_nil]); first | done | (rw [show (l0.take 20).length = 20 from (by rw [List.length_take]; have h_ : (20 : Int) ≤ (l0.length : Int) := of_decide_eq_true (by first | (with_reducible assumption) | assumption); omega)] <;> rfl) | rfl | (simp only [List.length_drop, List.length_take]; rfl)) ?_; (with_reducible refine (impl_WholeSum.calls kj1 _ _ (l0.take 20) true _ ?side1 ?side2 A17.out).mono ?_); (case side1 => repeat (first | exact (Kd.C_below HR318.out HB.out) | (with_reducible refine ca ?_ _) | (with_reducible refine cN ?_ _) | (with_reducible refine cd1 ?_))); (case side2 => exact HC318.out); rintro e w41 ⟨rfl, hb⟩; refine ⟨_, rfl, ?_⟩; have N0 := am (bb (g := g311) (by (with_reducible repeat (first | apply bN | apply bd | apply ba)); exact B311.out) hb); have N1 := am (bp (by repeat (first | (with_reducible first | exact HB.out | apply pa | apply pN | apply p1 | refine bs ?_ E311.out) | exact HB.out)) hb); clear B311 HB; have B311 := N0; have HB := N1; clear N0 N1; (try clear hb); (try clear hb2); (try clear hk); (try clear hi); have p320 : 0 ≤ (6 : Int) := (by omega); have q320 : 6 < (l0.length : Int) := of_decide_eq_true (by first | (with_reducible assumption) | assumption); obtain ⟨ad320, e320, hx320_0⟩ := Kd.at_int HR0.out 6 p320 q320; cases e320; (try simp only [show (6 : Int).toNat = 6 from rfl, Nat.reduceMul, Nat.reduceEqDiff, Go.Addr.add, ↓reduceIte] at hx320_0); have qi320 : (6 < l0.length) = True := eq_true (by omega); (try rw [show ((6 : Int)).toNat = 6 from rfl] at hx320_0); replace hx320_0 := (HB.out.cell (World.block_lt_of_cell? w _ hx320_0)).trans hx320_0; replace p320 := eq_true p320; replace q320 := eq_true q320; have p321 : 0 ≤ (7 : Int) := (by omega); have q321 : 7 < (l0.length : Int) := of_decide_eq_true (by first | (with_reducible assumption) | assumption); obtain ⟨ad321, e321, hx321_0⟩ := Kd.at_int HR0.out 7 p321 q321; obtain rfl : ad320 = ad321 := (by injection e321); (try simp only [show (7 : Int).toNat = 7 from rfl, Nat.reduceMul, Nat.reduceEqDiff, Go.Addr.add, ↓reduceIte] at hx321_0); have qi321 : (7 < l0.length) = True := eq_true (by omega); (try rw [show ((7 : Int)).toNat = 7 from rfl] at hx321_0); replace hx321_0 := (HB.out.cell (World.block_lt_of_cell? w _ hx321_0)).trans hx321_0; replace p321 := eq_true p321; replace q321 := eq_true q321; have p322 : 0 ≤ (9 : Int) := (by omega); have q322 : 9 < (l0.length : Int) := of_decide_eq_true (by first | (with_reducible assumption) | assumption); obtain ⟨ad322, e322, hx322_0⟩ := Kd.at_int HR0.out 9 p322 q322; obtain rfl : ad320 = ad322 := (by injection e322); (try simp only [show (9 : Int).toNat = 9 from rfl, Nat.reduceMul, Nat.reduceEqDiff, Go.Addr.add, ↓reduceIte] at hx322_0); have qi322 : (9 < l0.length) = True := eq_true (by omega); (try rw [show ((9 : Int)).toNat = 9 from rfl] at hx322_0); replace hx322_0 := (HB.out.cell (World.block_lt_of_cell? w _ hx322_0)).trans hx322_0; replace p322 := eq_true p322; replace q322 := eq_true q322) | (go_at_call 20; (with_reducible refine (impl_isProto.calls (wrap64 (rd l0 9)) true _ A24.out).mono ?_); rintro e w' ⟨rfl, ⟨nd, rfl⟩⟩; (try (rw [drewN_self w41]; generalize hq_ : World.drewN w41 _ = w41; have N0 : Aside0 (w41.heap[g311]? = some (.cells #[I q 0, I q 0, I q 0, I q 0, I q 0, I q 0, .slice none 0 0] 28 (0, 0))) := ⟨by rw [← hq_]; exact (by (with_reducible repeat (first | apply bN | apply bd | apply ba)); exact B311.out)⟩; have N1 : Aside0 (Below w.heap.size w w41) := ⟨by rw [← hq_]; exact (by repeat (first | (with_reducible first | exact HB.out | apply pa | apply pN | apply p1 | refine bs ?_ E311.out) | exact HB.out))⟩; clear B311 HB hq_; have B311 := N0; have HB := N1; clear N0 N1))))
                                      have N0 := am (bd B311.out)
                                      have N1 := am (p1 HB.out)
                                      clear B311
                                      clear HB
                                      have B311 := N0
                                      have HB := N1
                                      clear N0 N1
                                      obtain ⟨i043, hi043, _, hsz43, _⟩ := info_parts info5
                                      obtain ⟨A43, hcut43, hA43, hC43⟩ := print_mid_of (P := Tryd.prog) (Value.int .u8) 0 22 5 .i64 .i64 Tryd.underlying22 hi043 hsz43 (some ad320) c0 l0 12 16 (by omega) (by first | omega | exact of_decide_eq_true (by first | (with_reducible assumption) | assumption)) (of_decide_eq_true (by first | (with_reducible assumption) | assumption)) HC0.out
                                      have HR324 := am (Kd.C_of_reads (h1 := fun _ => rfl) (hA43 _ (Kd.reads_of_C HR0.out)))
                                      have HC324 := am hC43
                                      clear hA43 hC43 hi043 hsz43
                                      obtain ⟨i044, hi044, _, hsz44, _⟩ := info_parts info5
                                      obtain ⟨A44, hcut44, hA44, hC44⟩ := print_mid_of (P := Tryd.prog) (Value.int .u8) 0 22 5 .i64 .i64 Tryd.underlying22 hi044 hsz44 (some ad320) c0 l0 16 20 (by omega) (by first | omega | exact of_decide_eq_true (by first | (with_reducible assumption) | assumption)) (of_decide_eq_true (by first | (with_reducible assumption) | assumption)) HC0.out
                                      have HR326 := am (Kd.C_of_reads (h1 := fun _ => rfl) (hA44 _ (Kd.reads_of_C HR0.out)))
                                      have HC326 := am hC44
                                      clear hA44 hC44 hi044 hsz44
                                      have p328 : 0 ≤ (9 : Int) := (by omega)
                                      have q328 : 9 < (l0.length : Int) := of_decide_eq_true (by first | (with_reducible assumption) | assumption)
                                      obtain ⟨ad328, e328, hx328_0⟩ := Kd.at_int HR0.out 9 p328 q328
                                      have hw328_0 := hx328_0
                                      (try rw [show ((9 : Int)).toNat = 9 from rfl] at hw328_0)
                                      (try rw [show 9 * 1 = 9 from rfl] at hw328_0)
                                      (try simp only [Nat.reduceMul, Nat.reduceEqDiff, Go.Addr.add, ↓reduceIte] at hw328_0)
                                      obtain rfl : ad320 = ad328 := (by injection e328)
                                      (try simp only [show (9 : Int).toNat = 9 from rfl, Nat.reduceMul, Nat.reduceEqDiff, Go.Addr.add, ↓reduceIte] at hx328_0)
                                      have qi328 : (9 < l0.length) = True := eq_true (by omega)
                                      (try rw [show ((9 : Int)).toNat = 9 from rfl] at hx328_0)
                                      replace hx328_0 := (HB.out.cell (World.block_lt_of_cell? w _ hx328_0)).trans hx328_0
                                      replace p328 := eq_true p328
                                      replace q328 := eq_true q328
                                      obtain ⟨i045, hi045, _, hsz45, _⟩ := info_parts info5
                                      obtain ⟨A45, hcut45, hA45, hC45⟩ := print_mid_of (P := Tryd.prog) (Value.int .u8) 0 22 5 .i64 .i64 Tryd.underlying22 hi045 hsz45 (some ad320) c0 l0 20 22 (by omega) (by first | omega | exact of_decide_eq_true (by first | (with_reducible assumption) | assumption)) (of_decide_eq_true (by first | (with_reducible assumption) | assumption)) HC0.out
                                      have HR329 := am (Kd.C_of_reads (h1 := fun _ => rfl) (hA45 _ (Kd.reads_of_C HR0.out)))
                                      have HC329 := am hC45
                                      clear hA45 hC45 hi045 hsz45
                                      obtain ⟨i046, hi046, _, hsz46, _⟩ := info_parts info5
                                      obtain ⟨A46, hcut46, hA46, hC46⟩ := print_mid_of (P := Tryd.prog) (Value.int .u8) 0 22 5 .i64 .i64 Tryd.underlying22 hi046 hsz46 (some ad320) c0 l0 22 24 (by omega) (by first | omega | exact of_decide_eq_true (by first | (with_reducible assumption) | assumption)) (of_decide_eq_true (by first | (with_reducible assumption) | assumption)) HC0.out
                                      have HR331 := am (Kd.C_of_reads (h1 := fun _ => rfl) (hA46 _ (Kd.reads_of_C HR0.out)))
                                      have HC331 := am hC46
                                      clear hA46 hC46 hi046 hsz46
                                      obtain ⟨i047, hi047, _, hsz47, _⟩ := info_parts info5
                                      obtain ⟨A47, hcut47, hA47, hC47⟩ := print_drop_of (P := Tryd.prog) (Value.int .u8) 0 22 5 .i64 Tryd.underlying22 hi047 hsz47 (some ad320) c0 l0 24 (by omega) (of_decide_eq_true (by first | (with_reducible assumption) | assumption)) HC0.out
                                      have HR333 := am (Kd.C_of_reads (h1 := fun _ => rfl) (hA47 _ (Kd.reads_of_C HR0.out)))
                                      have HC333 := am hC47
                                      clear hA47 hC47 hi047 hsz47
                                      refine start_ (n := 22) (S := fun w' => w'.cell? ⟨ad320.block, ad320.off + 9, none⟩ = some (.int .u8 (rd l0 9))) (ds := []) #[false, false, false, false, false, false, false, false, false, false, false, false, false, false, false, false, false, false, false, false, false, false] (by kernel_rfl) rfl rfl (((HB.out.cell (World.block_lt_of_cell? w _ hw328_0)).trans hw328_0)) (fun hHeld => ?_); refine with_tabW impl_ParsePacket.tab7 impl_ParsePacket.bits7 (fun HT_ HW_ => ?_)
                                      generalize w41.drew = w42 at B311 HB HR324 HR326 HR329 HR331 HR333 hx328_0 hHeld ⊢
                                      refine pure_ (i := 0) (N := some 49) (v := ?_) (a' := ?_) #[true, false, false, false, false, false, false, false, false, false, false, false, false, false, false, false, false, false, false, false, false, false] rfl rfl (any_of HT_.out (by kernel_rfl)) (fun _ _ _ h => h) (Or.inl ⟨by rfl, ?_⟩) ?_ ?_
                                      rotate_left
                                      · intro w'
                                        first | (go_simp; with_reducible rfl) | (go_simp; (try unfold Instr.field); go_simp; (try simp only [asAgg]); go_simp; with_reducible rfl)
                                      rotate_left
                                      · simp only [Act.put, List.setIfInBounds_toArray, List.set_cons_zero, List.set_cons_succ, i64_w, i32_w]
                                        rfl
                                      refine pure_ (i := 1) (N := some 50) (v := ?_) (a' := ?_) #[true, true, false, false, false, false, false, false, false, false, false, false, false, false, false, false, false, false, false, false, false, false] rfl rfl (any_of HT_.out (by kernel_rfl)) (fun _ _ _ h => h) (Or.inl ⟨by rfl, ?_⟩) ?_ ?_
                                      rotate_left
                                      · intro w'
                                        first | (go_simp; with_reducible rfl) | (go_simp; (try unfold Instr.field); go_simp; (try simp only [asAgg]); go_simp; with_reducible rfl)
                                      rotate_left
                                      · simp only [Act.put, List.setIfInBounds_toArray, List.set_cons_zero, List.set_cons_succ, i64_w, i32_w]
                                        rfl
                                      refine pure_ (i := 3) (N := some 52) (v := ?_) (a' := ?_) #[true, true, false, true, false, false, false, false, false, false, false, false, false, false, false, false, false, false, false, false, false, false] rfl rfl (any_of HT_.out (by kernel_rfl)) (fun _ _ _ h => h) (Or.inl ⟨by rfl, ?_⟩) ?_ ?_
                                      rotate_left
                                      · intro w'
                                        first | (go_simp; with_reducible rfl) | (go_simp; (try unfold Instr.field); go_simp; (try simp only [asAgg]); go_simp; with_reducible rfl)
                                      rotate_left
                                      · simp only [Act.put, List.setIfInBounds_toArray, List.set_cons_zero, List.set_cons_succ, i64_w, i32_w]
                                        rfl
                                      refine pure_ (i := 4) (N := some 53) (v := ?_) (a' := ?_) #[true, true, false, true, true, false, false, false, false, false, false, false, false, false, false, false, false, false, false, false, false, false] rfl rfl (any_of HT_.out (by kernel_rfl)) (fun _ _ _ h => h) (Or.inl ⟨by rfl, ?_⟩) ?_ ?_
                                      rotate_left
                                      · intro w'
                                        first | (go_simp; with_reducible rfl) | (go_simp; (try unfold Instr.field); go_simp; (try simp only [asAgg]); go_simp; with_reducible rfl)
                                      rotate_left
                                      · simp only [Act.put, List.setIfInBounds_toArray, List.set_cons_zero, List.set_cons_succ, i64_w, i32_w]
                                        rfl
                                      refine pure_ (i := 6) (N := some 55) (v := ?_) (a' := ?_) #[true, true, false, true, true, false, true, false, false, false, false, false, false, false, false, false, false, false, false, false, false, false] rfl rfl (any_of HT_.out (by kernel_rfl)) (fun _ _ _ h => h) (Or.inl ⟨by rfl, ?_⟩) ?_ ?_
                                      rotate_left
                                      · intro w'
                                        first | (go_simp; with_reducible rfl) | (go_simp; (try unfold Instr.field); go_simp; (try simp only [asAgg]); go_simp; with_reducible rfl)
                                      rotate_left
                                      · simp only [Act.put, List.setIfInBounds_toArray, List.set_cons_zero, List.set_cons_succ, i64_w, i32_w]
                                        rfl
                                      refine pure_ (i := 7) (N := some 56) (v := ?_) (a' := ?_) #[true, true, false, true, true, false, true, true, false, false, false, false, false, false, false, false, false, false, false, false, false, false] rfl rfl (any_of HT_.out (by kernel_rfl)) (fun _ _ _ h => h) (Or.inl ⟨by rfl, ?_⟩) ?_ ?_
                                      rotate_left
                                      · intro w'
                                        first | (go_simp; with_reducible rfl) | (go_simp; (try unfold Instr.field); go_simp; (try simp only [asAgg]); go_simp; with_reducible rfl)
                                      rotate_left
                                      · simp only [Act.put, List.setIfInBounds_toArray, List.set_cons_zero, List.set_cons_succ, i64_w, i32_w]
                                        rfl
                                      refine pure_ (i := 10) (N := some 59) (v := ?_) (a' := ?_) #[true, true, false, true, true, false, true, true, false, false, true, false, false, false, false, false, false, false, false, false, false, false] rfl rfl (any_of HT_.out (by kernel_rfl)) (fun _ _ _ h => h) (Or.inl ⟨by rfl, ?_⟩) ?_ ?_
                                      rotate_left
                                      · intro w'
                                        first | (go_simp; with_reducible rfl) | (go_simp; (try unfold Instr.field); go_simp; (try simp only [asAgg]); go_simp; with_reducible rfl)
                                      rotate_left
                                      · simp only [Act.put, List.setIfInBounds_toArray, List.set_cons_zero, List.set_cons_succ, i64_w, i32_w]
                                        rfl
                                      refine pure_ (i := 11) (N := some 60) (v := ?_) (a' := ?_) #[true, true, false, true, true, false, true, true, false, false, true, true, false, false, false, false, false, false, false, false, false, false] rfl rfl (any_of HT_.out (by kernel_rfl)) (fun _ _ _ h => h) (Or.inl ⟨by rfl, ?_⟩) ?_ ?_
                                      rotate_left
                                      · intro w'
                                        first | (go_simp; with_reducible rfl) | (go_simp; (try unfold Instr.field); go_simp; (try simp only [asAgg]); go_simp; with_reducible rfl)
                                      rotate_left
                                      · simp only [Act.put, List.setIfInBounds_toArray, List.set_cons_zero, List.set_cons_succ, i64_w, i32_w]
                                        rfl
                                      refine pure_ (i := 13) (N := some 62) (v := ?_) (a' := ?_) #[true, true, false, true, true, false, true, true, false, false, true, true, false, true, false, false, false, false, false, false, false, false] rfl rfl (any_of HT_.out (by kernel_rfl)) (fun _ _ _ h => h) (Or.inl ⟨by rfl, ?_⟩) ?_ ?_
                                      rotate_left
                                      · intro w'
                                        first | (go_simp; with_reducible rfl) | (go_simp; (try unfold Instr.field); go_simp; (try simp only [asAgg]); go_simp; with_reducible rfl)
                                      rotate_left
                                      · simp only [Act.put, List.setIfInBounds_toArray, List.set_cons_zero, List.set_cons_succ, i64_w, i32_w]
                                        rfl
                                      refine pure_ (i := 14) (N := some 63) (v := ?_) (a' := ?_) #[true, true, false, true, true, false, true, true, false, false, true, true, false, true, true, false, false, false, false, false, false, false] rfl rfl (any_of HT_.out (by kernel_rfl)) (fun _ _ _ h => h) (Or.inl ⟨by rfl, ?_⟩) ?_ ?_
                                      rotate_left
                                      · intro w'
                                        first | (go_simp; with_reducible rfl) | (go_simp; (try unfold Instr.field); go_simp; (try simp only [asAgg]); go_simp; with_reducible rfl)
                                      rotate_left
                                      · simp only [Act.put, List.setIfInBounds_toArray, List.set_cons_zero, List.set_cons_succ, i64_w, i32_w]
                                        rfl
                                      refine pure_ (i := 16) (N := some 65) (v := ?_) (a' := ?_) #[true, true, false, true, true, false, true, true, false, false, true, true, false, true, true, false, true, false, false, false, false, false] rfl rfl (any_of HT_.out (by kernel_rfl)) (fun _ _ _ h => h) (Or.inl ⟨by rfl, ?_⟩) ?_ ?_
                                      rotate_left
                                      · intro w'
                                        first | (go_simp; with_reducible rfl) | (go_simp; (try unfold Instr.field); go_simp; (try simp only [asAgg]); go_simp; with_reducible rfl)
                                      rotate_left
                                      · simp only [Act.put, List.setIfInBounds_toArray, List.set_cons_zero, List.set_cons_succ, i64_w, i32_w]
                                        rfl
                                      refine pure_ (i := 17) (N := some 66) (v := ?_) (a' := ?_) #[true, true, false, true, true, false, true, true, false, false, true, true, false, true, true, false, true, true, false, false, false, false] rfl rfl (any_of HT_.out (by kernel_rfl)) (fun _ _ _ h => h) (Or.inl ⟨by rfl, ?_⟩) ?_ ?_
                                      rotate_left
                                      · intro w'
                                        first | (go_simp; with_reducible rfl) | (go_simp; (try unfold Instr.field); go_simp; (try simp only [asAgg]); go_simp; with_reducible rfl)
                                      rotate_left
                                      · simp only [Act.put, List.setIfInBounds_toArray, List.set_cons_zero, List.set_cons_succ, i64_w, i32_w]
                                        rfl
                                      refine take_ (i := 8) (N := some 57) (v := ?_) (a' := ?_) #[true, true, false, true, true, false, true, true, true, false, true, true, false, true, true, false, true, true, false, false, false, false] rfl rfl (take_ofW HT_.out HW_.out (by kernel_rfl)) (fun _ _ _ h => h) (Or.inl ⟨by rfl, ?_⟩) hHeld ?_ ?_
                                      rotate_left
                                      · intro w' s0
                                        go_simp
                                        with_reducible rfl
                                      rotate_left
                                      · simp only [Act.put, List.setIfInBounds_toArray, List.set_cons_zero, List.set_cons_succ, i64_w, i32_w]
                                        rfl
                                      refine pure_ (i := 9) (N := some 58) (v := ?_) (a' := ?_) #[true, true, false, true, true, false, true, true, true, true, true, true, false, true, true, false, true, true, false, false, false, false] rfl rfl (any_of HT_.out (by kernel_rfl)) (fun _ _ _ h => h) (Or.inl ⟨by rfl, ?_⟩) ?_ ?_
                                      rotate_left
                                      · intro w'
                                        first | (go_simp; with_reducible rfl) | (go_simp; (try unfold Instr.field); go_simp; (try simp only [asAgg]); go_simp; with_reducible rfl)
                                      rotate_left
                                      · simp only [Act.put, List.setIfInBounds_toArray, List.set_cons_zero, List.set_cons_succ, i64_w, i32_w]
                                        rfl
                                      refine one_ (i := 2) (N := some 51) #[true, true, true, true, true, false, true, true, true, true, true, true, false, true, true, false, true, true, false, false, false, false] rfl rfl (one_of HT_.out (by kernel_rfl)) (by decide) (fun K hK => ?_)
                                      refine goes_ Tryd.func19 (by kernel_rfl) rfl #[J A43 ((l0.take 16).drop 12).length (c0 - 12)] (by rfl) rfl rfl (by (try simp only [List.map_toArray, List.map_cons, List.map_nil]); first | done | (rw [show ((l0.take 16).drop 12).length = (16 - 12) from (by rw [List.length_drop, List.length_take]; have h_ : (16 : Int) ≤ (l0.length : Int) := of_decide_eq_true (by first | (with_reducible assumption) | assumption); omega)] <;> rfl) | rfl | (simp only [List.length_drop, List.length_take]; rfl)) ?_
                                      with_reducible refine (impl_number.calls kj1 _ _ ((l0.take 16).drop 12) t325 _ ?side1 ?side2 A28.out).mono ?_
                                      (case side1 => repeat (first | exact (Kd.C_below HR324.out HB.out) | (with_reducible refine ca ?_ _) | (with_reducible refine cN ?_ _) | (with_reducible refine cd1 ?_)))
                                      (case side2 => exact HC324.out)
                                      rintro e w' ⟨rfl, ⟨nd, rfl⟩⟩
                                      refine ⟨_, rfl, ?_⟩
                                      refine hK.out _ _ (((HB.out.cell (World.block_lt_of_cell? w _ hw328_0)).trans hw328_0)) (fun hHeld => ?_)
                                      clear hK K
                                      refine norm_ (a' := ?_) ?_ ?_
                                      rotate_left
                                      · show Act.put _ (some 51) _ = _
                                        simp only [Act.put, List.setIfInBounds_toArray, List.set_cons_zero, List.set_cons_succ, i64_w, i32_w]
                                        rfl
                                      refine one_ (i := 5) (N := some 54) #[true, true, true, true, true, true, true, true, true, true, true, true, false, true, true, false, true, true, false, false, false, false] rfl rfl (one_of HT_.out (by kernel_rfl)) (by decide) (fun K hK => ?_)
                                      refine goes_ Tryd.func19 (by kernel_rfl) rfl #[J A44 ((l0.take 20).drop 16).length (c0 - 16)] (by rfl) rfl rfl (by (try simp only [List.map_toArray, List.map_cons, List.map_nil]); first | done | (rw [show ((l0.take 20).drop 16).length = (20 - 16) from (by rw [List.length_drop, List.length_take]; have h_ : (20 : Int) ≤ (l0.length : Int) := of_decide_eq_true (by first | (with_reducible assumption) | assumption); omega)] <;> rfl) | rfl | (simp only [List.length_drop, List.length_take]; rfl)) ?_
                                      with_reducible refine (impl_number.calls kj1 _ _ ((l0.take 20).drop 16) t327 _ ?side1 ?side2 A31.out).mono ?_
                                      (case side1 => repeat (first | exact (Kd.C_below HR326.out (by repeat (first | (with_reducible first | exact HB.out | apply pa | apply pN | apply p1 | refine bs ?_ E311.out) | exact HB.out))) | (with_reducible refine ca ?_ _) | (with_reducible refine cN ?_ _) | (with_reducible refine cd1 ?_)))
                                      (case side2 => exact HC326.out)
                                      rintro e w' ⟨rfl, ⟨nd, rfl⟩⟩
                                      refine ⟨_, rfl, ?_⟩
                                      refine hK.out _ _ (((HB.out.cell (World.block_lt_of_cell? w _ hw328_0)).trans hw328_0)) (fun hHeld => ?_)
                                      clear hK K
                                      refine norm_ (a' := ?_) ?_ ?_
                                      rotate_left
                                      · show Act.put _ (some 54) _ = _
                                        simp only [Act.put, List.setIfInBounds_toArray, List.set_cons_zero, List.set_cons_succ, i64_w, i32_w]
                                        rfl
                                      refine one_ (i := 12) (N := some 61) #[true, true, true, true, true, true, true, true, true, true, true, true, true, true, true, false, true, true, false, false, false, false] rfl rfl (one_of HT_.out (by kernel_rfl)) (by decide) (fun K hK => ?_)
                                      refine goes_ Tryd.func19 (by kernel_rfl) rfl #[J A45 ((l0.take 22).drop 20).length (c0 - 20)] (by rfl) rfl rfl (by (try simp only [List.map_toArray, List.map_cons, List.map_nil]); first | done | (rw [show ((l0.take 22).drop 20).length = (22 - 20) from (by rw [List.length_drop, List.length_take]; have h_ : (22 : Int) ≤ (l0.length : Int) := of_decide_eq_true (by first | (with_reducible assumption) | assumption); omega)] <;> rfl) | rfl | (simp only [List.length_drop, List.length_take]; rfl)) ?_
                                      with_reducible refine (impl_number.calls kj1 _ _ ((l0.take 22).drop 20) t330 _ ?side1 ?side2 A34.out).mono ?_
                                      (case side1 => repeat (first | exact (Kd.C_below HR329.out (by repeat (first | (with_reducible first | exact HB.out | apply pa | apply pN | apply p1 | refine bs ?_ E311.out) | exact HB.out))) | (with_reducible refine ca ?_ _) | (with_reducible refine cN ?_ _) | (with_reducible refine cd1 ?_)))
                                      (case side2 => exact HC329.out)
                                      rintro e w' ⟨rfl, ⟨nd, rfl⟩⟩
                                      refine ⟨_, rfl, ?_⟩
                                      refine hK.out _ _ (((HB.out.cell (World.block_lt_of_cell? w _ hw328_0)).trans hw328_0)) (fun hHeld => ?_)
                                      clear hK K
                                      refine norm_ (a' := ?_) ?_ ?_
                                      rotate_left
                                      · show Act.put _ (some 61) _ = _
                                        simp only [Act.put, List.setIfInBounds_toArray, List.set_cons_zero, List.set_cons_succ, i64_w, i32_w]
                                        rfl
                                      refine one_ (i := 15) (N := some 64) #[true, true, true, true, true, true, true, true, true, true, true, true, true, true, true, true, true, true, false, false, false, false] rfl rfl (one_of HT_.out (by kernel_rfl)) (by decide) (fun K hK => ?_)
                                      refine goes_ Tryd.func19 (by kernel_rfl) rfl #[J A46 ((l0.take 24).drop 22).length (c0 - 22)] (by rfl) rfl rfl (by (try simp only [List.map_toArray, List.map_cons, List.map_nil]); first | done | (rw [show ((l0.take 24).drop 22).length = (24 - 22) from (by rw [List.length_drop, List.length_take]; have h_ : (24 : Int) ≤ (l0.length : Int) := of_decide_eq_true (by first | (with_reducible assumption) | assumption); omega)] <;> rfl) | rfl | (simp only [List.length_drop, List.length_take]; rfl)) ?_
                                      with_reducible refine (impl_number.calls kj1 _ _ ((l0.take 24).drop 22) t332 _ ?side1 ?side2 A37.out).mono ?_
                                      (case side1 => repeat (first | exact (Kd.C_below HR331.out (by repeat (first | (with_reducible first | exact HB.out | apply pa | apply pN | apply p1 | refine bs ?_ E311.out) | exact HB.out))) | (with_reducible refine ca ?_ _) | (with_reducible refine cN ?_ _) | (with_reducible refine cd1 ?_)))
                                      (case side2 => exact HC331.out)
                                      rintro e w' ⟨rfl, ⟨nd, rfl⟩⟩
                                      refine ⟨_, rfl, ?_⟩
                                      refine hK.out _ _ (((HB.out.cell (World.block_lt_of_cell? w _ hw328_0)).trans hw328_0)) (fun hHeld => ?_)
                                      clear hK K
                                      refine norm_ (a' := ?_) ?_ ?_
                                      rotate_left
                                      · show Act.put _ (some 64) _ = _
                                        simp only [Act.put, List.setIfInBounds_toArray, List.set_cons_zero, List.set_cons_succ, i64_w, i32_w]
                                        rfl
                                      refine one_ (i := 18) (N := some 67) #[true, true, true, true, true, true, true, true, true, true, true, true, true, true, true, true, true, true, true, false, false, false] rfl rfl (one_of HT_.out (by kernel_rfl)) (by decide) (fun K hK => ?_)
                                      refine goes_ Tryd.func21 (by kernel_rfl) rfl #[J A47 (l0.drop 24).length (c0 - 24)] (by rfl) rfl rfl (by (try simp only [List.map_toArray, List.map_cons, List.map_nil]); first | done | (rw [show (l0.drop 24).length = (l0.length - 24) from List.length_drop] <;> rfl) | rfl | (simp only [List.length_drop, List.length_take]; rfl)) ?_
                                      with_reducible refine (slices_Clone_byte_byte.calls _ _ (l0.drop 24) t334 _ ?side1 ?side2 A39.out).mono ?_
                                      (case side1 => repeat (first | exact (Kd.C_below HR333.out (by repeat (first | (with_reducible first | exact HB.out | apply pa | apply pN | apply p1 | refine bs ?_ E311.out) | exact HB.out))) | (with_reducible refine ca ?_ _) | (with_reducible refine cN ?_ _) | (with_reducible refine cd1 ?_)))
                                      (case side2 => exact HC333.out)
                                      rintro e w48 ⟨v335, rfl, ho0, hb⟩
                                      refine ⟨_, rfl, ?_⟩
                                      have N0 := am (rw1 ho0 (bz (by repeat (first | (with_reducible first | exact HB.out | apply pa | apply pN | apply p1 | refine bs ?_ E311.out) | exact HB.out))))
                                      have N1 := am (bb (g := g311) (by (with_reducible repeat (first | apply bN | apply bd | apply ba)); exact B311.out) hb)
                                      have N2 := am (bp (by repeat (first | (with_reducible first | exact HB.out | apply pa | apply pN | apply p1 | refine bs ?_ E311.out) | exact HB.out)) hb)
                                      clear B311
                                      clear HB
                                      have O336 := N0
                                      have B311 := N1
                                      have HB := N2
                                      clear N0 N1 N2
                                      (try clear hb)
                                      (try clear hb2)
                                      (try clear hk)
                                      (try clear hi)
                                      (try clear ho0)
                                      obtain ⟨Ao49, co49, eo49⟩ := Kd.R_slice O336.out
                                      (first | subst eo49 | (injection eo49 with f1_ f2_ f3_; have f4_ := f1_.symm; have f5_ := f3_.symm; clear f1_ f2_ f3_; subst f4_; subst f5_))
                                      refine hK.out _ _ (((HB.out.cell (World.block_lt_of_cell? w _ hw328_0)).trans hw328_0)) (fun hHeld => ?_)
                                      clear hK K
                                      refine norm_ (a' := ?_) ?_ ?_
                                      rotate_left
                                      · show Act.put _ (some 67) _ = _
                                        simp only [Act.put, List.setIfInBounds_toArray, List.set_cons_zero, List.set_cons_succ, i64_w, i32_w]
                                        rfl
                                      refine pure_ (i := 19) (N := some 68) (v := ?_) (a' := ?_) #[true, true, true, true, true, true, true, true, true, true, true, true, true, true, true, true, true, true, true, true, false, false] rfl rfl (any_of HT_.out (by kernel_rfl)) (fun _ _ _ h => h) (Or.inl ⟨by rfl, ?_⟩) ?_ ?_
                                      rotate_left
                                      · intro w'
                                        first | (go_simp; with_reducible rfl) | (go_simp; (try unfold Instr.field); go_simp; (try simp only [asAgg]); go_simp; with_reducible rfl)
                                      rotate_left
                                      · simp only [Act.put, List.setIfInBounds_toArray, List.set_cons_zero, List.set_cons_succ, i64_w, i32_w]
                                        rfl
                                      refine pure_ (i := 20) (N := some 69) (v := ?_) (a' := ?_) #[true, true, true, true, true, true, true, true, true, true, true, true, true, true, true, true, true, true, true, true, true, false] rfl rfl (any_of HT_.out (by kernel_rfl)) (fun _ _ _ h => h) (Or.inl ⟨by rfl, ?_⟩) ?_ ?_
                                      rotate_left
                                      · intro w'
                                        first | (go_simp; with_reducible rfl) | (go_simp; (try unfold Instr.field); go_simp; (try simp only [asAgg]); go_simp; with_reducible rfl)
                                      rotate_left
                                      · simp only [Act.put, List.setIfInBounds_toArray, List.set_cons_zero, List.set_cons_succ, i64_w, i32_w]
                                        rfl
                                      refine one_ (i := 21) (N := none) #[true, true, true, true, true, true, true, true, true, true, true, true, true, true, true, true, true, true, true, true, true, true] rfl rfl (one_of HT_.out (by kernel_rfl)) (by decide) (fun K hK => ?_)
                                      have hs50 : w48.cell? ⟨g311, 0, none⟩ = some (I q 0) := (bc B311.out 0).trans rfl
                                      have hfs50 := bf B311.out 0
                                      have hs51 : w48.cell? ⟨g311, 1, none⟩ = some (I q 0) := (bc B311.out 1).trans rfl
                                      have hfs51 := bf B311.out 1
                                      have hs52 : w48.cell? ⟨g311, 2, none⟩ = some (I q 0) := (bc B311.out 2).trans rfl
                                      have hfs52 := bf B311.out 2
                                      have hs53 : w48.cell? ⟨g311, 3, none⟩ = some (I q 0) := (bc B311.out 3).trans rfl
                                      have hfs53 := bf B311.out 3
                                      have hs54 : w48.cell? ⟨g311, 4, none⟩ = some (I q 0) := (bc B311.out 4).trans rfl
                                      have hfs54 := bf B311.out 4
                                      have hs55 : w48.cell? ⟨g311, 5, none⟩ = some (I q 0) := (bc B311.out 5).trans rfl
                                      have hfs55 := bf B311.out 5
                                      have hs56 : w48.cell? ⟨g311, 6, none⟩ = some (.slice none 0 0) := (bc B311.out 6).trans rfl
                                      have hfs56 := bf B311.out 6
                                      refine skip_ (w1 := ?_) (by rfl) rfl ?_ ?_
                                      rotate_left
                                      · go_simp
                                        rfl
                                      refine hK.out _ _ (((cell_far (p := ⟨g311, _, none⟩) (by first | exact Nat.ne_of_lt (Nat.lt_of_lt_of_le (by have := World.block_lt_of_cell? _ _ hw328_0; first | rwa [ab] at this | exact this) GW311.out) | (rw [ab]; exact Nat.ne_of_lt (Nat.lt_of_lt_of_le (by have := World.block_lt_of_cell? _ _ hw328_0; first | rwa [ab] at this | exact this) GW311.out)) | (show (Addr.add _ _).block ≠ _; rw [ab]; exact Nat.ne_of_lt (Nat.lt_of_lt_of_le (by have := World.block_lt_of_cell? _ _ hw328_0; first | rwa [ab] at this | exact this) GW311.out)) | (dsimp only; exact Nat.ne_of_lt (Nat.lt_of_lt_of_le (by have := World.block_lt_of_cell? _ _ hw328_0; first | rwa [ab] at this | exact this) GW311.out))) _).trans (((cell_far (p := ⟨g311, _, none⟩) (by first | exact Nat.ne_of_lt (Nat.lt_of_lt_of_le (by have := World.block_lt_of_cell? _ _ hw328_0; first | rwa [ab] at this | exact this) GW311.out) | (rw [ab]; exact Nat.ne_of_lt (Nat.lt_of_lt_of_le (by have := World.block_lt_of_cell? _ _ hw328_0; first | rwa [ab] at this | exact this) GW311.out)) | (show (Addr.add _ _).block ≠ _; rw [ab]; exact Nat.ne_of_lt (Nat.lt_of_lt_of_le (by have := World.block_lt_of_cell? _ _ hw328_0; first | rwa [ab] at this | exact this) GW311.out)) | (dsimp only; exact Nat.ne_of_lt (Nat.lt_of_lt_of_le (by have := World.block_lt_of_cell? _ _ hw328_0; first | rwa [ab] at this | exact this) GW311.out))) _).trans (((cell_far (p := ⟨g311, _, none⟩) (by first | exact Nat.ne_of_lt (Nat.lt_of_lt_of_le (by have := World.block_lt_of_cell? _ _ hw328_0; first | rwa [ab] at this | exact this) GW311.out) | (rw [ab]; exact Nat.ne_of_lt (Nat.lt_of_lt_of_le (by have := World.block_lt_of_cell? _ _ hw328_0; first | rwa [ab] at this | exact this) GW311.out)) | (show (Addr.add _ _).block ≠ _; rw [ab]; exact Nat.ne_of_lt (Nat.lt_of_lt_of_le (by have := World.block_lt_of_cell? _ _ hw328_0; first | rwa [ab] at this | exact this) GW311.out)) | (dsimp only; exact Nat.ne_of_lt (Nat.lt_of_lt_of_le (by have := World.block_lt_of_cell? _ _ hw328_0; first | rwa [ab] at this | exact this) GW311.out))) _).trans (((cell_far (p := ⟨g311, _, none⟩) (by first | exact Nat.ne_of_lt (Nat.lt_of_lt_of_le (by have := World.block_lt_of_cell? _ _ hw328_0; first | rwa [ab] at this | exact this) GW311.out) | (rw [ab]; exact Nat.ne_of_lt (Nat.lt_of_lt_of_le (by have := World.block_lt_of_cell? _ _ hw328_0; first | rwa [ab] at this | exact this) GW311.out)) | (show (Addr.add _ _).block ≠ _; rw [ab]; exact Nat.ne_of_lt (Nat.lt_of_lt_of_le (by have := World.block_lt_of_cell? _ _ hw328_0; first | rwa [ab] at this | exact this) GW311.out)) | (dsimp only; exact Nat.ne_of_lt (Nat.lt_of_lt_of_le (by have := World.block_lt_of_cell? _ _ hw328_0; first | rwa [ab] at this | exact this) GW311.out))) _).trans (((cell_far (p := ⟨g311, _, none⟩) (by first | exact Nat.ne_of_lt (Nat.lt_of_lt_of_le (by have := World.block_lt_of_cell? _ _ hw328_0; first | rwa [ab] at this | exact this) GW311.out) | (rw [ab]; exact Nat.ne_of_lt (Nat.lt_of_lt_of_le (by have := World.block_lt_of_cell? _ _ hw328_0; first | rwa [ab] at this | exact this) GW311.out)) | (show (Addr.add _ _).block ≠ _; rw [ab]; exact Nat.ne_of_lt (Nat.lt_of_lt_of_le (by have := World.block_lt_of_cell? _ _ hw328_0; first | rwa [ab] at this | exact this) GW311.out)) | (dsimp only; exact Nat.ne_of_lt (Nat.lt_of_lt_of_le (by have := World.block_lt_of_cell? _ _ hw328_0; first | rwa [ab] at this | exact this) GW311.out))) _).trans (((cell_far (p := ⟨g311, _, none⟩) (by first | exact Nat.ne_of_lt (Nat.lt_of_lt_of_le (by have := World.block_lt_of_cell? _ _ hw328_0; first | rwa [ab] at this | exact this) GW311.out) | (rw [ab]; exact Nat.ne_of_lt (Nat.lt_of_lt_of_le (by have := World.block_lt_of_cell? _ _ hw328_0; first | rwa [ab] at this | exact this) GW311.out)) | (show (Addr.add _ _).block ≠ _; rw [ab]; exact Nat.ne_of_lt (Nat.lt_of_lt_of_le (by have := World.block_lt_of_cell? _ _ hw328_0; first | rwa [ab] at this | exact this) GW311.out)) | (dsimp only; exact Nat.ne_of_lt (Nat.lt_of_lt_of_le (by have := World.block_lt_of_cell? _ _ hw328_0; first | rwa [ab] at this | exact this) GW311.out))) _).trans (((cell_far (p := ⟨g311, _, none⟩) (by first | exact Nat.ne_of_lt (Nat.lt_of_lt_of_le (by have := World.block_lt_of_cell? _ _ hw328_0; first | rwa [ab] at this | exact this) GW311.out) | (rw [ab]; exact Nat.ne_of_lt (Nat.lt_of_lt_of_le (by have := World.block_lt_of_cell? _ _ hw328_0; first | rwa [ab] at this | exact this) GW311.out)) | (show (Addr.add _ _).block ≠ _; rw [ab]; exact Nat.ne_of_lt (Nat.lt_of_lt_of_le (by have := World.block_lt_of_cell? _ _ hw328_0; first | rwa [ab] at this | exact this) GW311.out)) | (dsimp only; exact Nat.ne_of_lt (Nat.lt_of_lt_of_le (by have := World.block_lt_of_cell? _ _ hw328_0; first | rwa [ab] at this | exact this) GW311.out))) _).trans (hHeld))))))))))))))) (fun hHeld => ?_)
                                      clear hK K
                                      refine done_ (done_of HT_.out (by kernel_rfl)) ?_
                                      try go_wp2
                                      refine bodyPost_ret (results_cell_row rfl _ _ g311 28 #[I q 0, I q t325, I q t327, I q (wrap64 (rd l0 9)), I q t330, I q t332, J Ao49 t334.length co49] (0, 0) _ rfl (by (with_reducible repeat (first | apply bN | apply bd | apply ba)); exact pu7e B311.out) Tryd.underlying28 rfl (by kernel_rfl)) rfl ?_
                                      exact ⟨_, by first | rfl | (simp [errW_none, errW_some] <;> rfl) | (simp [*, errW_none, errW_some] <;> rfl), by (with_reducible repeat (first | apply ra | apply rN | apply rd1)); exact Kd.R_mono (rf (p := ⟨g311, 6, none⟩) (rf (p := ⟨g311, 5, none⟩) (rf (p := ⟨g311, 4, none⟩) (rf (p := ⟨g311, 3, none⟩) (rf (p := ⟨g311, 2, none⟩) (rf (p := ⟨g311, 1, none⟩) (rf (p := ⟨g311, 0, none⟩) (Kd.R_types O336.out B311.out (by decide)) (fun _ hk => hk.2) (I q 0)) (fun _ hk => hk.2) (I q t325)) (fun _ hk => hk.2) (I q t327)) (fun _ hk => hk.2) (I q (wrap64 (rd l0 9)))) (fun _ hk => hk.2) (I q t330)) (fun _ hk => hk.2) (I q t332)) (fun _ hk => hk.2) (J Ao49 t334.length co49)) (fun _ hk => trivial), by repeat (first | (with_reducible first | exact HB.out | apply pa | apply pN | apply p1 | refine bs ?_ E311.out) | exact HB.out)⟩
                                    · rw [if_neg c36] at H
                                      exact absurd H (by simp)
                                  · rw [if_neg c35] at H
                                    exact absurd H (by simp)
                                · rw [if_neg c33] at H
                                  exact absurd H (by simp)
                              · rw [if_neg c32] at H
                                exact absurd H (by simp)
                            · rw [if_neg c29] at H
                              exact absurd H (by simp)
                          · rw [if_neg c27] at H
                            exact absurd H (by simp)
                        · rw [if_neg c26] at H
                          exact absurd H (by simp)
                      · replace c25 := Bool.eq_false_iff.mpr c25
                        subst c25
                        have H1 : (some (1, 0, 0, 0, 0, 0, ([] : List Int))) = some (r1, r2, r3, r4, r5, r6, r7) := by rw [if_neg (show ¬ (false = true) by decide)] at H; exact H
                        clear H
                        have H := H1
                        clear H1
                        simp only [Option.some.injEq, Prod.mk.injEq] at H
                        obtain ⟨rfl, rfl, rfl, rfl, rfl, rfl, rfl⟩ := H
                        obtain ⟨i057, hi057, _, hsz57, _⟩ := info_parts info5
                        obtain ⟨hcut57, hA57, hC57⟩ := print_take_of (P := Tryd.prog) (Value.int .u8) 0 22 5 .i64 Tryd.underlying22 hi057 hsz57 A0 c0 l0 20 (by omega) (of_decide_eq_true (by first | (with_reducible assumption) | assumption)) HC0.out
                        have HR318 := am (Kd.C_of_reads (h1 := fun _ => rfl) (hA57 _ (Kd.reads_of_C HR0.out)))
                        have HC318 := am hC57
                        clear hA57 hC57 hi057 hsz57
                        go_wp2_with (first | ((with_reducible refine gate_callee (f := 13) rfl ?_); refine goesL_ (some 26) rfl rfl Tryd.func13 (by kernel_rfl) rfl #[J A0 (l0.take 20).length c0] rfl (by (try simp only [List.map_toArray, List.map_cons, List.map_nil]); first | done | (rw [show (l0.take 20).length = 20 from (by rw [List.length_take]; have h_ : (20 : Int) ≤ (l0.length : Int) := of_decide_eq_true (by first | (with_reducible assumption) | assumption); omega)] <;> rfl) | rfl | (simp only [List.length_drop, List.length_take]; rfl)) ?_; (with_reducible refine (impl_WholeSum.calls kj1 _ _ (l0.take 20) true _ ?side1 ?side2 A17.out).mono ?_); (case side1 => repeat (first | exact (Kd.C_below HR318.out HB.out) | (with_reducible refine ca ?_ _) | (with_reducible refine cN ?_ _) | (with_reducible refine cd1 ?_))); (case side2 => exact HC318.out); rintro e w58 ⟨rfl, hb⟩; refine ⟨_, rfl, ?_⟩; have N0 := am (bb (g := g311) (by (with_reducible repeat (first | apply bN | apply bd | apply ba)); exact B311.out) hb); have N1 := am (bp (by repeat (first | (with_reducible first | exact HB.out | apply pa | apply pN | apply p1 | refine bs ?_ E311.out) | exact HB.out)) hb); clear B311 HB; have B311 := N0; have HB := N1; clear N0 N1; (try clear hb); (try clear hb2); (try clear hk); (try clear hi); have p320 : 0 ≤ (6 : Int) := (by omega); have q320 : 6 < (l0.length : Int) := of_decide_eq_true (by first | (with_reducible assumption) | assumption); obtain ⟨ad320, e320, hx320_0⟩ := Kd.at_int HR0.out 6 p320 q320; cases e320; (try simp only [show (6 : Int).toNat = 6 from rfl, Nat.reduceMul, Nat.reduceEqDiff, Go.Addr.add, ↓reduceIte] at hx320_0); have qi320 : (6 < l0.length) = True := eq_true (by omega); (try rw [show ((6 : Int)).toNat = 6 from rfl] at hx320_0); replace hx320_0 := (HB.out.cell (World.block_lt_of_cell? w _ hx320_0)).trans hx320_0; replace p320 := eq_true p320; replace q320 := eq_true q320; have p321 : 0 ≤ (7 : Int) := (by omega); have q321 : 7 < (l0.length : Int) := of_decide_eq_true (by first | (with_reducible assumption) | assumption); obtain ⟨ad321, e321, hx321_0⟩ := Kd.at_int HR0.out 7 p321 q321; obtain rfl : ad320 = ad321 := (by injection e321); (try simp only [show (7 : Int).toNat = 7 from rfl, Nat.reduceMul, Nat.reduceEqDiff, Go.Addr.add, ↓reduceIte] at hx321_0); have qi321 : (7 < l0.length) = True := eq_true (by omega); (try rw [show ((7 : Int)).toNat = 7 from rfl] at hx321_0); replace hx321_0 := (HB.out.cell (World.block_lt_of_cell? w _ hx321_0)).trans hx321_0; replace p321 := eq_true p321; replace q321 := eq_true q321; have p322 : 0 ≤ (9 : Int) := (by omega); have q322 : 9 < (l0.length : Int) := of_decide_eq_true (by first | (with_reducible assumption) | assumption); obtain ⟨ad322, e322, hx322_0⟩ := Kd.at_int HR0.out 9 p322 q322; obtain rfl : ad320 = ad322 := (by injection e322); (try simp only [show (9 : Int).toNat = 9 from rfl, Nat.reduceMul, Nat.reduceEqDiff, Go.Addr.add, ↓reduceIte] at hx322_0); have qi322 : (9 < l0.length) = True := eq_true (by omega); (try rw [show ((9 : Int)).toNat = 9 from rfl] at hx322_0); replace hx322_0 := (HB.out.cell (World.block_lt_of_cell? w _ hx322_0)).trans hx322_0; replace p322 := eq_true p322; replace q322 := eq_true q322) | (go_at_call 20; (with_reducible refine (impl_isProto.calls (wrap64 (rd l0 9)) false _ A24.out).mono ?_); rintro e w' ⟨rfl, ⟨nd, rfl⟩⟩; (try (rw [drewN_self w58]; generalize hq_ : World.drewN w58 _ = w58; have N0 : Aside0 (w58.heap[g311]? = some (.cells #[I q 0, I q 0, I q 0, I q 0, I q 0, I q 0, .slice none 0 0] 28 (0, 0))) := ⟨by rw [← hq_]; exact (by (with_reducible repeat (first | apply bN | apply bd | apply ba)); exact B311.out)⟩; have N1 : Aside0 (Below w.heap.size w w58) := ⟨by rw [← hq_]; exact (by repeat (first | (with_reducible first | exact HB.out | apply pa | apply pN | apply p1 | refine bs ?_ E311.out) | exact HB.out))⟩; clear B311 HB hq_; have B311 := N0; have HB := N1; clear N0 N1)); have hcz59_0 : w58.cell? ⟨g311, 0, none⟩ = some (I q 0) := (bc B311.out 0).trans rfl; have hcz59_1 : w58.cell? ⟨g311, 1, none⟩ = some (I q 0) := (bc B311.out 1).trans rfl; have hcz59_2 : w58.cell? ⟨g311, 2, none⟩ = some (I q 0) := (bc B311.out 2).trans rfl; have hcz59_3 : w58.cell? ⟨g311, 3, none⟩ = some (I q 0) := (bc B311.out 3).trans rfl; have hcz59_4 : w58.cell? ⟨g311, 4, none⟩ = some (I q 0) := (bc B311.out 4).trans rfl; have hcz59_5 : w58.cell? ⟨g311, 5, none⟩ = some (I q 0) := (bc B311.out 5).trans rfl; have hcz59_6 : w58.cell? ⟨g311, 6, none⟩ = some (.slice none 0 0) := (bc B311.out 6).trans rfl; have hfz59_0 := bf B311.out 0; have hfz59_1 := bf B311.out 1; have hfz59_2 := bf B311.out 2; have hfz59_3 := bf B311.out 3; have hfz59_4 := bf B311.out 4; have hfz59_5 := bf B311.out 5; have hfz59_6 := bf B311.out 6))
                        refine bodyPost_ret (results_cell_row rfl _ _ g311 28 #[I q 1, I q 0, I q 0, I q 0, I q 0, I q 0, .slice none 0 0] (0, 0) _ rfl (by (with_reducible repeat (first | apply bN | apply bd | apply ba)); exact pu7e B311.out) Tryd.underlying28 rfl (by kernel_rfl)) rfl ?_
                        exact ⟨_, by first | rfl | (simp [errW_none, errW_some] <;> rfl) | (simp [*, errW_none, errW_some] <;> rfl), by first | exact Kd.R_nil _ _ _ _ _ | exact Kd.N_nil _ _ _ _ _ | exact Kd.V_nil _ _ _ _ _ | exact Kd.Q_nil _ _ _ _ _ | exact Kd.S_nil _ _ _ _ _, by repeat (first | (with_reducible first | exact HB.out | apply pa | apply pN | apply p1 | refine bs ?_ E311.out) | exact HB.out)⟩
                    · rw [if_neg c23] at H
                      exact absurd H (by simp)
                  · rw [if_neg c22] at H
                    have c22b0 : ((rd l0 7) == 0) = false := beq_eq_false_iff_ne.mpr c22
                    have c22b1 : ((rd l0 7) != 0) = true := bne_iff_ne.mpr c22
                    simp only [Option.some.injEq, Prod.mk.injEq] at H
                    obtain ⟨rfl, rfl, rfl, rfl, rfl, rfl, rfl⟩ := H
                    obtain ⟨i060, hi060, _, hsz60, _⟩ := info_parts info5
                    obtain ⟨hcut60, hA60, hC60⟩ := print_take_of (P := Tryd.prog) (Value.int .u8) 0 22 5 .i64 Tryd.underlying22 hi060 hsz60 A0 c0 l0 20 (by omega) (of_decide_eq_true (by first | (with_reducible assumption) | assumption)) HC0.out
                    have HR318 := am (Kd.C_of_reads (h1 := fun _ => rfl) (hA60 _ (Kd.reads_of_C HR0.out)))
                    have HC318 := am hC60
                    clear hA60 hC60 hi060 hsz60
                    go_wp2_with (first | ((with_reducible refine gate_callee (f := 13) rfl ?_); refine goesL_ (some 26) rfl rfl Tryd.func13 (by kernel_rfl) rfl #[J A0 (l0.take 20).length c0] rfl (by (try simp only [List.map_toArray, List.map_cons, List.map_nil]); first | done | (rw [show (l0.take 20).length = 20 from (by rw [List.length_take]; have h_ : (20 : Int) ≤ (l0.length : Int) := of_decide_eq_true (by first | (with_reducible assumption) | assumption); omega)] <;> rfl) | rfl | (simp only [List.length_drop, List.length_take]; rfl)) ?_; (with_reducible refine (impl_WholeSum.calls kj1 _ _ (l0.take 20) true _ ?side1 ?side2 A17.out).mono ?_); (case side1 => repeat (first | exact (Kd.C_below HR318.out HB.out) | (with_reducible refine ca ?_ _) | (with_reducible refine cN ?_ _) | (with_reducible refine cd1 ?_))); (case side2 => exact HC318.out); rintro e w61 ⟨rfl, hb⟩; refine ⟨_, rfl, ?_⟩; have N0 := am (bb (g := g311) (by (with_reducible repeat (first | apply bN | apply bd | apply ba)); exact B311.out) hb); have N1 := am (bp (by repeat (first | (with_reducible first | exact HB.out | apply pa | apply pN | apply p1 | refine bs ?_ E311.out) | exact HB.out)) hb); clear B311 HB; have B311 := N0; have HB := N1; clear N0 N1; (try clear hb); (try clear hb2); (try clear hk); (try clear hi); have p320 : 0 ≤ (6 : Int) := (by omega); have q320 : 6 < (l0.length : Int) := of_decide_eq_true (by first | (with_reducible assumption) | assumption); obtain ⟨ad320, e320, hx320_0⟩ := Kd.at_int HR0.out 6 p320 q320; cases e320; (try simp only [show (6 : Int).toNat = 6 from rfl, Nat.reduceMul, Nat.reduceEqDiff, Go.Addr.add, ↓reduceIte] at hx320_0); have qi320 : (6 < l0.length) = True := eq_true (by omega); (try rw [show ((6 : Int)).toNat = 6 from rfl] at hx320_0); replace hx320_0 := (HB.out.cell (World.block_lt_of_cell? w _ hx320_0)).trans hx320_0; replace p320 := eq_true p320; replace q320 := eq_true q320; have p321 : 0 ≤ (7 : Int) := (by omega); have q321 : 7 < (l0.length : Int) := of_decide_eq_true (by first | (with_reducible assumption) | assumption); obtain ⟨ad321, e321, hx321_0⟩ := Kd.at_int HR0.out 7 p321 q321; obtain rfl : ad320 = ad321 := (by injection e321); (try simp only [show (7 : Int).toNat = 7 from rfl, Nat.reduceMul, Nat.reduceEqDiff, Go.Addr.add, ↓reduceIte] at hx321_0); have qi321 : (7 < l0.length) = True := eq_true (by omega); (try rw [show ((7 : Int)).toNat = 7 from rfl] at hx321_0); replace hx321_0 := (HB.out.cell (World.block_lt_of_cell? w _ hx321_0)).trans hx321_0; replace p321 := eq_true p321; replace q321 := eq_true q321; have hcz62_0 : w61.cell? ⟨g311, 0, none⟩ = some (I q 0) := (bc B311.out 0).trans rfl; have hcz62_1 : w61.cell? ⟨g311, 1, none⟩ = some (I q 0) := (bc B311.out 1).trans rfl; have hcz62_2 : w61.cell? ⟨g311, 2, none⟩ = some (I q 0) := (bc B311.out 2).trans rfl; have hcz62_3 : w61.cell? ⟨g311, 3, none⟩ = some (I q 0) := (bc B311.out 3).trans rfl; have hcz62_4 : w61.cell? ⟨g311, 4, none⟩ = some (I q 0) := (bc B311.out 4).trans rfl; have hcz62_5 : w61.cell? ⟨g311, 5, none⟩ = some (I q 0) := (bc B311.out 5).trans rfl; have hcz62_6 : w61.cell? ⟨g311, 6, none⟩ = some (.slice none 0 0) := (bc B311.out 6).trans rfl; have hfz62_0 := bf B311.out 0; have hfz62_1 := bf B311.out 1; have hfz62_2 := bf B311.out 2; have hfz62_3 := bf B311.out 3; have hfz62_4 := bf B311.out 4; have hfz62_5 := bf B311.out 5; have hfz62_6 := bf B311.out 6))
                    refine bodyPost_ret (results_cell_row rfl _ _ g311 28 #[I q 1, I q 0, I q 0, I q 0, I q 0, I q 0, .slice none 0 0] (0, 0) _ rfl (by (with_reducible repeat (first | apply bN | apply bd | apply ba)); exact pu7e B311.out) Tryd.underlying28 rfl (by kernel_rfl)) rfl ?_
                    exact ⟨_, by first | rfl | (simp [errW_none, errW_some] <;> rfl) | (simp [*, errW_none, errW_some] <;> rfl), by first | exact Kd.R_nil _ _ _ _ _ | exact Kd.N_nil _ _ _ _ _ | exact Kd.V_nil _ _ _ _ _ | exact Kd.Q_nil _ _ _ _ _ | exact Kd.S_nil _ _ _ _ _, by repeat (first | (with_reducible first | exact HB.out | apply pa | apply pN | apply p1 | refine bs ?_ E311.out) | exact HB.out)⟩
                · rw [if_neg c21] at H
                  exact absurd H (by simp)
              · rw [if_neg c20] at H
                have c20b0 : ((rd l0 6) == 0) = false := beq_eq_false_iff_ne.mpr c20
                have c20b1 : ((rd l0 6) != 0) = true := bne_iff_ne.mpr c20
                simp only [Option.some.injEq, Prod.mk.injEq] at H
                obtain ⟨rfl, rfl, rfl, rfl, rfl, rfl, rfl⟩ := H
                obtain ⟨i063, hi063, _, hsz63, _⟩ := info_parts info5
                obtain ⟨hcut63, hA63, hC63⟩ := print_take_of (P := Tryd.prog) (Value.int .u8) 0 22 5 .i64 Tryd.underlying22 hi063 hsz63 A0 c0 l0 20 (by omega) (of_decide_eq_true (by first | (with_reducible assumption) | assumption)) HC0.out
                have HR318 := am (Kd.C_of_reads (h1 := fun _ => rfl) (hA63 _ (Kd.reads_of_C HR0.out)))
                have HC318 := am hC63
                clear hA63 hC63 hi063 hsz63
                go_wp2_with (first | ((with_reducible refine gate_callee (f := 13) rfl ?_); refine goesL_ (some 26) rfl rfl Tryd.func13 (by kernel_rfl) rfl #[J A0 (l0.take 20).length c0] rfl (by (try simp only [List.map_toArray, List.map_cons, List.map_nil]); first | done | (rw [show (l0.take 20).length = 20 from (by rw [List.length_take]; have h_ : (20 : Int) ≤ (l0.length : Int) := of_decide_eq_true (by first | (with_reducible assumption) | assumption); omega)] <;> rfl) | rfl | (simp only [List.length_drop, List.length_take]; rfl)) ?_; (with_reducible refine (impl_WholeSum.calls kj1 _ _ (l0.take 20) true _ ?side1 ?side2 A17.out).mono ?_); (case side1 => repeat (first | exact (Kd.C_below HR318.out HB.out) | (with_reducible refine ca ?_ _) | (with_reducible refine cN ?_ _) | (with_reducible refine cd1 ?_))); (case side2 => exact HC318.out); rintro e w64 ⟨rfl, hb⟩; refine ⟨_, rfl, ?_⟩; have N0 := am (bb (g := g311) (by (with_reducible repeat (first | apply bN | apply bd | apply ba)); exact B311.out) hb); have N1 := am (bp (by repeat (first | (with_reducible first | exact HB.out | apply pa | apply pN | apply p1 | refine bs ?_ E311.out) | exact HB.out)) hb); clear B311 HB; have B311 := N0; have HB := N1; clear N0 N1; (try clear hb); (try clear hb2); (try clear hk); (try clear hi); have p320 : 0 ≤ (6 : Int) := (by omega); have q320 : 6 < (l0.length : Int) := of_decide_eq_true (by first | (with_reducible assumption) | assumption); obtain ⟨ad320, e320, hx320_0⟩ := Kd.at_int HR0.out 6 p320 q320; cases e320; (try simp only [show (6 : Int).toNat = 6 from rfl, Nat.reduceMul, Nat.reduceEqDiff, Go.Addr.add, ↓reduceIte] at hx320_0); have qi320 : (6 < l0.length) = True := eq_true (by omega); (try rw [show ((6 : Int)).toNat = 6 from rfl] at hx320_0); replace hx320_0 := (HB.out.cell (World.block_lt_of_cell? w _ hx320_0)).trans hx320_0; replace p320 := eq_true p320; replace q320 := eq_true q320; have hcz65_0 : w64.cell? ⟨g311, 0, none⟩ = some (I q 0) := (bc B311.out 0).trans rfl; have hcz65_1 : w64.cell? ⟨g311, 1, none⟩ = some (I q 0) := (bc B311.out 1).trans rfl; have hcz65_2 : w64.cell? ⟨g311, 2, none⟩ = some (I q 0) := (bc B311.out 2).trans rfl; have hcz65_3 : w64.cell? ⟨g311, 3, none⟩ = some (I q 0) := (bc B311.out 3).trans rfl; have hcz65_4 : w64.cell? ⟨g311, 4, none⟩ = some (I q 0) := (bc B311.out 4).trans rfl; have hcz65_5 : w64.cell? ⟨g311, 5, none⟩ = some (I q 0) := (bc B311.out 5).trans rfl; have hcz65_6 : w64.cell? ⟨g311, 6, none⟩ = some (.slice none 0 0) := (bc B311.out 6).trans rfl; have hfz65_0 := bf B311.out 0; have hfz65_1 := bf B311.out 1; have hfz65_2 := bf B311.out 2; have hfz65_3 := bf B311.out 3; have hfz65_4 := bf B311.out 4; have hfz65_5 := bf B311.out 5; have hfz65_6 := bf B311.out 6))
                refine bodyPost_ret (results_cell_row rfl _ _ g311 28 #[I q 1, I q 0, I q 0, I q 0, I q 0, I q 0, .slice none 0 0] (0, 0) _ rfl (by (with_reducible repeat (first | apply bN | apply bd | apply ba)); exact pu7e B311.out) Tryd.underlying28 rfl (by kernel_rfl)) rfl ?_
                exact ⟨_, by first | rfl | (simp [errW_none, errW_some] <;> rfl) | (simp [*, errW_none, errW_some] <;> rfl), by first | exact Kd.R_nil _ _ _ _ _ | exact Kd.N_nil _ _ _ _ _ | exact Kd.V_nil _ _ _ _ _ | exact Kd.Q_nil _ _ _ _ _ | exact Kd.S_nil _ _ _ _ _, by repeat (first | (with_reducible first | exact HB.out | apply pa | apply pN | apply p1 | refine bs ?_ E311.out) | exact HB.out)⟩
            · rw [if_neg c19] at H
              exact absurd H (by simp)
          · replace c18 := Bool.eq_false_iff.mpr c18
            subst c18
            have H1 : (some (6, 0, 0, 0, 0, 0, ([] : List Int))) = some (r1, r2, r3, r4, r5, r6, r7) := by rw [if_neg (show ¬ (false = true) by decide)] at H; exact H
            clear H
            have H := H1
            clear H1
            simp only [Option.some.injEq, Prod.mk.injEq] at H
            obtain ⟨rfl, rfl, rfl, rfl, rfl, rfl, rfl⟩ := H
            obtain ⟨i066, hi066, _, hsz66, _⟩ := info_parts info5
            obtain ⟨hcut66, hA66, hC66⟩ := print_take_of (P := Tryd.prog) (Value.int .u8) 0 22 5 .i64 Tryd.underlying22 hi066 hsz66 A0 c0 l0 20 (by omega) (of_decide_eq_true (by first | (with_reducible assumption) | assumption)) HC0.out
            have HR318 := am (Kd.C_of_reads (h1 := fun _ => rfl) (hA66 _ (Kd.reads_of_C HR0.out)))
            have HC318 := am hC66
            clear hA66 hC66 hi066 hsz66
            go_wp2_with (first | ((with_reducible refine gate_callee (f := 13) rfl ?_); refine goesL_ (some 26) rfl rfl Tryd.func13 (by kernel_rfl) rfl #[J A0 (l0.take 20).length c0] rfl (by (try simp only [List.map_toArray, List.map_cons, List.map_nil]); first | done | (rw [show (l0.take 20).length = 20 from (by rw [List.length_take]; have h_ : (20 : Int) ≤ (l0.length : Int) := of_decide_eq_true (by first | (with_reducible assumption) | assumption); omega)] <;> rfl) | rfl | (simp only [List.length_drop, List.length_take]; rfl)) ?_; (with_reducible refine (impl_WholeSum.calls kj1 _ _ (l0.take 20) false _ ?side1 ?side2 A17.out).mono ?_); (case side1 => repeat (first | exact (Kd.C_below HR318.out HB.out) | (with_reducible refine ca ?_ _) | (with_reducible refine cN ?_ _) | (with_reducible refine cd1 ?_))); (case side2 => exact HC318.out); rintro e w67 ⟨rfl, hb⟩; refine ⟨_, rfl, ?_⟩; have N0 := am (bb (g := g311) (by (with_reducible repeat (first | apply bN | apply bd | apply ba)); exact B311.out) hb); have N1 := am (bp (by repeat (first | (with_reducible first | exact HB.out | apply pa | apply pN | apply p1 | refine bs ?_ E311.out) | exact HB.out)) hb); clear B311 HB; have B311 := N0; have HB := N1; clear N0 N1; (try clear hb); (try clear hb2); (try clear hk); (try clear hi); have hcz68_0 : w67.cell? ⟨g311, 0, none⟩ = some (I q 0) := (bc B311.out 0).trans rfl; have hcz68_1 : w67.cell? ⟨g311, 1, none⟩ = some (I q 0) := (bc B311.out 1).trans rfl; have hcz68_2 : w67.cell? ⟨g311, 2, none⟩ = some (I q 0) := (bc B311.out 2).trans rfl; have hcz68_3 : w67.cell? ⟨g311, 3, none⟩ = some (I q 0) := (bc B311.out 3).trans rfl; have hcz68_4 : w67.cell? ⟨g311, 4, none⟩ = some (I q 0) := (bc B311.out 4).trans rfl; have hcz68_5 : w67.cell? ⟨g311, 5, none⟩ = some (I q 0) := (bc B311.out 5).trans rfl; have hcz68_6 : w67.cell? ⟨g311, 6, none⟩ = some (.slice none 0 0) := (bc B311.out 6).trans rfl; have hfz68_0 := bf B311.out 0; have hfz68_1 := bf B311.out 1; have hfz68_2 := bf B311.out 2; have hfz68_3 := bf B311.out 3; have hfz68_4 := bf B311.out 4; have hfz68_5 := bf B311.out 5; have hfz68_6 := bf B311.out 6))
            refine bodyPost_ret (results_cell_row rfl _ _ g311 28 #[I q 6, I q 0, I q 0, I q 0, I q 0, I q 0, .slice none 0 0] (0, 0) _ rfl (by (with_reducible repeat (first | apply bN | apply bd | apply ba)); exact pu7e B311.out) Tryd.underlying28 rfl (by kernel_rfl)) rfl ?_
            exact ⟨_, by first | rfl | (simp [errW_none, errW_some] <;> rfl) | (simp [*, errW_none, errW_some] <;> rfl), by first | exact Kd.R_nil _ _ _ _ _ | exact Kd.N_nil _ _ _ _ _ | exact Kd.V_nil _ _ _ _ _ | exact Kd.Q_nil _ _ _ _ _ | exact Kd.S_nil _ _ _ _ _, by repeat (first | (with_reducible first | exact HB.out | apply pa | apply pN | apply p1 | refine bs ?_ E311.out) | exact HB.out)⟩
        · rw [if_neg c16] at H
          exact absurd H (by simp)

/-! ### spec_l1In: function 22 -/
def spec_l1In.f (a0 : Int) (a1 : Int) (a2 : Int) : Option (Bool) := if a0 ≥ a1 then (some (decide (a0 ≤ a2))) else (some false)
set_option maxHeartbeats 8000000 in
set_option maxRecDepth 100000 in
theorem spec_l1In.calls (a0 : Int) (a1 : Int) (a2 : Int) (r : Bool) (w : World) (h : spec_l1In.f a0 a1 a2 = some r) :
    Calls Tryd.prog 22 #[I q a0, I q a1, I q a2] w fun e w' => e = .returned (.bool r) ∧ Drawn0 w w' := by
  have H : (if a0 ≥ a1 then (some (decide (a0 ≤ a2))) else (some false)) = some r := h
  clear h
  by_cases c4 : a0 ≥ a1
  · rw [if_pos c4] at H
    have c4b0 : decide (a1 ≤ a0) = true := decide_eq_true c4
    clear c4
    obtain rfl := Option.some.inj H
    go_enter Tryd.func22, Tryd.ntmps22
    go_wp2
    go_ret
    exact ⟨by first | rfl | (simp; done) | (simp [*]; done), by repeat (first | exact Drawn0.refl _ | apply Drawn0.step)⟩
  · rw [if_neg c4] at H
    have c4b0 : decide (a1 ≤ a0) = false := decide_eq_false c4
    clear c4
    obtain rfl := Option.some.inj H
    go_enter Tryd.func22, Tryd.ntmps22
    go_wp2
    go_ret
    exact ⟨by first | rfl | (simp; done) | (simp [*]; done), by repeat (first | exact Drawn0.refl _ | apply Drawn0.step)⟩

/-! ### spec_l1Take: function 23 -/
def spec_l1Take.l0 : Nat → List Int → Int → Int → Int → Int → Option (Int)
  | 0, _, _, _, _, _ => none
  | k + 1, x0, x1, x2, x7, x8 => if x8 < x2 then (if 0 ≤ (wrap64 (x1 + x8)) then (if (wrap64 (x1 + x8)) < (x0.length : Int) then (spec_l1Take.l0 k x0 x1 x2 (wrap64 ((wrap64 (x7 * 256)) + (wrap64 (rd x0 (wrap64 (x1 + x8)))))) (wrap64 (x8 + 1))) else (none)) else (none)) else (some x7)
def spec_l1Take.f (k : Nat) (l0 : List Int) (a1 : Int) (a2 : Int) : Option (Int) := spec_l1Take.l0 k l0 a1 a2 0 0
theorem spec_l1Take.mono_l : ∀ k, (∀ y0 y1 y2 y3 y4, LeO (spec_l1Take.l0 k y0 y1 y2 y3 y4) (spec_l1Take.l0 (k + 1) y0 y1 y2 y3 y4))
  | 0 => fun _ _ _ _ _ r h => by simp [spec_l1Take.l0] at h
  | k + 1 => by
    have ih0 := spec_l1Take.mono_l k
    · intro y0 y1 y2 y3 y4
      unfold spec_l1Take.l0
      repeat' first
      | (with_reducible exact ih0 _ _ _ _ _)
      | (with_reducible exact LeO.refl _)
      | (with_reducible exact LeO.none _)
      | (with_reducible refine LeO.ite ?_ ?_)
      | (with_reducible refine LeO.bind ?_ (fun _ => ?_))
      | exact ih0 _ _ _ _ _
      | exact LeO.none _
      | refine LeO.ite ?_ ?_
      | refine LeO.bind ?_ (fun _ => ?_)
theorem spec_l1Take.mono : ∀ a0 a1 a2 k, LeO (spec_l1Take.f k a0 a1 a2) (spec_l1Take.f (k + 1) a0 a1 a2) := by
  intro a0 a1 a2 k
  have ih0 := spec_l1Take.mono_l k
  unfold spec_l1Take.f
  repeat' first
      | (with_reducible exact ih0 _ _ _ _ _)
      | (with_reducible exact LeO.refl _)
      | (with_reducible exact LeO.none _)
      | (with_reducible refine LeO.ite ?_ ?_)
      | (with_reducible refine LeO.bind ?_ (fun _ => ?_))
      | exact ih0 _ _ _ _ _
      | exact LeO.none _
      | refine LeO.ite ?_ ?_
      | refine LeO.bind ?_ (fun _ => ?_)
set_option maxHeartbeats 8000000 in
set_option maxRecDepth 100000 in
theorem spec_l1Take.calls (k : Nat) (A0 : Option Addr) (c0 : Nat) (l0 : List Int) (a1 : Int) (a2 : Int) (r : Int) (w : World) (hr0 : Kd.C (Kd.int .u8) w A0 l0.length l0) (hc0 : l0.length ≤ c0) (h : spec_l1Take.f k l0 a1 a2 = some r) :
    Calls Tryd.prog 23 #[J A0 l0.length c0, I q a1, I q a2] w fun e w' => e = .returned (I q r) ∧ Drawn0 w w' := by
  have HR0 := am hr0
  have HC0 := am hc0
  clear hr0 hc0
  have H : (spec_l1Take.l0 k l0 a1 a2 0 0) = some r := h
  clear h
  have H' := am H
  clear H
  go_enter Tryd.func23, Tryd.ntmps23
  go_wp2
  go_loopg [7, 8] k (fun kq v7 v8 w' => ∃ (x7_1 : Int) (x8_1 : Int), v7 = I q x7_1 ∧ v8 = I q x8_1 ∧ Aside0 (spec_l1Take.l0 kq l0 a1 a2 x7_1 x8_1 = some r) ∧ Aside0 (kq ≤ k) ∧ Drawn0 w w')
  case atStart => exact ⟨(0), (0), (by first | rfl | (simp; done) | (simp [*]; done)), (by first | rfl | (simp; done) | (simp [*]; done)), H', ⟨Nat.le_refl _⟩, by repeat (first | exact Drawn0.refl _ | apply Drawn0.step)⟩
  case round =>
    clear H'
    try clear c2
    try clear p2
    obtain ⟨x7_1, x8_1, rfl, rfl, HA, HK1, ⟨m1, rfl⟩⟩ := hrel
    cases gk with
    | zero => exact absurd HA.out (by simp [spec_l1Take.l0])
    | succ k1 =>
      have H := HA.out
      clear HA
      simp only [spec_l1Take.l0] at H
      by_cases c4 : x8_1 < a2
      · rw [if_pos c4] at H
        have c4b0 : decide (x8_1 < a2) = true := decide_eq_true c4
        clear c4
        obtain ⟨ji5, hji5⟩ : ∃ j_ : Int, (wrap64 (a1 + x8_1)) = j_ := ⟨_, rfl⟩
        replace H : (if 0 ≤ (ji5) then (if (ji5) < (l0.length : Int) then (spec_l1Take.l0 k1 l0 a1 a2 (wrap64 ((wrap64 (x7_1 * 256)) + (wrap64 (rd l0 (ji5))))) (wrap64 (x8_1 + 1))) else (none)) else (none)) = some r := by first | (rw [hji5] at H; exact H) | (simp only [hji5] at H ⊢; exact H)
        have hji5w : (IntKind.i64.wrap (a1 + x8_1)) = ji5 := (i64_w _).trans hji5
        by_cases c6 : 0 ≤ (ji5)
        · rw [if_pos c6] at H
          have c6b0 : decide (0 ≤ (ji5)) = true := decide_eq_true c6
          clear c6
          by_cases c7 : (ji5) < (l0.length : Int)
          · rw [if_pos c7] at H
            have c7b0 : decide ((ji5) < (l0.length : Int)) = true := decide_eq_true c7
            clear c7
            have H' := am H
            clear H
            have p337 : 0 ≤ ((ji5) : Int) := of_decide_eq_true (by first | (with_reducible assumption) | assumption)
            have q337 : (ji5) < (l0.length : Int) := of_decide_eq_true (by first | (with_reducible assumption) | assumption)
            obtain ⟨ad337, e337, hx337_0⟩ := Kd.at_int HR0.out (ji5) p337 q337
            cases e337
            replace p337 := eq_true p337
            replace q337 := eq_true q337
            go_wp2
            go_roundg k1
            case measure => have := HK1.out; omega
            case rel => exact ⟨(wrap64 ((wrap64 (x7_1 * 256)) + (wrap64 (rd l0 (ji5))))), (wrap64 (x8_1 + 1)), (by first | rfl | (simp; done) | (simp only [← hji5] <;> (first | rfl | simp)) | (simp [*]; done)), (by first | rfl | (simp; done) | (simp [*]; done)), H', ⟨by have := HK1.out; omega⟩, by repeat (first | exact Drawn0.refl _ | apply Drawn0.step)⟩
          · rw [if_neg c7] at H
            exact absurd H (by simp)
        · rw [if_neg c6] at H
          exact absurd H (by simp)
      · rw [if_neg c4] at H
        have c4b0 : decide (x8_1 < a2) = false := decide_eq_false c4
        clear c4
        obtain rfl := Option.some.inj H
        go_wp2
        go_ret
        exact ⟨by first | rfl | (simp; done) | (simp [*]; done), by repeat (first | exact Drawn0.refl _ | apply Drawn0.step)⟩

/-! ### spec_WholeSum: function 24 -/
def spec_WholeSum.f (k : Nat) (l0 : List Int) : Option (Bool) := (spec_SumWords.f k l0).bind fun t338 => (some (t338 == 0))
theorem spec_WholeSum.mono : ∀ a0 k, LeO (spec_WholeSum.f k a0) (spec_WholeSum.f (k + 1) a0) := by
  intro a0 k
  unfold spec_WholeSum.f
  repeat' first
      | (with_reducible exact spec_SumWords.mono _ _)
      | (with_reducible exact LeO.refl _)
      | (with_reducible exact LeO.none _)
      | (with_reducible refine LeO.ite ?_ ?_)
      | (with_reducible refine LeO.bind ?_ (fun _ => ?_))
      | exact spec_SumWords.mono _ _
      | exact LeO.none _
      | refine LeO.ite ?_ ?_
      | refine LeO.bind ?_ (fun _ => ?_)
set_option maxHeartbeats 8000000 in
set_option maxRecDepth 100000 in
theorem spec_WholeSum.calls (k : Nat) (A0 : Option Addr) (c0 : Nat) (l0 : List Int) (r : Bool) (w : World) (hr0 : Kd.C (Kd.int .u8) w A0 l0.length l0) (hc0 : l0.length ≤ c0) (h : spec_WholeSum.f k l0 = some r) :
    Calls Tryd.prog 24 #[J A0 l0.length c0] w fun e w' => e = .returned (.bool r) ∧ Drawn0 w w' := by
  have HR0 := am hr0
  have HC0 := am hc0
  clear hr0 hc0
  have H : ((spec_SumWords.f k l0).bind fun t338 => (some (t338 == 0))) = some r := h
  clear h
  replace H := Option.bind_eq_some_iff.mp H
  obtain ⟨t338, A20, H⟩ := H
  replace H : (some (t338 == 0)) = some r := H
  have A2 := am A20
  clear A20
  obtain rfl := Option.some.inj H
  go_enter Tryd.func24, Tryd.ntmps24
  go_wp2_with (first | ((with_reducible refine gate_callee (f := 40) rfl ?_); refine goesL_ (some 4) rfl rfl Tryd.func40 (by kernel_rfl) rfl #[J A0 l0.length c0] rfl (by (try simp only [List.map_toArray, List.map_cons, List.map_nil]); first | done | rfl) ?_; (with_reducible refine (spec_SumWords.calls k _ _ l0 t338 _ ?side1 ?side2 A2.out).mono ?_); (case side1 => repeat (first | exact HR0.out | (with_reducible refine ca ?_ _) | (with_reducible refine cN ?_ _) | (with_reducible refine cd1 ?_))); (case side2 => exact HC0.out); rintro e w' ⟨rfl, ⟨nd, rfl⟩⟩; refine ⟨_, rfl, ?_⟩))
  go_ret
  exact ⟨by first | rfl | (simp; done) | (simp [*]; done), by repeat (first | exact Drawn0.refl _ | apply Drawn0.step)⟩

end Go.Proofs.YtgpemjkcpeimdaaDoor.QFnPackets
