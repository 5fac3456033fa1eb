-- MADE BY PROGRAM (qprint.py): walks of the functions that the law FnPackets reaches. Lean checks it.
import Derived.Test.YtgpemjkcpeimdaaDoorQFnPacketsx0
import Derived.Test.YtgpemjkcpeimdaaDoorQFnPacketsx1
import Derived.Test.YtgpemjkcpeimdaaDoorQFnPacketsx3
import Derived.Test.YtgpemjkcpeimdaaDoorQFnPacketsx4
import Derived.Test.YtgpemjkcpeimdaaDoorQFnPacketsx5
import Derived.Test.YtgpemjkcpeimdaaDoorQFnPacketsx6
import Derived.Test.YtgpemjkcpeimdaaDoorQFnPacketsx7
import Derived.Test.YtgpemjkcpeimdaaDoorQFnPacketsx8
namespace Go.Proofs.YtgpemjkcpeimdaaDoor.QFnPackets
open Go.RowKit Go.Proofs.YtgpemjkcpeimdaaDoorW.PrintWords Go.Proofs.YtgpemjkcpeimdaaDoorW.PrintLast Go.Proofs.YtgpemjkcpeimdaaDoorW.PrintMore
open Go.Proofs.YtgpemjkcpeimdaaDoorW.PrintWords renaming blk_drewN → bN, blk_drew → bd, blk_alloc → ba, blk_cell → bc, blk_frozen → bf, below_set → bs, pw_below_drewN → pN, below_drew1 → p1, below_alloc → pa, blk_below → bb, below_size → bz, below_step → bp, blk_lt → bl, blk_far → bq, add_block → ab
open Go.Proofs.YtgpemjkcpeimdaaDoorW.PrintWords.Kd renaming R_drewN → rN, R_drew → rd1, R_alloc → ra, R_far → rf, R_below → rb, R_new' → rn, R_lt → rl, R_elder' → re, R_lower → rw1, C_alloc → ca, C_drewN → cN, C_drew → cd1, S_alloc → sa, S_drewN → sN, S_drew → sd, S_far → sf, S_mono → sm, S_types → st, S_lt → sl
open Go.Proofs.YtgpemjkcpeimdaaDoorW.PrintWords.Aside0 renaming mk → am
open Go.Value renaming int → I, slice → J
open Go.IntKind renaming i64 → q
attribute [local go_sem] max2_int min2_int max_two min_two max_three min_three max_four min_four   -- for this text's walks alone
set_option linter.unusedVariables false
set_option linter.unusedSimpArgs false
theorem pu2j {W : World} {g t : Nat} {u0 u1 v0 v1 : Value} (h : W.heap[g]? = some (.cells #[u0, u1] t (0, 0))) : ((W.setCell ⟨g, 0, none⟩ v0).setCell ⟨g, 1, none⟩ v1).heap[g]? = some (.cells #[v0, v1] t (0, 0)) := by
  refine blk_put (cs := #[v0, u1]) ?_ 1 _ rfl
  exact blk_put (cs := #[u0, u1]) h 0 _ rfl
theorem pu6j {W : World} {g t : Nat} {u0 u1 u2 u3 u4 u5 v0 v1 v2 v3 v4 v5 : Value} (h : W.heap[g]? = some (.cells #[u0, u1, u2, u3, u4, u5] t (0, 0))) : ((((((W.setCell ⟨g, 0, none⟩ v0).setCell ⟨g, 1, none⟩ v1).setCell ⟨g, 2, none⟩ v2).setCell ⟨g, 3, none⟩ v3).setCell ⟨g, 4, none⟩ v4).setCell ⟨g, 5, none⟩ v5).heap[g]? = some (.cells #[v0, v1, v2, v3, v4, v5] t (0, 0)) := by
  refine blk_put (cs := #[v0, v1, v2, v3, v4, u5]) ?_ 5 _ rfl
  refine blk_put (cs := #[v0, v1, v2, v3, u4, u5]) ?_ 4 _ rfl
  refine blk_put (cs := #[v0, v1, v2, u3, u4, u5]) ?_ 3 _ rfl
  refine blk_put (cs := #[v0, v1, u2, u3, u4, u5]) ?_ 2 _ rfl
  refine blk_put (cs := #[v0, u1, u2, u3, u4, u5]) ?_ 1 _ rfl
  exact blk_put (cs := #[u0, u1, u2, u3, u4, u5]) h 0 _ rfl
theorem pu7j {W : World} {g t : Nat} {u0 u1 u2 u3 u4 u5 u6 v0 v1 v2 v3 v4 v5 v6 : Value} (h : W.heap[g]? = some (.cells #[u0, u1, u2, u3, u4, u5, u6] t (0, 0))) : (((((((W.setCell ⟨g, 0, none⟩ v0).setCell ⟨g, 1, none⟩ v1).setCell ⟨g, 2, none⟩ v2).setCell ⟨g, 3, none⟩ v3).setCell ⟨g, 4, none⟩ v4).setCell ⟨g, 5, none⟩ v5).setCell ⟨g, 6, none⟩ v6).heap[g]? = some (.cells #[v0, v1, v2, v3, v4, v5, v6] t (0, 0)) := by
  refine blk_put (cs := #[v0, v1, v2, v3, v4, v5, u6]) ?_ 6 _ rfl
  refine blk_put (cs := #[v0, v1, v2, v3, v4, u5, u6]) ?_ 5 _ rfl
  refine blk_put (cs := #[v0, v1, v2, v3, u4, u5, u6]) ?_ 4 _ rfl
  refine blk_put (cs := #[v0, v1, v2, u3, u4, u5, u6]) ?_ 3 _ rfl
  refine blk_put (cs := #[v0, v1, u2, u3, u4, u5, u6]) ?_ 2 _ rfl
  refine blk_put (cs := #[v0, u1, u2, u3, u4, u5, u6]) ?_ 1 _ rfl
  exact blk_put (cs := #[u0, u1, u2, u3, u4, u5, u6]) h 0 _ rfl

/-! ### laws_FnPackets: function 3 -/
def laws_FnPackets.j0 : Nat → List Int → Bool → Option (Bool)
  | 0, _, _ => none
  | k + 1, x0, x35 => if x35 = true then none else ((spec_DrawBuildPacket.f k x0).bind fun bt527 => ((impl_BuildPacket.f k bt527.1 bt527.2.1 bt527.2.2.1 bt527.2.2.2.1 bt527.2.2.2.2.1 bt527.2.2.2.2.2).bind fun bt536 => (if bt536.1 = 0 then ((impl_ParsePacket.f k bt536.2).bind fun bt542 => (if bt542.1 = 0 then ((impl_SamePacket.f bt542.2.1 bt542.2.2.1 bt542.2.2.2.1 bt542.2.2.2.2.1 bt542.2.2.2.2.2.1 bt542.2.2.2.2.2.2 bt527.1 bt527.2.1 bt527.2.2.1 bt527.2.2.2.1 bt527.2.2.2.2.1 bt527.2.2.2.2.2).bind fun t552 => (if t552 = true then (if (bt536.2.length : Int) = (wrap64 (24 + (bt527.2.2.2.2.2.length : Int))) then (if 20 ≤ (bt536.2.length : Int) then ((impl_WholeSum.f k (bt536.2.take 20)).bind fun t557 => (if t557 = true then ((impl_AddressText.f bt527.2.1).bind fun bt558 => (some (decide ((bt558.2.size : Int) ≥ 7)))) else none)) else (none)) else none) else none)) else none)) else ((spec_PacketFault.f k bt527.1 bt527.2.1 bt527.2.2.1 bt527.2.2.2.1 bt527.2.2.2.2.1 bt527.2.2.2.2.2).bind fun t541 => (some (t541 == bt536.1))))))
def laws_FnPackets.f (k : Nat) (l0 : List Int) : Option (Bool) := (laws_lwBig.f l0).bind fun t503 => (if t503 = true then (some true) else ((spec_DrawParsePacket.f k l0).bind fun t504 => ((impl_ParsePacket.f k t504).bind fun bt507 => (if bt507.1 = 0 then ((impl_PacketFault.f k bt507.2.1 bt507.2.2.1 bt507.2.2.2.1 bt507.2.2.2.2.1 bt507.2.2.2.2.2.1 bt507.2.2.2.2.2.2).bind fun t517 => (laws_FnPackets.j0 k l0 (t517 != 0))) else ((spec_ParsePacket.f k t504).bind fun bt518 => (if bt518.1 = bt507.1 then (laws_FnPackets.j0 k l0 false) else (laws_FnPackets.j0 k l0 true)))))))
theorem laws_FnPackets.mono_l : ∀ k, (∀ y0 y1, LeO (laws_FnPackets.j0 k y0 y1) (laws_FnPackets.j0 (k + 1) y0 y1))
  | 0 => fun _ _ r h => by simp [laws_FnPackets.j0] at h
  | k + 1 => by
    have ih0 := laws_FnPackets.mono_l k
    · intro y0 y1
      unfold laws_FnPackets.j0
      repeat' first
      | (with_reducible exact ih0 _ _)
      | (with_reducible exact impl_BuildPacket.mono _ _ _ _ _ _ _)
      | (with_reducible exact impl_PacketFault.mono _ _ _ _ _ _ _)
      | (with_reducible exact impl_ParsePacket.mono _ _)
      | (with_reducible exact impl_WholeSum.mono _ _)
      | (with_reducible exact spec_DrawBuildPacket.mono _ _)
      | (with_reducible exact spec_DrawParsePacket.mono _ _)
      | (with_reducible exact spec_PacketFault.mono _ _ _ _ _ _ _)
      | (with_reducible exact spec_ParsePacket.mono _ _)
      | (with_reducible exact LeO.refl _)
      | (with_reducible exact LeO.none _)
      | (with_reducible refine LeO.ite ?_ ?_)
      | (with_reducible refine LeO.bind ?_ (fun _ => ?_))
      | exact ih0 _ _
      | exact impl_BuildPacket.mono _ _ _ _ _ _ _
      | exact impl_PacketFault.mono _ _ _ _ _ _ _
      | exact impl_ParsePacket.mono _ _
      | exact impl_WholeSum.mono _ _
      | exact spec_DrawBuildPacket.mono _ _
      | exact spec_DrawParsePacket.mono _ _
      | exact spec_PacketFault.mono _ _ _ _ _ _ _
      | exact spec_ParsePacket.mono _ _
      | exact LeO.none _
      | refine LeO.ite ?_ ?_
      | refine LeO.bind ?_ (fun _ => ?_)
theorem laws_FnPackets.mono : ∀ a0 k, LeO (laws_FnPackets.f k a0) (laws_FnPackets.f (k + 1) a0) := by
  intro a0 k
  have ih0 := laws_FnPackets.mono_l k
  unfold laws_FnPackets.f
  repeat' first
      | (with_reducible exact ih0 _ _)
      | (with_reducible exact impl_BuildPacket.mono _ _ _ _ _ _ _)
      | (with_reducible exact impl_PacketFault.mono _ _ _ _ _ _ _)
      | (with_reducible exact impl_ParsePacket.mono _ _)
      | (with_reducible exact impl_WholeSum.mono _ _)
      | (with_reducible exact spec_DrawBuildPacket.mono _ _)
      | (with_reducible exact spec_DrawParsePacket.mono _ _)
      | (with_reducible exact spec_PacketFault.mono _ _ _ _ _ _ _)
      | (with_reducible exact spec_ParsePacket.mono _ _)
      | (with_reducible exact LeO.refl _)
      | (with_reducible exact LeO.none _)
      | (with_reducible refine LeO.ite ?_ ?_)
      | (with_reducible refine LeO.bind ?_ (fun _ => ?_))
      | exact ih0 _ _
      | exact impl_BuildPacket.mono _ _ _ _ _ _ _
      | exact impl_PacketFault.mono _ _ _ _ _ _ _
      | exact impl_ParsePacket.mono _ _
      | exact impl_WholeSum.mono _ _
      | exact spec_DrawBuildPacket.mono _ _
      | exact spec_DrawParsePacket.mono _ _
      | exact spec_PacketFault.mono _ _ _ _ _ _ _
      | exact spec_ParsePacket.mono _ _
      | exact LeO.none _
      | refine LeO.ite ?_ ?_
      | refine LeO.bind ?_ (fun _ => ?_)
def laws_FnPackets.T5 : Bool × List (List Nat × List Nat) := (true, [([], []), ([0], [0]), ([1], [1]), ([2], [2]), ([3], [3]), ([4, 3, 3], [3, 4]), ([5, 3], [3, 5]), ([3], [3]), ([7, 3], [3, 7]), ([6, 8, 3], [3, 6, 8]), ([3, 9], [3, 9]), ([10, 5], [10]), ([11], [11]), ([12, 11], [11, 12]), ([13, 11], [11, 13]), ([14, 11, 11], [11, 14]), ([15], [15]), ([16, 15], [15, 16]), ([17, 15, 15], [15, 17]), ([18, 15], [15, 18]), ([15, 19, 11], [11, 15, 19]), ([11, 20], [11, 20])])
def laws_FnPackets.B5 : List Nat := [0, 1, 3, 7, 15, 31, 63, 15, 143, 511, 1023, 2047, 4095, 8191, 16383, 32767, 65535, 131071, 262143, 524287, 1048575, 2097151]
theorem laws_FnPackets.tab5 : rtab .any (opsOf Tryd.f3 5) = laws_FnPackets.T5 := by kernel_rfl
theorem laws_FnPackets.bits5 : waitsOk laws_FnPackets.T5.2 laws_FnPackets.B5 = true := by kernel_rfl
theorem fieldText (W : World) (i : Int) (s : ByteArray) : Sem.run Tryd.prog (Instr.field 37 (.agg #[I q i, .string s]) 1) W = .ok (.string s) W := by
  have hutr_ := Tryd.underlying37
  unfold Instr.field
  go_simp
  (try simp only [asAgg])
  (try go_simp)
  (try rfl)
set_option maxHeartbeats 8000000 in
set_option maxRecDepth 100000 in
theorem laws_FnPackets.calls (k : Nat) (A0 : Option Addr) (c0 : Nat) (l0 : List Int) (r : Bool) (w : World) (hr0 : Kd.C (Kd.int .u8) w A0 l0.length l0) (hc0 : l0.length ≤ c0) (ht_ : Lib.TabIs Tryd.prog w "internal/strconv.uint64pow10" .u64 Lib.pow10Tab) (h : laws_FnPackets.f k l0 = some r) :
    Calls Tryd.prog 3 #[J A0 l0.length c0] w fun e w' => e = .returned (.bool r) ∧ Below w.heap.size w w' := by
  have hfd_ := fieldText
  have hu28 := Tryd.underlying28
  have hu26 := Tryd.underlying26
  have hu33 := Tryd.underlying33
  have HR0 := am hr0
  have HC0 := am hc0
  clear hr0 hc0
  have HB := am (Below.refl w.heap.size w)
  have H : ((laws_lwBig.f l0).bind fun t503 => (if t503 = true then (some true) else ((spec_DrawParsePacket.f k l0).bind fun t504 => ((impl_ParsePacket.f k t504).bind fun bt507 => (if bt507.1 = 0 then ((impl_PacketFault.f k bt507.2.1 bt507.2.2.1 bt507.2.2.2.1 bt507.2.2.2.2.1 bt507.2.2.2.2.2.1 bt507.2.2.2.2.2.2).bind fun t517 => (laws_FnPackets.j0 k l0 (t517 != 0))) else ((spec_ParsePacket.f k t504).bind fun bt518 => (if bt518.1 = bt507.1 then (laws_FnPackets.j0 k l0 false) else (laws_FnPackets.j0 k l0 true)))))))) = some r := h
  clear h
  replace H := Option.bind_eq_some_iff.mp H
  obtain ⟨t503, A20, H⟩ := H
  replace H : (if t503 = true then (some true) else ((spec_DrawParsePacket.f k l0).bind fun t504 => ((impl_ParsePacket.f k t504).bind fun bt507 => (if bt507.1 = 0 then ((impl_PacketFault.f k bt507.2.1 bt507.2.2.1 bt507.2.2.2.1 bt507.2.2.2.2.1 bt507.2.2.2.2.2.1 bt507.2.2.2.2.2.2).bind fun t517 => (laws_FnPackets.j0 k l0 (t517 != 0))) else ((spec_ParsePacket.f k t504).bind fun bt518 => (if bt518.1 = bt507.1 then (laws_FnPackets.j0 k l0 false) else (laws_FnPackets.j0 k l0 true))))))) = some r := H
  have A2 := am A20
  clear A20
  by_cases c3 : t503 = true
  · subst c3
    have H1 : (some true) = some r := by rw [if_pos rfl] at H; exact H
    clear H
    have H := H1
    clear H1
    obtain rfl := Option.some.inj H
    go_enter Tryd.func3, Tryd.ntmps3
    go_wp2_with (first | ((with_reducible refine gate_callee (f := 4) rfl ?_); refine goesL_ (some 9) rfl rfl Tryd.func4 (by kernel_rfl) rfl #[J A0 l0.length c0] rfl (by (try simp only [List.map_toArray, List.map_cons, List.map_nil]); first | done | rfl) ?_; (with_reducible refine (laws_lwBig.calls _ _ l0 true _ ?side1 ?side2 A2.out).mono ?_); (case side1 => repeat (first | exact HR0.out | (with_reducible refine ca ?_ _) | (with_reducible refine cN ?_ _) | (with_reducible refine cd1 ?_))); (case side2 => exact HC0.out); rintro e w' ⟨rfl, ⟨nd, rfl⟩⟩; refine ⟨_, rfl, ?_⟩))
    go_ret
    exact ⟨by first | rfl | (simp [errW_none, errW_some] <;> rfl) | (simp [*, errW_none, errW_some] <;> rfl), by repeat (first | (with_reducible first | exact HB.out | apply pa | apply pN | apply p1) | exact HB.out)⟩
  · replace c3 := Bool.eq_false_iff.mpr c3
    subst c3
    have H1 : ((spec_DrawParsePacket.f k l0).bind fun t504 => ((impl_ParsePacket.f k t504).bind fun bt507 => (if bt507.1 = 0 then ((impl_PacketFault.f k bt507.2.1 bt507.2.2.1 bt507.2.2.2.1 bt507.2.2.2.2.1 bt507.2.2.2.2.2.1 bt507.2.2.2.2.2.2).bind fun t517 => (laws_FnPackets.j0 k l0 (t517 != 0))) else ((spec_ParsePacket.f k t504).bind fun bt518 => (if bt518.1 = bt507.1 then (laws_FnPackets.j0 k l0 false) else (laws_FnPackets.j0 k l0 true)))))) = some r := by rw [if_neg (show ¬ (false = true) by decide)] at H; exact H
    clear H
    have H := H1
    clear H1
    replace H := Option.bind_eq_some_iff.mp H
    obtain ⟨t504, A40, H⟩ := H
    replace H : ((impl_ParsePacket.f k t504).bind fun bt507 => (if bt507.1 = 0 then ((impl_PacketFault.f k bt507.2.1 bt507.2.2.1 bt507.2.2.2.1 bt507.2.2.2.2.1 bt507.2.2.2.2.2.1 bt507.2.2.2.2.2.2).bind fun t517 => (laws_FnPackets.j0 k l0 (t517 != 0))) else ((spec_ParsePacket.f k t504).bind fun bt518 => (if bt518.1 = bt507.1 then (laws_FnPackets.j0 k l0 false) else (laws_FnPackets.j0 k l0 true))))) = some r := H
    have A4 := am A40
    clear A40
    replace H := Option.bind_eq_some_iff.mp H
    obtain ⟨⟨t507, t508, t509, t510, t511, t512, t513⟩, A50, H⟩ := H
    replace H : (if t507 = 0 then ((impl_PacketFault.f k t508 t509 t510 t511 t512 t513).bind fun t517 => (laws_FnPackets.j0 k l0 (t517 != 0))) else ((spec_ParsePacket.f k t504).bind fun bt518 => (if bt518.1 = t507 then (laws_FnPackets.j0 k l0 false) else (laws_FnPackets.j0 k l0 true)))) = some r := H
    have A5 := am A50
    clear A50
    have HC6 := am H
    clear H
    go_enter Tryd.func3, Tryd.ntmps3
    go_upto_region 5 with (first | ((with_reducible refine gate_callee (f := 4) rfl ?_); refine goesL_ (some 9) rfl rfl Tryd.func4 (by kernel_rfl) rfl #[J A0 l0.length c0] rfl (by (try simp only [List.map_toArray, List.map_cons, List.map_nil]); first | done | rfl) ?_; (with_reducible refine (laws_lwBig.calls _ _ l0 false _ ?side1 ?side2 A2.out).mono ?_); (case side1 => repeat (first | exact HR0.out | (with_reducible refine ca ?_ _) | (with_reducible refine cN ?_ _) | (with_reducible refine cd1 ?_))); (case side2 => exact HC0.out); rintro e w' ⟨rfl, ⟨nd, rfl⟩⟩; refine ⟨_, rfl, ?_⟩) | ((with_reducible refine gate_callee (f := 5) rfl ?_); refine goesL_ (some 11) rfl rfl Tryd.func5 (by kernel_rfl) rfl #[J A0 l0.length c0] rfl (by (try simp only [List.map_toArray, List.map_cons, List.map_nil]); first | done | rfl) ?_; (with_reducible refine (spec_DrawParsePacket.calls k _ _ l0 t504 _ ?side1 ?side2 A4.out).mono ?_); (case side1 => repeat (first | exact HR0.out | (with_reducible refine ca ?_ _) | (with_reducible refine cN ?_ _) | (with_reducible refine cd1 ?_))); (case side2 => exact HC0.out); rintro e w7 ⟨v505, rfl, ho0, hb⟩; refine ⟨_, rfl, ?_⟩; have N0 := am (rw1 ho0 (bz (by repeat (first | (with_reducible first | exact HB.out | apply pa | apply pN | apply p1) | exact HB.out)))); have N1 := am (bp (by repeat (first | (with_reducible first | exact HB.out | apply pa | apply pN | apply p1) | exact HB.out)) hb); clear HB; have O506 := N0; have HB := N1; clear N0 N1; (try clear hb); (try clear hb2); (try clear hk); (try clear hi); (try clear ho0); obtain ⟨Ao8, co8, eo8⟩ := Kd.R_slice O506.out; subst eo8) | ((with_reducible refine gate_callee (f := 6) rfl ?_); refine goesL_ (some 13) rfl rfl Tryd.func6 (by kernel_rfl) rfl #[J Ao8 t504.length co8] rfl (by (try simp only [List.map_toArray, List.map_cons, List.map_nil]); first | done | rfl) ?_; (with_reducible refine (impl_ParsePacket.calls k _ _ t504 t507 t508 t509 t510 t511 t512 t513 _ ?side1 ?side2 A5.out).mono ?_); (case side1 => repeat (first | exact (Kd.R_reads' O506.out).2.2 | (with_reducible refine ca ?_ _) | (with_reducible refine cN ?_ _) | (with_reducible refine cd1 ?_))); (case side2 => exact (Kd.R_reads' O506.out).2.1); rintro e w9 ⟨v514, rfl, ho0, hb⟩; refine ⟨_, rfl, ?_⟩; have N0 := am (re (by (with_reducible repeat (first | apply ra | apply rN | apply rd1)); exact O506.out) (Kd.R_base ho0) hb); have N1 := am (rw1 (rn ho0 (rl (by (with_reducible repeat (first | apply ra | apply rN | apply rd1)); exact O506.out))) (bz (by repeat (first | (with_reducible first | exact HB.out | apply pa | apply pN | apply p1) | exact HB.out)))); have N2 := am (bp (by repeat (first | (with_reducible first | exact HB.out | apply pa | apply pN | apply p1) | exact HB.out)) hb); clear O506 HB; have O506 := N0; have O515 := N1; have HB := N2; clear N0 N1 N2; (try clear hb); (try clear hb2); (try clear hk); (try clear hi); (try clear ho0)) | ((with_reducible refine gate_dst (N := 4) rfl ?_); (try (refine gate_guard (by rfl) ?_; dsimp only)); refine box_event ?hg (N := 4) ?hd (cs := #[I q 0, I q 0, I q 0, I q 0, I q 0, I q 0, .slice none 0 0]) (t := 28) ?hr ?_; (case hd => rfl); (case hg => rfl); (case hr => first | (go_simp; done) | (go_simp; rfl)); intro g516 hg w10 hbox hb; have N0 := am (rb (by (with_reducible repeat (first | apply ra | apply rN | apply rd1)); exact O506.out) hb); have N1 := am (rb (by (with_reducible repeat (first | apply ra | apply rN | apply rd1)); exact O515.out) hb); have N2 := am (bp (by repeat (first | (with_reducible first | exact HB.out | apply pa | apply pN | apply p1) | exact HB.out)) hb); have N3 := am (hbox); have N4 := am ((by rw [hg]; exact (bz (by repeat (first | (with_reducible first | exact HB.out | apply pa | apply pN | apply p1) | exact HB.out))) : w.heap.size ≤ g516)); have N5 := am ((by rw [hg]; exact (bz (by repeat (first | (with_reducible first | exact HB.out | apply pa | apply pN | apply p1) | exact HB.out))) : w.heap.size ≤ g516)); clear O506 O515 HB; have O506 := N0; have O515 := N1; have HB := N2; have B516 := N3; have GW516 := N4; have E516 := N5; clear N0 N1 N2 N3 N4 N5 hb hbox hg; have hcz11_0 : w10.cell? ⟨g516, 0, none⟩ = some (I q 0) := (bc B516.out 0).trans rfl; have hcz11_1 : w10.cell? ⟨g516, 1, none⟩ = some (I q 0) := (bc B516.out 1).trans rfl; have hcz11_2 : w10.cell? ⟨g516, 2, none⟩ = some (I q 0) := (bc B516.out 2).trans rfl; have hcz11_3 : w10.cell? ⟨g516, 3, none⟩ = some (I q 0) := (bc B516.out 3).trans rfl; have hcz11_4 : w10.cell? ⟨g516, 4, none⟩ = some (I q 0) := (bc B516.out 4).trans rfl; have hcz11_5 : w10.cell? ⟨g516, 5, none⟩ = some (I q 0) := (bc B516.out 5).trans rfl; have hcz11_6 : w10.cell? ⟨g516, 6, none⟩ = some (.slice none 0 0) := (bc B516.out 6).trans rfl; have hfz11_0 := bf B516.out 0; have hfz11_1 := bf B516.out 1; have hfz11_2 := bf B516.out 2; have hfz11_3 := bf B516.out 3; have hfz11_4 := bf B516.out 4; have hfz11_5 := bf B516.out 5; have hfz11_6 := bf B516.out 6; obtain ⟨Ao12, co12, eo12⟩ := Kd.R_slice O515.out; subst eo12))
    (try simp only [Act.put, List.setIfInBounds_toArray, List.set_cons_zero, List.set_cons_succ])
    go_cut [35] (fun v35 wc => ∃ (kq : Nat) (x35_5 : Bool), v35 = .bool x35_5 ∧ Aside0 (laws_FnPackets.j0 kq l0 x35_5 = some r) ∧ Aside0 (kq ≤ k) ∧ Aside0 (Kd.R (Kd.int .u8) 5 wc w.heap.size (fun _ => True) (J Ao12 t513.length co12) t513) ∧ Aside0 (wc.heap[g516]? = some (.cells #[I q t507, I q t508, I q t509, I q t510, I q t511, I q t512, (J Ao12 t513.length co12)] 28 (0, 0))) ∧ Aside0 (Below w.heap.size w wc))
    case first =>
      have H := HC6.out
      clear HC6
      by_cases c13 : t507 = 0
      · rw [if_pos c13] at H
        have c13b0 : (t507 == 0) = true := beq_iff_eq.mpr c13
        have c13b1 : (t507 != 0) = false := bne_eq_false_iff_eq.mpr c13
        clear c13
        (first | rw [c13b0] | (simp only [i64_w, i32_w]; rw [c13b0]) | skip)
        replace H := Option.bind_eq_some_iff.mp H
        obtain ⟨t517, A140, H⟩ := H
        replace H : (laws_FnPackets.j0 k l0 (t517 != 0)) = some r := H
        have A14 := am A140
        clear A140
        have H' := am H
        clear H
        try go_wp2
        have N0 : Aside0 (Kd.R (Kd.int .u8) 5 (((((((w10.setCell ⟨g516, 0, none⟩ (I q t507)).setCell ⟨g516, 1, none⟩ (I q t508)).setCell ⟨g516, 2, none⟩ (I q t509)).setCell ⟨g516, 3, none⟩ (I q t510)).setCell ⟨g516, 4, none⟩ (I q t511)).setCell ⟨g516, 5, none⟩ (I q t512)).setCell ⟨g516, 6, none⟩ (J Ao12 t513.length co12)) w.heap.size (fun k_ => some k_ ≠ (J Ao12 t513.length co12 : Value).ownBlock) (J Ao8 t504.length co8) t504) := ⟨by (with_reducible repeat (first | apply ra | apply rN | apply rd1)); exact Kd.R_mono (rf (p := ⟨g516, 6, none⟩) (rf (p := ⟨g516, 5, none⟩) (rf (p := ⟨g516, 4, none⟩) (rf (p := ⟨g516, 3, none⟩) (rf (p := ⟨g516, 2, none⟩) (rf (p := ⟨g516, 1, none⟩) (rf (p := ⟨g516, 0, none⟩) (Kd.R_types O506.out B516.out (by decide)) (fun _ hk => hk.2) (I q t507)) (fun _ hk => hk.2) (I q t508)) (fun _ hk => hk.2) (I q t509)) (fun _ hk => hk.2) (I q t510)) (fun _ hk => hk.2) (I q t511)) (fun _ hk => hk.2) (I q t512)) (fun _ hk => hk.2) (J Ao12 t513.length co12)) (fun _ hk => hk.1.2)⟩
        have N1 : Aside0 (Kd.R (Kd.int .u8) 5 (((((((w10.setCell ⟨g516, 0, none⟩ (I q t507)).setCell ⟨g516, 1, none⟩ (I q t508)).setCell ⟨g516, 2, none⟩ (I q t509)).setCell ⟨g516, 3, none⟩ (I q t510)).setCell ⟨g516, 4, none⟩ (I q t511)).setCell ⟨g516, 5, none⟩ (I q t512)).setCell ⟨g516, 6, none⟩ (J Ao12 t513.length co12)) w.heap.size (fun k_ => some k_ ≠ (J Ao8 t504.length co8 : Value).ownBlock) (J Ao12 t513.length co12) t513) := ⟨by (with_reducible repeat (first | apply ra | apply rN | apply rd1)); exact Kd.R_mono (rf (p := ⟨g516, 6, none⟩) (rf (p := ⟨g516, 5, none⟩) (rf (p := ⟨g516, 4, none⟩) (rf (p := ⟨g516, 3, none⟩) (rf (p := ⟨g516, 2, none⟩) (rf (p := ⟨g516, 1, none⟩) (rf (p := ⟨g516, 0, none⟩) (Kd.R_types O515.out B516.out (by decide)) (fun _ hk => hk.2) (I q t507)) (fun _ hk => hk.2) (I q t508)) (fun _ hk => hk.2) (I q t509)) (fun _ hk => hk.2) (I q t510)) (fun _ hk => hk.2) (I q t511)) (fun _ hk => hk.2) (I q t512)) (fun _ hk => hk.2) (J Ao12 t513.length co12)) (fun _ hk => hk.1.2)⟩
        have N2 : Aside0 ((((((((w10.setCell ⟨g516, 0, none⟩ (I q t507)).setCell ⟨g516, 1, none⟩ (I q t508)).setCell ⟨g516, 2, none⟩ (I q t509)).setCell ⟨g516, 3, none⟩ (I q t510)).setCell ⟨g516, 4, none⟩ (I q t511)).setCell ⟨g516, 5, none⟩ (I q t512)).setCell ⟨g516, 6, none⟩ (J Ao12 t513.length co12)).heap[g516]? = some (.cells #[I q t507, I q t508, I q t509, I q t510, I q t511, I q t512, J Ao12 t513.length co12] 28 (0, 0))) := ⟨by (with_reducible repeat (first | apply bN | apply bd | apply ba)); exact pu7j B516.out⟩
        have N3 : Aside0 (Below w.heap.size w (((((((w10.setCell ⟨g516, 0, none⟩ (I q t507)).setCell ⟨g516, 1, none⟩ (I q t508)).setCell ⟨g516, 2, none⟩ (I q t509)).setCell ⟨g516, 3, none⟩ (I q t510)).setCell ⟨g516, 4, none⟩ (I q t511)).setCell ⟨g516, 5, none⟩ (I q t512)).setCell ⟨g516, 6, none⟩ (J Ao12 t513.length co12))) := ⟨by repeat (first | (with_reducible first | exact HB.out | apply pa | apply pN | apply p1 | refine bs ?_ E516.out) | exact HB.out)⟩
        (try clear O506)
        (try clear O515)
        (try clear B516)
        (try clear HB)
        generalize (((((((w10.setCell ⟨g516, 0, none⟩ (I q t507)).setCell ⟨g516, 1, none⟩ (I q t508)).setCell ⟨g516, 2, none⟩ (I q t509)).setCell ⟨g516, 3, none⟩ (I q t510)).setCell ⟨g516, 4, none⟩ (I q t511)).setCell ⟨g516, 5, none⟩ (I q t512)).setCell ⟨g516, 6, none⟩ (J Ao12 t513.length co12)) = w15 at N0 N1 N2 N3 ⊢
        have O506 := N0
        have O515 := N1
        have B516 := N2
        have HB := N3
        clear N0 N1 N2 N3
        have N0 := am (rd1 O506.out)
        have N1 := am (rd1 O515.out)
        have N2 := am (bd B516.out)
        have N3 := am (p1 HB.out)
        clear O506
        clear O515
        clear B516
        clear HB
        have O506 := N0
        have O515 := N1
        have B516 := N2
        have HB := N3
        clear N0 N1 N2 N3
        refine start_ (n := 22) (S := fun w' => w'.cell? ⟨g516, 0, none⟩ = some (I q t507) ∧ w'.cell? ⟨g516, 1, none⟩ = some (I q t508) ∧ w'.cell? ⟨g516, 2, none⟩ = some (I q t509) ∧ w'.cell? ⟨g516, 3, none⟩ = some (I q t510) ∧ w'.cell? ⟨g516, 4, none⟩ = some (I q t511) ∧ w'.cell? ⟨g516, 5, none⟩ = some (I q t512) ∧ w'.cell? ⟨g516, 6, none⟩ = some (J Ao12 t513.length co12)) (ds := []) #[false, false, false, false, false, false, false, false, false, false, false, false, false, false, false, false, false, false, false, false, false, false] (by kernel_rfl) rfl rfl ⟨(bc B516.out 0).trans rfl, (bc B516.out 1).trans rfl, (bc B516.out 2).trans rfl, (bc B516.out 3).trans rfl, (bc B516.out 4).trans rfl, (bc B516.out 5).trans rfl, (bc B516.out 6).trans rfl⟩ (fun hHeld => ?_); refine with_tabW laws_FnPackets.tab5 laws_FnPackets.bits5 (fun HT_ HW_ => ?_)
        generalize w15.drew = w16 at O506 O515 B516 HB hHeld ⊢
        refine pure_ (i := 0) (N := some 14) (v := ?_) (a' := ?_) #[true, false, false, false, false, false, false, false, false, false, false, false, false, false, false, false, false, false, false, false, false, false] rfl rfl (any_of HT_.out (by kernel_rfl)) (fun _ _ _ h => h) (Or.inl ⟨by rfl, ?_⟩) ?_ ?_
        rotate_left
        · intro w'
          first | (go_simp; with_reducible rfl) | (go_simp; (try unfold Instr.field); go_simp; (try simp only [asAgg]); go_simp; with_reducible rfl)
        rotate_left
        · simp only [Act.put, List.setIfInBounds_toArray, List.set_cons_zero, List.set_cons_succ, i64_w, i32_w]
          rfl
        refine take_ (i := 1) (N := some 15) (v := ?_) (a' := ?_) #[true, true, false, false, false, false, false, false, false, false, false, false, false, false, false, false, false, false, false, false, false, false] rfl rfl (take_ofW HT_.out HW_.out (by kernel_rfl)) (fun _ _ _ h => h) (Or.inl ⟨by rfl, ?_⟩) hHeld ?_ ?_
        rotate_left
        · rintro w' ⟨s0, s1, s2, s3, s4, s5, s6⟩
          go_simp
          with_reducible rfl
        rotate_left
        · simp only [Act.put, List.setIfInBounds_toArray, List.set_cons_zero, List.set_cons_succ, i64_w, i32_w]
          rfl
        refine pure_ (i := 2) (N := some 16) (v := ?_) (a' := ?_) #[true, true, true, false, false, false, false, false, false, false, false, false, false, false, false, false, false, false, false, false, false, false] rfl rfl (any_of HT_.out (by kernel_rfl)) (fun _ _ _ h => h) (Or.inl ⟨by rfl, ?_⟩) ?_ ?_
        rotate_left
        · intro w'
          first | (go_simp; with_reducible rfl) | (go_simp; (try unfold Instr.field); go_simp; (try simp only [asAgg]); go_simp; with_reducible rfl)
        rotate_left
        · simp only [Act.put, List.setIfInBounds_toArray, List.set_cons_zero, List.set_cons_succ, i64_w, i32_w]
          rfl
        refine pure_ (i := 3) (N := some 17) (v := ?_) (a' := ?_) #[true, true, true, true, false, false, false, false, false, false, false, false, false, false, false, false, false, false, false, false, false, false] rfl rfl (any_of HT_.out (by kernel_rfl)) (fun _ _ _ h => h) (Or.inl ⟨by rfl, ?_⟩) ?_ ?_
        rotate_left
        · intro w'
          first | (go_simp; with_reducible rfl) | (go_simp; (try unfold Instr.field); go_simp; (try simp only [asAgg]); go_simp; with_reducible rfl)
        rotate_left
        · simp only [Act.put, List.setIfInBounds_toArray, List.set_cons_zero, List.set_cons_succ, i64_w, i32_w]
          rfl
        refine pure_ (i := 4) (N := some 18) (v := undef) (a' := ?_) #[true, true, true, true, true, false, false, false, false, false, false, false, false, false, false, false, false, false, false, false, false, false] rfl rfl (any_of HT_.out (by kernel_rfl)) (fun _ _ _ h => h) (Or.inr ⟨by rfl, rfl⟩) ?_ ?_
        rotate_left
        · simp only [Act.put, List.setIfInBounds_toArray, List.set_cons_zero, List.set_cons_succ, i64_w, i32_w]
          rfl
        refine pure_ (i := 5) (N := some 19) (v := undef) (a' := ?_) #[true, true, true, true, true, true, false, false, false, false, false, false, false, false, false, false, false, false, false, false, false, false] rfl rfl (any_of HT_.out (by kernel_rfl)) (fun _ _ _ h => h) (Or.inr ⟨by rfl, rfl⟩) ?_ ?_
        rotate_left
        · simp only [Act.put, List.setIfInBounds_toArray, List.set_cons_zero, List.set_cons_succ, i64_w, i32_w]
          rfl
        refine pure_ (i := 6) (N := some 20) (v := undef) (a' := ?_) #[true, true, true, true, true, true, true, false, false, false, false, false, false, false, false, false, false, false, false, false, false, false] rfl rfl (any_of HT_.out (by kernel_rfl)) (fun _ _ _ h => h) (Or.inr ⟨by rfl, rfl⟩) ?_ ?_
        rotate_left
        · simp only [Act.put, List.setIfInBounds_toArray, List.set_cons_zero, List.set_cons_succ, i64_w, i32_w]
          rfl
        refine pure_ (i := 7) (N := some 21) (v := undef) (a' := ?_) #[true, true, true, true, true, true, true, true, false, false, false, false, false, false, false, false, false, false, false, false, false, false] rfl rfl (any_of HT_.out (by kernel_rfl)) (fun _ _ _ h => h) (Or.inr ⟨by rfl, rfl⟩) ?_ ?_
        rotate_left
        · simp only [Act.put, List.setIfInBounds_toArray, List.set_cons_zero, List.set_cons_succ, i64_w, i32_w]
          rfl
        refine pure_ (i := 8) (N := some 22) (v := undef) (a' := ?_) #[true, true, true, true, true, true, true, true, true, false, false, false, false, false, false, false, false, false, false, false, false, false] rfl rfl (any_of HT_.out (by kernel_rfl)) (fun _ _ _ h => h) (Or.inr ⟨by rfl, rfl⟩) ?_ ?_
        rotate_left
        · simp only [Act.put, List.setIfInBounds_toArray, List.set_cons_zero, List.set_cons_succ, i64_w, i32_w]
          rfl
        refine pure_ (i := 9) (N := some 23) (v := undef) (a' := ?_) #[true, true, true, true, true, true, true, true, true, true, false, false, false, false, false, false, false, false, false, false, false, false] rfl rfl (any_of HT_.out (by kernel_rfl)) (fun _ _ _ h => h) (Or.inr ⟨by rfl, rfl⟩) ?_ ?_
        rotate_left
        · simp only [Act.put, List.setIfInBounds_toArray, List.set_cons_zero, List.set_cons_succ, i64_w, i32_w]
          rfl
        refine pure_ (i := 10) (N := some 24) (v := ?_) (a' := ?_) #[true, true, true, true, true, true, true, true, true, true, true, false, false, false, false, false, false, false, false, false, false, false] rfl rfl (any_of HT_.out (by kernel_rfl)) (fun _ _ _ h => h) (Or.inl ⟨by rfl, ?_⟩) ?_ ?_
        rotate_left
        · intro w'
          first | (go_simp; with_reducible rfl) | (go_simp; (try unfold Instr.field); go_simp; (try simp only [asAgg]); go_simp; with_reducible rfl)
        rotate_left
        · simp only [Act.put, List.setIfInBounds_toArray, List.set_cons_zero, List.set_cons_succ, i64_w, i32_w]
          rfl
        refine pure_ (i := 11) (N := some 25) (v := ?_) (a' := ?_) #[true, true, true, true, true, true, true, true, true, true, true, true, false, false, false, false, false, false, false, false, false, false] rfl rfl (any_of HT_.out (by kernel_rfl)) (fun _ _ _ h => h) (Or.inl ⟨by rfl, ?_⟩) ?_ ?_
        rotate_left
        · intro w'
          first | (go_simp; with_reducible rfl) | (go_simp; (try unfold Instr.field); go_simp; (try simp only [asAgg]); go_simp; with_reducible rfl)
        rotate_left
        · simp only [Act.put, List.setIfInBounds_toArray, List.set_cons_zero, List.set_cons_succ, i64_w, i32_w]
          rfl
        refine pure_ (i := 12) (N := some 26) (v := ?_) (a' := ?_) #[true, true, true, true, true, true, true, true, true, true, true, true, true, false, false, false, false, false, false, false, false, false] rfl rfl (any_of HT_.out (by kernel_rfl)) (fun _ _ _ h => h) (Or.inl ⟨by rfl, ?_⟩) ?_ ?_
        rotate_left
        · intro w'
          first | (go_simp; with_reducible rfl) | (go_simp; (try unfold Instr.field); go_simp; (try simp only [asAgg]); go_simp; with_reducible rfl)
        rotate_left
        · simp only [Act.put, List.setIfInBounds_toArray, List.set_cons_zero, List.set_cons_succ, i64_w, i32_w]
          rfl
        refine take_ (i := 13) (N := some 27) (v := ?_) (a' := ?_) #[true, true, true, true, true, true, true, true, true, true, true, true, true, true, false, false, false, false, false, false, false, false] rfl rfl (take_ofW HT_.out HW_.out (by kernel_rfl)) (fun _ _ _ h => h) (Or.inl ⟨by rfl, ?_⟩) hHeld ?_ ?_
        rotate_left
        · rintro w' ⟨s0, s1, s2, s3, s4, s5, s6⟩
          go_simp
          with_reducible rfl
        rotate_left
        · simp only [Act.put, List.setIfInBounds_toArray, List.set_cons_zero, List.set_cons_succ, i64_w, i32_w]
          rfl
        refine pure_ (i := 14) (N := some 28) (v := ?_) (a' := ?_) #[true, true, true, true, true, true, true, true, true, true, true, true, true, true, true, false, false, false, false, false, false, false] rfl rfl (any_of HT_.out (by kernel_rfl)) (fun _ _ _ h => h) (Or.inl ⟨by rfl, ?_⟩) ?_ ?_
        rotate_left
        · intro w'
          first | (go_simp; with_reducible rfl) | (go_simp; (try unfold Instr.field); go_simp; (try simp only [asAgg]); go_simp; with_reducible rfl)
        rotate_left
        · simp only [Act.put, List.setIfInBounds_toArray, List.set_cons_zero, List.set_cons_succ, i64_w, i32_w]
          rfl
        refine pure_ (i := 15) (N := some 29) (v := ?_) (a' := ?_) #[true, true, true, true, true, true, true, true, true, true, true, true, true, true, true, true, false, false, false, false, false, false] rfl rfl (any_of HT_.out (by kernel_rfl)) (fun _ _ _ h => h) (Or.inl ⟨by rfl, ?_⟩) ?_ ?_
        rotate_left
        · intro w'
          first | (go_simp; with_reducible rfl) | (go_simp; (try unfold Instr.field); go_simp; (try simp only [asAgg]); go_simp; with_reducible rfl)
        rotate_left
        · simp only [Act.put, List.setIfInBounds_toArray, List.set_cons_zero, List.set_cons_succ, i64_w, i32_w]
          rfl
        refine pure_ (i := 16) (N := some 30) (v := ?_) (a' := ?_) #[true, true, true, true, true, true, true, true, true, true, true, true, true, true, true, true, true, false, false, false, false, false] rfl rfl (any_of HT_.out (by kernel_rfl)) (fun _ _ _ h => h) (Or.inl ⟨by rfl, ?_⟩) ?_ ?_
        rotate_left
        · intro w'
          first | (go_simp; with_reducible rfl) | (go_simp; (try unfold Instr.field); go_simp; (try simp only [asAgg]); go_simp; with_reducible rfl)
        rotate_left
        · simp only [Act.put, List.setIfInBounds_toArray, List.set_cons_zero, List.set_cons_succ, i64_w, i32_w]
          rfl
        refine take_ (i := 17) (N := some 31) (v := ?_) (a' := ?_) #[true, true, true, true, true, true, true, true, true, true, true, true, true, true, true, true, true, true, false, false, false, false] rfl rfl (take_ofW HT_.out HW_.out (by kernel_rfl)) (fun _ _ _ h => h) (Or.inl ⟨by rfl, ?_⟩) hHeld ?_ ?_
        rotate_left
        · rintro w' ⟨s0, s1, s2, s3, s4, s5, s6⟩
          go_simp
          with_reducible rfl
        rotate_left
        · simp only [Act.put, List.setIfInBounds_toArray, List.set_cons_zero, List.set_cons_succ, i64_w, i32_w]
          rfl
        refine one_ (i := 18) (N := some 32) #[true, true, true, true, true, true, true, true, true, true, true, true, true, true, true, true, true, true, true, false, false, false] rfl rfl (one_of HT_.out (by kernel_rfl)) (by decide) (fun K hK => ?_)
        refine goes_ Tryd.func8 (by kernel_rfl) rfl #[.agg #[I q t508, I q t509, I q t510, I q t511, I q t512, J Ao12 t513.length co12]] (by rfl) rfl rfl (by (try simp only [List.map_toArray, List.map_cons, List.map_nil]); first | done | rfl | (simp only [List.length_drop, List.length_take]; rfl)) ?_
        with_reducible refine (impl_PacketFault.calls k t508 t509 t510 t511 t512 _ _ t513 t517 _ ?side1 ?side2 A14.out).mono ?_
        (case side1 => repeat (first | exact (Kd.R_reads' O515.out).2.2 | (with_reducible refine ca ?_ _) | (with_reducible refine cN ?_ _) | (with_reducible refine cd1 ?_)))
        (case side2 => exact (Kd.R_reads' O515.out).2.1)
        rintro e w17 ⟨rfl, hb⟩
        refine ⟨_, rfl, ?_⟩
        have N0 := am (rb (by (with_reducible repeat (first | apply ra | apply rN | apply rd1)); exact O506.out) hb)
        have N1 := am (rb (by (with_reducible repeat (first | apply ra | apply rN | apply rd1)); exact O515.out) hb)
        have N2 := am (bb (g := g516) (by (with_reducible repeat (first | apply bN | apply bd | apply ba)); exact B516.out) hb)
        have N3 := am (bp (by repeat (first | (with_reducible first | exact HB.out | apply pa | apply pN | apply p1 | refine bs ?_ E516.out) | exact HB.out)) hb)
        clear O506
        clear O515
        clear B516
        clear HB
        have O506 := N0
        have O515 := N1
        have B516 := N2
        have HB := N3
        clear N0 N1 N2 N3
        (try clear hb)
        (try clear hb2)
        (try clear hk)
        (try clear hi)
        refine hK.out _ _ ⟨(bc B516.out 0).trans rfl, (bc B516.out 1).trans rfl, (bc B516.out 2).trans rfl, (bc B516.out 3).trans rfl, (bc B516.out 4).trans rfl, (bc B516.out 5).trans rfl, (bc B516.out 6).trans rfl⟩ (fun hHeld => ?_)
        clear hK K
        refine norm_ (a' := ?_) ?_ ?_
        rotate_left
        · show Act.put _ (some 32) _ = _
          simp only [Act.put, List.setIfInBounds_toArray, List.set_cons_zero, List.set_cons_succ, i64_w, i32_w]
          rfl
        refine pure_ (i := 19) (N := some 33) (v := ?_) (a' := ?_) #[true, true, true, true, true, true, true, true, true, true, true, true, true, true, true, true, true, true, true, true, false, false] rfl rfl (any_of HT_.out (by kernel_rfl)) (fun _ _ _ h => h) (Or.inl ⟨by rfl, ?_⟩) ?_ ?_
        rotate_left
        · intro w'
          first | (go_simp; with_reducible rfl) | (go_simp; (try unfold Instr.field); go_simp; (try simp only [asAgg]); go_simp; with_reducible rfl)
        rotate_left
        · simp only [Act.put, List.setIfInBounds_toArray, List.set_cons_zero, List.set_cons_succ, i64_w, i32_w]
          rfl
        refine pure_ (i := 20) (N := some 34) (v := ?_) (a' := ?_) #[true, true, true, true, true, true, true, true, true, true, true, true, true, true, true, true, true, true, true, true, true, false] rfl rfl (any_of HT_.out (by kernel_rfl)) (fun _ _ _ h => h) (Or.inl ⟨by rfl, ?_⟩) ?_ ?_
        rotate_left
        · intro w'
          first | (go_simp; with_reducible rfl) | (go_simp; (try unfold Instr.field); go_simp; (try simp only [asAgg]); go_simp; with_reducible rfl)
        rotate_left
        · simp only [Act.put, List.setIfInBounds_toArray, List.set_cons_zero, List.set_cons_succ, i64_w, i32_w]
          rfl
        refine pure_ (i := 21) (N := some 35) (v := ?_) (a' := ?_) #[true, true, true, true, true, true, true, true, true, true, true, true, true, true, true, true, true, true, true, true, true, true] rfl rfl (any_of HT_.out (by kernel_rfl)) (fun _ _ _ h => h) (Or.inl ⟨by rfl, ?_⟩) ?_ ?_
        rotate_left
        · intro w'
          first | (go_simp; with_reducible rfl) | (go_simp; (try unfold Instr.field); go_simp; (try simp only [asAgg]); go_simp; with_reducible rfl)
        rotate_left
        · simp only [Act.put, List.setIfInBounds_toArray, List.set_cons_zero, List.set_cons_succ, i64_w, i32_w]
          rfl
        refine done_ (done_of HT_.out (by kernel_rfl)) ?_
        try go_wp2
        go_meet
        case rel => exact ⟨_, ((t517 != 0)), (by first | rfl | (simp; done) | (simp [*]; done)), H', ⟨by first | omega | exact Nat.le_refl _⟩, ⟨by (with_reducible repeat (first | apply ra | apply rN | apply rd1)); exact Kd.R_mono O515.out (fun _ hk => trivial)⟩, ⟨by (with_reducible repeat (first | apply bN | apply bd | apply ba)); exact B516.out⟩, ⟨by repeat (first | (with_reducible first | exact HB.out | apply pa | apply pN | apply p1 | refine bs ?_ E516.out) | exact HB.out)⟩⟩
      · rw [if_neg c13] at H
        have c13b0 : (t507 == 0) = false := beq_eq_false_iff_ne.mpr c13
        have c13b1 : (t507 != 0) = true := bne_iff_ne.mpr c13
        (first | rw [c13b0] | (simp only [i64_w, i32_w]; rw [c13b0]) | skip)
        replace H := Option.bind_eq_some_iff.mp H
        obtain ⟨⟨t518, t519, t520, t521, t522, t523, t524⟩, A180, H⟩ := H
        replace H : (if t518 = t507 then (laws_FnPackets.j0 k l0 false) else (laws_FnPackets.j0 k l0 true)) = some r := H
        have A18 := am A180
        clear A180
        by_cases c19 : t518 = t507
        · rw [if_pos c19] at H
          have c19b0 : (t518 == t507) = true := beq_iff_eq.mpr c19
          have c19b1 : (t518 != t507) = false := bne_eq_false_iff_eq.mpr c19
          clear c19
          have H' := am H
          clear H
          try go_wp2
          have N0 : Aside0 (Kd.R (Kd.int .u8) 5 (((((((w10.setCell ⟨g516, 0, none⟩ (I q t507)).setCell ⟨g516, 1, none⟩ (I q t508)).setCell ⟨g516, 2, none⟩ (I q t509)).setCell ⟨g516, 3, none⟩ (I q t510)).setCell ⟨g516, 4, none⟩ (I q t511)).setCell ⟨g516, 5, none⟩ (I q t512)).setCell ⟨g516, 6, none⟩ (J Ao12 t513.length co12)) w.heap.size (fun k_ => some k_ ≠ (J Ao12 t513.length co12 : Value).ownBlock) (J Ao8 t504.length co8) t504) := ⟨by (with_reducible repeat (first | apply ra | apply rN | apply rd1)); exact Kd.R_mono (rf (p := ⟨g516, 6, none⟩) (rf (p := ⟨g516, 5, none⟩) (rf (p := ⟨g516, 4, none⟩) (rf (p := ⟨g516, 3, none⟩) (rf (p := ⟨g516, 2, none⟩) (rf (p := ⟨g516, 1, none⟩) (rf (p := ⟨g516, 0, none⟩) (Kd.R_types O506.out B516.out (by decide)) (fun _ hk => hk.2) (I q t507)) (fun _ hk => hk.2) (I q t508)) (fun _ hk => hk.2) (I q t509)) (fun _ hk => hk.2) (I q t510)) (fun _ hk => hk.2) (I q t511)) (fun _ hk => hk.2) (I q t512)) (fun _ hk => hk.2) (J Ao12 t513.length co12)) (fun _ hk => hk.1.2)⟩
          have N1 : Aside0 (Kd.R (Kd.int .u8) 5 (((((((w10.setCell ⟨g516, 0, none⟩ (I q t507)).setCell ⟨g516, 1, none⟩ (I q t508)).setCell ⟨g516, 2, none⟩ (I q t509)).setCell ⟨g516, 3, none⟩ (I q t510)).setCell ⟨g516, 4, none⟩ (I q t511)).setCell ⟨g516, 5, none⟩ (I q t512)).setCell ⟨g516, 6, none⟩ (J Ao12 t513.length co12)) w.heap.size (fun k_ => some k_ ≠ (J Ao8 t504.length co8 : Value).ownBlock) (J Ao12 t513.length co12) t513) := ⟨by (with_reducible repeat (first | apply ra | apply rN | apply rd1)); exact Kd.R_mono (rf (p := ⟨g516, 6, none⟩) (rf (p := ⟨g516, 5, none⟩) (rf (p := ⟨g516, 4, none⟩) (rf (p := ⟨g516, 3, none⟩) (rf (p := ⟨g516, 2, none⟩) (rf (p := ⟨g516, 1, none⟩) (rf (p := ⟨g516, 0, none⟩) (Kd.R_types O515.out B516.out (by decide)) (fun _ hk => hk.2) (I q t507)) (fun _ hk => hk.2) (I q t508)) (fun _ hk => hk.2) (I q t509)) (fun _ hk => hk.2) (I q t510)) (fun _ hk => hk.2) (I q t511)) (fun _ hk => hk.2) (I q t512)) (fun _ hk => hk.2) (J Ao12 t513.length co12)) (fun _ hk => hk.1.2)⟩
          have N2 : Aside0 ((((((((w10.setCell ⟨g516, 0, none⟩ (I q t507)).setCell ⟨g516, 1, none⟩ (I q t508)).setCell ⟨g516, 2, none⟩ (I q t509)).setCell ⟨g516, 3, none⟩ (I q t510)).setCell ⟨g516, 4, none⟩ (I q t511)).setCell ⟨g516, 5, none⟩ (I q t512)).setCell ⟨g516, 6, none⟩ (J Ao12 t513.length co12)).heap[g516]? = some (.cells #[I q t507, I q t508, I q t509, I q t510, I q t511, I q t512, J Ao12 t513.length co12] 28 (0, 0))) := ⟨by (with_reducible repeat (first | apply bN | apply bd | apply ba)); exact pu7j B516.out⟩
          have N3 : Aside0 (Below w.heap.size w (((((((w10.setCell ⟨g516, 0, none⟩ (I q t507)).setCell ⟨g516, 1, none⟩ (I q t508)).setCell ⟨g516, 2, none⟩ (I q t509)).setCell ⟨g516, 3, none⟩ (I q t510)).setCell ⟨g516, 4, none⟩ (I q t511)).setCell ⟨g516, 5, none⟩ (I q t512)).setCell ⟨g516, 6, none⟩ (J Ao12 t513.length co12))) := ⟨by repeat (first | (with_reducible first | exact HB.out | apply pa | apply pN | apply p1 | refine bs ?_ E516.out) | exact HB.out)⟩
          (try clear O506)
          (try clear O515)
          (try clear B516)
          (try clear HB)
          generalize (((((((w10.setCell ⟨g516, 0, none⟩ (I q t507)).setCell ⟨g516, 1, none⟩ (I q t508)).setCell ⟨g516, 2, none⟩ (I q t509)).setCell ⟨g516, 3, none⟩ (I q t510)).setCell ⟨g516, 4, none⟩ (I q t511)).setCell ⟨g516, 5, none⟩ (I q t512)).setCell ⟨g516, 6, none⟩ (J Ao12 t513.length co12)) = w20 at N0 N1 N2 N3 ⊢
          have O506 := N0
          have O515 := N1
          have B516 := N2
          have HB := N3
          clear N0 N1 N2 N3
          have N0 := am (rd1 O506.out)
          have N1 := am (rd1 O515.out)
          have N2 := am (bd B516.out)
          have N3 := am (p1 HB.out)
          clear O506
          clear O515
          clear B516
          clear HB
          have O506 := N0
          have O515 := N1
          have B516 := N2
          have HB := N3
          clear N0 N1 N2 N3
          refine start_ (n := 22) (S := fun w' => w'.cell? ⟨g516, 0, none⟩ = some (I q t507) ∧ w'.cell? ⟨g516, 1, none⟩ = some (I q t508) ∧ w'.cell? ⟨g516, 2, none⟩ = some (I q t509) ∧ w'.cell? ⟨g516, 3, none⟩ = some (I q t510) ∧ w'.cell? ⟨g516, 4, none⟩ = some (I q t511) ∧ w'.cell? ⟨g516, 5, none⟩ = some (I q t512) ∧ w'.cell? ⟨g516, 6, none⟩ = some (J Ao12 t513.length co12)) (ds := []) #[false, false, false, false, false, false, false, false, false, false, false, false, false, false, false, false, false, false, false, false, false, false] (by kernel_rfl) rfl rfl ⟨(bc B516.out 0).trans rfl, (bc B516.out 1).trans rfl, (bc B516.out 2).trans rfl, (bc B516.out 3).trans rfl, (bc B516.out 4).trans rfl, (bc B516.out 5).trans rfl, (bc B516.out 6).trans rfl⟩ (fun hHeld => ?_); refine with_tabW laws_FnPackets.tab5 laws_FnPackets.bits5 (fun HT_ HW_ => ?_)
          generalize w20.drew = w21 at O506 O515 B516 HB hHeld ⊢
          refine pure_ (i := 0) (N := some 14) (v := ?_) (a' := ?_) #[true, false, false, false, false, false, false, false, false, false, false, false, false, false, false, false, false, false, false, false, false, false] rfl rfl (any_of HT_.out (by kernel_rfl)) (fun _ _ _ h => h) (Or.inl ⟨by rfl, ?_⟩) ?_ ?_
          rotate_left
          · intro w'
            first | (go_simp; with_reducible rfl) | (go_simp; (try unfold Instr.field); go_simp; (try simp only [asAgg]); go_simp; with_reducible rfl)
          rotate_left
          · simp only [Act.put, List.setIfInBounds_toArray, List.set_cons_zero, List.set_cons_succ, i64_w, i32_w]
            rfl
          refine take_ (i := 1) (N := some 15) (v := ?_) (a' := ?_) #[true, true, false, false, false, false, false, false, false, false, false, false, false, false, false, false, false, false, false, false, false, false] rfl rfl (take_ofW HT_.out HW_.out (by kernel_rfl)) (fun _ _ _ h => h) (Or.inl ⟨by rfl, ?_⟩) hHeld ?_ ?_
          rotate_left
          · rintro w' ⟨s0, s1, s2, s3, s4, s5, s6⟩
            go_simp
            with_reducible rfl
          rotate_left
          · simp only [Act.put, List.setIfInBounds_toArray, List.set_cons_zero, List.set_cons_succ, i64_w, i32_w]
            rfl
          refine pure_ (i := 2) (N := some 16) (v := ?_) (a' := ?_) #[true, true, true, false, false, false, false, false, false, false, false, false, false, false, false, false, false, false, false, false, false, false] rfl rfl (any_of HT_.out (by kernel_rfl)) (fun _ _ _ h => h) (Or.inl ⟨by rfl, ?_⟩) ?_ ?_
          rotate_left
          · intro w'
            first | (go_simp; with_reducible rfl) | (go_simp; (try unfold Instr.field); go_simp; (try simp only [asAgg]); go_simp; with_reducible rfl)
          rotate_left
          · simp only [Act.put, List.setIfInBounds_toArray, List.set_cons_zero, List.set_cons_succ, i64_w, i32_w]
            rfl
          refine pure_ (i := 3) (N := some 17) (v := ?_) (a' := ?_) #[true, true, true, true, false, false, false, false, false, false, false, false, false, false, false, false, false, false, false, false, false, false] rfl rfl (any_of HT_.out (by kernel_rfl)) (fun _ _ _ h => h) (Or.inl ⟨by rfl, ?_⟩) ?_ ?_
          rotate_left
          · intro w'
            first | (go_simp; with_reducible rfl) | (go_simp; (try unfold Instr.field); go_simp; (try simp only [asAgg]); go_simp; with_reducible rfl)
          rotate_left
          · simp only [Act.put, List.setIfInBounds_toArray, List.set_cons_zero, List.set_cons_succ, i64_w, i32_w]
            rfl
          refine pure_ (i := 4) (N := some 18) (v := ?_) (a' := ?_) #[true, true, true, true, true, false, false, false, false, false, false, false, false, false, false, false, false, false, false, false, false, false] rfl rfl (any_of HT_.out (by kernel_rfl)) (fun _ _ _ h => h) (Or.inl ⟨by rfl, ?_⟩) ?_ ?_
          rotate_left
          · intro w'
            first | (go_simp; with_reducible rfl) | (go_simp; (try unfold Instr.field); go_simp; (try simp only [asAgg]); go_simp; with_reducible rfl)
          rotate_left
          · simp only [Act.put, List.setIfInBounds_toArray, List.set_cons_zero, List.set_cons_succ, i64_w, i32_w]
            rfl
          refine pure_ (i := 7) (N := some 21) (v := ?_) (a' := ?_) #[true, true, true, true, true, false, false, true, false, false, false, false, false, false, false, false, false, false, false, false, false, false] rfl rfl (any_of HT_.out (by kernel_rfl)) (fun _ _ _ h => h) (Or.inl ⟨by rfl, ?_⟩) ?_ ?_
          rotate_left
          · intro w'
            first | (go_simp; with_reducible rfl) | (go_simp; (try unfold Instr.field); go_simp; (try simp only [asAgg]); go_simp; with_reducible rfl)
          rotate_left
          · simp only [Act.put, List.setIfInBounds_toArray, List.set_cons_zero, List.set_cons_succ, i64_w, i32_w]
            rfl
          refine take_ (i := 8) (N := some 22) (v := ?_) (a' := ?_) #[true, true, true, true, true, false, false, true, true, false, false, false, false, false, false, false, false, false, false, false, false, false] rfl rfl (take_ofW HT_.out HW_.out (by kernel_rfl)) (fun _ _ _ h => h) (Or.inl ⟨by rfl, ?_⟩) hHeld ?_ ?_
          rotate_left
          · rintro w' ⟨s0, s1, s2, s3, s4, s5, s6⟩
            go_simp
            with_reducible rfl
          rotate_left
          · simp only [Act.put, List.setIfInBounds_toArray, List.set_cons_zero, List.set_cons_succ, i64_w, i32_w]
            rfl
          refine one_ (i := 5) (N := some 19) #[true, true, true, true, true, true, false, true, true, false, false, false, false, false, false, false, false, false, false, false, false, false] rfl rfl (one_of HT_.out (by kernel_rfl)) (by decide) (fun K hK => ?_)
          refine goes_ Tryd.func7 (by kernel_rfl) rfl #[J Ao8 t504.length co8] (by rfl) rfl rfl (by (try simp only [List.map_toArray, List.map_cons, List.map_nil]); first | done | rfl | (simp only [List.length_drop, List.length_take]; rfl)) ?_
          with_reducible refine (spec_ParsePacket.calls k _ _ t504 t518 t519 t520 t521 t522 t523 t524 _ ?side1 ?side2 A18.out).mono ?_
          (case side1 => repeat (first | exact (Kd.R_reads' O506.out).2.2 | (with_reducible refine ca ?_ _) | (with_reducible refine cN ?_ _) | (with_reducible refine cd1 ?_)))
          (case side2 => exact (Kd.R_reads' O506.out).2.1)
          rintro e w22 ⟨v525, rfl, ho0, hb⟩
          refine ⟨_, rfl, ?_⟩
          have N0 := am (re (by (with_reducible repeat (first | apply ra | apply rN | apply rd1)); exact O506.out) (Kd.R_base ho0) hb)
          have N1 := am (re (by (with_reducible repeat (first | apply ra | apply rN | apply rd1)); exact O515.out) (Kd.R_base ho0) hb)
          have N2 := am (rw1 (rn (rn ho0 (rl (by (with_reducible repeat (first | apply ra | apply rN | apply rd1)); exact O506.out))) (rl (by (with_reducible repeat (first | apply ra | apply rN | apply rd1)); exact O515.out))) (bz (by repeat (first | (with_reducible first | exact HB.out | apply pa | apply pN | apply p1 | refine bs ?_ E516.out) | exact HB.out))))
          have N3 := am (bb (g := g516) (by (with_reducible repeat (first | apply bN | apply bd | apply ba)); exact B516.out) hb)
          have N4 := am (bp (by repeat (first | (with_reducible first | exact HB.out | apply pa | apply pN | apply p1 | refine bs ?_ E516.out) | exact HB.out)) hb)
          clear O506
          clear O515
          clear B516
          clear HB
          have O506 := N0
          have O515 := N1
          have O526 := N2
          have B516 := N3
          have HB := N4
          clear N0 N1 N2 N3 N4
          (try clear hb)
          (try clear hb2)
          (try clear hk)
          (try clear hi)
          (try clear ho0)
          refine hK.out _ _ ⟨(bc B516.out 0).trans rfl, (bc B516.out 1).trans rfl, (bc B516.out 2).trans rfl, (bc B516.out 3).trans rfl, (bc B516.out 4).trans rfl, (bc B516.out 5).trans rfl, (bc B516.out 6).trans rfl⟩ (fun hHeld => ?_)
          clear hK K
          refine norm_ (a' := ?_) ?_ ?_
          rotate_left
          · show Act.put _ (some 19) _ = _
            simp only [Act.put, List.setIfInBounds_toArray, List.set_cons_zero, List.set_cons_succ, i64_w, i32_w]
            rfl
          refine pure_ (i := 6) (N := some 20) (v := ?_) (a' := ?_) #[true, true, true, true, true, true, true, true, true, false, false, false, false, false, false, false, false, false, false, false, false, false] rfl rfl (any_of HT_.out (by kernel_rfl)) (fun _ _ _ h => h) (Or.inl ⟨by rfl, ?_⟩) ?_ ?_
          rotate_left
          · intro w'
            first | (go_simp; with_reducible rfl) | (go_simp; (try unfold Instr.field); go_simp; (try simp only [asAgg]); go_simp; with_reducible rfl)
          rotate_left
          · simp only [Act.put, List.setIfInBounds_toArray, List.set_cons_zero, List.set_cons_succ, i64_w, i32_w]
            rfl
          refine pure_ (i := 9) (N := some 23) (v := ?_) (a' := ?_) #[true, true, true, true, true, true, true, true, true, true, false, false, false, false, false, false, false, false, false, false, false, false] rfl rfl (any_of HT_.out (by kernel_rfl)) (fun _ _ _ h => h) (Or.inl ⟨by rfl, ?_⟩) ?_ ?_
          rotate_left
          · intro w'
            first | (go_simp; with_reducible rfl) | (go_simp; (try unfold Instr.field); go_simp; (try simp only [asAgg]); go_simp; with_reducible rfl)
          rotate_left
          · simp only [Act.put, List.setIfInBounds_toArray, List.set_cons_zero, List.set_cons_succ, i64_w, i32_w]
            rfl
          refine pure_ (i := 10) (N := some 24) (v := ?_) (a' := ?_) #[true, true, true, true, true, true, true, true, true, true, true, false, false, false, false, false, false, false, false, false, false, false] rfl rfl (any_of HT_.out (by kernel_rfl)) (fun _ _ _ h => h) (Or.inl ⟨by rfl, ?_⟩) ?_ ?_
          rotate_left
          · intro w'
            first | (go_simp; with_reducible rfl) | (go_simp; (try unfold Instr.field); go_simp; (try simp only [asAgg]); go_simp; with_reducible rfl)
          rotate_left
          · simp only [Act.put, List.setIfInBounds_toArray, List.set_cons_zero, List.set_cons_succ, i64_w, i32_w]
            rfl
          refine pure_ (i := 11) (N := some 25) (v := ?_) (a' := ?_) #[true, true, true, true, true, true, true, true, true, true, true, true, false, false, false, false, false, false, false, false, false, false] rfl rfl (any_of HT_.out (by kernel_rfl)) (fun _ _ _ h => h) (Or.inl ⟨by rfl, ?_⟩) ?_ ?_
          rotate_left
          · intro w'
            first | (go_simp; with_reducible rfl) | (go_simp; (try unfold Instr.field); go_simp; (try simp only [asAgg]); go_simp; with_reducible rfl)
          rotate_left
          · simp only [Act.put, List.setIfInBounds_toArray, List.set_cons_zero, List.set_cons_succ, i64_w, i32_w]
            rfl
          refine pure_ (i := 12) (N := some 26) (v := ?_) (a' := ?_) #[true, true, true, true, true, true, true, true, true, true, true, true, true, false, false, false, false, false, false, false, false, false] rfl rfl (any_of HT_.out (by kernel_rfl)) (fun _ _ _ h => h) (Or.inl ⟨by rfl, ?_⟩) ?_ ?_
          rotate_left
          · intro w'
            first | (go_simp; with_reducible rfl) | (go_simp; (try unfold Instr.field); go_simp; (try simp only [asAgg]); go_simp; with_reducible rfl)
          rotate_left
          · simp only [Act.put, List.setIfInBounds_toArray, List.set_cons_zero, List.set_cons_succ, i64_w, i32_w]
            rfl
          refine take_ (i := 13) (N := some 27) (v := ?_) (a' := ?_) #[true, true, true, true, true, true, true, true, true, true, true, true, true, true, false, false, false, false, false, false, false, false] rfl rfl (take_ofW HT_.out HW_.out (by kernel_rfl)) (fun _ _ _ h => h) (Or.inl ⟨by rfl, ?_⟩) hHeld ?_ ?_
          rotate_left
          · rintro w' ⟨s0, s1, s2, s3, s4, s5, s6⟩
            go_simp
            with_reducible rfl
          rotate_left
          · simp only [Act.put, List.setIfInBounds_toArray, List.set_cons_zero, List.set_cons_succ, i64_w, i32_w]
            rfl
          refine pure_ (i := 14) (N := some 28) (v := ?_) (a' := ?_) #[true, true, true, true, true, true, true, true, true, true, true, true, true, true, true, false, false, false, false, false, false, false] rfl rfl (any_of HT_.out (by kernel_rfl)) (fun _ _ _ h => h) (Or.inl ⟨by rfl, ?_⟩) ?_ ?_
          rotate_left
          · intro w'
            first | (go_simp; with_reducible rfl) | (go_simp; (try unfold Instr.field); go_simp; (try simp only [asAgg]); go_simp; with_reducible rfl)
          rotate_left
          · simp only [Act.put, List.setIfInBounds_toArray, List.set_cons_zero, List.set_cons_succ, i64_w, i32_w]
            rfl
          refine pure_ (i := 15) (N := some 29) (v := ?_) (a' := ?_) #[true, true, true, true, true, true, true, true, true, true, true, true, true, true, true, true, false, false, false, false, false, false] rfl rfl (any_of HT_.out (by kernel_rfl)) (fun _ _ _ h => h) (Or.inl ⟨by rfl, ?_⟩) ?_ ?_
          rotate_left
          · intro w'
            first | (go_simp; with_reducible rfl) | (go_simp; (try unfold Instr.field); go_simp; (try simp only [asAgg]); go_simp; with_reducible rfl)
          rotate_left
          · simp only [Act.put, List.setIfInBounds_toArray, List.set_cons_zero, List.set_cons_succ, i64_w, i32_w]
            rfl
          refine pure_ (i := 16) (N := some 30) (v := undef) (a' := ?_) #[true, true, true, true, true, true, true, true, true, true, true, true, true, true, true, true, true, false, false, false, false, false] rfl rfl (any_of HT_.out (by kernel_rfl)) (fun _ _ _ h => h) (Or.inr ⟨by rfl, rfl⟩) ?_ ?_
          rotate_left
          · simp only [Act.put, List.setIfInBounds_toArray, List.set_cons_zero, List.set_cons_succ, i64_w, i32_w]
            rfl
          refine pure_ (i := 17) (N := some 31) (v := undef) (a' := ?_) #[true, true, true, true, true, true, true, true, true, true, true, true, true, true, true, true, true, true, false, false, false, false] rfl rfl (any_of HT_.out (by kernel_rfl)) (fun _ _ _ h => h) (Or.inr ⟨by rfl, rfl⟩) ?_ ?_
          rotate_left
          · simp only [Act.put, List.setIfInBounds_toArray, List.set_cons_zero, List.set_cons_succ, i64_w, i32_w]
            rfl
          refine pure_ (i := 18) (N := some 32) (v := undef) (a' := ?_) #[true, true, true, true, true, true, true, true, true, true, true, true, true, true, true, true, true, true, true, false, false, false] rfl rfl (any_of HT_.out (by kernel_rfl)) (fun _ _ _ h => h) (Or.inr ⟨by rfl, rfl⟩) ?_ ?_
          rotate_left
          · simp only [Act.put, List.setIfInBounds_toArray, List.set_cons_zero, List.set_cons_succ, i64_w, i32_w]
            rfl
          refine pure_ (i := 19) (N := some 33) (v := undef) (a' := ?_) #[true, true, true, true, true, true, true, true, true, true, true, true, true, true, true, true, true, true, true, true, false, false] rfl rfl (any_of HT_.out (by kernel_rfl)) (fun _ _ _ h => h) (Or.inr ⟨by rfl, rfl⟩) ?_ ?_
          rotate_left
          · simp only [Act.put, List.setIfInBounds_toArray, List.set_cons_zero, List.set_cons_succ, i64_w, i32_w]
            rfl
          refine pure_ (i := 20) (N := some 34) (v := ?_) (a' := ?_) #[true, true, true, true, true, true, true, true, true, true, true, true, true, true, true, true, true, true, true, true, true, false] rfl rfl (any_of HT_.out (by kernel_rfl)) (fun _ _ _ h => h) (Or.inl ⟨by rfl, ?_⟩) ?_ ?_
          rotate_left
          · intro w'
            first | (go_simp; with_reducible rfl) | (go_simp; (try unfold Instr.field); go_simp; (try simp only [asAgg]); go_simp; with_reducible rfl)
          rotate_left
          · simp only [Act.put, List.setIfInBounds_toArray, List.set_cons_zero, List.set_cons_succ, i64_w, i32_w]
            rfl
          refine pure_ (i := 21) (N := some 35) (v := ?_) (a' := ?_) #[true, true, true, true, true, true, true, true, true, true, true, true, true, true, true, true, true, true, true, true, true, true] rfl rfl (any_of HT_.out (by kernel_rfl)) (fun _ _ _ h => h) (Or.inl ⟨by rfl, ?_⟩) ?_ ?_
          rotate_left
          · intro w'
            first | (go_simp; with_reducible rfl) | (go_simp; (try unfold Instr.field); go_simp; (try simp only [asAgg]); go_simp; with_reducible rfl)
          rotate_left
          · simp only [Act.put, List.setIfInBounds_toArray, List.set_cons_zero, List.set_cons_succ, i64_w, i32_w]
            rfl
          refine done_ (done_of HT_.out (by kernel_rfl)) ?_
          try go_wp2
          go_meet
          case rel => exact ⟨_, (false), (by first | rfl | (simp; done) | (simp [*]; done)), H', ⟨by first | omega | exact Nat.le_refl _⟩, ⟨by (with_reducible repeat (first | apply ra | apply rN | apply rd1)); exact Kd.R_mono O515.out (fun _ hk => trivial)⟩, ⟨by (with_reducible repeat (first | apply bN | apply bd | apply ba)); exact B516.out⟩, ⟨by repeat (first | (with_reducible first | exact HB.out | apply pa | apply pN | apply p1 | refine bs ?_ E516.out) | exact HB.out)⟩⟩
        · rw [if_neg c19] at H
          have c19b0 : (t518 == t507) = false := beq_eq_false_iff_ne.mpr c19
          have c19b1 : (t518 != t507) = true := bne_iff_ne.mpr c19
          have H' := am H
          clear H
          try go_wp2
          have N0 : Aside0 (Kd.R (Kd.int .u8) 5 (((((((w10.setCell ⟨g516, 0, none⟩ (I q t507)).setCell ⟨g516, 1, none⟩ (I q t508)).setCell ⟨g516, 2, none⟩ (I q t509)).setCell ⟨g516, 3, none⟩ (I q t510)).setCell ⟨g516, 4, none⟩ (I q t511)).setCell ⟨g516, 5, none⟩ (I q t512)).setCell ⟨g516, 6, none⟩ (J Ao12 t513.length co12)) w.heap.size (fun k_ => some k_ ≠ (J Ao12 t513.length co12 : Value).ownBlock) (J Ao8 t504.length co8) t504) := ⟨by (with_reducible repeat (first | apply ra | apply rN | apply rd1)); exact Kd.R_mono (rf (p := ⟨g516, 6, none⟩) (rf (p := ⟨g516, 5, none⟩) (rf (p := ⟨g516, 4, none⟩) (rf (p := ⟨g516, 3, none⟩) (rf (p := ⟨g516, 2, none⟩) (rf (p := ⟨g516, 1, none⟩) (rf (p := ⟨g516, 0, none⟩) (Kd.R_types O506.out B516.out (by decide)) (fun _ hk => hk.2) (I q t507)) (fun _ hk => hk.2) (I q t508)) (fun _ hk => hk.2) (I q t509)) (fun _ hk => hk.2) (I q t510)) (fun _ hk => hk.2) (I q t511)) (fun _ hk => hk.2) (I q t512)) (fun _ hk => hk.2) (J Ao12 t513.length co12)) (fun _ hk => hk.1.2)⟩
          have N1 : Aside0 (Kd.R (Kd.int .u8) 5 (((((((w10.setCell ⟨g516, 0, none⟩ (I q t507)).setCell ⟨g516, 1, none⟩ (I q t508)).setCell ⟨g516, 2, none⟩ (I q t509)).setCell ⟨g516, 3, none⟩ (I q t510)).setCell ⟨g516, 4, none⟩ (I q t511)).setCell ⟨g516, 5, none⟩ (I q t512)).setCell ⟨g516, 6, none⟩ (J Ao12 t513.length co12)) w.heap.size (fun k_ => some k_ ≠ (J Ao8 t504.length co8 : Value).ownBlock) (J Ao12 t513.length co12) t513) := ⟨by (with_reducible repeat (first | apply ra | apply rN | apply rd1)); exact Kd.R_mono (rf (p := ⟨g516, 6, none⟩) (rf (p := ⟨g516, 5, none⟩) (rf (p := ⟨g516, 4, none⟩) (rf (p := ⟨g516, 3, none⟩) (rf (p := ⟨g516, 2, none⟩) (rf (p := ⟨g516, 1, none⟩) (rf (p := ⟨g516, 0, none⟩) (Kd.R_types O515.out B516.out (by decide)) (fun _ hk => hk.2) (I q t507)) (fun _ hk => hk.2) (I q t508)) (fun _ hk => hk.2) (I q t509)) (fun _ hk => hk.2) (I q t510)) (fun _ hk => hk.2) (I q t511)) (fun _ hk => hk.2) (I q t512)) (fun _ hk => hk.2) (J Ao12 t513.length co12)) (fun _ hk => hk.1.2)⟩
          have N2 : Aside0 ((((((((w10.setCell ⟨g516, 0, none⟩ (I q t507)).setCell ⟨g516, 1, none⟩ (I q t508)).setCell ⟨g516, 2, none⟩ (I q t509)).setCell ⟨g516, 3, none⟩ (I q t510)).setCell ⟨g516, 4, none⟩ (I q t511)).setCell ⟨g516, 5, none⟩ (I q t512)).setCell ⟨g516, 6, none⟩ (J Ao12 t513.length co12)).heap[g516]? = some (.cells #[I q t507, I q t508, I q t509, I q t510, I q t511, I q t512, J Ao12 t513.length co12] 28 (0, 0))) := ⟨by (with_reducible repeat (first | apply bN | apply bd | apply ba)); exact pu7j B516.out⟩
          have N3 : Aside0 (Below w.heap.size w (((((((w10.setCell ⟨g516, 0, none⟩ (I q t507)).setCell ⟨g516, 1, none⟩ (I q t508)).setCell ⟨g516, 2, none⟩ (I q t509)).setCell ⟨g516, 3, none⟩ (I q t510)).setCell ⟨g516, 4, none⟩ (I q t511)).setCell ⟨g516, 5, none⟩ (I q t512)).setCell ⟨g516, 6, none⟩ (J Ao12 t513.length co12))) := ⟨by repeat (first | (with_reducible first | exact HB.out | apply pa | apply pN | apply p1 | refine bs ?_ E516.out) | exact HB.out)⟩
          (try clear O506)
          (try clear O515)
          (try clear B516)
          (try clear HB)
          generalize (((((((w10.setCell ⟨g516, 0, none⟩ (I q t507)).setCell ⟨g516, 1, none⟩ (I q t508)).setCell ⟨g516, 2, none⟩ (I q t509)).setCell ⟨g516, 3, none⟩ (I q t510)).setCell ⟨g516, 4, none⟩ (I q t511)).setCell ⟨g516, 5, none⟩ (I q t512)).setCell ⟨g516, 6, none⟩ (J Ao12 t513.length co12)) = w23 at N0 N1 N2 N3 ⊢
          have O506 := N0
          have O515 := N1
          have B516 := N2
          have HB := N3
          clear N0 N1 N2 N3
          have N0 := am (rd1 O506.out)
          have N1 := am (rd1 O515.out)
          have N2 := am (bd B516.out)
          have N3 := am (p1 HB.out)
          clear O506
          clear O515
          clear B516
          clear HB
          have O506 := N0
          have O515 := N1
          have B516 := N2
          have HB := N3
          clear N0 N1 N2 N3
          refine start_ (n := 22) (S := fun w' => w'.cell? ⟨g516, 0, none⟩ = some (I q t507) ∧ w'.cell? ⟨g516, 1, none⟩ = some (I q t508) ∧ w'.cell? ⟨g516, 2, none⟩ = some (I q t509) ∧ w'.cell? ⟨g516, 3, none⟩ = some (I q t510) ∧ w'.cell? ⟨g516, 4, none⟩ = some (I q t511) ∧ w'.cell? ⟨g516, 5, none⟩ = some (I q t512) ∧ w'.cell? ⟨g516, 6, none⟩ = some (J Ao12 t513.length co12)) (ds := []) #[false, false, false, false, false, false, false, false, false, false, false, false, false, false, false, false, false, false, false, false, false, false] (by kernel_rfl) rfl rfl ⟨(bc B516.out 0).trans rfl, (bc B516.out 1).trans rfl, (bc B516.out 2).trans rfl, (bc B516.out 3).trans rfl, (bc B516.out 4).trans rfl, (bc B516.out 5).trans rfl, (bc B516.out 6).trans rfl⟩ (fun hHeld => ?_); refine with_tabW laws_FnPackets.tab5 laws_FnPackets.bits5 (fun HT_ HW_ => ?_)
          generalize w23.drew = w24 at O506 O515 B516 HB hHeld ⊢
          refine pure_ (i := 0) (N := some 14) (v := ?_) (a' := ?_) #[true, false, false, false, false, false, false, false, false, false, false, false, false, false, false, false, false, false, false, false, false, false] rfl rfl (any_of HT_.out (by kernel_rfl)) (fun _ _ _ h => h) (Or.inl ⟨by rfl, ?_⟩) ?_ ?_
          rotate_left
          · intro w'
            first | (go_simp; with_reducible rfl) | (go_simp; (try unfold Instr.field); go_simp; (try simp only [asAgg]); go_simp; with_reducible rfl)
          rotate_left
          · simp only [Act.put, List.setIfInBounds_toArray, List.set_cons_zero, List.set_cons_succ, i64_w, i32_w]
            rfl
          refine take_ (i := 1) (N := some 15) (v := ?_) (a' := ?_) #[true, true, false, false, false, false, false, false, false, false, false, false, false, false, false, false, false, false, false, false, false, false] rfl rfl (take_ofW HT_.out HW_.out (by kernel_rfl)) (fun _ _ _ h => h) (Or.inl ⟨by rfl, ?_⟩) hHeld ?_ ?_
          rotate_left
          · rintro w' ⟨s0, s1, s2, s3, s4, s5, s6⟩
            go_simp
            with_reducible rfl
          rotate_left
          · simp only [Act.put, List.setIfInBounds_toArray, List.set_cons_zero, List.set_cons_succ, i64_w, i32_w]
            rfl
          refine pure_ (i := 2) (N := some 16) (v := ?_) (a' := ?_) #[true, true, true, false, false, false, false, false, false, false, false, false, false, false, false, false, false, false, false, false, false, false] rfl rfl (any_of HT_.out (by kernel_rfl)) (fun _ _ _ h => h) (Or.inl ⟨by rfl, ?_⟩) ?_ ?_
          rotate_left
          · intro w'
            first | (go_simp; with_reducible rfl) | (go_simp; (try unfold Instr.field); go_simp; (try simp only [asAgg]); go_simp; with_reducible rfl)
          rotate_left
          · simp only [Act.put, List.setIfInBounds_toArray, List.set_cons_zero, List.set_cons_succ, i64_w, i32_w]
            rfl
          refine pure_ (i := 3) (N := some 17) (v := ?_) (a' := ?_) #[true, true, true, true, false, false, false, false, false, false, false, false, false, false, false, false, false, false, false, false, false, false] rfl rfl (any_of HT_.out (by kernel_rfl)) (fun _ _ _ h => h) (Or.inl ⟨by rfl, ?_⟩) ?_ ?_
          rotate_left
          · intro w'
            first | (go_simp; with_reducible rfl) | (go_simp; (try unfold Instr.field); go_simp; (try simp only [asAgg]); go_simp; with_reducible rfl)
          rotate_left
          · simp only [Act.put, List.setIfInBounds_toArray, List.set_cons_zero, List.set_cons_succ, i64_w, i32_w]
            rfl
          refine pure_ (i := 4) (N := some 18) (v := ?_) (a' := ?_) #[true, true, true, true, true, false, false, false, false, false, false, false, false, false, false, false, false, false, false, false, false, false] rfl rfl (any_of HT_.out (by kernel_rfl)) (fun _ _ _ h => h) (Or.inl ⟨by rfl, ?_⟩) ?_ ?_
          rotate_left
          · intro w'
            first | (go_simp; with_reducible rfl) | (go_simp; (try unfold Instr.field); go_simp; (try simp only [asAgg]); go_simp; with_reducible rfl)
          rotate_left
          · simp only [Act.put, List.setIfInBounds_toArray, List.set_cons_zero, List.set_cons_succ, i64_w, i32_w]
            rfl
          refine pure_ (i := 7) (N := some 21) (v := ?_) (a' := ?_) #[true, true, true, true, true, false, false, true, false, false, false, false, false, false, false, false, false, false, false, false, false, false] rfl rfl (any_of HT_.out (by kernel_rfl)) (fun _ _ _ h => h) (Or.inl ⟨by rfl, ?_⟩) ?_ ?_
          rotate_left
          · intro w'
            first | (go_simp; with_reducible rfl) | (go_simp; (try unfold Instr.field); go_simp; (try simp only [asAgg]); go_simp; with_reducible rfl)
          rotate_left
          · simp only [Act.put, List.setIfInBounds_toArray, List.set_cons_zero, List.set_cons_succ, i64_w, i32_w]
            rfl
          refine take_ (i := 8) (N := some 22) (v := ?_) (a' := ?_) #[true, true, true, true, true, false, false, true, true, false, false, false, false, false, false, false, false, false, false, false, false, false] rfl rfl (take_ofW HT_.out HW_.out (by kernel_rfl)) (fun _ _ _ h => h) (Or.inl ⟨by rfl, ?_⟩) hHeld ?_ ?_
          rotate_left
          · rintro w' ⟨s0, s1, s2, s3, s4, s5, s6⟩
            go_simp
            with_reducible rfl
          rotate_left
          · simp only [Act.put, List.setIfInBounds_toArray, List.set_cons_zero, List.set_cons_succ, i64_w, i32_w]
            rfl
          refine one_ (i := 5) (N := some 19) #[true, true, true, true, true, true, false, true, true, false, false, false, false, false, false, false, false, false, false, false, false, false] rfl rfl (one_of HT_.out (by kernel_rfl)) (by decide) (fun K hK => ?_)
          refine goes_ Tryd.func7 (by kernel_rfl) rfl #[J Ao8 t504.length co8] (by rfl) rfl rfl (by (try simp only [List.map_toArray, List.map_cons, List.map_nil]); first | done | rfl | (simp only [List.length_drop, List.length_take]; rfl)) ?_
          with_reducible refine (spec_ParsePacket.calls k _ _ t504 t518 t519 t520 t521 t522 t523 t524 _ ?side1 ?side2 A18.out).mono ?_
          (case side1 => repeat (first | exact (Kd.R_reads' O506.out).2.2 | (with_reducible refine ca ?_ _) | (with_reducible refine cN ?_ _) | (with_reducible refine cd1 ?_)))
          (case side2 => exact (Kd.R_reads' O506.out).2.1)
          rintro e w25 ⟨v525, rfl, ho0, hb⟩
          refine ⟨_, rfl, ?_⟩
          have N0 := am (re (by (with_reducible repeat (first | apply ra | apply rN | apply rd1)); exact O506.out) (Kd.R_base ho0) hb)
          have N1 := am (re (by (with_reducible repeat (first | apply ra | apply rN | apply rd1)); exact O515.out) (Kd.R_base ho0) hb)
          have N2 := am (rw1 (rn (rn ho0 (rl (by (with_reducible repeat (first | apply ra | apply rN | apply rd1)); exact O506.out))) (rl (by (with_reducible repeat (first | apply ra | apply rN | apply rd1)); exact O515.out))) (bz (by repeat (first | (with_reducible first | exact HB.out | apply pa | apply pN | apply p1 | refine bs ?_ E516.out) | exact HB.out))))
          have N3 := am (bb (g := g516) (by (with_reducible repeat (first | apply bN | apply bd | apply ba)); exact B516.out) hb)
          have N4 := am (bp (by repeat (first | (with_reducible first | exact HB.out | apply pa | apply pN | apply p1 | refine bs ?_ E516.out) | exact HB.out)) hb)
          clear O506
          clear O515
          clear B516
          clear HB
          have O506 := N0
          have O515 := N1
          have O526 := N2
          have B516 := N3
          have HB := N4
          clear N0 N1 N2 N3 N4
          (try clear hb)
          (try clear hb2)
          (try clear hk)
          (try clear hi)
          (try clear ho0)
          refine hK.out _ _ ⟨(bc B516.out 0).trans rfl, (bc B516.out 1).trans rfl, (bc B516.out 2).trans rfl, (bc B516.out 3).trans rfl, (bc B516.out 4).trans rfl, (bc B516.out 5).trans rfl, (bc B516.out 6).trans rfl⟩ (fun hHeld => ?_)
          clear hK K
          refine norm_ (a' := ?_) ?_ ?_
          rotate_left
          · show Act.put _ (some 19) _ = _
            simp only [Act.put, List.setIfInBounds_toArray, List.set_cons_zero, List.set_cons_succ, i64_w, i32_w]
            rfl
          refine pure_ (i := 6) (N := some 20) (v := ?_) (a' := ?_) #[true, true, true, true, true, true, true, true, true, false, false, false, false, false, false, false, false, false, false, false, false, false] rfl rfl (any_of HT_.out (by kernel_rfl)) (fun _ _ _ h => h) (Or.inl ⟨by rfl, ?_⟩) ?_ ?_
          rotate_left
          · intro w'
            first | (go_simp; with_reducible rfl) | (go_simp; (try unfold Instr.field); go_simp; (try simp only [asAgg]); go_simp; with_reducible rfl)
          rotate_left
          · simp only [Act.put, List.setIfInBounds_toArray, List.set_cons_zero, List.set_cons_succ, i64_w, i32_w]
            rfl
          refine pure_ (i := 9) (N := some 23) (v := ?_) (a' := ?_) #[true, true, true, true, true, true, true, true, true, true, false, false, false, false, false, false, false, false, false, false, false, false] rfl rfl (any_of HT_.out (by kernel_rfl)) (fun _ _ _ h => h) (Or.inl ⟨by rfl, ?_⟩) ?_ ?_
          rotate_left
          · intro w'
            first | (go_simp; with_reducible rfl) | (go_simp; (try unfold Instr.field); go_simp; (try simp only [asAgg]); go_simp; with_reducible rfl)
          rotate_left
          · simp only [Act.put, List.setIfInBounds_toArray, List.set_cons_zero, List.set_cons_succ, i64_w, i32_w]
            rfl
          refine pure_ (i := 10) (N := some 24) (v := ?_) (a' := ?_) #[true, true, true, true, true, true, true, true, true, true, true, false, false, false, false, false, false, false, false, false, false, false] rfl rfl (any_of HT_.out (by kernel_rfl)) (fun _ _ _ h => h) (Or.inl ⟨by rfl, ?_⟩) ?_ ?_
          rotate_left
          · intro w'
            first | (go_simp; with_reducible rfl) | (go_simp; (try unfold Instr.field); go_simp; (try simp only [asAgg]); go_simp; with_reducible rfl)
          rotate_left
          · simp only [Act.put, List.setIfInBounds_toArray, List.set_cons_zero, List.set_cons_succ, i64_w, i32_w]
            rfl
          refine pure_ (i := 11) (N := some 25) (v := ?_) (a' := ?_) #[true, true, true, true, true, true, true, true, true, true, true, true, false, false, false, false, false, false, false, false, false, false] rfl rfl (any_of HT_.out (by kernel_rfl)) (fun _ _ _ h => h) (Or.inl ⟨by rfl, ?_⟩) ?_ ?_
          rotate_left
          · intro w'
            first | (go_simp; with_reducible rfl) | (go_simp; (try unfold Instr.field); go_simp; (try simp only [asAgg]); go_simp; with_reducible rfl)
          rotate_left
          · simp only [Act.put, List.setIfInBounds_toArray, List.set_cons_zero, List.set_cons_succ, i64_w, i32_w]
            rfl
          refine pure_ (i := 12) (N := some 26) (v := undef) (a' := ?_) #[true, true, true, true, true, true, true, true, true, true, true, true, true, false, false, false, false, false, false, false, false, false] rfl rfl (any_of HT_.out (by kernel_rfl)) (fun _ _ _ h => h) (Or.inr ⟨by rfl, rfl⟩) ?_ ?_
          rotate_left
          · simp only [Act.put, List.setIfInBounds_toArray, List.set_cons_zero, List.set_cons_succ, i64_w, i32_w]
            rfl
          refine pure_ (i := 13) (N := some 27) (v := undef) (a' := ?_) #[true, true, true, true, true, true, true, true, true, true, true, true, true, true, false, false, false, false, false, false, false, false] rfl rfl (any_of HT_.out (by kernel_rfl)) (fun _ _ _ h => h) (Or.inr ⟨by rfl, rfl⟩) ?_ ?_
          rotate_left
          · simp only [Act.put, List.setIfInBounds_toArray, List.set_cons_zero, List.set_cons_succ, i64_w, i32_w]
            rfl
          refine pure_ (i := 14) (N := some 28) (v := undef) (a' := ?_) #[true, true, true, true, true, true, true, true, true, true, true, true, true, true, true, false, false, false, false, false, false, false] rfl rfl (any_of HT_.out (by kernel_rfl)) (fun _ _ _ h => h) (Or.inr ⟨by rfl, rfl⟩) ?_ ?_
          rotate_left
          · simp only [Act.put, List.setIfInBounds_toArray, List.set_cons_zero, List.set_cons_succ, i64_w, i32_w]
            rfl
          refine pure_ (i := 15) (N := some 29) (v := undef) (a' := ?_) #[true, true, true, true, true, true, true, true, true, true, true, true, true, true, true, true, false, false, false, false, false, false] rfl rfl (any_of HT_.out (by kernel_rfl)) (fun _ _ _ h => h) (Or.inr ⟨by rfl, rfl⟩) ?_ ?_
          rotate_left
          · simp only [Act.put, List.setIfInBounds_toArray, List.set_cons_zero, List.set_cons_succ, i64_w, i32_w]
            rfl
          refine pure_ (i := 16) (N := some 30) (v := undef) (a' := ?_) #[true, true, true, true, true, true, true, true, true, true, true, true, true, true, true, true, true, false, false, false, false, false] rfl rfl (any_of HT_.out (by kernel_rfl)) (fun _ _ _ h => h) (Or.inr ⟨by rfl, rfl⟩) ?_ ?_
          rotate_left
          · simp only [Act.put, List.setIfInBounds_toArray, List.set_cons_zero, List.set_cons_succ, i64_w, i32_w]
            rfl
          refine pure_ (i := 17) (N := some 31) (v := undef) (a' := ?_) #[true, true, true, true, true, true, true, true, true, true, true, true, true, true, true, true, true, true, false, false, false, false] rfl rfl (any_of HT_.out (by kernel_rfl)) (fun _ _ _ h => h) (Or.inr ⟨by rfl, rfl⟩) ?_ ?_
          rotate_left
          · simp only [Act.put, List.setIfInBounds_toArray, List.set_cons_zero, List.set_cons_succ, i64_w, i32_w]
            rfl
          refine pure_ (i := 18) (N := some 32) (v := undef) (a' := ?_) #[true, true, true, true, true, true, true, true, true, true, true, true, true, true, true, true, true, true, true, false, false, false] rfl rfl (any_of HT_.out (by kernel_rfl)) (fun _ _ _ h => h) (Or.inr ⟨by rfl, rfl⟩) ?_ ?_
          rotate_left
          · simp only [Act.put, List.setIfInBounds_toArray, List.set_cons_zero, List.set_cons_succ, i64_w, i32_w]
            rfl
          refine pure_ (i := 19) (N := some 33) (v := undef) (a' := ?_) #[true, true, true, true, true, true, true, true, true, true, true, true, true, true, true, true, true, true, true, true, false, false] rfl rfl (any_of HT_.out (by kernel_rfl)) (fun _ _ _ h => h) (Or.inr ⟨by rfl, rfl⟩) ?_ ?_
          rotate_left
          · simp only [Act.put, List.setIfInBounds_toArray, List.set_cons_zero, List.set_cons_succ, i64_w, i32_w]
            rfl
          refine pure_ (i := 20) (N := some 34) (v := undef) (a' := ?_) #[true, true, true, true, true, true, true, true, true, true, true, true, true, true, true, true, true, true, true, true, true, false] rfl rfl (any_of HT_.out (by kernel_rfl)) (fun _ _ _ h => h) (Or.inr ⟨by rfl, rfl⟩) ?_ ?_
          rotate_left
          · simp only [Act.put, List.setIfInBounds_toArray, List.set_cons_zero, List.set_cons_succ, i64_w, i32_w]
            rfl
          refine pure_ (i := 21) (N := some 35) (v := ?_) (a' := ?_) #[true, true, true, true, true, true, true, true, true, true, true, true, true, true, true, true, true, true, true, true, true, true] rfl rfl (any_of HT_.out (by kernel_rfl)) (fun _ _ _ h => h) (Or.inl ⟨by rfl, ?_⟩) ?_ ?_
          rotate_left
          · intro w'
            first | (go_simp; with_reducible rfl) | (go_simp; (try unfold Instr.field); go_simp; (try simp only [asAgg]); go_simp; with_reducible rfl)
          rotate_left
          · simp only [Act.put, List.setIfInBounds_toArray, List.set_cons_zero, List.set_cons_succ, i64_w, i32_w]
            rfl
          refine done_ (done_of HT_.out (by kernel_rfl)) ?_
          try go_wp2
          go_meet
          case rel => exact ⟨_, (true), (by first | rfl | (simp; done) | (simp [*]; done)), H', ⟨by first | omega | exact Nat.le_refl _⟩, ⟨by (with_reducible repeat (first | apply ra | apply rN | apply rd1)); exact Kd.R_mono O515.out (fun _ hk => trivial)⟩, ⟨by (with_reducible repeat (first | apply bN | apply bd | apply ba)); exact B516.out⟩, ⟨by repeat (first | (with_reducible first | exact HB.out | apply pa | apply pN | apply p1 | refine bs ?_ E516.out) | exact HB.out)⟩⟩
    case rest =>
      clear HC6
      try clear c1
      try clear p2
      try clear c7
      try clear c8
      try clear c13
      try clear c13b0
      try clear c13b1
      try clear c19
      try clear c19b0
      try clear c19b1
      obtain ⟨kq, x35_5, rfl, HA, HJ5, o0, B516, HB⟩ := hcut
      cases kq with
      | zero => exact absurd HA.out (by simp [laws_FnPackets.j0])
      | succ kj5 =>
        have H := HA.out
        clear HA
        simp only [laws_FnPackets.j0] at H
        by_cases c26 : x35_5 = true
        · subst c26
          have H1 : none = some r := by rw [if_pos rfl] at H; exact H
          clear H
          have H := H1
          clear H1
          cases H
        · replace c26 := Bool.eq_false_iff.mpr c26
          subst c26
          have H1 : ((spec_DrawBuildPacket.f kj5 l0).bind fun bt527 => ((impl_BuildPacket.f kj5 bt527.1 bt527.2.1 bt527.2.2.1 bt527.2.2.2.1 bt527.2.2.2.2.1 bt527.2.2.2.2.2).bind fun bt536 => (if bt536.1 = 0 then ((impl_ParsePacket.f kj5 bt536.2).bind fun bt542 => (if bt542.1 = 0 then ((impl_SamePacket.f bt542.2.1 bt542.2.2.1 bt542.2.2.2.1 bt542.2.2.2.2.1 bt542.2.2.2.2.2.1 bt542.2.2.2.2.2.2 bt527.1 bt527.2.1 bt527.2.2.1 bt527.2.2.2.1 bt527.2.2.2.2.1 bt527.2.2.2.2.2).bind fun t552 => (if t552 = true then (if (bt536.2.length : Int) = (wrap64 (24 + (bt527.2.2.2.2.2.length : Int))) then (if 20 ≤ (bt536.2.length : Int) then ((impl_WholeSum.f kj5 (bt536.2.take 20)).bind fun t557 => (if t557 = true then ((impl_AddressText.f bt527.2.1).bind fun bt558 => (some (decide ((bt558.2.size : Int) ≥ 7)))) else none)) else (none)) else none) else none)) else none)) else ((spec_PacketFault.f kj5 bt527.1 bt527.2.1 bt527.2.2.1 bt527.2.2.2.1 bt527.2.2.2.2.1 bt527.2.2.2.2.2).bind fun t541 => (some (t541 == bt536.1)))))) = some r := by rw [if_neg (show ¬ (false = true) by decide)] at H; exact H
          clear H
          have H := H1
          clear H1
          replace H := Option.bind_eq_some_iff.mp H
          obtain ⟨⟨t527, t528, t529, t530, t531, t532⟩, A270, H⟩ := H
          replace H : ((impl_BuildPacket.f kj5 t527 t528 t529 t530 t531 t532).bind fun bt536 => (if bt536.1 = 0 then ((impl_ParsePacket.f kj5 bt536.2).bind fun bt542 => (if bt542.1 = 0 then ((impl_SamePacket.f bt542.2.1 bt542.2.2.1 bt542.2.2.2.1 bt542.2.2.2.2.1 bt542.2.2.2.2.2.1 bt542.2.2.2.2.2.2 t527 t528 t529 t530 t531 t532).bind fun t552 => (if t552 = true then (if (bt536.2.length : Int) = (wrap64 (24 + (t532.length : Int))) then (if 20 ≤ (bt536.2.length : Int) then ((impl_WholeSum.f kj5 (bt536.2.take 20)).bind fun t557 => (if t557 = true then ((impl_AddressText.f t528).bind fun bt558 => (some (decide ((bt558.2.size : Int) ≥ 7)))) else none)) else (none)) else none) else none)) else none)) else ((spec_PacketFault.f kj5 t527 t528 t529 t530 t531 t532).bind fun t541 => (some (t541 == bt536.1))))) = some r := H
          have A27 := am A270
          clear A270
          replace H := Option.bind_eq_some_iff.mp H
          obtain ⟨⟨t536, t537⟩, A280, H⟩ := H
          replace H : (if t536 = 0 then ((impl_ParsePacket.f kj5 t537).bind fun bt542 => (if bt542.1 = 0 then ((impl_SamePacket.f bt542.2.1 bt542.2.2.1 bt542.2.2.2.1 bt542.2.2.2.2.1 bt542.2.2.2.2.2.1 bt542.2.2.2.2.2.2 t527 t528 t529 t530 t531 t532).bind fun t552 => (if t552 = true then (if (t537.length : Int) = (wrap64 (24 + (t532.length : Int))) then (if 20 ≤ (t537.length : Int) then ((impl_WholeSum.f kj5 (t537.take 20)).bind fun t557 => (if t557 = true then ((impl_AddressText.f t528).bind fun bt558 => (some (decide ((bt558.2.size : Int) ≥ 7)))) else none)) else (none)) else none) else none)) else none)) else ((spec_PacketFault.f kj5 t527 t528 t529 t530 t531 t532).bind fun t541 => (some (t541 == t536)))) = some r := H
          have A28 := am A280
          clear A280
          by_cases c29 : t536 = 0
          · rw [if_pos c29] at H
            have c29b0 : (t536 == 0) = true := beq_iff_eq.mpr c29
            have c29b1 : (t536 != 0) = false := bne_eq_false_iff_eq.mpr c29
            clear c29
            replace H := Option.bind_eq_some_iff.mp H
            obtain ⟨⟨t542, t543, t544, t545, t546, t547, t548⟩, A300, H⟩ := H
            replace H : (if t542 = 0 then ((impl_SamePacket.f t543 t544 t545 t546 t547 t548 t527 t528 t529 t530 t531 t532).bind fun t552 => (if t552 = true then (if (t537.length : Int) = (wrap64 (24 + (t532.length : Int))) then (if 20 ≤ (t537.length : Int) then ((impl_WholeSum.f kj5 (t537.take 20)).bind fun t557 => (if t557 = true then ((impl_AddressText.f t528).bind fun bt558 => (some (decide ((bt558.2.size : Int) ≥ 7)))) else none)) else (none)) else none) else none)) else none) = some r := H
            have A30 := am A300
            clear A300
            by_cases c31 : t542 = 0
            · rw [if_pos c31] at H
              have c31b0 : (t542 == 0) = true := beq_iff_eq.mpr c31
              have c31b1 : (t542 != 0) = false := bne_eq_false_iff_eq.mpr c31
              clear c31
              replace H := Option.bind_eq_some_iff.mp H
              obtain ⟨t552, A320, H⟩ := H
              replace H : (if t552 = true then (if (t537.length : Int) = (wrap64 (24 + (t532.length : Int))) then (if 20 ≤ (t537.length : Int) then ((impl_WholeSum.f kj5 (t537.take 20)).bind fun t557 => (if t557 = true then ((impl_AddressText.f t528).bind fun bt558 => (some (decide ((bt558.2.size : Int) ≥ 7)))) else none)) else (none)) else none) else none) = some r := H
              have A32 := am A320
              clear A320
              by_cases c33 : t552 = true
              · subst c33
                have H1 : (if (t537.length : Int) = (wrap64 (24 + (t532.length : Int))) then (if 20 ≤ (t537.length : Int) then ((impl_WholeSum.f kj5 (t537.take 20)).bind fun t557 => (if t557 = true then ((impl_AddressText.f t528).bind fun bt558 => (some (decide ((bt558.2.size : Int) ≥ 7)))) else none)) else (none)) else none) = some r := by rw [if_pos rfl] at H; exact H
                clear H
                have H := H1
                clear H1
                by_cases c34 : (t537.length : Int) = (wrap64 (24 + (t532.length : Int)))
                · rw [if_pos c34] at H
                  have c34b0 : ((t537.length : Int) == (wrap64 (24 + (t532.length : Int)))) = true := beq_iff_eq.mpr c34
                  have c34b1 : ((t537.length : Int) != (wrap64 (24 + (t532.length : Int)))) = false := bne_eq_false_iff_eq.mpr c34
                  clear c34
                  by_cases c35 : 20 ≤ (t537.length : Int)
                  · rw [if_pos c35] at H
                    have c35b0 := eq_true c35
                    have c35b1 : decide (20 ≤ (t537.length : Int)) = true := decide_eq_true c35
                    clear c35
                    obtain ⟨y553, hy553⟩ : ∃ y_ : List Int, y_ = (t537.take 20) := ⟨_, rfl⟩
                    replace H : ((impl_WholeSum.f kj5 y553).bind fun t557 => (if t557 = true then ((impl_AddressText.f t528).bind fun bt558 => (some (decide ((bt558.2.size : Int) ≥ 7)))) else none)) = some r := by first | (rw [hy553]; with_reducible exact H) | (have H2_ := (Option.bind_some _ _).symm.trans H; rw [hy553]; with_reducible exact H2_) | (have H2_ := (Option.bind_some _ _).symm.trans H; with_reducible exact H2_) | with_reducible exact H | (rw [hy553]; exact H) | exact H
                    have Ny553 := am hy553
                    clear hy553
                    replace H := Option.bind_eq_some_iff.mp H
                    obtain ⟨t557, A360, H⟩ := H
                    replace H : (if t557 = true then ((impl_AddressText.f t528).bind fun bt558 => (some (decide ((bt558.2.size : Int) ≥ 7)))) else none) = some r := H
                    have A36 := am A360
                    clear A360
                    by_cases c37 : t557 = true
                    · subst c37
                      have H1 : ((impl_AddressText.f t528).bind fun bt558 => (some (decide ((bt558.2.size : Int) ≥ 7)))) = some r := by rw [if_pos rfl] at H; exact H
                      clear H
                      have H := H1
                      clear H1
                      replace H := Option.bind_eq_some_iff.mp H
                      obtain ⟨⟨t558, t559⟩, A380, H⟩ := H
                      replace H : (some (decide ((t559.size : Int) ≥ 7))) = some r := H
                      have A38 := am A380
                      clear A380
                      obtain rfl := Option.some.inj H
                      go_wp2_with (first | ((with_reducible refine gate_callee (f := 9) rfl ?_); refine goesL_ (some 37) rfl rfl Tryd.func9 (by kernel_rfl) rfl #[J A0 l0.length c0] rfl (by (try simp only [List.map_toArray, List.map_cons, List.map_nil]); first | done | rfl) ?_; (with_reducible refine (spec_DrawBuildPacket.calls kj5 _ _ l0 t527 t528 t529 t530 t531 t532 _ ?side1 ?side2 A27.out).mono ?_); (case side1 => repeat (first | exact (Kd.C_below HR0.out HB.out) | (with_reducible refine ca ?_ _) | (with_reducible refine cN ?_ _) | (with_reducible refine cd1 ?_))); (case side2 => exact HC0.out); rintro e w39 ⟨v533, rfl, ho0, hb⟩; refine ⟨_, rfl, ?_⟩; have N0 := am (re (by (with_reducible repeat (first | apply ra | apply rN | apply rd1)); exact o0.out) (Kd.R_base ho0) hb); have N1 := am (rw1 (rn ho0 (rl (by (with_reducible repeat (first | apply ra | apply rN | apply rd1)); exact o0.out))) (bz (by repeat (first | (with_reducible first | exact HB.out | apply pa | apply pN | apply p1 | refine bs ?_ E516.out) | exact HB.out)))); have N2 := am (bb (g := g516) (by (with_reducible repeat (first | apply bN | apply bd | apply ba)); exact B516.out) hb); have N3 := am (bp (by repeat (first | (with_reducible first | exact HB.out | apply pa | apply pN | apply p1 | refine bs ?_ E516.out) | exact HB.out)) hb); clear o0 B516 HB; have o0 := N0; have O534 := N1; have B516 := N2; have HB := N3; clear N0 N1 N2 N3; (try clear hb); (try clear hb2); (try clear hk); (try clear hi); (try clear ho0)) | ((with_reducible refine gate_dst (N := 5) rfl ?_); (try (refine gate_guard (by rfl) ?_; dsimp only)); refine box_event ?hg (N := 5) ?hd (cs := #[I q 0, I q 0, I q 0, I q 0, I q 0, .slice none 0 0]) (t := 26) ?hr ?_; (case hd => rfl); (case hg => rfl); (case hr => first | (go_simp; done) | (go_simp; rfl)); intro g535 hg w40 hbox hb; have N0 := am (rb (by (with_reducible repeat (first | apply ra | apply rN | apply rd1)); exact o0.out) hb); have N1 := am (rb (by (with_reducible repeat (first | apply ra | apply rN | apply rd1)); exact O534.out) hb); have N2 := am (bb (g := g516) (by (with_reducible repeat (first | apply bN | apply bd | apply ba)); exact B516.out) hb); have N3 := am (bp (by repeat (first | (with_reducible first | exact HB.out | apply pa | apply pN | apply p1 | refine bs ?_ E516.out) | exact HB.out)) hb); have N4 := am (hbox); have N5 := am ((by rw [hg]; exact (bz (by repeat (first | (with_reducible first | exact HB.out | apply pa | apply pN | apply p1 | refine bs ?_ E516.out) | exact HB.out))) : w.heap.size ≤ g535)); have N6 := am ((by rw [hg]; exact (bz (by repeat (first | (with_reducible first | exact HB.out | apply pa | apply pN | apply p1 | refine bs ?_ E516.out) | exact HB.out))) : w.heap.size ≤ g535)); have N7 := am ((by rw [hg]; exact Nat.ne_of_lt (bl (g := g516) (by (with_reducible repeat (first | apply bN | apply bd | apply ba)); exact B516.out)) : g516 ≠ g535)); have N8 := am ((by rw [hg]; exact Nat.ne_of_gt (bl (g := g516) (by (with_reducible repeat (first | apply bN | apply bd | apply ba)); exact B516.out)) : g535 ≠ g516)); clear o0 O534 B516 HB; have o0 := N0; have O534 := N1; have B516 := N2; have HB := N3; have B535 := N4; have GW535 := N5; have E535 := N6; have NB516_535 := N7; have NB535_516 := N8; clear N0 N1 N2 N3 N4 N5 N6 N7 N8 hb hbox hg; have hnb41 := NB535_516.out; have hnc41 := NB516_535.out; have hcz42_0 : w40.cell? ⟨g535, 0, none⟩ = some (I q 0) := (bc B535.out 0).trans rfl; have hcz42_1 : w40.cell? ⟨g535, 1, none⟩ = some (I q 0) := (bc B535.out 1).trans rfl; have hcz42_2 : w40.cell? ⟨g535, 2, none⟩ = some (I q 0) := (bc B535.out 2).trans rfl; have hcz42_3 : w40.cell? ⟨g535, 3, none⟩ = some (I q 0) := (bc B535.out 3).trans rfl; have hcz42_4 : w40.cell? ⟨g535, 4, none⟩ = some (I q 0) := (bc B535.out 4).trans rfl; have hcz42_5 : w40.cell? ⟨g535, 5, none⟩ = some (.slice none 0 0) := (bc B535.out 5).trans rfl; have hfz42_0 := bf B535.out 0; have hfz42_1 := bf B535.out 1; have hfz42_2 := bf B535.out 2; have hfz42_3 := bf B535.out 3; have hfz42_4 := bf B535.out 4; have hfz42_5 := bf B535.out 5; obtain ⟨Ao43, co43, eo43⟩ := Kd.R_slice O534.out; subst eo43) | ((with_reducible refine gate_callee (f := 10) rfl ?_); refine goesL_ (some 39) rfl rfl Tryd.func10 (by kernel_rfl) rfl #[.agg #[I q t527, I q t528, I q t529, I q t530, I q t531, J Ao43 t532.length co43]] rfl (by (try simp only [List.map_toArray, List.map_cons, List.map_nil]); first | done | rfl) ?_; (with_reducible refine (impl_BuildPacket.calls kj5 t527 t528 t529 t530 t531 _ _ t532 t536 t537 _ ?side1 ?side2 A28.out).mono ?_); (case side1 => refine (Kd.R_reads' (e := 5) (base := w.heap.size) (ok := fun k_ => (True ∧ some k_ ≠ (J Ao12 t513.length co12 : Value).ownBlock)) (n := t532.length) (c := co43) ?_).2.2; exact (by (with_reducible repeat (first | apply ra | apply rN | apply rd1)); exact (Kd.R_mono (rf (p := ⟨g535, 5, none⟩) (rf (p := ⟨g535, 4, none⟩) (rf (p := ⟨g535, 3, none⟩) (rf (p := ⟨g535, 2, none⟩) (rf (p := ⟨g535, 1, none⟩) (rf (p := ⟨g535, 0, none⟩) (Kd.R_types O534.out B535.out (by decide)) (fun _ hk => hk.2) (I q t527)) (fun _ hk => hk.2) (I q t528)) (fun _ hk => hk.2) (I q t529)) (fun _ hk => hk.2) (I q t530)) (fun _ hk => hk.2) (I q t531)) (fun _ hk => hk.2) (J Ao43 t532.length co43)) (fun _ h_ => h_.1)))); (case side2 => exact (Kd.R_reads' O534.out).2.1); rintro e w44 ⟨v538, rfl, ho0, hb⟩; refine ⟨_, rfl, ?_⟩; have N0 := am (re (by (with_reducible repeat (first | apply ra | apply rN | apply rd1)); exact (Kd.R_mono (rf (p := ⟨g535, 5, none⟩) (rf (p := ⟨g535, 4, none⟩) (rf (p := ⟨g535, 3, none⟩) (rf (p := ⟨g535, 2, none⟩) (rf (p := ⟨g535, 1, none⟩) (rf (p := ⟨g535, 0, none⟩) (Kd.R_types o0.out B535.out (by decide)) (fun _ hk => hk.2) (I q t527)) (fun _ hk => hk.2) (I q t528)) (fun _ hk => hk.2) (I q t529)) (fun _ hk => hk.2) (I q t530)) (fun _ hk => hk.2) (I q t531)) (fun _ hk => hk.2) (J Ao43 t532.length co43)) (fun _ h_ => h_.1))) (Kd.R_base ho0) hb); have N1 := am (re (by (with_reducible repeat (first | apply ra | apply rN | apply rd1)); exact (Kd.R_mono (rf (p := ⟨g535, 5, none⟩) (rf (p := ⟨g535, 4, none⟩) (rf (p := ⟨g535, 3, none⟩) (rf (p := ⟨g535, 2, none⟩) (rf (p := ⟨g535, 1, none⟩) (rf (p := ⟨g535, 0, none⟩) (Kd.R_types O534.out B535.out (by decide)) (fun _ hk => hk.2) (I q t527)) (fun _ hk => hk.2) (I q t528)) (fun _ hk => hk.2) (I q t529)) (fun _ hk => hk.2) (I q t530)) (fun _ hk => hk.2) (I q t531)) (fun _ hk => hk.2) (J Ao43 t532.length co43)) (fun _ h_ => h_.1))) (Kd.R_base ho0) hb); have N2 := am (rw1 (rn (rn ho0 (rl (by (with_reducible repeat (first | apply ra | apply rN | apply rd1)); exact (Kd.R_mono (rf (p := ⟨g535, 5, none⟩) (rf (p := ⟨g535, 4, none⟩) (rf (p := ⟨g535, 3, none⟩) (rf (p := ⟨g535, 2, none⟩) (rf (p := ⟨g535, 1, none⟩) (rf (p := ⟨g535, 0, none⟩) (Kd.R_types o0.out B535.out (by decide)) (fun _ hk => hk.2) (I q t527)) (fun _ hk => hk.2) (I q t528)) (fun _ hk => hk.2) (I q t529)) (fun _ hk => hk.2) (I q t530)) (fun _ hk => hk.2) (I q t531)) (fun _ hk => hk.2) (J Ao43 t532.length co43)) (fun _ h_ => h_.1))))) (rl (by (with_reducible repeat (first | apply ra | apply rN | apply rd1)); exact (Kd.R_mono (rf (p := ⟨g535, 5, none⟩) (rf (p := ⟨g535, 4, none⟩) (rf (p := ⟨g535, 3, none⟩) (rf (p := ⟨g535, 2, none⟩) (rf (p := ⟨g535, 1, none⟩) (rf (p := ⟨g535, 0, none⟩) (Kd.R_types O534.out B535.out (by decide)) (fun _ hk => hk.2) (I q t527)) (fun _ hk => hk.2) (I q t528)) (fun _ hk => hk.2) (I q t529)) (fun _ hk => hk.2) (I q t530)) (fun _ hk => hk.2) (I q t531)) (fun _ hk => hk.2) (J Ao43 t532.length co43)) (fun _ h_ => h_.1))))) (bz (by repeat (first | (with_reducible first | exact HB.out | apply pa | apply pN | apply p1 | refine bs ?_ E516.out | refine bs ?_ E535.out) | exact HB.out)))); have N3 := am (bb (g := g516) (o := .cells #[I q t507, I q t508, I q t509, I q t510, I q t511, I q t512, J Ao12 t513.length co12] 28 (0, 0)) (by (iterate 6 ((with_reducible repeat (first | apply bN | apply bd | apply ba)); refine bq ?_ NB516_535.out _)); (with_reducible repeat (first | apply bN | apply bd | apply ba)); exact B516.out) hb); have N4 := am (bb (g := g535) (o := .cells #[I q t527, I q t528, I q t529, I q t530, I q t531, J Ao43 t532.length co43] 26 (0, 0)) (by (with_reducible repeat (first | apply bN | apply bd | apply ba)); exact pu6j B535.out) hb); have N5 := am (bp (by repeat (first | (with_reducible first | exact HB.out | apply pa | apply pN | apply p1 | refine bs ?_ E516.out | refine bs ?_ E535.out) | exact HB.out)) hb); clear o0 O534 B516 B535 HB; have o0 := N0; have O534 := N1; have O539 := N2; have B516 := N3; have B535 := N4; have HB := N5; clear N0 N1 N2 N3 N4 N5; (try clear hb); (try clear hb2); (try clear hk); (try clear hi); (try clear ho0)) | ((with_reducible refine gate_dst (N := 6) rfl ?_); (try (refine gate_guard (by rfl) ?_; dsimp only)); refine box_event ?hg (N := 6) ?hd (cs := #[I q 0, .slice none 0 0]) (t := 33) ?hr ?_; (case hd => rfl); (case hg => rfl); (case hr => first | (go_simp; done) | (go_simp; rfl)); intro g540 hg w45 hbox hb; have N0 := am (rb (by (with_reducible repeat (first | apply ra | apply rN | apply rd1)); exact o0.out) hb); have N1 := am (rb (by (with_reducible repeat (first | apply ra | apply rN | apply rd1)); exact O534.out) hb); have N2 := am (rb (by (with_reducible repeat (first | apply ra | apply rN | apply rd1)); exact O539.out) hb); have N3 := am (bb (g := g516) (by (with_reducible repeat (first | apply bN | apply bd | apply ba)); exact B516.out) hb); have N4 := am (bb (g := g535) (by (with_reducible repeat (first | apply bN | apply bd | apply ba)); exact B535.out) hb); have N5 := am (bp (by repeat (first | (with_reducible first | exact HB.out | apply pa | apply pN | apply p1 | refine bs ?_ E516.out | refine bs ?_ E535.out) | exact HB.out)) hb); have N6 := am (hbox); have N7 := am ((by rw [hg]; exact (bz (by repeat (first | (with_reducible first | exact HB.out | apply pa | apply pN | apply p1 | refine bs ?_ E516.out | refine bs ?_ E535.out) | exact HB.out))) : w.heap.size ≤ g540)); have N8 := am ((by rw [hg]; exact (bz (by repeat (first | (with_reducible first | exact HB.out | apply pa | apply pN | apply p1 | refine bs ?_ E516.out | refine bs ?_ E535.out) | exact HB.out))) : w.heap.size ≤ g540)); have N9 := am ((by rw [hg]; exact Nat.ne_of_lt (bl (g := g516) (by (with_reducible repeat (first | apply bN | apply bd | apply ba)); exact B516.out)) : g516 ≠ g540)); have N10 := am ((by rw [hg]; exact Nat.ne_of_gt (bl (g := g516) (by (with_reducible repeat (first | apply bN | apply bd | apply ba)); exact B516.out)) : g540 ≠ g516)); have N11 := am ((by rw [hg]; exact Nat.ne_of_lt (bl (g := g535) (by (with_reducible repeat (first | apply bN | apply bd | apply ba)); exact B535.out)) : g535 ≠ g540)); have N12 := am ((by rw [hg]; exact Nat.ne_of_gt (bl (g := g535) (by (with_reducible repeat (first | apply bN | apply bd | apply ba)); exact B535.out)) : g540 ≠ g535)); clear o0 O534 O539 B516 B535 HB; have o0 := N0; have O534 := N1; have O539 := N2; have B516 := N3; have B535 := N4; have HB := N5; have B540 := N6; have GW540 := N7; have E540 := N8; have NB516_540 := N9; have NB540_516 := N10; have NB535_540 := N11; have NB540_535 := N12; clear N0 N1 N2 N3 N4 N5 N6 N7 N8 N9 N10 N11 N12 hb hbox hg; have hnb46 := NB540_516.out; have hnc46 := NB516_540.out; have hnb47 := NB540_535.out; have hnc47 := NB535_540.out; have hcz48_0 : w45.cell? ⟨g540, 0, none⟩ = some (I q 0) := (bc B540.out 0).trans rfl; have hcz48_1 : w45.cell? ⟨g540, 1, none⟩ = some (.slice none 0 0) := (bc B540.out 1).trans rfl; have hfz48_0 := bf B540.out 0; have hfz48_1 := bf B540.out 1; obtain ⟨Ao49, co49, eo49⟩ := Kd.R_slice O539.out; subst eo49) | ((with_reducible refine gate_callee (f := 6) rfl ?_); refine goesL_ (some 50) rfl rfl Tryd.func6 (by kernel_rfl) rfl #[J Ao49 t537.length co49] rfl (by (try simp only [List.map_toArray, List.map_cons, List.map_nil]); first | done | rfl) ?_; (with_reducible refine (impl_ParsePacket.calls kj5 _ _ t537 t542 t543 t544 t545 t546 t547 t548 _ ?side1 ?side2 A30.out).mono ?_); (case side1 => refine (Kd.R_reads' (e := 5) (base := w.heap.size) (ok := fun k_ => ((True ∧ some k_ ≠ (J Ao12 t513.length co12 : Value).ownBlock) ∧ some k_ ≠ (J Ao43 t532.length co43 : Value).ownBlock)) (n := t537.length) (c := co49) ?_).2.2; exact (by (with_reducible repeat (first | apply ra | apply rN | apply rd1)); exact (Kd.R_mono (rf (p := ⟨g540, 1, none⟩) (rf (p := ⟨g540, 0, none⟩) (Kd.R_types O539.out B540.out (by decide)) (fun _ hk => hk.2) (I q t536)) (fun _ hk => hk.2) (J Ao49 t537.length co49)) (fun _ h_ => h_.1)))); (case side2 => exact (Kd.R_reads' O539.out).2.1); rintro e w50 ⟨v549, rfl, ho0, hb⟩; refine ⟨_, rfl, ?_⟩; have N0 := am (re (by (with_reducible repeat (first | apply ra | apply rN | apply rd1)); exact (Kd.R_mono (rf (p := ⟨g540, 1, none⟩) (rf (p := ⟨g540, 0, none⟩) (Kd.R_types o0.out B540.out (by decide)) (fun _ hk => hk.2) (I q t536)) (fun _ hk => hk.2) (J Ao49 t537.length co49)) (fun _ h_ => h_.1))) (Kd.R_base ho0) hb); have N1 := am (re (by (with_reducible repeat (first | apply ra | apply rN | apply rd1)); exact (Kd.R_mono (rf (p := ⟨g540, 1, none⟩) (rf (p := ⟨g540, 0, none⟩) (Kd.R_types O534.out B540.out (by decide)) (fun _ hk => hk.2) (I q t536)) (fun _ hk => hk.2) (J Ao49 t537.length co49)) (fun _ h_ => h_.1))) (Kd.R_base ho0) hb); have N2 := am (re (by (with_reducible repeat (first | apply ra | apply rN | apply rd1)); exact (Kd.R_mono (rf (p := ⟨g540, 1, none⟩) (rf (p := ⟨g540, 0, none⟩) (Kd.R_types O539.out B540.out (by decide)) (fun _ hk => hk.2) (I q t536)) (fun _ hk => hk.2) (J Ao49 t537.length co49)) (fun _ h_ => h_.1))) (Kd.R_base ho0) hb); have N3 := am (rw1 (rn (rn (rn ho0 (rl (by (with_reducible repeat (first | apply ra | apply rN | apply rd1)); exact (Kd.R_mono (rf (p := ⟨g540, 1, none⟩) (rf (p := ⟨g540, 0, none⟩) (Kd.R_types o0.out B540.out (by decide)) (fun _ hk => hk.2) (I q t536)) (fun _ hk => hk.2) (J Ao49 t537.length co49)) (fun _ h_ => h_.1))))) (rl (by (with_reducible repeat (first | apply ra | apply rN | apply rd1)); exact (Kd.R_mono (rf (p := ⟨g540, 1, none⟩) (rf (p := ⟨g540, 0, none⟩) (Kd.R_types O534.out B540.out (by decide)) (fun _ hk => hk.2) (I q t536)) (fun _ hk => hk.2) (J Ao49 t537.length co49)) (fun _ h_ => h_.1))))) (rl (by (with_reducible repeat (first | apply ra | apply rN | apply rd1)); exact (Kd.R_mono (rf (p := ⟨g540, 1, none⟩) (rf (p := ⟨g540, 0, none⟩) (Kd.R_types O539.out B540.out (by decide)) (fun _ hk => hk.2) (I q t536)) (fun _ hk => hk.2) (J Ao49 t537.length co49)) (fun _ h_ => h_.1))))) (bz (by repeat (first | (with_reducible first | exact HB.out | apply pa | apply pN | apply p1 | refine bs ?_ E516.out | refine bs ?_ E535.out | refine bs ?_ E540.out) | exact HB.out)))); have N4 := am (bb (g := g516) (o := .cells #[I q t507, I q t508, I q t509, I q t510, I q t511, I q t512, J Ao12 t513.length co12] 28 (0, 0)) (by (iterate 2 ((with_reducible repeat (first | apply bN | apply bd | apply ba)); refine bq ?_ NB516_540.out _)); (with_reducible repeat (first | apply bN | apply bd | apply ba)); exact B516.out) hb); have N5 := am (bb (g := g535) (o := .cells #[I q t527, I q t528, I q t529, I q t530, I q t531, J Ao43 t532.length co43] 26 (0, 0)) (by (iterate 2 ((with_reducible repeat (first | apply bN | apply bd | apply ba)); refine bq ?_ NB535_540.out _)); (with_reducible repeat (first | apply bN | apply bd | apply ba)); exact B535.out) hb); have N6 := am (bb (g := g540) (o := .cells #[I q t536, J Ao49 t537.length co49] 33 (0, 0)) (by (with_reducible repeat (first | apply bN | apply bd | apply ba)); exact pu2j B540.out) hb); have N7 := am (bp (by repeat (first | (with_reducible first | exact HB.out | apply pa | apply pN | apply p1 | refine bs ?_ E516.out | refine bs ?_ E535.out | refine bs ?_ E540.out) | exact HB.out)) hb); clear o0 O534 O539 B516 B535 B540 HB; have o0 := N0; have O534 := N1; have O539 := N2; have O550 := N3; have B516 := N4; have B535 := N5; have B540 := N6; have HB := N7; clear N0 N1 N2 N3 N4 N5 N6 N7; (try clear hb); (try clear hb2); (try clear hk); (try clear hi); (try clear ho0)) | ((with_reducible refine gate_dst (N := 7) rfl ?_); (try (refine gate_guard (by rfl) ?_; dsimp only)); refine box_event ?hg (N := 7) ?hd (cs := #[I q 0, I q 0, I q 0, I q 0, I q 0, I q 0, .slice none 0 0]) (t := 28) ?hr ?_; (case hd => rfl); (case hg => rfl); (case hr => first | (go_simp; done) | (go_simp; rfl)); intro g551 hg w51 hbox hb; have N0 := am (rb (by (with_reducible repeat (first | apply ra | apply rN | apply rd1)); exact o0.out) hb); have N1 := am (rb (by (with_reducible repeat (first | apply ra | apply rN | apply rd1)); exact O534.out) hb); have N2 := am (rb (by (with_reducible repeat (first | apply ra | apply rN | apply rd1)); exact O539.out) hb); have N3 := am (rb (by (with_reducible repeat (first | apply ra | apply rN | apply rd1)); exact O550.out) hb); have N4 := am (bb (g := g516) (by (with_reducible repeat (first | apply bN | apply bd | apply ba)); exact B516.out) hb); have N5 := am (bb (g := g535) (by (with_reducible repeat (first | apply bN | apply bd | apply ba)); exact B535.out) hb); have N6 := am (bb (g := g540) (by (with_reducible repeat (first | apply bN | apply bd | apply ba)); exact B540.out) hb); have N7 := am (bp (by repeat (first | (with_reducible first | exact HB.out | apply pa | apply pN | apply p1 | refine bs ?_ E516.out | refine bs ?_ E535.out | refine bs ?_ E540.out) | exact HB.out)) hb); have N8 := am (hbox); have N9 := am ((by rw [hg]; exact (bz (by repeat (first | (with_reducible first | exact HB.out | apply pa | apply pN | apply p1 | refine bs ?_ E516.out | refine bs ?_ E535.out | refine bs ?_ E540.out) | exact HB.out))) : w.heap.size ≤ g551)); have N10 := am ((by rw [hg]; exact (bz (by repeat (first | (with_reducible first | exact HB.out | apply pa | apply pN | apply p1 | refine bs ?_ E516.out | refine bs ?_ E535.out | refine bs ?_ E540.out) | exact HB.out))) : w.heap.size ≤ g551)); have N11 := am ((by rw [hg]; exact Nat.ne_of_lt (bl (g := g516) (by (with_reducible repeat (first | apply bN | apply bd | apply ba)); exact B516.out)) : g516 ≠ g551)); have N12 := am ((by rw [hg]; exact Nat.ne_of_gt (bl (g := g516) (by (with_reducible repeat (first | apply bN | apply bd | apply ba)); exact B516.out)) : g551 ≠ g516)); have N13 := am ((by rw [hg]; exact Nat.ne_of_lt (bl (g := g535) (by (with_reducible repeat (first | apply bN | apply bd | apply ba)); exact B535.out)) : g535 ≠ g551)); have N14 := am ((by rw [hg]; exact Nat.ne_of_gt (bl (g := g535) (by (with_reducible repeat (first | apply bN | apply bd | apply ba)); exact B535.out)) : g551 ≠ g535)); have N15 := am ((by rw [hg]; exact Nat.ne_of_lt (bl (g := g540) (by (with_reducible repeat (first | apply bN | apply bd | apply ba)); exact B540.out)) : g540 ≠ g551)); have N16 := am ((by rw [hg]; exact Nat.ne_of_gt (bl (g := g540) (by (with_reducible repeat (first | apply bN | apply bd | apply ba)); exact B540.out)) : g551 ≠ g540)); clear o0 O534 O539 O550 B516 B535 B540 HB; have o0 := N0; have O534 := N1; have O539 := N2; have O550 := N3; have B516 := N4; have B535 := N5; have B540 := N6; have HB := N7; have B551 := N8; have GW551 := N9; have E551 := N10; have NB516_551 := N11; have NB551_516 := N12; have NB535_551 := N13; have NB551_535 := N14; have NB540_551 := N15; have NB551_540 := N16; clear N0 N1 N2 N3 N4 N5 N6 N7 N8 N9 N10 N11 N12 N13 N14 N15 N16 hb hbox hg; have hnb52 := NB551_516.out; have hnc52 := NB516_551.out; have hnb53 := NB551_535.out; have hnc53 := NB535_551.out; have hnb54 := NB551_540.out; have hnc54 := NB540_551.out; have hcz55_0 : w51.cell? ⟨g551, 0, none⟩ = some (I q 0) := (bc B551.out 0).trans rfl; have hcz55_1 : w51.cell? ⟨g551, 1, none⟩ = some (I q 0) := (bc B551.out 1).trans rfl; have hcz55_2 : w51.cell? ⟨g551, 2, none⟩ = some (I q 0) := (bc B551.out 2).trans rfl; have hcz55_3 : w51.cell? ⟨g551, 3, none⟩ = some (I q 0) := (bc B551.out 3).trans rfl; have hcz55_4 : w51.cell? ⟨g551, 4, none⟩ = some (I q 0) := (bc B551.out 4).trans rfl; have hcz55_5 : w51.cell? ⟨g551, 5, none⟩ = some (I q 0) := (bc B551.out 5).trans rfl; have hcz55_6 : w51.cell? ⟨g551, 6, none⟩ = some (.slice none 0 0) := (bc B551.out 6).trans rfl; have hfz55_0 := bf B551.out 0; have hfz55_1 := bf B551.out 1; have hfz55_2 := bf B551.out 2; have hfz55_3 := bf B551.out 3; have hfz55_4 := bf B551.out 4; have hfz55_5 := bf B551.out 5; have hfz55_6 := bf B551.out 6; obtain ⟨Ao56, co56, eo56⟩ := Kd.R_slice O550.out; subst eo56; have hcz57_0 : w51.cell? ⟨g535, 0, none⟩ = some (I q t527) := (bc B535.out 0).trans rfl; have hcz57_1 : w51.cell? ⟨g535, 1, none⟩ = some (I q t528) := (bc B535.out 1).trans rfl; have hcz57_2 : w51.cell? ⟨g535, 2, none⟩ = some (I q t529) := (bc B535.out 2).trans rfl; have hcz57_3 : w51.cell? ⟨g535, 3, none⟩ = some (I q t530) := (bc B535.out 3).trans rfl; have hcz57_4 : w51.cell? ⟨g535, 4, none⟩ = some (I q t531) := (bc B535.out 4).trans rfl; have hcz57_5 : w51.cell? ⟨g535, 5, none⟩ = some (J Ao43 t532.length co43) := (bc B535.out 5).trans rfl; have hfz57_0 := bf B535.out 0; have hfz57_1 := bf B535.out 1; have hfz57_2 := bf B535.out 2; have hfz57_3 := bf B535.out 3; have hfz57_4 := bf B535.out 4; have hfz57_5 := bf B535.out 5) | (go_at_call 12; (with_reducible refine (impl_SamePacket.calls t543 t544 t545 t546 t547 _ _ t548 t527 t528 t529 t530 t531 _ _ t532 true _ ?side1 ?side2 ?side3 ?side4 A32.out).mono ?_); (case side1 => refine (Kd.R_reads' (e := 5) (base := w.heap.size) (ok := fun k_ => (((True ∧ some k_ ≠ (J Ao12 t513.length co12 : Value).ownBlock) ∧ some k_ ≠ (J Ao43 t532.length co43 : Value).ownBlock) ∧ some k_ ≠ (J Ao49 t537.length co49 : Value).ownBlock)) (n := t548.length) (c := co56) ?_).2.2; exact (by (with_reducible repeat (first | apply ra | apply rN | apply rd1)); exact (Kd.R_mono (rf (p := ⟨g551, 6, none⟩) (rf (p := ⟨g551, 5, none⟩) (rf (p := ⟨g551, 4, none⟩) (rf (p := ⟨g551, 3, none⟩) (rf (p := ⟨g551, 2, none⟩) (rf (p := ⟨g551, 1, none⟩) (rf (p := ⟨g551, 0, none⟩) (Kd.R_types O550.out B551.out (by decide)) (fun _ hk => hk.2) (I q t542)) (fun _ hk => hk.2) (I q t543)) (fun _ hk => hk.2) (I q t544)) (fun _ hk => hk.2) (I q t545)) (fun _ hk => hk.2) (I q t546)) (fun _ hk => hk.2) (I q t547)) (fun _ hk => hk.2) (J Ao56 t548.length co56)) (fun _ h_ => h_.1)))); (case side2 => exact (Kd.R_reads' O550.out).2.1); (case side3 => refine (Kd.R_reads' (e := 5) (base := w.heap.size) (ok := fun k_ => (((True ∧ some k_ ≠ (J Ao12 t513.length co12 : Value).ownBlock) ∧ some k_ ≠ (J Ao49 t537.length co49 : Value).ownBlock) ∧ some k_ ≠ (J Ao56 t548.length co56 : Value).ownBlock)) (n := t532.length) (c := co43) ?_).2.2; exact (by (with_reducible repeat (first | apply ra | apply rN | apply rd1)); exact (Kd.R_mono (rf (p := ⟨g551, 6, none⟩) (rf (p := ⟨g551, 5, none⟩) (rf (p := ⟨g551, 4, none⟩) (rf (p := ⟨g551, 3, none⟩) (rf (p := ⟨g551, 2, none⟩) (rf (p := ⟨g551, 1, none⟩) (rf (p := ⟨g551, 0, none⟩) (Kd.R_types O534.out B551.out (by decide)) (fun _ hk => hk.2) (I q t542)) (fun _ hk => hk.2) (I q t543)) (fun _ hk => hk.2) (I q t544)) (fun _ hk => hk.2) (I q t545)) (fun _ hk => hk.2) (I q t546)) (fun _ hk => hk.2) (I q t547)) (fun _ hk => hk.2) (J Ao56 t548.length co56)) (fun _ h_ => h_.1)))); (case side4 => exact (Kd.R_reads' O534.out).2.1); rintro e w58 ⟨rfl, hb⟩; have N0 := am (rb (by (with_reducible repeat (first | apply ra | apply rN | apply rd1)); exact (Kd.R_mono (rf (p := ⟨g551, 6, none⟩) (rf (p := ⟨g551, 5, none⟩) (rf (p := ⟨g551, 4, none⟩) (rf (p := ⟨g551, 3, none⟩) (rf (p := ⟨g551, 2, none⟩) (rf (p := ⟨g551, 1, none⟩) (rf (p := ⟨g551, 0, none⟩) (Kd.R_types o0.out B551.out (by decide)) (fun _ hk => hk.2) (I q t542)) (fun _ hk => hk.2) (I q t543)) (fun _ hk => hk.2) (I q t544)) (fun _ hk => hk.2) (I q t545)) (fun _ hk => hk.2) (I q t546)) (fun _ hk => hk.2) (I q t547)) (fun _ hk => hk.2) (J Ao56 t548.length co56)) (fun _ h_ => h_.1))) hb); have N1 := am (rb (by (with_reducible repeat (first | apply ra | apply rN | apply rd1)); exact (Kd.R_mono (rf (p := ⟨g551, 6, none⟩) (rf (p := ⟨g551, 5, none⟩) (rf (p := ⟨g551, 4, none⟩) (rf (p := ⟨g551, 3, none⟩) (rf (p := ⟨g551, 2, none⟩) (rf (p := ⟨g551, 1, none⟩) (rf (p := ⟨g551, 0, none⟩) (Kd.R_types O534.out B551.out (by decide)) (fun _ hk => hk.2) (I q t542)) (fun _ hk => hk.2) (I q t543)) (fun _ hk => hk.2) (I q t544)) (fun _ hk => hk.2) (I q t545)) (fun _ hk => hk.2) (I q t546)) (fun _ hk => hk.2) (I q t547)) (fun _ hk => hk.2) (J Ao56 t548.length co56)) (fun _ h_ => h_.1))) hb); have N2 := am (rb (by (with_reducible repeat (first | apply ra | apply rN | apply rd1)); exact (Kd.R_mono (rf (p := ⟨g551, 6, none⟩) (rf (p := ⟨g551, 5, none⟩) (rf (p := ⟨g551, 4, none⟩) (rf (p := ⟨g551, 3, none⟩) (rf (p := ⟨g551, 2, none⟩) (rf (p := ⟨g551, 1, none⟩) (rf (p := ⟨g551, 0, none⟩) (Kd.R_types O539.out B551.out (by decide)) (fun _ hk => hk.2) (I q t542)) (fun _ hk => hk.2) (I q t543)) (fun _ hk => hk.2) (I q t544)) (fun _ hk => hk.2) (I q t545)) (fun _ hk => hk.2) (I q t546)) (fun _ hk => hk.2) (I q t547)) (fun _ hk => hk.2) (J Ao56 t548.length co56)) (fun _ h_ => h_.1))) hb); have N3 := am (rb (by (with_reducible repeat (first | apply ra | apply rN | apply rd1)); exact (Kd.R_mono (rf (p := ⟨g551, 6, none⟩) (rf (p := ⟨g551, 5, none⟩) (rf (p := ⟨g551, 4, none⟩) (rf (p := ⟨g551, 3, none⟩) (rf (p := ⟨g551, 2, none⟩) (rf (p := ⟨g551, 1, none⟩) (rf (p := ⟨g551, 0, none⟩) (Kd.R_types O550.out B551.out (by decide)) (fun _ hk => hk.2) (I q t542)) (fun _ hk => hk.2) (I q t543)) (fun _ hk => hk.2) (I q t544)) (fun _ hk => hk.2) (I q t545)) (fun _ hk => hk.2) (I q t546)) (fun _ hk => hk.2) (I q t547)) (fun _ hk => hk.2) (J Ao56 t548.length co56)) (fun _ h_ => h_.1))) hb); have N4 := am (bb (g := g516) (o := .cells #[I q t507, I q t508, I q t509, I q t510, I q t511, I q t512, J Ao12 t513.length co12] 28 (0, 0)) (by (iterate 7 ((with_reducible repeat (first | apply bN | apply bd | apply ba)); refine bq ?_ NB516_551.out _)); (with_reducible repeat (first | apply bN | apply bd | apply ba)); exact B516.out) hb); have N5 := am (bb (g := g535) (o := .cells #[I q t527, I q t528, I q t529, I q t530, I q t531, J Ao43 t532.length co43] 26 (0, 0)) (by (iterate 7 ((with_reducible repeat (first | apply bN | apply bd | apply ba)); refine bq ?_ NB535_551.out _)); (with_reducible repeat (first | apply bN | apply bd | apply ba)); exact B535.out) hb); have N6 := am (bb (g := g540) (o := .cells #[I q t536, J Ao49 t537.length co49] 33 (0, 0)) (by (iterate 7 ((with_reducible repeat (first | apply bN | apply bd | apply ba)); refine bq ?_ NB540_551.out _)); (with_reducible repeat (first | apply bN | apply bd | apply ba)); exact B540.out) hb); have N7 := am (bb (g := g551) (o := .cells #[I q t542, I q t543, I q t544, I q t545, I q t546, I q t547, J Ao56 t548.length co56] 28 (0, 0)) (by (with_reducible repeat (first | apply bN | apply bd | apply ba)); exact pu7j B551.out) hb); have N8 := am (bp (by repeat (first | (with_reducible first | exact HB.out | apply pa | apply pN | apply p1 | refine bs ?_ E516.out | refine bs ?_ E535.out | refine bs ?_ E540.out | refine bs ?_ E551.out) | exact HB.out)) hb); clear o0 O534 O539 O550 B516 B535 B540 B551 HB; have o0 := N0; have O534 := N1; have O539 := N2; have O550 := N3; have B516 := N4; have B535 := N5; have B540 := N6; have B551 := N7; have HB := N8; clear N0 N1 N2 N3 N4 N5 N6 N7 N8; (try clear hb); (try clear hb2); (try clear hk); (try clear hi); have hcz59_0 : w58.cell? ⟨g540, 0, none⟩ = some (I q t536) := (bc B540.out 0).trans rfl; have hcz59_1 : w58.cell? ⟨g540, 1, none⟩ = some (J Ao49 t537.length co49) := (bc B540.out 1).trans rfl; have hfz59_0 := bf B540.out 0; have hfz59_1 := bf B540.out 1; have hcz60_0 : w58.cell? ⟨g535, 0, none⟩ = some (I q t527) := (bc B535.out 0).trans rfl; have hcz60_1 : w58.cell? ⟨g535, 1, none⟩ = some (I q t528) := (bc B535.out 1).trans rfl; have hcz60_2 : w58.cell? ⟨g535, 2, none⟩ = some (I q t529) := (bc B535.out 2).trans rfl; have hcz60_3 : w58.cell? ⟨g535, 3, none⟩ = some (I q t530) := (bc B535.out 3).trans rfl; have hcz60_4 : w58.cell? ⟨g535, 4, none⟩ = some (I q t531) := (bc B535.out 4).trans rfl; have hcz60_5 : w58.cell? ⟨g535, 5, none⟩ = some (J Ao43 t532.length co43) := (bc B535.out 5).trans rfl; have hfz60_0 := bf B535.out 0; have hfz60_1 := bf B535.out 1; have hfz60_2 := bf B535.out 2; have hfz60_3 := bf B535.out 3; have hfz60_4 := bf B535.out 4; have hfz60_5 := bf B535.out 5; have q61 : (20 : Int) ≤ ((t537.length : Int) : Int) := of_decide_eq_true (by first | (with_reducible assumption) | assumption); obtain ⟨i061, hi061, _, hsz61, _⟩ := info_parts info5; have hroom61 : t537.length ≤ co49 := (Kd.R_reads' O539.out).2.1; have hC61 : Kd.C (Kd.int .u8) _ Ao49 t537.length t537 := (Kd.R_reads' O539.out).2.2; have hcut61 := cut_to (P := Tryd.prog) 22 5 .i64 Tryd.underlying22 hi061 Ao49 t537.length co49 20 (by omega) q61 hroom61; have hr61 := Kd.C_take (m := 20) hC61 (by omega); have hy61 : y553.length = (20 : Int).toNat := (by rw [Ny553.out, List.length_take]; omega); rw [← Ny553.out] at hr61; rw [← hy61] at hcut61; have HR556 := am hr61; have HC556 := am (show y553.length ≤ co49 from by omega); clear hr61 hC61 hroom61 hi061 hsz61; have KY61 := am hy61; clear hy61; have KL61 := am (show 20 ≤ t537.length from by omega); replace q61 := eq_true q61) | (go_at_call 13; (with_reducible refine (impl_WholeSum.calls kj5 _ _ y553 true _ ?side1 ?side2 A36.out).mono ?_); (case side1 => repeat (first | exact (by repeat (first | (with_reducible exact HR556.out) | (with_reducible refine ca ?_ _) | (with_reducible refine cN ?_ _) | (with_reducible refine cd1 ?_) | exact HR556.out)) | (with_reducible refine ca ?_ _) | (with_reducible refine cN ?_ _) | (with_reducible refine cd1 ?_))); (case side2 => exact HC556.out); rintro e w62 ⟨rfl, hb⟩; have N0 := am (rb (by (with_reducible repeat (first | apply ra | apply rN | apply rd1)); exact o0.out) hb); have N1 := am (rb (by (with_reducible repeat (first | apply ra | apply rN | apply rd1)); exact O534.out) hb); have N2 := am (rb (by (with_reducible repeat (first | apply ra | apply rN | apply rd1)); exact O539.out) hb); have N3 := am (rb (by (with_reducible repeat (first | apply ra | apply rN | apply rd1)); exact O550.out) hb); have N4 := am (bb (g := g516) (by (with_reducible repeat (first | apply bN | apply bd | apply ba)); exact B516.out) hb); have N5 := am (bb (g := g535) (by (with_reducible repeat (first | apply bN | apply bd | apply ba)); exact B535.out) hb); have N6 := am (bb (g := g540) (by (with_reducible repeat (first | apply bN | apply bd | apply ba)); exact B540.out) hb); have N7 := am (bb (g := g551) (by (with_reducible repeat (first | apply bN | apply bd | apply ba)); exact B551.out) hb); have N8 := am (Kd.C_below (by repeat (first | (with_reducible exact HR556.out) | (with_reducible refine ca ?_ _) | (with_reducible refine cN ?_ _) | (with_reducible refine cd1 ?_) | exact HR556.out)) hb); have N9 := am (bp (by repeat (first | (with_reducible first | exact HB.out | apply pa | apply pN | apply p1 | refine bs ?_ E516.out | refine bs ?_ E535.out | refine bs ?_ E540.out | refine bs ?_ E551.out) | exact HB.out)) hb); clear o0 O534 O539 O550 B516 B535 B540 B551 HR556 HB; have o0 := N0; have O534 := N1; have O539 := N2; have O550 := N3; have B516 := N4; have B535 := N5; have B540 := N6; have B551 := N7; have HR556 := N8; have HB := N9; clear N0 N1 N2 N3 N4 N5 N6 N7 N8 N9; (try clear hb); (try clear hb2); (try clear hk); (try clear hi); have hcz63_0 : w62.cell? ⟨g535, 0, none⟩ = some (I q t527) := (bc B535.out 0).trans rfl; have hcz63_1 : w62.cell? ⟨g535, 1, none⟩ = some (I q t528) := (bc B535.out 1).trans rfl; have hcz63_2 : w62.cell? ⟨g535, 2, none⟩ = some (I q t529) := (bc B535.out 2).trans rfl; have hcz63_3 : w62.cell? ⟨g535, 3, none⟩ = some (I q t530) := (bc B535.out 3).trans rfl; have hcz63_4 : w62.cell? ⟨g535, 4, none⟩ = some (I q t531) := (bc B535.out 4).trans rfl; have hcz63_5 : w62.cell? ⟨g535, 5, none⟩ = some (J Ao43 t532.length co43) := (bc B535.out 5).trans rfl; have hfz63_0 := bf B535.out 0; have hfz63_1 := bf B535.out 1; have hfz63_2 := bf B535.out 2; have hfz63_3 := bf B535.out 3; have hfz63_4 := bf B535.out 4; have hfz63_5 := bf B535.out 5) | (go_at_call 14; (with_reducible refine (impl_AddressText.calls t528 t558 t559 _ ?tab_ A38.out).mono ?_); (case tab_ => exact (Go.Joins.tab_stays (show Tryd.prog.globalNamed "internal/strconv.uint64pow10" = some 0 by kernel_rfl) ht_ (by repeat (first | (with_reducible first | exact HB.out | apply pa | apply pN | apply p1 | refine bs ?_ E516.out | refine bs ?_ E535.out | refine bs ?_ E540.out | refine bs ?_ E551.out) | exact HB.out | exact Below.refl _ _)) (Nat.le_refl _))); rintro e w64 ⟨rfl, hb⟩; have N0 := am (rb (by (with_reducible repeat (first | apply ra | apply rN | apply rd1)); exact o0.out) hb); have N1 := am (rb (by (with_reducible repeat (first | apply ra | apply rN | apply rd1)); exact O534.out) hb); have N2 := am (rb (by (with_reducible repeat (first | apply ra | apply rN | apply rd1)); exact O539.out) hb); have N3 := am (rb (by (with_reducible repeat (first | apply ra | apply rN | apply rd1)); exact O550.out) hb); have N4 := am (bb (g := g516) (by (with_reducible repeat (first | apply bN | apply bd | apply ba)); exact B516.out) hb); have N5 := am (bb (g := g535) (by (with_reducible repeat (first | apply bN | apply bd | apply ba)); exact B535.out) hb); have N6 := am (bb (g := g540) (by (with_reducible repeat (first | apply bN | apply bd | apply ba)); exact B540.out) hb); have N7 := am (bb (g := g551) (by (with_reducible repeat (first | apply bN | apply bd | apply ba)); exact B551.out) hb); have N8 := am (Kd.C_below (by repeat (first | (with_reducible exact HR556.out) | (with_reducible refine ca ?_ _) | (with_reducible refine cN ?_ _) | (with_reducible refine cd1 ?_) | exact HR556.out)) hb); have N9 := am (bp (by repeat (first | (with_reducible first | exact HB.out | apply pa | apply pN | apply p1 | refine bs ?_ E516.out | refine bs ?_ E535.out | refine bs ?_ E540.out | refine bs ?_ E551.out) | exact HB.out)) hb); clear o0 O534 O539 O550 B516 B535 B540 B551 HR556 HB; have o0 := N0; have O534 := N1; have O539 := N2; have O550 := N3; have B516 := N4; have B535 := N5; have B540 := N6; have B551 := N7; have HR556 := N8; have HB := N9; clear N0 N1 N2 N3 N4 N5 N6 N7 N8 N9; (try clear hb); (try clear hb2); (try clear hk); (try clear hi)))
                      go_ret
                      exact ⟨by first | rfl | (simp [errW_none, errW_some] <;> rfl) | (simp [*, errW_none, errW_some] <;> rfl), by repeat (first | (with_reducible first | exact HB.out | apply pa | apply pN | apply p1 | refine bs ?_ E516.out | refine bs ?_ E535.out | refine bs ?_ E540.out | refine bs ?_ E551.out) | exact HB.out)⟩
                    · replace c37 := Bool.eq_false_iff.mpr c37
                      subst c37
                      have H1 : none = some r := by rw [if_neg (show ¬ (false = true) by decide)] at H; exact H
                      clear H
                      have H := H1
                      clear H1
                      cases H
                  · rw [if_neg c35] at H
                    exact absurd H (by simp)
                · rw [if_neg c34] at H
                  have c34b0 : ((t537.length : Int) == (wrap64 (24 + (t532.length : Int)))) = false := beq_eq_false_iff_ne.mpr c34
                  have c34b1 : ((t537.length : Int) != (wrap64 (24 + (t532.length : Int)))) = true := bne_iff_ne.mpr c34
                  cases H
              · replace c33 := Bool.eq_false_iff.mpr c33
                subst c33
                have H1 : none = some r := by rw [if_neg (show ¬ (false = true) by decide)] at H; exact H
                clear H
                have H := H1
                clear H1
                cases H
            · rw [if_neg c31] at H
              have c31b0 : (t542 == 0) = false := beq_eq_false_iff_ne.mpr c31
              have c31b1 : (t542 != 0) = true := bne_iff_ne.mpr c31
              cases H
          · rw [if_neg c29] at H
            have c29b0 : (t536 == 0) = false := beq_eq_false_iff_ne.mpr c29
            have c29b1 : (t536 != 0) = true := bne_iff_ne.mpr c29
            replace H := Option.bind_eq_some_iff.mp H
            obtain ⟨t541, A1490, H⟩ := H
            replace H : (some (t541 == t536)) = some r := H
            have A149 := am A1490
            clear A1490
            obtain rfl := Option.some.inj H
            try go_wp2_with (first | ((with_reducible refine gate_callee (f := 9) rfl ?_); refine goesL_ (some 37) rfl rfl Tryd.func9 (by kernel_rfl) rfl #[J A0 l0.length c0] rfl (by (try simp only [List.map_toArray, List.map_cons, List.map_nil]); first | done | rfl) ?_; (with_reducible refine (spec_DrawBuildPacket.calls kj5 _ _ l0 t527 t528 t529 t530 t531 t532 _ ?side1 ?side2 A27.out).mono ?_); (case side1 => repeat (first | exact (Kd.C_below HR0.out HB.out) | (with_reducible refine ca ?_ _) | (with_reducible refine cN ?_ _) | (with_reducible refine cd1 ?_))); (case side2 => exact HC0.out); rintro e w150 ⟨v533, rfl, ho0, hb⟩; refine ⟨_, rfl, ?_⟩; have N0 := am (re (by (with_reducible repeat (first | apply ra | apply rN | apply rd1)); exact o0.out) (Kd.R_base ho0) hb); have N1 := am (rw1 (rn ho0 (rl (by (with_reducible repeat (first | apply ra | apply rN | apply rd1)); exact o0.out))) (bz (by repeat (first | (with_reducible first | exact HB.out | apply pa | apply pN | apply p1 | refine bs ?_ E516.out) | exact HB.out)))); have N2 := am (bb (g := g516) (by (with_reducible repeat (first | apply bN | apply bd | apply ba)); exact B516.out) hb); have N3 := am (bp (by repeat (first | (with_reducible first | exact HB.out | apply pa | apply pN | apply p1 | refine bs ?_ E516.out) | exact HB.out)) hb); clear o0 B516 HB; have o0 := N0; have O534 := N1; have B516 := N2; have HB := N3; clear N0 N1 N2 N3; (try clear hb); (try clear hb2); (try clear hk); (try clear hi); (try clear ho0)) | ((with_reducible refine gate_dst (N := 5) rfl ?_); (try (refine gate_guard (by rfl) ?_; dsimp only)); refine box_event ?hg (N := 5) ?hd (cs := #[I q 0, I q 0, I q 0, I q 0, I q 0, .slice none 0 0]) (t := 26) ?hr ?_; (case hd => rfl); (case hg => rfl); (case hr => first | (go_simp; done) | (go_simp; rfl)); intro g535 hg w151 hbox hb; have N0 := am (rb (by (with_reducible repeat (first | apply ra | apply rN | apply rd1)); exact o0.out) hb); have N1 := am (rb (by (with_reducible repeat (first | apply ra | apply rN | apply rd1)); exact O534.out) hb); have N2 := am (bb (g := g516) (by (with_reducible repeat (first | apply bN | apply bd | apply ba)); exact B516.out) hb); have N3 := am (bp (by repeat (first | (with_reducible first | exact HB.out | apply pa | apply pN | apply p1 | refine bs ?_ E516.out) | exact HB.out)) hb); have N4 := am (hbox); have N5 := am ((by rw [hg]; exact (bz (by repeat (first | (with_reducible first | exact HB.out | apply pa | apply pN | apply p1 | refine bs ?_ E516.out) | exact HB.out))) : w.heap.size ≤ g535)); have N6 := am ((by rw [hg]; exact (bz (by repeat (first | (with_reducible first | exact HB.out | apply pa | apply pN | apply p1 | refine bs ?_ E516.out) | exact HB.out))) : w.heap.size ≤ g535)); have N7 := am ((by rw [hg]; exact Nat.ne_of_lt (bl (g := g516) (by (with_reducible repeat (first | apply bN | apply bd | apply ba)); exact B516.out)) : g516 ≠ g535)); have N8 := am ((by rw [hg]; exact Nat.ne_of_gt (bl (g := g516) (by (with_reducible repeat (first | apply bN | apply bd | apply ba)); exact B516.out)) : g535 ≠ g516)); clear o0 O534 B516 HB; have o0 := N0; have O534 := N1; have B516 := N2; have HB := N3; have B535 := N4; have GW535 := N5; have E535 := N6; have NB516_535 := N7; have NB535_516 := N8; clear N0 N1 N2 N3 N4 N5 N6 N7 N8 hb hbox hg; have hnb152 := NB535_516.out; have hnc152 := NB516_535.out; have hcz153_0 : w151.cell? ⟨g535, 0, none⟩ = some (I q 0) := (bc B535.out 0).trans rfl; have hcz153_1 : w151.cell? ⟨g535, 1, none⟩ = some (I q 0) := (bc B535.out 1).trans rfl; have hcz153_2 : w151.cell? ⟨g535, 2, none⟩ = some (I q 0) := (bc B535.out 2).trans rfl; have hcz153_3 : w151.cell? ⟨g535, 3, none⟩ = some (I q 0) := (bc B535.out 3).trans rfl; have hcz153_4 : w151.cell? ⟨g535, 4, none⟩ = some (I q 0) := (bc B535.out 4).trans rfl; have hcz153_5 : w151.cell? ⟨g535, 5, none⟩ = some (.slice none 0 0) := (bc B535.out 5).trans rfl; have hfz153_0 := bf B535.out 0; have hfz153_1 := bf B535.out 1; have hfz153_2 := bf B535.out 2; have hfz153_3 := bf B535.out 3; have hfz153_4 := bf B535.out 4; have hfz153_5 := bf B535.out 5; obtain ⟨Ao154, co154, eo154⟩ := Kd.R_slice O534.out; subst eo154) | ((with_reducible refine gate_callee (f := 10) rfl ?_); refine goesL_ (some 39) rfl rfl Tryd.func10 (by kernel_rfl) rfl #[.agg #[I q t527, I q t528, I q t529, I q t530, I q t531, J Ao154 t532.length co154]] rfl (by (try simp only [List.map_toArray, List.map_cons, List.map_nil]); first | done | rfl) ?_; (with_reducible refine (impl_BuildPacket.calls kj5 t527 t528 t529 t530 t531 _ _ t532 t536 t537 _ ?side1 ?side2 A28.out).mono ?_); (case side1 => refine (Kd.R_reads' (e := 5) (base := w.heap.size) (ok := fun k_ => (True ∧ some k_ ≠ (J Ao12 t513.length co12 : Value).ownBlock)) (n := t532.length) (c := co154) ?_).2.2; exact (by (with_reducible repeat (first | apply ra | apply rN | apply rd1)); exact (Kd.R_mono (rf (p := ⟨g535, 5, none⟩) (rf (p := ⟨g535, 4, none⟩) (rf (p := ⟨g535, 3, none⟩) (rf (p := ⟨g535, 2, none⟩) (rf (p := ⟨g535, 1, none⟩) (rf (p := ⟨g535, 0, none⟩) (Kd.R_types O534.out B535.out (by decide)) (fun _ hk => hk.2) (I q t527)) (fun _ hk => hk.2) (I q t528)) (fun _ hk => hk.2) (I q t529)) (fun _ hk => hk.2) (I q t530)) (fun _ hk => hk.2) (I q t531)) (fun _ hk => hk.2) (J Ao154 t532.length co154)) (fun _ h_ => h_.1)))); (case side2 => exact (Kd.R_reads' O534.out).2.1); rintro e w155 ⟨v538, rfl, ho0, hb⟩; refine ⟨_, rfl, ?_⟩; have N0 := am (re (by (with_reducible repeat (first | apply ra | apply rN | apply rd1)); exact (Kd.R_mono (rf (p := ⟨g535, 5, none⟩) (rf (p := ⟨g535, 4, none⟩) (rf (p := ⟨g535, 3, none⟩) (rf (p := ⟨g535, 2, none⟩) (rf (p := ⟨g535, 1, none⟩) (rf (p := ⟨g535, 0, none⟩) (Kd.R_types o0.out B535.out (by decide)) (fun _ hk => hk.2) (I q t527)) (fun _ hk => hk.2) (I q t528)) (fun _ hk => hk.2) (I q t529)) (fun _ hk => hk.2) (I q t530)) (fun _ hk => hk.2) (I q t531)) (fun _ hk => hk.2) (J Ao154 t532.length co154)) (fun _ h_ => h_.1))) (Kd.R_base ho0) hb); have N1 := am (re (by (with_reducible repeat (first | apply ra | apply rN | apply rd1)); exact (Kd.R_mono (rf (p := ⟨g535, 5, none⟩) (rf (p := ⟨g535, 4, none⟩) (rf (p := ⟨g535, 3, none⟩) (rf (p := ⟨g535, 2, none⟩) (rf (p := ⟨g535, 1, none⟩) (rf (p := ⟨g535, 0, none⟩) (Kd.R_types O534.out B535.out (by decide)) (fun _ hk => hk.2) (I q t527)) (fun _ hk => hk.2) (I q t528)) (fun _ hk => hk.2) (I q t529)) (fun _ hk => hk.2) (I q t530)) (fun _ hk => hk.2) (I q t531)) (fun _ hk => hk.2) (J Ao154 t532.length co154)) (fun _ h_ => h_.1))) (Kd.R_base ho0) hb); have N2 := am (rw1 (rn (rn ho0 (rl (by (with_reducible repeat (first | apply ra | apply rN | apply rd1)); exact (Kd.R_mono (rf (p := ⟨g535, 5, none⟩) (rf (p := ⟨g535, 4, none⟩) (rf (p := ⟨g535, 3, none⟩) (rf (p := ⟨g535, 2, none⟩) (rf (p := ⟨g535, 1, none⟩) (rf (p := ⟨g535, 0, none⟩) (Kd.R_types o0.out B535.out (by decide)) (fun _ hk => hk.2) (I q t527)) (fun _ hk => hk.2) (I q t528)) (fun _ hk => hk.2) (I q t529)) (fun _ hk => hk.2) (I q t530)) (fun _ hk => hk.2) (I q t531)) (fun _ hk => hk.2) (J Ao154 t532.length co154)) (fun _ h_ => h_.1))))) (rl (by (with_reducible repeat (first | apply ra | apply rN | apply rd1)); exact (Kd.R_mono (rf (p := ⟨g535, 5, none⟩) (rf (p := ⟨g535, 4, none⟩) (rf (p := ⟨g535, 3, none⟩) (rf (p := ⟨g535, 2, none⟩) (rf (p := ⟨g535, 1, none⟩) (rf (p := ⟨g535, 0, none⟩) (Kd.R_types O534.out B535.out (by decide)) (fun _ hk => hk.2) (I q t527)) (fun _ hk => hk.2) (I q t528)) (fun _ hk => hk.2) (I q t529)) (fun _ hk => hk.2) (I q t530)) (fun _ hk => hk.2) (I q t531)) (fun _ hk => hk.2) (J Ao154 t532.length co154)) (fun _ h_ => h_.1))))) (bz (by repeat (first | (with_reducible first | exact HB.out | apply pa | apply pN | apply p1 | refine bs ?_ E516.out | refine bs ?_ E535.out) | exact HB.out)))); have N3 := am (bb (g := g516) (o := .cells #[I q t507, I q t508, I q t509, I q t510, I q t511, I q t512, J Ao12 t513.length co12] 28 (0, 0)) (by (iterate 6 ((with_reducible repeat (first | apply bN | apply bd | apply ba)); refine bq ?_ NB516_535.out _)); (with_reducible repeat (first | apply bN | apply bd | apply ba)); exact B516.out) hb); have N4 := am (bb (g := g535) (o := .cells #[I q t527, I q t528, I q t529, I q t530, I q t531, J Ao154 t532.length co154] 26 (0, 0)) (by (with_reducible repeat (first | apply bN | apply bd | apply ba)); exact pu6j B535.out) hb); have N5 := am (bp (by repeat (first | (with_reducible first | exact HB.out | apply pa | apply pN | apply p1 | refine bs ?_ E516.out | refine bs ?_ E535.out) | exact HB.out)) hb); clear o0 O534 B516 B535 HB; have o0 := N0; have O534 := N1; have O539 := N2; have B516 := N3; have B535 := N4; have HB := N5; clear N0 N1 N2 N3 N4 N5; (try clear hb); (try clear hb2); (try clear hk); (try clear hi); (try clear ho0)) | ((with_reducible refine gate_dst (N := 6) rfl ?_); (try (refine gate_guard (by rfl) ?_; dsimp only)); refine box_event ?hg (N := 6) ?hd (cs := #[I q 0, .slice none 0 0]) (t := 33) ?hr ?_; (case hd => rfl); (case hg => rfl); (case hr => first | (go_simp; done) | (go_simp; rfl)); intro g540 hg w156 hbox hb; have N0 := am (rb (by (with_reducible repeat (first | apply ra | apply rN | apply rd1)); exact o0.out) hb); have N1 := am (rb (by (with_reducible repeat (first | apply ra | apply rN | apply rd1)); exact O534.out) hb); have N2 := am (rb (by (with_reducible repeat (first | apply ra | apply rN | apply rd1)); exact O539.out) hb); have N3 := am (bb (g := g516) (by (with_reducible repeat (first | apply bN | apply bd | apply ba)); exact B516.out) hb); have N4 := am (bb (g := g535) (by (with_reducible repeat (first | apply bN | apply bd | apply ba)); exact B535.out) hb); have N5 := am (bp (by repeat (first | (with_reducible first | exact HB.out | apply pa | apply pN | apply p1 | refine bs ?_ E516.out | refine bs ?_ E535.out) | exact HB.out)) hb); have N6 := am (hbox); have N7 := am ((by rw [hg]; exact (bz (by repeat (first | (with_reducible first | exact HB.out | apply pa | apply pN | apply p1 | refine bs ?_ E516.out | refine bs ?_ E535.out) | exact HB.out))) : w.heap.size ≤ g540)); have N8 := am ((by rw [hg]; exact (bz (by repeat (first | (with_reducible first | exact HB.out | apply pa | apply pN | apply p1 | refine bs ?_ E516.out | refine bs ?_ E535.out) | exact HB.out))) : w.heap.size ≤ g540)); have N9 := am ((by rw [hg]; exact Nat.ne_of_lt (bl (g := g516) (by (with_reducible repeat (first | apply bN | apply bd | apply ba)); exact B516.out)) : g516 ≠ g540)); have N10 := am ((by rw [hg]; exact Nat.ne_of_gt (bl (g := g516) (by (with_reducible repeat (first | apply bN | apply bd | apply ba)); exact B516.out)) : g540 ≠ g516)); have N11 := am ((by rw [hg]; exact Nat.ne_of_lt (bl (g := g535) (by (with_reducible repeat (first | apply bN | apply bd | apply ba)); exact B535.out)) : g535 ≠ g540)); have N12 := am ((by rw [hg]; exact Nat.ne_of_gt (bl (g := g535) (by (with_reducible repeat (first | apply bN | apply bd | apply ba)); exact B535.out)) : g540 ≠ g535)); clear o0 O534 O539 B516 B535 HB; have o0 := N0; have O534 := N1; have O539 := N2; have B516 := N3; have B535 := N4; have HB := N5; have B540 := N6; have GW540 := N7; have E540 := N8; have NB516_540 := N9; have NB540_516 := N10; have NB535_540 := N11; have NB540_535 := N12; clear N0 N1 N2 N3 N4 N5 N6 N7 N8 N9 N10 N11 N12 hb hbox hg; have hnb157 := NB540_516.out; have hnc157 := NB516_540.out; have hnb158 := NB540_535.out; have hnc158 := NB535_540.out; have hcz159_0 : w156.cell? ⟨g540, 0, none⟩ = some (I q 0) := (bc B540.out 0).trans rfl; have hcz159_1 : w156.cell? ⟨g540, 1, none⟩ = some (.slice none 0 0) := (bc B540.out 1).trans rfl; have hfz159_0 := bf B540.out 0; have hfz159_1 := bf B540.out 1; obtain ⟨Ao160, co160, eo160⟩ := Kd.R_slice O539.out; subst eo160))
            have N0 : Aside0 (Kd.R (Kd.int .u8) 5 ((w156.setCell ⟨g540, 0, none⟩ (I q t536)).setCell ⟨g540, 1, none⟩ (J Ao160 t537.length co160)) w.heap.size (fun k_ => some k_ ≠ (J Ao154 t532.length co154 : Value).ownBlock ∧ some k_ ≠ (J Ao160 t537.length co160 : Value).ownBlock) (J Ao12 t513.length co12) t513) := ⟨by (with_reducible repeat (first | apply ra | apply rN | apply rd1)); exact Kd.R_mono (rf (p := ⟨g540, 1, none⟩) (rf (p := ⟨g540, 0, none⟩) (Kd.R_types o0.out B540.out (by decide)) (fun _ hk => hk.2) (I q t536)) (fun _ hk => hk.2) (J Ao160 t537.length co160)) (fun _ hk => ⟨hk.1.1.2, hk.1.2⟩)⟩
            have N1 : Aside0 (Kd.R (Kd.int .u8) 5 ((w156.setCell ⟨g540, 0, none⟩ (I q t536)).setCell ⟨g540, 1, none⟩ (J Ao160 t537.length co160)) w.heap.size (fun k_ => some k_ ≠ (J Ao12 t513.length co12 : Value).ownBlock ∧ some k_ ≠ (J Ao160 t537.length co160 : Value).ownBlock) (J Ao154 t532.length co154) t532) := ⟨by (with_reducible repeat (first | apply ra | apply rN | apply rd1)); exact Kd.R_mono (rf (p := ⟨g540, 1, none⟩) (rf (p := ⟨g540, 0, none⟩) (Kd.R_types O534.out B540.out (by decide)) (fun _ hk => hk.2) (I q t536)) (fun _ hk => hk.2) (J Ao160 t537.length co160)) (fun _ hk => ⟨hk.1.1.2, hk.1.2⟩)⟩
            have N2 : Aside0 (Kd.R (Kd.int .u8) 5 ((w156.setCell ⟨g540, 0, none⟩ (I q t536)).setCell ⟨g540, 1, none⟩ (J Ao160 t537.length co160)) w.heap.size (fun k_ => some k_ ≠ (J Ao12 t513.length co12 : Value).ownBlock ∧ some k_ ≠ (J Ao154 t532.length co154 : Value).ownBlock) (J Ao160 t537.length co160) t537) := ⟨by (with_reducible repeat (first | apply ra | apply rN | apply rd1)); exact Kd.R_mono (rf (p := ⟨g540, 1, none⟩) (rf (p := ⟨g540, 0, none⟩) (Kd.R_types O539.out B540.out (by decide)) (fun _ hk => hk.2) (I q t536)) (fun _ hk => hk.2) (J Ao160 t537.length co160)) (fun _ hk => ⟨hk.1.1.2, hk.1.2⟩)⟩
            have N3 : Aside0 (((w156.setCell ⟨g540, 0, none⟩ (I q t536)).setCell ⟨g540, 1, none⟩ (J Ao160 t537.length co160)).heap[g516]? = some (.cells #[I q t507, I q t508, I q t509, I q t510, I q t511, I q t512, J Ao12 t513.length co12] 28 (0, 0))) := ⟨by (iterate 2 ((with_reducible repeat (first | apply bN | apply bd | apply ba)); refine bq ?_ NB516_540.out _)); (with_reducible repeat (first | apply bN | apply bd | apply ba)); exact B516.out⟩
            have N4 : Aside0 (((w156.setCell ⟨g540, 0, none⟩ (I q t536)).setCell ⟨g540, 1, none⟩ (J Ao160 t537.length co160)).heap[g535]? = some (.cells #[I q t527, I q t528, I q t529, I q t530, I q t531, J Ao154 t532.length co154] 26 (0, 0))) := ⟨by (iterate 2 ((with_reducible repeat (first | apply bN | apply bd | apply ba)); refine bq ?_ NB535_540.out _)); (with_reducible repeat (first | apply bN | apply bd | apply ba)); exact B535.out⟩
            have N5 : Aside0 (((w156.setCell ⟨g540, 0, none⟩ (I q t536)).setCell ⟨g540, 1, none⟩ (J Ao160 t537.length co160)).heap[g540]? = some (.cells #[I q t536, J Ao160 t537.length co160] 33 (0, 0))) := ⟨by (with_reducible repeat (first | apply bN | apply bd | apply ba)); exact pu2j B540.out⟩
            have N6 : Aside0 (Below w.heap.size w ((w156.setCell ⟨g540, 0, none⟩ (I q t536)).setCell ⟨g540, 1, none⟩ (J Ao160 t537.length co160))) := ⟨by repeat (first | (with_reducible first | exact HB.out | apply pa | apply pN | apply p1 | refine bs ?_ E516.out | refine bs ?_ E535.out | refine bs ?_ E540.out) | exact HB.out)⟩
            (try clear o0)
            (try clear O534)
            (try clear O539)
            (try clear B516)
            (try clear B535)
            (try clear B540)
            (try clear HB)
            generalize ((w156.setCell ⟨g540, 0, none⟩ (I q t536)).setCell ⟨g540, 1, none⟩ (J Ao160 t537.length co160)) = w161 at N0 N1 N2 N3 N4 N5 N6 ⊢
            have o0 := N0
            have O534 := N1
            have O539 := N2
            have B516 := N3
            have B535 := N4
            have B540 := N5
            have HB := N6
            clear N0 N1 N2 N3 N4 N5 N6
            have N0 := am (rd1 o0.out)
            have N1 := am (rd1 O534.out)
            have N2 := am (rd1 O539.out)
            have N3 := am (bd B516.out)
            have N4 := am (bd B535.out)
            have N5 := am (bd B540.out)
            have N6 := am (p1 HB.out)
            clear o0
            clear O534
            clear O539
            clear B516
            clear B535
            clear B540
            clear HB
            have o0 := N0
            have O534 := N1
            have O539 := N2
            have B516 := N3
            have B535 := N4
            have B540 := N5
            have HB := N6
            clear N0 N1 N2 N3 N4 N5 N6
            refine start_ (n := 6) (S := fun w' => w'.cell? ⟨g535, 0, none⟩ = some (I q t527) ∧ w'.cell? ⟨g535, 1, none⟩ = some (I q t528) ∧ w'.cell? ⟨g535, 2, none⟩ = some (I q t529) ∧ w'.cell? ⟨g535, 3, none⟩ = some (I q t530) ∧ w'.cell? ⟨g535, 4, none⟩ = some (I q t531) ∧ w'.cell? ⟨g535, 5, none⟩ = some (J Ao154 t532.length co154) ∧ w'.cell? ⟨g540, 0, none⟩ = some (I q t536) ∧ w'.cell? ⟨g540, 1, none⟩ = some (J Ao160 t537.length co160)) (ds := []) #[false, false, false, false, false, false] (by kernel_rfl) rfl rfl ⟨(bc B535.out 0).trans rfl, (bc B535.out 1).trans rfl, (bc B535.out 2).trans rfl, (bc B535.out 3).trans rfl, (bc B535.out 4).trans rfl, (bc B535.out 5).trans rfl, (bc B540.out 0).trans rfl, (bc B540.out 1).trans rfl⟩ (fun hHeld => ?_)
            generalize w161.drew = w162 at o0 O534 O539 B516 B535 B540 HB hHeld ⊢
            refine pure_ (i := 2) (N := some 45) (v := ?_) (a' := ?_) #[false, false, true, false, false, false] rfl rfl (by kernel_rfl) (fun _ _ _ h => h) (Or.inl ⟨by rfl, ?_⟩) ?_ ?_
            rotate_left
            · intro w'
              first | (go_simp; with_reducible rfl) | (go_simp; (try unfold Instr.field); go_simp; (try simp only [asAgg]); go_simp; with_reducible rfl)
            rotate_left
            · simp only [Act.put, List.setIfInBounds_toArray, List.set_cons_zero, List.set_cons_succ, i64_w, i32_w]
              rfl
            refine take_ (i := 0) (N := some 43) (v := ?_) (a' := ?_) #[true, false, true, false, false, false] rfl rfl (by kernel_rfl) (fun _ _ _ h => h) (Or.inl ⟨by rfl, ?_⟩) hHeld ?_ ?_
            rotate_left
            · rintro w' ⟨s0, s1, s2, s3, s4, s5, s6, s7⟩
              go_simp
              with_reducible rfl
            rotate_left
            · simp only [Act.put, List.setIfInBounds_toArray, List.set_cons_zero, List.set_cons_succ, i64_w, i32_w]
              rfl
            refine take_ (i := 3) (N := some 46) (v := ?_) (a' := ?_) #[true, false, true, true, false, false] rfl rfl (by kernel_rfl) (fun _ _ _ h => h) (Or.inl ⟨by rfl, ?_⟩) hHeld ?_ ?_
            rotate_left
            · rintro w' ⟨s0, s1, s2, s3, s4, s5, s6, s7⟩
              go_simp
              with_reducible rfl
            rotate_left
            · simp only [Act.put, List.setIfInBounds_toArray, List.set_cons_zero, List.set_cons_succ, i64_w, i32_w]
              rfl
            refine one_ (i := 1) (N := some 44) #[true, true, true, true, false, false] rfl rfl (by kernel_rfl) (by decide) (fun K hK => ?_)
            refine goes_ Tryd.func11 (by kernel_rfl) rfl #[.agg #[I q t527, I q t528, I q t529, I q t530, I q t531, J Ao154 t532.length co154]] (by rfl) rfl rfl (by (try simp only [List.map_toArray, List.map_cons, List.map_nil]); first | done | rfl | (simp only [List.length_drop, List.length_take]; rfl)) ?_
            with_reducible refine (spec_PacketFault.calls kj5 t527 t528 t529 t530 t531 _ _ t532 t541 _ ?side1 ?side2 A149.out).mono ?_
            (case side1 => repeat (first | exact (Kd.R_reads' O534.out).2.2 | (with_reducible refine ca ?_ _) | (with_reducible refine cN ?_ _) | (with_reducible refine cd1 ?_)))
            (case side2 => exact (Kd.R_reads' O534.out).2.1)
            rintro e w163 ⟨rfl, hb⟩
            refine ⟨_, rfl, ?_⟩
            have N0 := am (rb (by (with_reducible repeat (first | apply ra | apply rN | apply rd1)); exact o0.out) hb)
            have N1 := am (rb (by (with_reducible repeat (first | apply ra | apply rN | apply rd1)); exact O534.out) hb)
            have N2 := am (rb (by (with_reducible repeat (first | apply ra | apply rN | apply rd1)); exact O539.out) hb)
            have N3 := am (bb (g := g516) (by (with_reducible repeat (first | apply bN | apply bd | apply ba)); exact B516.out) hb)
            have N4 := am (bb (g := g535) (by (with_reducible repeat (first | apply bN | apply bd | apply ba)); exact B535.out) hb)
            have N5 := am (bb (g := g540) (by (with_reducible repeat (first | apply bN | apply bd | apply ba)); exact B540.out) hb)
            have N6 := am (bp (by repeat (first | (with_reducible first | exact HB.out | apply pa | apply pN | apply p1 | refine bs ?_ E516.out | refine bs ?_ E535.out | refine bs ?_ E540.out) | exact HB.out)) hb)
            clear o0
            clear O534
            clear O539
            clear B516
            clear B535
            clear B540
            clear HB
            have o0 := N0
            have O534 := N1
            have O539 := N2
            have B516 := N3
            have B535 := N4
            have B540 := N5
            have HB := N6
            clear N0 N1 N2 N3 N4 N5 N6
            (try clear hb)
            (try clear hb2)
            (try clear hk)
            (try clear hi)
            refine hK.out _ _ ⟨(bc B535.out 0).trans rfl, (bc B535.out 1).trans rfl, (bc B535.out 2).trans rfl, (bc B535.out 3).trans rfl, (bc B535.out 4).trans rfl, (bc B535.out 5).trans rfl, (bc B540.out 0).trans rfl, (bc B540.out 1).trans rfl⟩ (fun hHeld => ?_)
            clear hK K
            refine norm_ (a' := ?_) ?_ ?_
            rotate_left
            · show Act.put _ (some 44) _ = _
              simp only [Act.put, List.setIfInBounds_toArray, List.set_cons_zero, List.set_cons_succ, i64_w, i32_w]
              rfl
            refine pure_ (i := 4) (N := some 47) (v := ?_) (a' := ?_) #[true, true, true, true, true, false] rfl rfl (by kernel_rfl) (fun _ _ _ h => h) (Or.inl ⟨by rfl, ?_⟩) ?_ ?_
            rotate_left
            · intro w'
              first | (go_simp; with_reducible rfl) | (go_simp; (try unfold Instr.field); go_simp; (try simp only [asAgg]); go_simp; with_reducible rfl)
            rotate_left
            · simp only [Act.put, List.setIfInBounds_toArray, List.set_cons_zero, List.set_cons_succ, i64_w, i32_w]
              rfl
            refine pure_ (i := 5) (N := some 2) (v := ?_) (a' := ?_) #[true, true, true, true, true, true] rfl rfl (by kernel_rfl) (fun _ _ _ h => h) (Or.inl ⟨by rfl, ?_⟩) ?_ ?_
            rotate_left
            · intro w'
              first | (go_simp; with_reducible rfl) | (go_simp; (try unfold Instr.field); go_simp; (try simp only [asAgg]); go_simp; with_reducible rfl)
            rotate_left
            · simp only [Act.put, List.setIfInBounds_toArray, List.set_cons_zero, List.set_cons_succ, i64_w, i32_w]
              rfl
            refine done_ (by kernel_rfl) ?_
            try go_wp2
            go_ret
            exact ⟨by first | rfl | (simp [errW_none, errW_some] <;> rfl) | (simp [*, errW_none, errW_some] <;> rfl), by repeat (first | (with_reducible first | exact HB.out | apply pa | apply pN | apply p1 | refine bs ?_ E516.out | refine bs ?_ E535.out | refine bs ?_ E540.out) | exact HB.out)⟩

/-- THE ONE PURE STATEMENT of laws_FnPackets: yours. -/
def laws_FnPackets.Pure : Prop := ∀ (l0 : List Int), l0.length ≤ maxLen → l0.length * 1 ≤ 140737488351232 → (∀ x ∈ l0, (Lit.int .u8 x).wf = true) → ∃ k, laws_FnPackets.f k l0 = some true
theorem laws_FnPackets.walk (P : laws_FnPackets.Pure) (a0 : Option Addr) (len0 cap0 : Nat) (z0 : List Int) (w : World) (ht_ : Lib.TabIs Tryd.prog w "internal/strconv.uint64pow10" .u64 Lib.pow10Tab) (w0 : (a0 = none ∧ len0 = 0 ∧ cap0 = 0 ∧ z0 = []) ∨ ∃ x, a0 = some x ∧ len0 ≤ cap0 ∧ cap0 ≤ maxLen ∧ z0.length = cap0 ∧ (∀ i, i < z0.length → w.cell? (x.add i) = some (.int .u8 (z0.getD i 0))) ∧ ∀ n ∈ z0, (Lit.int .u8 n).wf = true) (y0 : len0 * 1 ≤ 140737488351232) :
    Calls Tryd.prog 3 #[.slice a0 len0 cap0] w fun e w' => e = .returned (.bool true) ∧ Below w.heap.size w w' := by
  obtain ⟨l0, rfl, hr0, hm0, hw0, hc0⟩ := ReadsInt.ofRowC w0
  obtain ⟨k, h⟩ := P l0 hm0 y0 hw0
  refine (laws_FnPackets.calls k _ _ l0 true w (Kd.C_of_reads (d := (0 : Int)) (h1 := fun _ => rfl) hr0) hc0 ht_ h).mono ?_
  rintro e w' ⟨rfl, hd⟩
  exact ⟨rfl, hd⟩

end Go.Proofs.YtgpemjkcpeimdaaDoor.QFnPackets
