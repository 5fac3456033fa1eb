/- WHAT THIS TEXT PROVES: the tied card FnExactConfigTextCardSaid of the law FnExactConfigText: for every input the call returns true and leaves its arguments as they were, where the listed tables of the library read as the program's text lays them. -/
import Derived.Test.YtfmlhpoaipeoeaaDoorCards
import Derived.Test.YtfmlhpoaipeoeaaDoorTie
import Derived.Test.YtfmlhpoaipeoeaaDoorQFnExactConfigTextx9
import Derived.Test.YtfmlhpoaipeoeaaDoorSFnExactConfigText
import Derived.Test.YtfmlhpoaipeoeaaDoorPureFnExactConfigText
import Derived.Test.YtfmlhpoaipeoeaaDoorOpens
import Derived.WalkKit
import Derived.ProofKit
import Derived.OpenShut
import Derived.ShutString
import Derived.ChangeOld
import Derived.Below
import Derived.SizedLaws
import Derived.LaidMore
import Derived.Stop.Joined
import Derived.Stop.LaidErr
import Derived.Lib.LaidTab
import Derived.SevenTiedAt
namespace Go.Proofs.YtfmlhpoaipeoeaaDoor.fnExactConfigText
open Go.ChangeShapes Go.WideShapes Go.ChangeAt Go.RowKit
open Go.ChangeMaps (open_string shut_string)
open Go.Proofs.YtfmlhpoaipeoeaaDoor.QFnExactConfigText Go.Proofs.YtfmlhpoaipeoeaaDoorW.PrintWords Go.Proofs.YtfmlhpoaipeoeaaDoor.Open Go.Proofs.YtfmlhpoaipeoeaaDoor.SFnExactConfigText
theorem own : ownKnob Tryd.prog.godebug = none := by kernel_rfl
def tabs : List (String × DataW Unit) := [("math/bits.deBruijn32tab", Rows.laid_math_bits_deBruijn32tab), ("math/bits.deBruijn64tab", Rows.laid_math_bits_deBruijn64tab), ("internal/strconv.uint64pow10", Rows.laid_internal_strconv_uint64pow10)]
set_option maxRecDepth 100000 in
/-- The door's own heap meets the condition. -/
theorem door_met (os : Os) (args : Array Value) : laidMetH Tryd.prog tabs ((World.doorLaid Tryd.prog 400 os).forCall (fun _ _ => 0) ⟨#[], args, []⟩).memory :=
  laidMetH_of_parts3 (fuel := 8) (laidMet_of_run' 8 (by kernel_rfl) (by kernel_rfl)) (by kernel_rfl) (by kernel_rfl)
set_option maxRecDepth 100000 in
/-- What the condition gives the walk: the table of the powers of ten. -/
theorem of_laid {W : World} (h : laidMetH Tryd.prog tabs W) : Lib.TabIs Tryd.prog W "internal/strconv.uint64pow10" .u64 Lib.pow10Tab := by
  rw [MakeChecks.laidMetH_plain _ _ _ (by kernel_rfl)] at h
  exact Lib.tabIs_of_head (g := 0) (t := 95) (e := 88) (n := 20) (rest := []) (by kernel_rfl) (by kernel_rfl) Tryd.underlying95 Tryd.underlying88 (by kernel_rfl) (by kernel_rfl) h.tail.tail
theorem laidOut : laidOutB Tryd.prog = true := by kernel_rfl
instance : Inhabited S63 := ⟨z63⟩
instance : Inhabited S52 := ⟨z52⟩
theorem opens_63 : Opens Tryd.prog 63 k63 Q63 := by
  have h := opens_struct (L := 5) Tryd.underlying63 (by kernel_rfl) (opensAt_cons (i := 0) (off' := 1) rfl rfl (by kernel_rfl) (opens_int Tryd.underlying2) (opensAt_cons (i := 1) (off' := 2) rfl rfl (by kernel_rfl) (opens_int Tryd.underlying2) (opensAt_cons (i := 2) (off' := 3) rfl rfl (by kernel_rfl) (opens_int Tryd.underlying2) (opensAt_cons (i := 3) (off' := 4) rfl rfl (by kernel_rfl) (opens_int Tryd.underlying2) (opensAt_last (i := 4) rfl rfl (by kernel_rfl) (opens_bool Tryd.underlying4))))))
  exact opens_iso (fun x : S63 => (x.f0, x.f1, x.f2, x.f3, x.f4)) (fun x => ⟨x.1, x.2.1, x.2.2.1, x.2.2.2.1, x.2.2.2.2⟩) (fun _ => rfl) h
theorem opens_52 : Opens Tryd.prog 52 k52 Q52 := by
  have h := opens_struct (L := 4) Tryd.underlying52 (by kernel_rfl) (opensAt_cons (i := 0) (off' := 1) rfl rfl (by kernel_rfl) (opens_int Tryd.underlying2) (opensAt_cons (i := 1) (off' := 2) rfl rfl (by kernel_rfl) (opens_int Tryd.underlying2) (opensAt_cons (i := 2) (off' := 3) rfl rfl (by kernel_rfl) (opens_int Tryd.underlying2) (opensAt_last (i := 3) rfl rfl (by kernel_rfl) (opens_sliceL Tryd.underlying50 (by kernel_rfl) (opens_int Tryd.underlying2))))))
  exact opens_iso (fun x : S52 => (x.f0, x.f1, x.f2, x.f3)) (fun x => ⟨x.1, x.2.1, x.2.2.1, x.2.2.2⟩) (fun _ => rfl) h
set_option maxRecDepth 100000 in
theorem lifted (os : Os) (started : os.Started) (H : Type) (enc : TypeId × Value → H) :
    ReturnsInHanded {} Tryd.checked os 3 .any (fun w args => (Rows.fnExactConfigTextSpec.pre enc Tryd.prog Tryd.f3 [] false w args ∧ laidMetH Tryd.prog tabs w) ∧ sizedMet enc Tryd.prog Tryd.f3 (OpenSpec.ofChange Rows.fnExactConfigTextSpec) false w args) (Rows.fnExactConfigTextSpec.post enc Tryd.prog Tryd.f3 false true false false) := by
  refine returnsInHanded_of_change_and (C := Tryd.checked) (X := fun w _ => laidMetH Tryd.prog tabs w) (fun _ _ _ hh h => h.of_heap hh) own started (by kernel_rfl) Tryd.func3
    (ChangeSpec.witness_shaped (enc := enc) (C := Tryd.checked) (os := os) (X := fun w _ => laidMetH Tryd.prog tabs w) false (World.doorLaid Tryd.prog 400 os) #[.agg #[.int .i64 0, .slice none 0 0, .slice none 0 0]] 8 rfl (World.shaped_of_RefB (by kernel_rfl) (by kernel_rfl)) (by kernel_rfl) (by kernel_rfl) (by kernel_rfl) (door_met os _)) ?_
  intro W base args ds gs before hval0 hW _ hsz0 hL _
  have hval : ∀ (j : Nat) t v, Tryd.f3.params[j]? = some t → args[j]? = some v → Value.okWide Tryd.prog W .any base t v := hval0
  have hW' := hW
  obtain ⟨p, q, hA0, hV, rfl, hfz, hnd⟩ := hW
  have hA : DataW.TrodAll enc Tryd.prog W 0 (fun _ => true) true Tryd.f3.params.toList args.toList ds p := hA0
  rw [Tryd.params3] at hA hval
  obtain ⟨v0, vs0, d0, ds0, p0, q0, hargs, rfl, rfl, h0, r0⟩ := trodAll_cons hA
  obtain ⟨rfl, rfl, rfl⟩ := trodAll_nil r0
  obtain rfl : args = #[v0] := by cases args; simp_all
  obtain ⟨rfl, rfl⟩ := trodVars_none hV
  have k0_ := h0
  have lt0 : ∀ x ∈ p0, x.block < W.heap.size := by obtain ⟨m, hm⟩ := k0_; exact DataW.trod_lt m _ _ _ hm
  obtain ⟨fuel0, hf0⟩ := h0
  obtain ⟨cs0, rfl, _⟩ := okWide_struct Tryd.underlying25 (hval 0 25 v0 rfl rfl)
  obtain ⟨cl0⟩ := cs0
  obtain ⟨⟨x0_0, x0_1, x0_2⟩, hK0, hQ0⟩ := (opens_struct (L := 3) Tryd.underlying25 (by kernel_rfl) (opensAt_cons (i := 0) (off' := 1) rfl rfl (by kernel_rfl) (opens_int Tryd.underlying2) (opensAt_cons (i := 1) (off' := 2) rfl rfl (by kernel_rfl) (opens_slice Tryd.underlying22 (by kernel_rfl) opens_63) (opensAt_last (i := 2) rfl rfl (by kernel_rfl) (opens_slice Tryd.underlying23 (by kernel_rfl) opens_52))))) _ _ _ _ _ _ _ _ _ hf0
  obtain ⟨_, _, e_, rfl, ⟨_, _, rfl, ⟨Ax0_1, cx0_1, rfl, hcx0_1, hrx0_1⟩, ⟨Ax0_2, cx0_2, rfl, hcx0_2, hrx0_2⟩⟩⟩ := hK0
  obtain ⟨qx0_0, ⟨qx0_1, qx0_2⟩⟩ := hQ0
  have e0 : cl0 = [.int .i64 x0_0, .slice Ax0_1 x0_1.length cx0_1, .slice Ax0_2 x0_2.length cx0_2] := e_
  subst e0
  clear e_
  have mx0_1 : x0_1.length ≤ maxLen := by have := hrx0_1.2.1; simp only [maxLen]; omega
  have mx0_2 : x0_2.length ≤ maxLen := by have := hrx0_2.2.1; simp only [maxLen]; omega
  obtain ⟨k, h⟩ := Pure.FnExactConfigText x0_0 x0_1 x0_2 qx0_0 mx0_1 qx0_1 mx0_2 qx0_2
  clear hA0 hval0 hsz0
  refine (laws_FnExactConfigText.calls k x0_0 Ax0_1 cx0_1 x0_1 Ax0_2 cx0_2 x0_2 true W hrx0_1 hcx0_1 hrx0_2 hcx0_2 (of_laid hL) h).mono ?_
  rintro e W' ⟨rfl, bel0⟩
  have bel : Below W.heap.size W W' := by first | exact bel0 | exact bel0.below
  exact ⟨_, rfl, _, _, _, [], _, [], hW', trodAll_mk1 (shut_bool Tryd.underlying4 _), (trodAll_cons_mk (Below.trod laidOut (by kernel_rfl) (of_decide_eq_true (by kernel_rfl)) k0_ bel lt0) trodAll_mk0), rfl, bel.frame _, fun h => by cases h⟩
theorem over : Rows.fnExactConfigTextRow.holds Tryd.pinned (OpenSpec.ofChange Rows.fnExactConfigTextSpec) :=
  OpenClaim.holds_of_wide 3 Tryd.f3 rfl rfl rfl rfl rfl rfl rfl ⟨rfl, rfl, rfl, rfl, rfl⟩ rfl rfl rfl rfl rfl (by kernel_rfl) Tryd.func3 (by kernel_rfl)
    (of_decide_eq_true (by kernel_rfl)) (by unfold Func.isWrapper; first | (rw [if_pos (by decide +kernel)]; kernel_rfl) | (rw [if_neg (by decide +kernel)]; exact ⟨rfl, rfl⟩))
    (fun os started H enc _ => lifted os started H enc)
set_option maxRecDepth 100000 in
/-- The tied card. -/
theorem proved : Rows.FnExactConfigTextCardSaid :=
  Claim7.holds_tied_plain_at .later [] [.data, .data, .data] true (true, "c789424c124cc5ffa29560f9271268448a54cc7af91e7d0e0da4a8b532f5f668") false
    over (fun _ h => by cases h) (by kernel_rfl) (fun _ h => by cases h) fnExactConfigText_row_tie rfl ⟨rfl, rfl⟩ (by kernel_rfl) rfl
    (fun f fn hf hfn => by
      obtain rfl : f = 3 := Option.some.inj ((show Tryd.prog.funcNamed "loop.example/g00222/laws.FnExactConfigText" = some 3 by kernel_rfl).symm.trans hf) |>.symm
      obtain rfl : fn = Tryd.f3 := (Option.some.inj (Tryd.func3.symm.trans hfn)).symm
      exact ⟨by kernel_rfl, fun j t ht => by
        rw [Tryd.params3] at ht
        have hm : t ∈ [25] := by simpa using Array.mem_of_getElem? ht
        have hall : ([25].all fun u => !Tryd.prog.wantsStandIn u) = true := by kernel_rfl
        exact (show Tryd.prog.wantsStandIn t = false by simpa using List.all_eq_true.1 hall t hm)⟩)
    (by kernel_rfl)
#print axioms proved
end Go.Proofs.YtfmlhpoaipeoeaaDoor.fnExactConfigText
namespace Go.Proofs.YtfmlhpoaipeoeaaDoor
/-- The card, under a short name, for the claim. -/
theorem fnExactConfigText_holds : Rows.FnExactConfigTextCardSaid := fnExactConfigText.proved
end Go.Proofs.YtfmlhpoaipeoeaaDoor
