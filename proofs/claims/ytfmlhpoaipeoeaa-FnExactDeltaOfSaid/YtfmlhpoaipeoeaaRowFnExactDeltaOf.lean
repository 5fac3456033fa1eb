/- WHAT THIS TEXT PROVES: the statement FnExactDeltaOfSaid of the law FnExactDeltaOf: for every input the call returns true and leaves its arguments as they were. No condition. -/
import Derived.Test.YtfmlhpoaipeoeaaRows
import Derived.Test.YtfmlhpoaipeoeaaQFnExactDeltaOfx6
import Derived.Test.YtfmlhpoaipeoeaaSFnExactDeltaOf
import Derived.Test.YtfmlhpoaipeoeaaPureFnExactDeltaOf
import Derived.Test.YtfmlhpoaipeoeaaOpens
import Derived.WalkKit
import Derived.ProofKit
import Derived.OpenShut
import Derived.ShutString
import Derived.ChangeOld
import Derived.Below
import Derived.SizedLaws
namespace Go.Proofs.Ytfmlhpoaipeoeaa.fnExactDeltaOf
open Go.ChangeShapes Go.WideShapes Go.ChangeAt Go.RowKit
open Go.ChangeMaps (open_string shut_string)
open Go.Proofs.Ytfmlhpoaipeoeaa.QFnExactDeltaOf Go.Proofs.YtfmlhpoaipeoeaaW.PrintWords Go.Proofs.Ytfmlhpoaipeoeaa.Open Go.Proofs.Ytfmlhpoaipeoeaa.SFnExactDeltaOf
theorem own : ownKnob Try.prog.godebug = none := by kernel_rfl
theorem laidOut : laidOutB Try.prog = true := by kernel_rfl
instance : Inhabited S134 := ⟨z134⟩
instance : Inhabited S131 := ⟨z131⟩
theorem opens_134 : Opens Try.prog 134 k134 Q134 := by
  have h := opens_struct (L := 5) Try.underlying134 (by kernel_rfl) (opensAt_cons (i := 0) (off' := 1) rfl rfl (by kernel_rfl) (opens_int Try.underlying2) (opensAt_cons (i := 1) (off' := 2) rfl rfl (by kernel_rfl) (opens_int Try.underlying2) (opensAt_cons (i := 2) (off' := 3) rfl rfl (by kernel_rfl) (opens_int Try.underlying2) (opensAt_cons (i := 3) (off' := 4) rfl rfl (by kernel_rfl) (opens_int Try.underlying2) (opensAt_last (i := 4) rfl rfl (by kernel_rfl) (opens_bool Try.underlying4))))))
  exact opens_iso (fun x : S134 => (x.f0, x.f1, x.f2, x.f3, x.f4)) (fun x => ⟨x.1, x.2.1, x.2.2.1, x.2.2.2.1, x.2.2.2.2⟩) (fun _ => rfl) h
theorem opens_131 : Opens Try.prog 131 k131 Q131 := by
  have h := opens_struct (L := 4) Try.underlying131 (by kernel_rfl) (opensAt_cons (i := 0) (off' := 1) rfl rfl (by kernel_rfl) (opens_int Try.underlying2) (opensAt_cons (i := 1) (off' := 2) rfl rfl (by kernel_rfl) (opens_int Try.underlying2) (opensAt_cons (i := 2) (off' := 3) rfl rfl (by kernel_rfl) (opens_int Try.underlying2) (opensAt_last (i := 3) rfl rfl (by kernel_rfl) (opens_sliceL Try.underlying62 (by kernel_rfl) (opens_int Try.underlying2))))))
  exact opens_iso (fun x : S131 => (x.f0, x.f1, x.f2, x.f3)) (fun x => ⟨x.1, x.2.1, x.2.2.1, x.2.2.2⟩) (fun _ => rfl) h
set_option maxRecDepth 100000 in
theorem lifted (os : Os) (started : os.Started) (H : Type) (enc : TypeId × Value → H) :
    ReturnsInHanded {} Try.checked os 10 .any (Rows.fnExactDeltaOfSpec.pre6 enc Try.prog Try.f10 Rows.fnExactDeltaOfRow.domain false) (Rows.fnExactDeltaOfSpec.post enc Try.prog Try.f10 false true false false) := by
  refine returnsInHanded_of_change_sized (C := Try.checked) own started (by kernel_rfl) Try.func10
    (ChangeSpec.witness6 (enc := enc) (C := Try.checked) false ⟨#[], #[.agg #[.int .i64 0, .slice none 0 0, .slice none 0 0], .agg #[.int .i64 0, .slice none 0 0, .slice none 0 0]], []⟩ 8 (by kernel_rfl) (by kernel_rfl) (by kernel_rfl) (by kernel_rfl)) ?_
  intro W base args ds gs before hval0 hW hcnd hsz0 _
  have hval : ∀ (j : Nat) t v, Try.f10.params[j]? = some t → args[j]? = some v → Value.okWide Try.prog W .any base t v := hval0
  have hW' := hW
  obtain ⟨p, q, hA0, hV, rfl, hfz, hnd⟩ := hW
  have hA : DataW.TrodAll enc Try.prog W 0 (fun _ => true) true Try.f10.params.toList args.toList ds p := hA0
  rw [Try.params10] at hA hval
  obtain ⟨v0, vs0, d0, ds0, p0, q0, hargs, rfl, rfl, h0, r0⟩ := trodAll_cons hA
  obtain ⟨v1, vs1, d1, ds1, p1, q1, rfl, rfl, rfl, h1, r1⟩ := trodAll_cons r0
  obtain ⟨rfl, rfl, rfl⟩ := trodAll_nil r1
  obtain rfl : args = #[v0, v1] := by cases args; simp_all
  obtain ⟨rfl, rfl⟩ := trodVars_none hV
  have k0_ := h0
  have lt0 : ∀ x ∈ p0, x.block < W.heap.size := by obtain ⟨m, hm⟩ := k0_; exact DataW.trod_lt m _ _ _ hm
  obtain ⟨fuel0, hf0⟩ := h0
  obtain ⟨cs0, rfl, _⟩ := okWide_struct Try.underlying25 (hval 0 25 v0 rfl rfl)
  obtain ⟨cl0⟩ := cs0
  obtain ⟨⟨x0_0, x0_1, x0_2⟩, hK0, hQ0⟩ := (opens_struct (L := 3) Try.underlying25 (by kernel_rfl) (opensAt_cons (i := 0) (off' := 1) rfl rfl (by kernel_rfl) (opens_int Try.underlying2) (opensAt_cons (i := 1) (off' := 2) rfl rfl (by kernel_rfl) (opens_slice Try.underlying22 (by kernel_rfl) opens_134) (opensAt_last (i := 2) rfl rfl (by kernel_rfl) (opens_slice Try.underlying23 (by kernel_rfl) opens_131))))) _ _ _ _ _ _ _ _ _ hf0
  obtain ⟨_, _, e_, rfl, ⟨_, _, rfl, ⟨Ax0_1, cx0_1, rfl, hcx0_1, hrx0_1⟩, ⟨Ax0_2, cx0_2, rfl, hcx0_2, hrx0_2⟩⟩⟩ := hK0
  obtain ⟨qx0_0, ⟨qx0_1, qx0_2⟩⟩ := hQ0
  have e0 : cl0 = [.int .i64 x0_0, .slice Ax0_1 x0_1.length cx0_1, .slice Ax0_2 x0_2.length cx0_2] := e_
  subst e0
  clear e_
  have mx0_1 : x0_1.length ≤ maxLen := by have := hrx0_1.2.1; simp only [maxLen]; omega
  have mx0_2 : x0_2.length ≤ maxLen := by have := hrx0_2.2.1; simp only [maxLen]; omega
  have k1_ := h1
  have lt1 : ∀ x ∈ p1, x.block < W.heap.size := by obtain ⟨m, hm⟩ := k1_; exact DataW.trod_lt m _ _ _ hm
  obtain ⟨fuel1, hf1⟩ := h1
  obtain ⟨cs1, rfl, _⟩ := okWide_struct Try.underlying25 (hval 1 25 v1 rfl rfl)
  obtain ⟨cl1⟩ := cs1
  obtain ⟨⟨x1_0, x1_1, x1_2⟩, hK1, hQ1⟩ := (opens_struct (L := 3) Try.underlying25 (by kernel_rfl) (opensAt_cons (i := 0) (off' := 1) rfl rfl (by kernel_rfl) (opens_int Try.underlying2) (opensAt_cons (i := 1) (off' := 2) rfl rfl (by kernel_rfl) (opens_slice Try.underlying22 (by kernel_rfl) opens_134) (opensAt_last (i := 2) rfl rfl (by kernel_rfl) (opens_slice Try.underlying23 (by kernel_rfl) opens_131))))) _ _ _ _ _ _ _ _ _ hf1
  obtain ⟨_, _, e_, rfl, ⟨_, _, rfl, ⟨Ax1_1, cx1_1, rfl, hcx1_1, hrx1_1⟩, ⟨Ax1_2, cx1_2, rfl, hcx1_2, hrx1_2⟩⟩⟩ := hK1
  obtain ⟨qx1_0, ⟨qx1_1, qx1_2⟩⟩ := hQ1
  have e1 : cl1 = [.int .i64 x1_0, .slice Ax1_1 x1_1.length cx1_1, .slice Ax1_2 x1_2.length cx1_2] := e_
  subst e1
  clear e_
  have mx1_1 : x1_1.length ≤ maxLen := by have := hrx1_1.2.1; simp only [maxLen]; omega
  have mx1_2 : x1_2.length ≤ maxLen := by have := hrx1_2.2.1; simp only [maxLen]; omega
  obtain ⟨k, h⟩ := Pure.FnExactDeltaOf x0_0 x0_1 x0_2 x1_0 x1_1 x1_2 qx0_0 mx0_1 qx0_1 mx0_2 qx0_2 qx1_0 mx1_1 qx1_1 mx1_2 qx1_2
  clear hA0 hval0 hsz0
  refine (laws_FnExactDeltaOf.calls k x0_0 Ax0_1 cx0_1 x0_1 Ax0_2 cx0_2 x0_2 x1_0 Ax1_1 cx1_1 x1_1 Ax1_2 cx1_2 x1_2 true W hrx0_1 hcx0_1 hrx0_2 hcx0_2 hrx1_1 hcx1_1 hrx1_2 hcx1_2 h).mono ?_
  rintro e W' ⟨rfl, bel0⟩
  have bel : Below W.heap.size W W' := by first | exact bel0 | exact bel0.below
  exact ⟨_, rfl, _, _, _, [], _, [], hW', trodAll_mk1 (shut_bool Try.underlying4 _), (trodAll_cons_mk (Below.trod laidOut (by kernel_rfl) (of_decide_eq_true (by kernel_rfl)) k0_ bel lt0) (trodAll_cons_mk (Below.trod laidOut (by kernel_rfl) (of_decide_eq_true (by kernel_rfl)) k1_ bel lt1) trodAll_mk0)), rfl, bel.frame _, fun h => by cases h⟩
theorem over : Rows.fnExactDeltaOfRow.holds Try.pinned (OpenSpec.ofChange Rows.fnExactDeltaOfSpec) :=
  OpenClaim.holds_of_wide 10 Try.f10 rfl rfl rfl rfl rfl rfl rfl ⟨rfl, rfl, rfl, rfl, rfl⟩ rfl rfl rfl rfl rfl (by kernel_rfl) Try.func10 (by kernel_rfl)
    (of_decide_eq_true (by kernel_rfl)) (by unfold Func.isWrapper; first | (rw [if_pos (by decide +kernel)]; kernel_rfl) | (rw [if_neg (by decide +kernel)]; exact ⟨rfl, rfl⟩))
    (fun os started H enc _ => lifted os started H enc)
theorem proved : Rows.FnExactDeltaOfSaid := over
#print axioms proved
end Go.Proofs.Ytfmlhpoaipeoeaa.fnExactDeltaOf
namespace Go.Proofs.Ytfmlhpoaipeoeaa
/-- The row, under a short name, for the claim. -/
theorem fnExactDeltaOf_holds : Rows.FnExactDeltaOfSaid := fnExactDeltaOf.proved
end Go.Proofs.Ytfmlhpoaipeoeaa
