/- WHAT THIS TEXT PROVES: the statement FnExactPackCmdSaid of the law FnExactPackCmd: for every input the call returns true and leaves its arguments as they were. No condition. -/
import Derived.Test.YtaellhlkjjooiaaRows
import Derived.Test.YtaellhlkjjooiaaQFnExactPackCmdx8
import Derived.Test.YtaellhlkjjooiaaSFnExactPackCmd
import Derived.Test.YtaellhlkjjooiaaPureFnExactPackCmd
import Derived.Test.YtaellhlkjjooiaaOpens
import Derived.WalkKit
import Derived.ProofKit
import Derived.OpenShut
import Derived.ShutString
import Derived.ChangeOld
import Derived.Below
import Derived.SizedLaws
namespace Go.Proofs.Ytaellhlkjjooiaa.fnExactPackCmd
open Go.ChangeShapes Go.WideShapes Go.ChangeAt Go.RowKit
open Go.ChangeMaps (open_string shut_string)
open Go.Proofs.Ytaellhlkjjooiaa.QFnExactPackCmd Go.Proofs.YtaellhlkjjooiaaW.PrintWords Go.Proofs.Ytaellhlkjjooiaa.Open Go.Proofs.Ytaellhlkjjooiaa.SFnExactPackCmd
theorem own : ownKnob Try.prog.godebug = none := by kernel_rfl
theorem laidOut : laidOutB Try.prog = true := by kernel_rfl
set_option maxRecDepth 100000 in
theorem lifted (os : Os) (started : os.Started) (H : Type) (enc : TypeId × Value → H) :
    ReturnsInHanded {} Try.checked os 14 .any (Rows.fnExactPackCmdSpec.pre6 enc Try.prog Try.f14 Rows.fnExactPackCmdRow.domain false) (Rows.fnExactPackCmdSpec.post enc Try.prog Try.f14 false true false false) := by
  refine returnsInHanded_of_change_sized (C := Try.checked) own started (by kernel_rfl) Try.func14
    (ChangeSpec.witness6 (enc := enc) (C := Try.checked) false ⟨#[], #[.agg #[.int .i64 0, .int .i64 0, .int .i64 0, .int .i64 0, .int .i64 0, .int .i64 0]], []⟩ 8 (by kernel_rfl) (by kernel_rfl) (by kernel_rfl) (by kernel_rfl)) ?_
  intro W base args ds gs before hval0 hW hcnd hsz0 _
  have hval : ∀ (j : Nat) t v, Try.f14.params[j]? = some t → args[j]? = some v → Value.okWide Try.prog W .any base t v := hval0
  have hW' := hW
  obtain ⟨p, q, hA0, hV, rfl, hfz, hnd⟩ := hW
  have hA : DataW.TrodAll enc Try.prog W 0 (fun _ => true) true Try.f14.params.toList args.toList ds p := hA0
  rw [Try.params14] at hA hval
  obtain ⟨v0, vs0, d0, ds0, p0, q0, hargs, rfl, rfl, h0, r0⟩ := trodAll_cons hA
  obtain ⟨rfl, rfl, rfl⟩ := trodAll_nil r0
  obtain rfl : args = #[v0] := by cases args; simp_all
  obtain ⟨rfl, rfl⟩ := trodVars_none hV
  have k0_ := h0
  have lt0 : ∀ x ∈ p0, x.block < W.heap.size := by obtain ⟨m, hm⟩ := k0_; exact DataW.trod_lt m _ _ _ hm
  obtain ⟨fuel0, hf0⟩ := h0
  obtain ⟨cs0, rfl, _⟩ := okWide_struct Try.underlying40 (hval 0 40 v0 rfl rfl)
  obtain ⟨cl0⟩ := cs0
  obtain ⟨⟨x0_0, x0_1, x0_2, x0_3, x0_4, x0_5⟩, hK0, hQ0⟩ := (opens_struct (L := 6) Try.underlying40 (by kernel_rfl) (opensAt_cons (i := 0) (off' := 1) rfl rfl (by kernel_rfl) (opens_int Try.underlying2) (opensAt_cons (i := 1) (off' := 2) rfl rfl (by kernel_rfl) (opens_int Try.underlying2) (opensAt_cons (i := 2) (off' := 3) rfl rfl (by kernel_rfl) (opens_int Try.underlying2) (opensAt_cons (i := 3) (off' := 4) rfl rfl (by kernel_rfl) (opens_int Try.underlying2) (opensAt_cons (i := 4) (off' := 5) rfl rfl (by kernel_rfl) (opens_int Try.underlying2) (opensAt_last (i := 5) rfl rfl (by kernel_rfl) (opens_int Try.underlying2)))))))) _ _ _ _ _ _ _ _ _ hf0
  obtain ⟨_, _, e_, rfl, ⟨_, _, rfl, rfl, ⟨_, _, rfl, rfl, ⟨_, _, rfl, rfl, ⟨_, _, rfl, rfl, rfl⟩⟩⟩⟩⟩ := hK0
  obtain ⟨qx0_0, ⟨qx0_1, ⟨qx0_2, ⟨qx0_3, ⟨qx0_4, qx0_5⟩⟩⟩⟩⟩ := hQ0
  have e0 : cl0 = [.int .i64 x0_0, .int .i64 x0_1, .int .i64 x0_2, .int .i64 x0_3, .int .i64 x0_4, .int .i64 x0_5] := e_
  subst e0
  clear e_
  obtain ⟨k, h⟩ := Pure.FnExactPackCmd x0_0 x0_1 x0_2 x0_3 x0_4 x0_5 qx0_0 qx0_1 qx0_2 qx0_3 qx0_4 qx0_5
  clear hA0 hval0 hsz0
  refine (laws_FnExactPackCmd.calls k x0_0 x0_1 x0_2 x0_3 x0_4 x0_5 true W  h).mono ?_
  rintro e W' ⟨rfl, bel0⟩
  have bel : Below W.heap.size W W' := by first | exact bel0 | exact bel0.below
  exact ⟨_, rfl, _, _, _, [], _, [], hW', trodAll_mk1 (shut_bool Try.underlying4 _), (trodAll_cons_mk (Below.trod laidOut (by kernel_rfl) (of_decide_eq_true (by kernel_rfl)) k0_ bel lt0) trodAll_mk0), rfl, bel.frame _, fun h => by cases h⟩
theorem over : Rows.fnExactPackCmdRow.holds Try.pinned (OpenSpec.ofChange Rows.fnExactPackCmdSpec) :=
  OpenClaim.holds_of_wide 14 Try.f14 rfl rfl rfl rfl rfl rfl rfl ⟨rfl, rfl, rfl, rfl, rfl⟩ rfl rfl rfl rfl rfl (by kernel_rfl) Try.func14 (by kernel_rfl)
    (of_decide_eq_true (by kernel_rfl)) (by unfold Func.isWrapper; first | (rw [if_pos (by decide +kernel)]; kernel_rfl) | (rw [if_neg (by decide +kernel)]; exact ⟨rfl, rfl⟩))
    (fun os started H enc _ => lifted os started H enc)
theorem proved : Rows.FnExactPackCmdSaid := over
#print axioms proved
end Go.Proofs.Ytaellhlkjjooiaa.fnExactPackCmd
namespace Go.Proofs.Ytaellhlkjjooiaa
/-- The row, under a short name, for the claim. -/
theorem fnExactPackCmd_holds : Rows.FnExactPackCmdSaid := fnExactPackCmd.proved
end Go.Proofs.Ytaellhlkjjooiaa
