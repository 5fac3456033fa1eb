/- WHAT THIS TEXT PROVES: the statement FnExactWithoutShareSaid of the law FnExactWithoutShare: for every input the call returns true and leaves its arguments as they were. No condition. -/
import Derived.Test.YtnfjbapcngamjaaRows
import Derived.Test.YtnfjbapcngamjaaQFnExactWithoutSharex5
import Derived.Test.YtnfjbapcngamjaaSFnExactWithoutShare
import Derived.Test.YtnfjbapcngamjaaPureFnExactWithoutShare
import Derived.Test.YtnfjbapcngamjaaOpens
import Derived.WalkKit
import Derived.ProofKit
import Derived.OpenShut
import Derived.ShutString
import Derived.ChangeOld
import Derived.Below
import Derived.SizedLaws
namespace Go.Proofs.Ytnfjbapcngamjaa.fnExactWithoutShare
open Go.ChangeShapes Go.WideShapes Go.ChangeAt Go.RowKit
open Go.ChangeMaps (open_string shut_string)
open Go.Proofs.Ytnfjbapcngamjaa.QFnExactWithoutShare Go.Proofs.YtnfjbapcngamjaaW.PrintWords Go.Proofs.Ytnfjbapcngamjaa.Open Go.Proofs.Ytnfjbapcngamjaa.SFnExactWithoutShare
theorem own : ownKnob Try.prog.godebug = none := by kernel_rfl
theorem laidOut : laidOutB Try.prog = true := by kernel_rfl
instance : Inhabited S64 := ⟨z64⟩
theorem opens_64 : Opens Try.prog 64 k64 Q64 := by
  have h := opens_struct (L := 2) Try.underlying64 (by kernel_rfl) (opensAt_cons (i := 0) (off' := 1) rfl rfl (by kernel_rfl) (opens_int Try.underlying2) (opensAt_last (i := 1) rfl rfl (by kernel_rfl) (opens_int Try.underlying2)))
  exact opens_iso (fun x : S64 => (x.f0, x.f1)) (fun x => ⟨x.1, x.2⟩) (fun _ => rfl) h
set_option maxRecDepth 100000 in
theorem lifted (os : Os) (started : os.Started) (H : Type) (enc : TypeId × Value → H) :
    ReturnsInHanded {} Try.checked os 4 .any (Rows.fnExactWithoutShareSpec.pre6 enc Try.prog Try.f4 Rows.fnExactWithoutShareRow.domain false) (Rows.fnExactWithoutShareSpec.post enc Try.prog Try.f4 false true false false) := by
  refine returnsInHanded_of_change_sized (C := Try.checked) own started (by kernel_rfl) Try.func4
    (ChangeSpec.witness6 (enc := enc) (C := Try.checked) false ⟨#[], #[.slice none 0 0, .int .i64 0], []⟩ 8 (by kernel_rfl) (by kernel_rfl) (by kernel_rfl) (by kernel_rfl)) ?_
  intro W base args ds gs before hval0 hW hcnd hsz0 _
  have hval : ∀ (j : Nat) t v, Try.f4.params[j]? = some t → args[j]? = some v → Value.okWide Try.prog W .any base t v := hval0
  have hW' := hW
  obtain ⟨p, q, hA0, hV, rfl, hfz, hnd⟩ := hW
  have hA : DataW.TrodAll enc Try.prog W 0 (fun _ => true) true Try.f4.params.toList args.toList ds p := hA0
  rw [Try.params4] at hA hval
  obtain ⟨v0, vs0, d0, ds0, p0, q0, hargs, rfl, rfl, h0, r0⟩ := trodAll_cons hA
  obtain ⟨v1, vs1, d1, ds1, p1, q1, rfl, rfl, rfl, h1, r1⟩ := trodAll_cons r0
  obtain ⟨rfl, rfl, rfl⟩ := trodAll_nil r1
  obtain rfl : args = #[v0, v1] := by cases args; simp_all
  obtain ⟨rfl, rfl⟩ := trodVars_none hV
  have k0_ := h0
  have lt0 : ∀ x ∈ p0, x.block < W.heap.size := by obtain ⟨m, hm⟩ := k0_; exact DataW.trod_lt m _ _ _ hm
  obtain ⟨fuel0, hf0⟩ := h0
  obtain ⟨A0, n0, c0, rfl⟩ := okWide_slice Try.underlying22 (hval 0 22 v0 rfl rfl)
  obtain ⟨l0, ⟨A_, c_, e_, hc0, hr0⟩, q0_⟩ := (opens_slice Try.underlying22 (by kernel_rfl) opens_64) _ _ _ _ _ _ _ _ _ hf0
  simp only [Value.cells, List.cons.injEq, Value.slice.injEq, and_true] at e_
  obtain ⟨rfl, rfl, rfl⟩ := e_
  have m0 : l0.length ≤ maxLen := by have := hr0.2.1; simp only [maxLen]; omega
  obtain ⟨a1, rfl, rfl, rfl, w1⟩ := open_int Try.underlying2 (hval 1 2 v1 rfl rfl) h1
  obtain ⟨k, h⟩ := Pure.FnExactWithoutShare l0 a1 m0 q0_ w1
  clear hA0 hval0 hsz0
  refine (laws_FnExactWithoutShare.calls k A0 c0 l0 a1 true W hr0 hc0 h).mono ?_
  rintro e W' ⟨rfl, bel0⟩
  have bel : Below W.heap.size W W' := by first | exact bel0 | exact bel0.below
  exact ⟨_, rfl, _, _, _, [], _, [], hW', trodAll_mk1 (shut_bool Try.underlying4 _), (trodAll_cons_mk (Below.trod laidOut (by kernel_rfl) (of_decide_eq_true (by kernel_rfl)) k0_ bel lt0) (trodAll_cons_mk (shut_int Try.underlying2 w1) trodAll_mk0)), rfl, bel.frame _, fun h => by cases h⟩
theorem over : Rows.fnExactWithoutShareRow.holds Try.pinned (OpenSpec.ofChange Rows.fnExactWithoutShareSpec) :=
  OpenClaim.holds_of_wide 4 Try.f4 rfl rfl rfl rfl rfl rfl rfl ⟨rfl, rfl, rfl, rfl, rfl⟩ rfl rfl rfl rfl rfl (by kernel_rfl) Try.func4 (by kernel_rfl)
    (of_decide_eq_true (by kernel_rfl)) (by unfold Func.isWrapper; first | (rw [if_pos (by decide +kernel)]; kernel_rfl) | (rw [if_neg (by decide +kernel)]; exact ⟨rfl, rfl⟩))
    (fun os started H enc _ => lifted os started H enc)
theorem proved : Rows.FnExactWithoutShareSaid := over
#print axioms proved
end Go.Proofs.Ytnfjbapcngamjaa.fnExactWithoutShare
namespace Go.Proofs.Ytnfjbapcngamjaa
/-- The row, under a short name, for the claim. -/
theorem fnExactWithoutShare_holds : Rows.FnExactWithoutShareSaid := fnExactWithoutShare.proved
end Go.Proofs.Ytnfjbapcngamjaa
