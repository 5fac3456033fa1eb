/- WHAT THIS TEXT HOLDS: the pure statement of the law FnExactSpreadOf, over the functions that the walks speak of. No condition. -/
import Derived.Test.YtnfjbapcngamjaaQFnExactSpreadOfx4
namespace Go.Proofs.Ytnfjbapcngamjaa.SFnExactSpreadOf
open Go.RowKit Go.Proofs.Ytnfjbapcngamjaa.QFnExactSpreadOf Go.Proofs.YtnfjbapcngamjaaW.PrintWords
def Q64 (x : S64) : Prop := ((Lit.int .i64 x.f0).wf = true) ∧ ((Lit.int .i64 x.f1).wf = true)
/-- The pure statement of the law FnExactSpreadOf. -/
def Pure : Prop := ∀ (l0 : (List Int)) (l1 : (List S64)), l0.length ≤ maxLen → (∀ y ∈ l0, (Lit.int .i64 y).wf = true) → l1.length ≤ maxLen → (∀ y ∈ l1, Q64 y) → ∃ k, laws_FnExactSpreadOf.f k l0 l1 = some true
end Go.Proofs.Ytnfjbapcngamjaa.SFnExactSpreadOf
