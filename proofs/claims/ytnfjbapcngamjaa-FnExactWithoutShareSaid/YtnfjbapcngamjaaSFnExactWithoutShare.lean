/- WHAT THIS TEXT HOLDS: the pure statement of the law FnExactWithoutShare, over the functions that the walks speak of. No condition. -/
import Derived.Test.YtnfjbapcngamjaaQFnExactWithoutSharex5
namespace Go.Proofs.Ytnfjbapcngamjaa.SFnExactWithoutShare
open Go.RowKit Go.Proofs.Ytnfjbapcngamjaa.QFnExactWithoutShare Go.Proofs.YtnfjbapcngamjaaW.PrintWords
def Q64 (x : S64) : Prop := ((Lit.int .i64 x.f0).wf = true) ∧ ((Lit.int .i64 x.f1).wf = true)
/-- The pure statement of the law FnExactWithoutShare. -/
def Pure : Prop := ∀ (l0 : (List S64)) (a1 : Int), l0.length ≤ maxLen → (∀ y ∈ l0, Q64 y) → ((Lit.int .i64 a1).wf = true) → ∃ k, laws_FnExactWithoutShare.f k l0 a1 = some true
end Go.Proofs.Ytnfjbapcngamjaa.SFnExactWithoutShare
