/- WHAT THIS TEXT HOLDS: the pure statement of the law FnExactFillTable, over the functions that the walks speak of. No condition. -/
import Derived.Test.YtnfjbapcngamjaaQFnExactFillTablex7
namespace Go.Proofs.Ytnfjbapcngamjaa.SFnExactFillTable
open Go.RowKit Go.Proofs.Ytnfjbapcngamjaa.QFnExactFillTable Go.Proofs.YtnfjbapcngamjaaW.PrintWords
def Q64 (x : S64) : Prop := ((Lit.int .i64 x.f0).wf = true) ∧ ((Lit.int .i64 x.f1).wf = true)
/-- The pure statement of the law FnExactFillTable. -/
def Pure : Prop := ∀ (l0 : (List S64)), l0.length ≤ maxLen → (∀ y ∈ l0, Q64 y) → ∃ k, laws_FnExactFillTable.f k l0 = some true
end Go.Proofs.Ytnfjbapcngamjaa.SFnExactFillTable
