/- WHAT THIS TEXT HOLDS: the pure statement of the law FnExactHashFlow, over the functions that the walks speak of. No condition. -/
import Derived.Test.YtaellhlkjjooiaaQFnExactHashFlowx2
namespace Go.Proofs.Ytaellhlkjjooiaa.SFnExactHashFlow
open Go.RowKit Go.Proofs.Ytaellhlkjjooiaa.QFnExactHashFlow Go.Proofs.YtaellhlkjjooiaaW.PrintWords
/-- The pure statement of the law FnExactHashFlow. -/
def Pure : Prop := ∀ (a0_0 : Int) (a0_1 : Int) (a0_2 : Int) (a0_3 : Int) (a0_4 : Int), ((Lit.int .i64 a0_0).wf = true) → ((Lit.int .i64 a0_1).wf = true) → ((Lit.int .i64 a0_2).wf = true) → ((Lit.int .i64 a0_3).wf = true) → ((Lit.int .i64 a0_4).wf = true) → ∃ k, laws_FnExactHashFlow.f k a0_0 a0_1 a0_2 a0_3 a0_4 = some true
end Go.Proofs.Ytaellhlkjjooiaa.SFnExactHashFlow
