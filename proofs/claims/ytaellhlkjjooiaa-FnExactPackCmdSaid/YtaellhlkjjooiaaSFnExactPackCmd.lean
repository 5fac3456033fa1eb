/- WHAT THIS TEXT HOLDS: the pure statement of the law FnExactPackCmd, over the functions that the walks speak of. No condition. -/
import Derived.Test.YtaellhlkjjooiaaQFnExactPackCmdx8
namespace Go.Proofs.Ytaellhlkjjooiaa.SFnExactPackCmd
open Go.RowKit Go.Proofs.Ytaellhlkjjooiaa.QFnExactPackCmd Go.Proofs.YtaellhlkjjooiaaW.PrintWords
/-- The pure statement of the law FnExactPackCmd. -/
def Pure : Prop := ∀ (a0_0 : Int) (a0_1 : Int) (a0_2 : Int) (a0_3 : Int) (a0_4 : Int) (a0_5 : Int), ((Lit.int .i64 a0_0).wf = true) → ((Lit.int .i64 a0_1).wf = true) → ((Lit.int .i64 a0_2).wf = true) → ((Lit.int .i64 a0_3).wf = true) → ((Lit.int .i64 a0_4).wf = true) → ((Lit.int .i64 a0_5).wf = true) → ∃ k, laws_FnExactPackCmd.f k a0_0 a0_1 a0_2 a0_3 a0_4 a0_5 = some true
end Go.Proofs.Ytaellhlkjjooiaa.SFnExactPackCmd
