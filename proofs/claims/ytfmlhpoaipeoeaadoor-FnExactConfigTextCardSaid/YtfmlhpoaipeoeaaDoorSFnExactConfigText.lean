/- WHAT THIS TEXT HOLDS: the pure statement of the law FnExactConfigText, over the functions that the walks speak of. No condition. -/
import Derived.Test.YtfmlhpoaipeoeaaDoorQFnExactConfigTextx9
namespace Go.Proofs.YtfmlhpoaipeoeaaDoor.SFnExactConfigText
open Go.RowKit Go.Proofs.YtfmlhpoaipeoeaaDoor.QFnExactConfigText Go.Proofs.YtfmlhpoaipeoeaaDoorW.PrintWords
def Q63 (x : S63) : Prop := ((Lit.int .i64 x.f0).wf = true) ∧ ((Lit.int .i64 x.f1).wf = true) ∧ ((Lit.int .i64 x.f2).wf = true) ∧ ((Lit.int .i64 x.f3).wf = true) ∧ (True)
def Q52 (x : S52) : Prop := ((Lit.int .i64 x.f0).wf = true) ∧ ((Lit.int .i64 x.f1).wf = true) ∧ ((Lit.int .i64 x.f2).wf = true) ∧ (x.f3.length ≤ maxLen ∧ ∀ y ∈ x.f3, (Lit.int .i64 y).wf = true)
/-- The pure statement of the law FnExactConfigText. -/
def Pure : Prop := ∀ (a0_0 : Int) (l0_1 : (List S63)) (l0_2 : (List S52)), ((Lit.int .i64 a0_0).wf = true) → l0_1.length ≤ maxLen → (∀ y ∈ l0_1, Q63 y) → l0_2.length ≤ maxLen → (∀ y ∈ l0_2, Q52 y) → ∃ k, laws_FnExactConfigText.f k a0_0 l0_1 l0_2 = some true
end Go.Proofs.YtfmlhpoaipeoeaaDoor.SFnExactConfigText
