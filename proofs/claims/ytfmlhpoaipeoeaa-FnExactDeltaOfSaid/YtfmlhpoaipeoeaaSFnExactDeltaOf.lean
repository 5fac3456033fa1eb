/- WHAT THIS TEXT HOLDS: the pure statement of the law FnExactDeltaOf, over the functions that the walks speak of. No condition. -/
import Derived.Test.YtfmlhpoaipeoeaaQFnExactDeltaOfx6
namespace Go.Proofs.Ytfmlhpoaipeoeaa.SFnExactDeltaOf
open Go.RowKit Go.Proofs.Ytfmlhpoaipeoeaa.QFnExactDeltaOf Go.Proofs.YtfmlhpoaipeoeaaW.PrintWords
def Q134 (x : S134) : Prop := ((Lit.int .i64 x.f0).wf = true) ∧ ((Lit.int .i64 x.f1).wf = true) ∧ ((Lit.int .i64 x.f2).wf = true) ∧ ((Lit.int .i64 x.f3).wf = true) ∧ (True)
def Q131 (x : S131) : Prop := ((Lit.int .i64 x.f0).wf = true) ∧ ((Lit.int .i64 x.f1).wf = true) ∧ ((Lit.int .i64 x.f2).wf = true) ∧ (x.f3.length ≤ maxLen ∧ ∀ y ∈ x.f3, (Lit.int .i64 y).wf = true)
/-- The pure statement of the law FnExactDeltaOf. -/
def Pure : Prop := ∀ (a0_0 : Int) (l0_1 : (List S134)) (l0_2 : (List S131)) (a1_0 : Int) (l1_1 : (List S134)) (l1_2 : (List S131)), ((Lit.int .i64 a0_0).wf = true) → l0_1.length ≤ maxLen → (∀ y ∈ l0_1, Q134 y) → l0_2.length ≤ maxLen → (∀ y ∈ l0_2, Q131 y) → ((Lit.int .i64 a1_0).wf = true) → l1_1.length ≤ maxLen → (∀ y ∈ l1_1, Q134 y) → l1_2.length ≤ maxLen → (∀ y ∈ l1_2, Q131 y) → ∃ k, laws_FnExactDeltaOf.f k a0_0 l0_1 l0_2 a1_0 l1_1 l1_2 = some true
end Go.Proofs.Ytfmlhpoaipeoeaa.SFnExactDeltaOf
