/- WHAT THIS TEXT HOLDS: the pure statement of the law FnExactVipFor, over the functions that the walks speak of. No condition. -/
import Derived.Test.YtfmlhpoaipeoeaaQFnExactVipForx6
namespace Go.Proofs.Ytfmlhpoaipeoeaa.SFnExactVipFor
open Go.RowKit Go.Proofs.Ytfmlhpoaipeoeaa.QFnExactVipFor Go.Proofs.YtfmlhpoaipeoeaaW.PrintWords
def Q134 (x : S134) : Prop := ((Lit.int .i64 x.f0).wf = true) ∧ ((Lit.int .i64 x.f1).wf = true) ∧ ((Lit.int .i64 x.f2).wf = true) ∧ ((Lit.int .i64 x.f3).wf = true) ∧ (True)
def Q131 (x : S131) : Prop := ((Lit.int .i64 x.f0).wf = true) ∧ ((Lit.int .i64 x.f1).wf = true) ∧ ((Lit.int .i64 x.f2).wf = true) ∧ (x.f3.length ≤ maxLen ∧ ∀ y ∈ x.f3, (Lit.int .i64 y).wf = true)
/-- The pure statement of the law FnExactVipFor. -/
def Pure : Prop := ∀ (a0_0 : Int) (l0_1 : (List S134)) (l0_2 : (List S131)) (a1_0 : Int) (a1_1 : Int) (a1_2 : Int) (a1_3 : Int) (a1_4 : Int), ((Lit.int .i64 a0_0).wf = true) → l0_1.length ≤ maxLen → (∀ y ∈ l0_1, Q134 y) → l0_2.length ≤ maxLen → (∀ y ∈ l0_2, Q131 y) → ((Lit.int .i64 a1_0).wf = true) → ((Lit.int .i64 a1_1).wf = true) → ((Lit.int .i64 a1_2).wf = true) → ((Lit.int .i64 a1_3).wf = true) → ((Lit.int .i64 a1_4).wf = true) → ∃ k, laws_FnExactVipFor.f k a0_0 l0_1 l0_2 a1_0 a1_1 a1_2 a1_3 a1_4 = some true
end Go.Proofs.Ytfmlhpoaipeoeaa.SFnExactVipFor
