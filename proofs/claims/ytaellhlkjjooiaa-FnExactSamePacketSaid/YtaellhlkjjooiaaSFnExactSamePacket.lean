/- WHAT THIS TEXT HOLDS: the pure statement of the law FnExactSamePacket, over the functions that the walks speak of. No condition. -/
import Derived.Test.YtaellhlkjjooiaaQFnExactSamePacketx2
namespace Go.Proofs.Ytaellhlkjjooiaa.SFnExactSamePacket
open Go.RowKit Go.Proofs.Ytaellhlkjjooiaa.QFnExactSamePacket Go.Proofs.YtaellhlkjjooiaaW.PrintWords
/-- The pure statement of the law FnExactSamePacket. -/
def Pure : Prop := ∀ (a0_0 : Int) (a0_1 : Int) (a0_2 : Int) (a0_3 : Int) (a0_4 : Int) (l0_5 : (List Int)) (a1_0 : Int) (a1_1 : Int) (a1_2 : Int) (a1_3 : Int) (a1_4 : Int) (l1_5 : (List Int)), ((Lit.int .i64 a0_0).wf = true) → ((Lit.int .i64 a0_1).wf = true) → ((Lit.int .i64 a0_2).wf = true) → ((Lit.int .i64 a0_3).wf = true) → ((Lit.int .i64 a0_4).wf = true) → l0_5.length ≤ maxLen → (∀ y ∈ l0_5, (Lit.int .u8 y).wf = true) → ((Lit.int .i64 a1_0).wf = true) → ((Lit.int .i64 a1_1).wf = true) → ((Lit.int .i64 a1_2).wf = true) → ((Lit.int .i64 a1_3).wf = true) → ((Lit.int .i64 a1_4).wf = true) → l1_5.length ≤ maxLen → (∀ y ∈ l1_5, (Lit.int .u8 y).wf = true) → ∃ k, laws_FnExactSamePacket.f k a0_0 a0_1 a0_2 a0_3 a0_4 l0_5 a1_0 a1_1 a1_2 a1_3 a1_4 l1_5 = some true
end Go.Proofs.Ytaellhlkjjooiaa.SFnExactSamePacket
