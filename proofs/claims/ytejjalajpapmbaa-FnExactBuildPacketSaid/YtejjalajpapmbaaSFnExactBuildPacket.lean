/- WHAT THIS TEXT HOLDS: the pure statement of the law FnExactBuildPacket, over the functions that the walks speak of. No condition. -/
import Derived.Test.YtejjalajpapmbaaQFnExactBuildPacketx6
namespace Go.Proofs.Ytejjalajpapmbaa.SFnExactBuildPacket
open Go.RowKit Go.Proofs.Ytejjalajpapmbaa.QFnExactBuildPacket Go.Proofs.YtejjalajpapmbaaW.PrintWords
/-- The pure statement of the law FnExactBuildPacket. -/
def Pure : Prop := ∀ (a0_0 : Int) (a0_1 : Int) (a0_2 : Int) (a0_3 : Int) (a0_4 : Int) (l0_5 : (List Int)), ((Lit.int .i64 a0_0).wf = true) → ((Lit.int .i64 a0_1).wf = true) → ((Lit.int .i64 a0_2).wf = true) → ((Lit.int .i64 a0_3).wf = true) → ((Lit.int .i64 a0_4).wf = true) → l0_5.length ≤ maxLen → (∀ y ∈ l0_5, (Lit.int .u8 y).wf = true) → ∃ k, laws_FnExactBuildPacket.f k a0_0 a0_1 a0_2 a0_3 a0_4 l0_5 = some true
end Go.Proofs.Ytejjalajpapmbaa.SFnExactBuildPacket
