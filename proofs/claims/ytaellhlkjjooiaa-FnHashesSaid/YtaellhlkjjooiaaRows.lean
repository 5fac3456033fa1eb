/-
  No cell of these rows narrows 'for every input' (looked for: loops, veiled, ifaces, maps, wideKeys, modest, calm, conditions, laid).
  DERIVED. THE GIVEN ROWS OF THIS SEAT. 12 by the template 'for every input the law returns true; each argument reads behind the call as it read before'; 0 by the template 'total and deterministic' (their statements: YtaellhlkjjooiaaTotals.lean).
  GIVEN WITH THE SEED: the statements are not yours to turn. If you find one false, say at which input.
  Laid BY PROGRAM, IN A SANDBOX (cutbox-rows.mjs): the forced cells as the released guide's own fill.sh prints them over the translation bbb0f9e72b7cd0b3… (all of the seat's roots in one cut). By AI agents, Wed Nov 11 2026. No macro, syntax, notation, axiom, sorry.
-/
import Derived.Test.YtaellhlkjjooiaaChecked
import GoSem.Claim
import GoSem.ClaimJoined
import GoSem.ClaimMapViews
import Derived.JoinedTies
import Derived.KernelRfl
namespace Go.Proofs.Ytaellhlkjjooiaa
/- THE CELL 'sum', in the pinned program and in every row, IS THE sha256 OF THE DUMP (.gsa) THAT YtaellhlkjjooiaaProg.lean LOADS. Nothing in Lean hashes anything: it is a label: what it is worth is what the hold of that sum in a sandbox is worth. -/
noncomputable def Try.pinned : Pinned := { name := "ytaellhlkjjooiaa", sum := "bbb0f9e72b7cd0b32ad5b8e190684843e17e3ea27f6865a40c912387c01493be", checked := Try.checked }
namespace Rows
def none {H : Type} : Left H := { results := [], args := [] }

/-- 'laws.FnExactSamePacket': WHATEVER THE INPUT: true; the input reads as it did. -/
def fnExactSamePacketSpec : ChangeSpec := { name := "fnExactSamePacket", fn := fun _ => fun
  | [d1, d2] => { results := [.lit (.bool true)], args := [d1, d2] }
  | _ => none }
def fnExactSamePacketRow : OpenClaim := { program := "ytaellhlkjjooiaa", sum := "bbb0f9e72b7cd0b32ad5b8e190684843e17e3ea27f6865a40c912387c01493be", func := "loop.example/g00222/laws.FnExactSamePacket", spec := "fnExactSamePacket", apart := false }
def FnExactSamePacketSaid : Prop := fnExactSamePacketRow.holds Try.pinned (OpenSpec.ofChange fnExactSamePacketSpec)

/-- ITS FALSE NEIGHBOUR: 'it returns false'. Refute it at one input. -/
def fnExactSamePacketWrong : ChangeSpec := { name := "fnExactSamePacket", fn := fun _ => fun
  | [d1, d2] => { results := [.lit (.bool false)], args := [d1, d2] }
  | _ => none }
def FnExactSamePacketWrongFalsely : Prop := fnExactSamePacketRow.holds Try.pinned (OpenSpec.ofChange fnExactSamePacketWrong)

/-- 'laws.FnNumbers': WHATEVER THE INPUT: true; the input reads as it did. -/
def fnNumbersSpec : ChangeSpec := { name := "fnNumbers", fn := fun _ => fun
  | [d] => { results := [.lit (.bool true)], args := [d] }
  | _ => none }
def fnNumbersRow : OpenClaim := { program := "ytaellhlkjjooiaa", sum := "bbb0f9e72b7cd0b32ad5b8e190684843e17e3ea27f6865a40c912387c01493be", func := "loop.example/g00222/laws.FnNumbers", spec := "fnNumbers", apart := false }
def FnNumbersSaid : Prop := fnNumbersRow.holds Try.pinned (OpenSpec.ofChange fnNumbersSpec)

/-- ITS FALSE NEIGHBOUR: 'it returns false'. Refute it at one input. -/
def fnNumbersWrong : ChangeSpec := { name := "fnNumbers", fn := fun _ => fun
  | [d] => { results := [.lit (.bool false)], args := [d] }
  | _ => none }
def FnNumbersWrongFalsely : Prop := fnNumbersRow.holds Try.pinned (OpenSpec.ofChange fnNumbersWrong)

/-- 'laws.FnExactCmdFault': WHATEVER THE INPUT: true; the input reads as it did. -/
def fnExactCmdFaultSpec : ChangeSpec := { name := "fnExactCmdFault", fn := fun _ => fun
  | [d] => { results := [.lit (.bool true)], args := [d] }
  | _ => none }
def fnExactCmdFaultRow : OpenClaim := { program := "ytaellhlkjjooiaa", sum := "bbb0f9e72b7cd0b32ad5b8e190684843e17e3ea27f6865a40c912387c01493be", func := "loop.example/g00222/laws.FnExactCmdFault", spec := "fnExactCmdFault", apart := false }
def FnExactCmdFaultSaid : Prop := fnExactCmdFaultRow.holds Try.pinned (OpenSpec.ofChange fnExactCmdFaultSpec)

/-- ITS FALSE NEIGHBOUR: 'it returns false'. Refute it at one input. -/
def fnExactCmdFaultWrong : ChangeSpec := { name := "fnExactCmdFault", fn := fun _ => fun
  | [d] => { results := [.lit (.bool false)], args := [d] }
  | _ => none }
def FnExactCmdFaultWrongFalsely : Prop := fnExactCmdFaultRow.holds Try.pinned (OpenSpec.ofChange fnExactCmdFaultWrong)

/-- 'laws.FnExactPutNumber': WHATEVER THE INPUT: true; the input reads as it did. -/
def fnExactPutNumberSpec : ChangeSpec := { name := "fnExactPutNumber", fn := fun _ => fun
  | [d1, d2] => { results := [.lit (.bool true)], args := [d1, d2] }
  | _ => none }
def fnExactPutNumberRow : OpenClaim := { program := "ytaellhlkjjooiaa", sum := "bbb0f9e72b7cd0b32ad5b8e190684843e17e3ea27f6865a40c912387c01493be", func := "loop.example/g00222/laws.FnExactPutNumber", spec := "fnExactPutNumber", apart := false }
def FnExactPutNumberSaid : Prop := fnExactPutNumberRow.holds Try.pinned (OpenSpec.ofChange fnExactPutNumberSpec)

/-- ITS FALSE NEIGHBOUR: 'it returns false'. Refute it at one input. -/
def fnExactPutNumberWrong : ChangeSpec := { name := "fnExactPutNumber", fn := fun _ => fun
  | [d1, d2] => { results := [.lit (.bool false)], args := [d1, d2] }
  | _ => none }
def FnExactPutNumberWrongFalsely : Prop := fnExactPutNumberRow.holds Try.pinned (OpenSpec.ofChange fnExactPutNumberWrong)

/-- 'laws.FnExactPacketFault': WHATEVER THE INPUT: true; the input reads as it did. -/
def fnExactPacketFaultSpec : ChangeSpec := { name := "fnExactPacketFault", fn := fun _ => fun
  | [d] => { results := [.lit (.bool true)], args := [d] }
  | _ => none }
def fnExactPacketFaultRow : OpenClaim := { program := "ytaellhlkjjooiaa", sum := "bbb0f9e72b7cd0b32ad5b8e190684843e17e3ea27f6865a40c912387c01493be", func := "loop.example/g00222/laws.FnExactPacketFault", spec := "fnExactPacketFault", apart := false }
def FnExactPacketFaultSaid : Prop := fnExactPacketFaultRow.holds Try.pinned (OpenSpec.ofChange fnExactPacketFaultSpec)

/-- ITS FALSE NEIGHBOUR: 'it returns false'. Refute it at one input. -/
def fnExactPacketFaultWrong : ChangeSpec := { name := "fnExactPacketFault", fn := fun _ => fun
  | [d] => { results := [.lit (.bool false)], args := [d] }
  | _ => none }
def FnExactPacketFaultWrongFalsely : Prop := fnExactPacketFaultRow.holds Try.pinned (OpenSpec.ofChange fnExactPacketFaultWrong)

/-- 'laws.FnExactHashFlow': WHATEVER THE INPUT: true; the input reads as it did. -/
def fnExactHashFlowSpec : ChangeSpec := { name := "fnExactHashFlow", fn := fun _ => fun
  | [d] => { results := [.lit (.bool true)], args := [d] }
  | _ => none }
def fnExactHashFlowRow : OpenClaim := { program := "ytaellhlkjjooiaa", sum := "bbb0f9e72b7cd0b32ad5b8e190684843e17e3ea27f6865a40c912387c01493be", func := "loop.example/g00222/laws.FnExactHashFlow", spec := "fnExactHashFlow", apart := false }
def FnExactHashFlowSaid : Prop := fnExactHashFlowRow.holds Try.pinned (OpenSpec.ofChange fnExactHashFlowSpec)

/-- ITS FALSE NEIGHBOUR: 'it returns false'. Refute it at one input. -/
def fnExactHashFlowWrong : ChangeSpec := { name := "fnExactHashFlow", fn := fun _ => fun
  | [d] => { results := [.lit (.bool false)], args := [d] }
  | _ => none }
def FnExactHashFlowWrongFalsely : Prop := fnExactHashFlowRow.holds Try.pinned (OpenSpec.ofChange fnExactHashFlowWrong)

/-- 'laws.FnOrders': WHATEVER THE INPUT: true; the input reads as it did. -/
def fnOrdersSpec : ChangeSpec := { name := "fnOrders", fn := fun _ => fun
  | [d] => { results := [.lit (.bool true)], args := [d] }
  | _ => none }
def fnOrdersRow : OpenClaim := { program := "ytaellhlkjjooiaa", sum := "bbb0f9e72b7cd0b32ad5b8e190684843e17e3ea27f6865a40c912387c01493be", func := "loop.example/g00222/laws.FnOrders", spec := "fnOrders", apart := false }
def FnOrdersSaid : Prop := fnOrdersRow.holds Try.pinned (OpenSpec.ofChange fnOrdersSpec)

/-- ITS FALSE NEIGHBOUR: 'it returns false'. Refute it at one input. -/
def fnOrdersWrong : ChangeSpec := { name := "fnOrders", fn := fun _ => fun
  | [d] => { results := [.lit (.bool false)], args := [d] }
  | _ => none }
def FnOrdersWrongFalsely : Prop := fnOrdersRow.holds Try.pinned (OpenSpec.ofChange fnOrdersWrong)

/-- 'laws.FnExactPermutation': WHATEVER THE INPUT: true; the input reads as it did. -/
def fnExactPermutationSpec : ChangeSpec := { name := "fnExactPermutation", fn := fun _ => fun
  | [d] => { results := [.lit (.bool true)], args := [d] }
  | _ => none }
def fnExactPermutationRow : OpenClaim := { program := "ytaellhlkjjooiaa", sum := "bbb0f9e72b7cd0b32ad5b8e190684843e17e3ea27f6865a40c912387c01493be", func := "loop.example/g00222/laws.FnExactPermutation", spec := "fnExactPermutation", apart := false }
def FnExactPermutationSaid : Prop := fnExactPermutationRow.holds Try.pinned (OpenSpec.ofChange fnExactPermutationSpec)

/-- ITS FALSE NEIGHBOUR: 'it returns false'. Refute it at one input. -/
def fnExactPermutationWrong : ChangeSpec := { name := "fnExactPermutation", fn := fun _ => fun
  | [d] => { results := [.lit (.bool false)], args := [d] }
  | _ => none }
def FnExactPermutationWrongFalsely : Prop := fnExactPermutationRow.holds Try.pinned (OpenSpec.ofChange fnExactPermutationWrong)

/-- 'laws.FnHashes': WHATEVER THE INPUT: true; the input reads as it did. -/
def fnHashesSpec : ChangeSpec := { name := "fnHashes", fn := fun _ => fun
  | [d] => { results := [.lit (.bool true)], args := [d] }
  | _ => none }
def fnHashesRow : OpenClaim := { program := "ytaellhlkjjooiaa", sum := "bbb0f9e72b7cd0b32ad5b8e190684843e17e3ea27f6865a40c912387c01493be", func := "loop.example/g00222/laws.FnHashes", spec := "fnHashes", apart := false }
def FnHashesSaid : Prop := fnHashesRow.holds Try.pinned (OpenSpec.ofChange fnHashesSpec)

/-- ITS FALSE NEIGHBOUR: 'it returns false'. Refute it at one input. -/
def fnHashesWrong : ChangeSpec := { name := "fnHashes", fn := fun _ => fun
  | [d] => { results := [.lit (.bool false)], args := [d] }
  | _ => none }
def FnHashesWrongFalsely : Prop := fnHashesRow.holds Try.pinned (OpenSpec.ofChange fnHashesWrong)

/-- 'laws.FnExactFlowOf': WHATEVER THE INPUT: true; the input reads as it did. -/
def fnExactFlowOfSpec : ChangeSpec := { name := "fnExactFlowOf", fn := fun _ => fun
  | [d] => { results := [.lit (.bool true)], args := [d] }
  | _ => none }
def fnExactFlowOfRow : OpenClaim := { program := "ytaellhlkjjooiaa", sum := "bbb0f9e72b7cd0b32ad5b8e190684843e17e3ea27f6865a40c912387c01493be", func := "loop.example/g00222/laws.FnExactFlowOf", spec := "fnExactFlowOf", apart := false }
def FnExactFlowOfSaid : Prop := fnExactFlowOfRow.holds Try.pinned (OpenSpec.ofChange fnExactFlowOfSpec)

/-- ITS FALSE NEIGHBOUR: 'it returns false'. Refute it at one input. -/
def fnExactFlowOfWrong : ChangeSpec := { name := "fnExactFlowOf", fn := fun _ => fun
  | [d] => { results := [.lit (.bool false)], args := [d] }
  | _ => none }
def FnExactFlowOfWrongFalsely : Prop := fnExactFlowOfRow.holds Try.pinned (OpenSpec.ofChange fnExactFlowOfWrong)

/-- 'laws.FnExactUnpackCmd': WHATEVER THE INPUT: true; the input reads as it did. -/
def fnExactUnpackCmdSpec : ChangeSpec := { name := "fnExactUnpackCmd", fn := fun _ => fun
  | [d] => { results := [.lit (.bool true)], args := [d] }
  | _ => none }
def fnExactUnpackCmdRow : OpenClaim := { program := "ytaellhlkjjooiaa", sum := "bbb0f9e72b7cd0b32ad5b8e190684843e17e3ea27f6865a40c912387c01493be", func := "loop.example/g00222/laws.FnExactUnpackCmd", spec := "fnExactUnpackCmd", apart := false }
def FnExactUnpackCmdSaid : Prop := fnExactUnpackCmdRow.holds Try.pinned (OpenSpec.ofChange fnExactUnpackCmdSpec)

/-- ITS FALSE NEIGHBOUR: 'it returns false'. Refute it at one input. -/
def fnExactUnpackCmdWrong : ChangeSpec := { name := "fnExactUnpackCmd", fn := fun _ => fun
  | [d] => { results := [.lit (.bool false)], args := [d] }
  | _ => none }
def FnExactUnpackCmdWrongFalsely : Prop := fnExactUnpackCmdRow.holds Try.pinned (OpenSpec.ofChange fnExactUnpackCmdWrong)

/-- 'laws.FnExactPackCmd': WHATEVER THE INPUT: true; the input reads as it did. -/
def fnExactPackCmdSpec : ChangeSpec := { name := "fnExactPackCmd", fn := fun _ => fun
  | [d] => { results := [.lit (.bool true)], args := [d] }
  | _ => none }
def fnExactPackCmdRow : OpenClaim := { program := "ytaellhlkjjooiaa", sum := "bbb0f9e72b7cd0b32ad5b8e190684843e17e3ea27f6865a40c912387c01493be", func := "loop.example/g00222/laws.FnExactPackCmd", spec := "fnExactPackCmd", apart := false }
def FnExactPackCmdSaid : Prop := fnExactPackCmdRow.holds Try.pinned (OpenSpec.ofChange fnExactPackCmdSpec)

/-- ITS FALSE NEIGHBOUR: 'it returns false'. Refute it at one input. -/
def fnExactPackCmdWrong : ChangeSpec := { name := "fnExactPackCmd", fn := fun _ => fun
  | [d] => { results := [.lit (.bool false)], args := [d] }
  | _ => none }
def FnExactPackCmdWrongFalsely : Prop := fnExactPackCmdRow.holds Try.pinned (OpenSpec.ofChange fnExactPackCmdWrong)

/- THE SECOND FORM. 'bulk': how many values and letters a reading holds, each counted each time it is reached (what is shared counts as often as it is met; a slice's spare places count too). A statement '..UptoSaid' is the law's where the arguments, and the package variables that the reading takes, are together of bulk at most 1048576: NARROWER than '..Said'. Prove '..Said' where nothing that the law and all that it calls make is longer than what came in: it says more and counts as full. Else prove '..UptoSaid'. A law counts once. -/
mutual
def uptoBulk {H : Type} : DataW H → Nat
  | .lit (.string bytes) => bytes.length + 1
  | .lit _ => 1
  | .nil => 1
  | .ptr d => uptoBulk d + 1
  | .slice elems spare => uptoBulkAll elems + uptoBulkAll spare + 1
  | .agg parts => uptoBulkAll parts + 1
  | .iface _ d => uptoBulk d + 1
  | .map entries => uptoBulkEntries entries + 1
  | .held _ => 1
def uptoBulkAll {H : Type} : List (DataW H) → Nat
  | [] => 0
  | d :: r => uptoBulk d + uptoBulkAll r
def uptoBulkEntries {H : Type} : List (Lit × DataW H) → Nat
  | [] => 0
  | x :: r => uptoBulkEntry x + uptoBulkEntries r
def uptoBulkEntry {H : Type} : Lit × DataW H → Nat
  | (.string bytes, d) => bytes.length + uptoBulk d + 1
  | (_, d) => uptoBulk d + 1
 end
def uptoSmall : (H : Type) → List (DataW H) → Bool := fun _ ds => decide (uptoBulkAll ds ≤ 1048576)
def OpenSpec.upto (s : _root_.Go.ChangeSpec) : _root_.Go.OpenSpec := { _root_.Go.OpenSpec.ofChange s with cond := some uptoSmall }

/-- 'laws.FnExactSamePacket', WHERE WHAT IT READS IS OF BULK AT MOST 1048576: true; the input reads as it did. -/
def fnExactSamePacketUptoRow : OpenClaim := { program := "ytaellhlkjjooiaa", sum := "bbb0f9e72b7cd0b32ad5b8e190684843e17e3ea27f6865a40c912387c01493be", func := "loop.example/g00222/laws.FnExactSamePacket", spec := "fnExactSamePacket", apart := false, narrowed := true }
def FnExactSamePacketUptoSaid : Prop := fnExactSamePacketUptoRow.holds Try.pinned (OpenSpec.upto fnExactSamePacketSpec)

/-- 'laws.FnNumbers', WHERE WHAT IT READS IS OF BULK AT MOST 1048576: true; the input reads as it did. -/
def fnNumbersUptoRow : OpenClaim := { program := "ytaellhlkjjooiaa", sum := "bbb0f9e72b7cd0b32ad5b8e190684843e17e3ea27f6865a40c912387c01493be", func := "loop.example/g00222/laws.FnNumbers", spec := "fnNumbers", apart := false, narrowed := true }
def FnNumbersUptoSaid : Prop := fnNumbersUptoRow.holds Try.pinned (OpenSpec.upto fnNumbersSpec)

/-- 'laws.FnExactCmdFault', WHERE WHAT IT READS IS OF BULK AT MOST 1048576: true; the input reads as it did. -/
def fnExactCmdFaultUptoRow : OpenClaim := { program := "ytaellhlkjjooiaa", sum := "bbb0f9e72b7cd0b32ad5b8e190684843e17e3ea27f6865a40c912387c01493be", func := "loop.example/g00222/laws.FnExactCmdFault", spec := "fnExactCmdFault", apart := false, narrowed := true }
def FnExactCmdFaultUptoSaid : Prop := fnExactCmdFaultUptoRow.holds Try.pinned (OpenSpec.upto fnExactCmdFaultSpec)

/-- 'laws.FnExactPutNumber', WHERE WHAT IT READS IS OF BULK AT MOST 1048576: true; the input reads as it did. -/
def fnExactPutNumberUptoRow : OpenClaim := { program := "ytaellhlkjjooiaa", sum := "bbb0f9e72b7cd0b32ad5b8e190684843e17e3ea27f6865a40c912387c01493be", func := "loop.example/g00222/laws.FnExactPutNumber", spec := "fnExactPutNumber", apart := false, narrowed := true }
def FnExactPutNumberUptoSaid : Prop := fnExactPutNumberUptoRow.holds Try.pinned (OpenSpec.upto fnExactPutNumberSpec)

/-- 'laws.FnExactPacketFault', WHERE WHAT IT READS IS OF BULK AT MOST 1048576: true; the input reads as it did. -/
def fnExactPacketFaultUptoRow : OpenClaim := { program := "ytaellhlkjjooiaa", sum := "bbb0f9e72b7cd0b32ad5b8e190684843e17e3ea27f6865a40c912387c01493be", func := "loop.example/g00222/laws.FnExactPacketFault", spec := "fnExactPacketFault", apart := false, narrowed := true }
def FnExactPacketFaultUptoSaid : Prop := fnExactPacketFaultUptoRow.holds Try.pinned (OpenSpec.upto fnExactPacketFaultSpec)

/-- 'laws.FnExactHashFlow', WHERE WHAT IT READS IS OF BULK AT MOST 1048576: true; the input reads as it did. -/
def fnExactHashFlowUptoRow : OpenClaim := { program := "ytaellhlkjjooiaa", sum := "bbb0f9e72b7cd0b32ad5b8e190684843e17e3ea27f6865a40c912387c01493be", func := "loop.example/g00222/laws.FnExactHashFlow", spec := "fnExactHashFlow", apart := false, narrowed := true }
def FnExactHashFlowUptoSaid : Prop := fnExactHashFlowUptoRow.holds Try.pinned (OpenSpec.upto fnExactHashFlowSpec)

/-- 'laws.FnOrders', WHERE WHAT IT READS IS OF BULK AT MOST 1048576: true; the input reads as it did. -/
def fnOrdersUptoRow : OpenClaim := { program := "ytaellhlkjjooiaa", sum := "bbb0f9e72b7cd0b32ad5b8e190684843e17e3ea27f6865a40c912387c01493be", func := "loop.example/g00222/laws.FnOrders", spec := "fnOrders", apart := false, narrowed := true }
def FnOrdersUptoSaid : Prop := fnOrdersUptoRow.holds Try.pinned (OpenSpec.upto fnOrdersSpec)

/-- 'laws.FnExactPermutation', WHERE WHAT IT READS IS OF BULK AT MOST 1048576: true; the input reads as it did. -/
def fnExactPermutationUptoRow : OpenClaim := { program := "ytaellhlkjjooiaa", sum := "bbb0f9e72b7cd0b32ad5b8e190684843e17e3ea27f6865a40c912387c01493be", func := "loop.example/g00222/laws.FnExactPermutation", spec := "fnExactPermutation", apart := false, narrowed := true }
def FnExactPermutationUptoSaid : Prop := fnExactPermutationUptoRow.holds Try.pinned (OpenSpec.upto fnExactPermutationSpec)

/-- 'laws.FnHashes', WHERE WHAT IT READS IS OF BULK AT MOST 1048576: true; the input reads as it did. -/
def fnHashesUptoRow : OpenClaim := { program := "ytaellhlkjjooiaa", sum := "bbb0f9e72b7cd0b32ad5b8e190684843e17e3ea27f6865a40c912387c01493be", func := "loop.example/g00222/laws.FnHashes", spec := "fnHashes", apart := false, narrowed := true }
def FnHashesUptoSaid : Prop := fnHashesUptoRow.holds Try.pinned (OpenSpec.upto fnHashesSpec)

/-- 'laws.FnExactFlowOf', WHERE WHAT IT READS IS OF BULK AT MOST 1048576: true; the input reads as it did. -/
def fnExactFlowOfUptoRow : OpenClaim := { program := "ytaellhlkjjooiaa", sum := "bbb0f9e72b7cd0b32ad5b8e190684843e17e3ea27f6865a40c912387c01493be", func := "loop.example/g00222/laws.FnExactFlowOf", spec := "fnExactFlowOf", apart := false, narrowed := true }
def FnExactFlowOfUptoSaid : Prop := fnExactFlowOfUptoRow.holds Try.pinned (OpenSpec.upto fnExactFlowOfSpec)

/-- 'laws.FnExactUnpackCmd', WHERE WHAT IT READS IS OF BULK AT MOST 1048576: true; the input reads as it did. -/
def fnExactUnpackCmdUptoRow : OpenClaim := { program := "ytaellhlkjjooiaa", sum := "bbb0f9e72b7cd0b32ad5b8e190684843e17e3ea27f6865a40c912387c01493be", func := "loop.example/g00222/laws.FnExactUnpackCmd", spec := "fnExactUnpackCmd", apart := false, narrowed := true }
def FnExactUnpackCmdUptoSaid : Prop := fnExactUnpackCmdUptoRow.holds Try.pinned (OpenSpec.upto fnExactUnpackCmdSpec)

/-- 'laws.FnExactPackCmd', WHERE WHAT IT READS IS OF BULK AT MOST 1048576: true; the input reads as it did. -/
def fnExactPackCmdUptoRow : OpenClaim := { program := "ytaellhlkjjooiaa", sum := "bbb0f9e72b7cd0b32ad5b8e190684843e17e3ea27f6865a40c912387c01493be", func := "loop.example/g00222/laws.FnExactPackCmd", spec := "fnExactPackCmd", apart := false, narrowed := true }
def FnExactPackCmdUptoSaid : Prop := fnExactPackCmdUptoRow.holds Try.pinned (OpenSpec.upto fnExactPackCmdSpec)

end Rows
end Go.Proofs.Ytaellhlkjjooiaa
