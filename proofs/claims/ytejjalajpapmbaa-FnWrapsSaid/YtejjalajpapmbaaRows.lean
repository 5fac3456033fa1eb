/-
  No cell of these rows narrows 'for every input' (looked for: loops, veiled, ifaces, maps, wideKeys, modest, calm, conditions, laid).
  DERIVED. THE GIVEN ROWS OF THIS SEAT. 11 by the template 'for every input the law returns true; each argument reads behind the call as it read before'; 0 by the template 'total and deterministic' (their statements: YtejjalajpapmbaaTotals.lean).
  GIVEN WITH THE SEED: the statements are not yours to turn. If you find one false, say at which input.
  Laid BY PROGRAM, IN A SANDBOX (cutbox-rows.mjs): the forced cells as the released guide's own fill.sh prints them over the translation a59cfcd636f4a050… (all of the seat's roots in one cut). By AI agents, Wed Nov 11 2026. No macro, syntax, notation, axiom, sorry.
-/
import Derived.Test.YtejjalajpapmbaaChecked
import GoSem.Claim
import GoSem.ClaimJoined
import GoSem.ClaimMapViews
import Derived.JoinedTies
import Derived.KernelRfl
namespace Go.Proofs.Ytejjalajpapmbaa
/- THE CELL 'sum', in the pinned program and in every row, IS THE sha256 OF THE DUMP (.gsa) THAT YtejjalajpapmbaaProg.lean LOADS. Nothing in Lean hashes anything: it is a label: what it is worth is what the hold of that sum in a sandbox is worth. -/
noncomputable def Try.pinned : Pinned := { name := "ytejjalajpapmbaa", sum := "a59cfcd636f4a0506f0a7bec3a79001bae0647aa42d40e5a862b32a0b8c11598", checked := Try.checked }
namespace Rows
def none {H : Type} : Left H := { results := [], args := [] }

/-- 'laws.FnExactSumWords': WHATEVER THE INPUT: true; the input reads as it did. -/
def fnExactSumWordsSpec : ChangeSpec := { name := "fnExactSumWords", fn := fun _ => fun
  | [d] => { results := [.lit (.bool true)], args := [d] }
  | _ => none }
def fnExactSumWordsRow : OpenClaim := { program := "ytejjalajpapmbaa", sum := "a59cfcd636f4a0506f0a7bec3a79001bae0647aa42d40e5a862b32a0b8c11598", func := "loop.example/g00222/laws.FnExactSumWords", spec := "fnExactSumWords", unfollowed := true, recurses := true, apart := false }
def FnExactSumWordsSaid : Prop := fnExactSumWordsRow.holds Try.pinned (OpenSpec.ofChange fnExactSumWordsSpec)

/-- ITS FALSE NEIGHBOUR: 'it returns false'. Refute it at one input. -/
def fnExactSumWordsWrong : ChangeSpec := { name := "fnExactSumWords", fn := fun _ => fun
  | [d] => { results := [.lit (.bool false)], args := [d] }
  | _ => none }
def FnExactSumWordsWrongFalsely : Prop := fnExactSumWordsRow.holds Try.pinned (OpenSpec.ofChange fnExactSumWordsWrong)

/-- 'laws.FnExactWholeSum': WHATEVER THE INPUT: true; the input reads as it did. -/
def fnExactWholeSumSpec : ChangeSpec := { name := "fnExactWholeSum", fn := fun _ => fun
  | [d] => { results := [.lit (.bool true)], args := [d] }
  | _ => none }
def fnExactWholeSumRow : OpenClaim := { program := "ytejjalajpapmbaa", sum := "a59cfcd636f4a0506f0a7bec3a79001bae0647aa42d40e5a862b32a0b8c11598", func := "loop.example/g00222/laws.FnExactWholeSum", spec := "fnExactWholeSum", unfollowed := true, recurses := true, apart := false }
def FnExactWholeSumSaid : Prop := fnExactWholeSumRow.holds Try.pinned (OpenSpec.ofChange fnExactWholeSumSpec)

/-- ITS FALSE NEIGHBOUR: 'it returns false'. Refute it at one input. -/
def fnExactWholeSumWrong : ChangeSpec := { name := "fnExactWholeSum", fn := fun _ => fun
  | [d] => { results := [.lit (.bool false)], args := [d] }
  | _ => none }
def FnExactWholeSumWrongFalsely : Prop := fnExactWholeSumRow.holds Try.pinned (OpenSpec.ofChange fnExactWholeSumWrong)

/-- 'laws.FnSums': WHATEVER THE INPUT: true; the input reads as it did. -/
def fnSumsSpec : ChangeSpec := { name := "fnSums", fn := fun _ => fun
  | [d] => { results := [.lit (.bool true)], args := [d] }
  | _ => none }
def fnSumsRow : OpenClaim := { program := "ytejjalajpapmbaa", sum := "a59cfcd636f4a0506f0a7bec3a79001bae0647aa42d40e5a862b32a0b8c11598", func := "loop.example/g00222/laws.FnSums", spec := "fnSums", unfollowed := true, recurses := true, apart := false }
def FnSumsSaid : Prop := fnSumsRow.holds Try.pinned (OpenSpec.ofChange fnSumsSpec)

/-- ITS FALSE NEIGHBOUR: 'it returns false'. Refute it at one input. -/
def fnSumsWrong : ChangeSpec := { name := "fnSums", fn := fun _ => fun
  | [d] => { results := [.lit (.bool false)], args := [d] }
  | _ => none }
def FnSumsWrongFalsely : Prop := fnSumsRow.holds Try.pinned (OpenSpec.ofChange fnSumsWrong)

/-- 'laws.FnExactPutFrame': WHATEVER THE INPUT: true; the input reads as it did. -/
def fnExactPutFrameSpec : ChangeSpec := { name := "fnExactPutFrame", fn := fun _ => fun
  | [d] => { results := [.lit (.bool true)], args := [d] }
  | _ => none }
def fnExactPutFrameRow : OpenClaim := { program := "ytejjalajpapmbaa", sum := "a59cfcd636f4a0506f0a7bec3a79001bae0647aa42d40e5a862b32a0b8c11598", func := "loop.example/g00222/laws.FnExactPutFrame", spec := "fnExactPutFrame", unfollowed := true, recurses := true, apart := false }
def FnExactPutFrameSaid : Prop := fnExactPutFrameRow.holds Try.pinned (OpenSpec.ofChange fnExactPutFrameSpec)

/-- ITS FALSE NEIGHBOUR: 'it returns false'. Refute it at one input. -/
def fnExactPutFrameWrong : ChangeSpec := { name := "fnExactPutFrame", fn := fun _ => fun
  | [d] => { results := [.lit (.bool false)], args := [d] }
  | _ => none }
def FnExactPutFrameWrongFalsely : Prop := fnExactPutFrameRow.holds Try.pinned (OpenSpec.ofChange fnExactPutFrameWrong)

/-- 'laws.FnExactTakeFrames': WHATEVER THE INPUT: true; the input reads as it did. -/
def fnExactTakeFramesSpec : ChangeSpec := { name := "fnExactTakeFrames", fn := fun _ => fun
  | [d] => { results := [.lit (.bool true)], args := [d] }
  | _ => none }
def fnExactTakeFramesRow : OpenClaim := { program := "ytejjalajpapmbaa", sum := "a59cfcd636f4a0506f0a7bec3a79001bae0647aa42d40e5a862b32a0b8c11598", func := "loop.example/g00222/laws.FnExactTakeFrames", spec := "fnExactTakeFrames", unfollowed := true, recurses := true, apart := false }
def FnExactTakeFramesSaid : Prop := fnExactTakeFramesRow.holds Try.pinned (OpenSpec.ofChange fnExactTakeFramesSpec)

/-- ITS FALSE NEIGHBOUR: 'it returns false'. Refute it at one input. -/
def fnExactTakeFramesWrong : ChangeSpec := { name := "fnExactTakeFrames", fn := fun _ => fun
  | [d] => { results := [.lit (.bool false)], args := [d] }
  | _ => none }
def FnExactTakeFramesWrongFalsely : Prop := fnExactTakeFramesRow.holds Try.pinned (OpenSpec.ofChange fnExactTakeFramesWrong)

/-- 'laws.FnFrames': WHATEVER THE INPUT: true; the input reads as it did. -/
def fnFramesSpec : ChangeSpec := { name := "fnFrames", fn := fun _ => fun
  | [d] => { results := [.lit (.bool true)], args := [d] }
  | _ => none }
def fnFramesRow : OpenClaim := { program := "ytejjalajpapmbaa", sum := "a59cfcd636f4a0506f0a7bec3a79001bae0647aa42d40e5a862b32a0b8c11598", func := "loop.example/g00222/laws.FnFrames", spec := "fnFrames", unfollowed := true, recurses := true, apart := false }
def FnFramesSaid : Prop := fnFramesRow.holds Try.pinned (OpenSpec.ofChange fnFramesSpec)

/-- ITS FALSE NEIGHBOUR: 'it returns false'. Refute it at one input. -/
def fnFramesWrong : ChangeSpec := { name := "fnFrames", fn := fun _ => fun
  | [d] => { results := [.lit (.bool false)], args := [d] }
  | _ => none }
def FnFramesWrongFalsely : Prop := fnFramesRow.holds Try.pinned (OpenSpec.ofChange fnFramesWrong)

/-- 'laws.FnExactWrapGre': WHATEVER THE INPUT: true; the input reads as it did. -/
def fnExactWrapGreSpec : ChangeSpec := { name := "fnExactWrapGre", fn := fun _ => fun
  | [d1, d2, d3] => { results := [.lit (.bool true)], args := [d1, d2, d3] }
  | _ => none }
def fnExactWrapGreRow : OpenClaim := { program := "ytejjalajpapmbaa", sum := "a59cfcd636f4a0506f0a7bec3a79001bae0647aa42d40e5a862b32a0b8c11598", func := "loop.example/g00222/laws.FnExactWrapGre", spec := "fnExactWrapGre", unfollowed := true, recurses := true, apart := false }
def FnExactWrapGreSaid : Prop := fnExactWrapGreRow.holds Try.pinned (OpenSpec.ofChange fnExactWrapGreSpec)

/-- ITS FALSE NEIGHBOUR: 'it returns false'. Refute it at one input. -/
def fnExactWrapGreWrong : ChangeSpec := { name := "fnExactWrapGre", fn := fun _ => fun
  | [d1, d2, d3] => { results := [.lit (.bool false)], args := [d1, d2, d3] }
  | _ => none }
def FnExactWrapGreWrongFalsely : Prop := fnExactWrapGreRow.holds Try.pinned (OpenSpec.ofChange fnExactWrapGreWrong)

/-- 'laws.FnExactUnwrapGre': WHATEVER THE INPUT: true; the input reads as it did. -/
def fnExactUnwrapGreSpec : ChangeSpec := { name := "fnExactUnwrapGre", fn := fun _ => fun
  | [d] => { results := [.lit (.bool true)], args := [d] }
  | _ => none }
def fnExactUnwrapGreRow : OpenClaim := { program := "ytejjalajpapmbaa", sum := "a59cfcd636f4a0506f0a7bec3a79001bae0647aa42d40e5a862b32a0b8c11598", func := "loop.example/g00222/laws.FnExactUnwrapGre", spec := "fnExactUnwrapGre", unfollowed := true, recurses := true, apart := false }
def FnExactUnwrapGreSaid : Prop := fnExactUnwrapGreRow.holds Try.pinned (OpenSpec.ofChange fnExactUnwrapGreSpec)

/-- ITS FALSE NEIGHBOUR: 'it returns false'. Refute it at one input. -/
def fnExactUnwrapGreWrong : ChangeSpec := { name := "fnExactUnwrapGre", fn := fun _ => fun
  | [d] => { results := [.lit (.bool false)], args := [d] }
  | _ => none }
def FnExactUnwrapGreWrongFalsely : Prop := fnExactUnwrapGreRow.holds Try.pinned (OpenSpec.ofChange fnExactUnwrapGreWrong)

/-- 'laws.FnWraps': WHATEVER THE INPUT: true; the input reads as it did. -/
def fnWrapsSpec : ChangeSpec := { name := "fnWraps", fn := fun _ => fun
  | [d] => { results := [.lit (.bool true)], args := [d] }
  | _ => none }
def fnWrapsRow : OpenClaim := { program := "ytejjalajpapmbaa", sum := "a59cfcd636f4a0506f0a7bec3a79001bae0647aa42d40e5a862b32a0b8c11598", func := "loop.example/g00222/laws.FnWraps", spec := "fnWraps", unfollowed := true, recurses := true, apart := false }
def FnWrapsSaid : Prop := fnWrapsRow.holds Try.pinned (OpenSpec.ofChange fnWrapsSpec)

/-- ITS FALSE NEIGHBOUR: 'it returns false'. Refute it at one input. -/
def fnWrapsWrong : ChangeSpec := { name := "fnWraps", fn := fun _ => fun
  | [d] => { results := [.lit (.bool false)], args := [d] }
  | _ => none }
def FnWrapsWrongFalsely : Prop := fnWrapsRow.holds Try.pinned (OpenSpec.ofChange fnWrapsWrong)

/-- 'laws.FnExactBuildPacket': WHATEVER THE INPUT: true; the input reads as it did. -/
def fnExactBuildPacketSpec : ChangeSpec := { name := "fnExactBuildPacket", fn := fun _ => fun
  | [d] => { results := [.lit (.bool true)], args := [d] }
  | _ => none }
def fnExactBuildPacketRow : OpenClaim := { program := "ytejjalajpapmbaa", sum := "a59cfcd636f4a0506f0a7bec3a79001bae0647aa42d40e5a862b32a0b8c11598", func := "loop.example/g00222/laws.FnExactBuildPacket", spec := "fnExactBuildPacket", unfollowed := true, recurses := true, apart := false }
def FnExactBuildPacketSaid : Prop := fnExactBuildPacketRow.holds Try.pinned (OpenSpec.ofChange fnExactBuildPacketSpec)

/-- ITS FALSE NEIGHBOUR: 'it returns false'. Refute it at one input. -/
def fnExactBuildPacketWrong : ChangeSpec := { name := "fnExactBuildPacket", fn := fun _ => fun
  | [d] => { results := [.lit (.bool false)], args := [d] }
  | _ => none }
def FnExactBuildPacketWrongFalsely : Prop := fnExactBuildPacketRow.holds Try.pinned (OpenSpec.ofChange fnExactBuildPacketWrong)

/-- 'laws.FnExactParsePacket': WHATEVER THE INPUT: true; the input reads as it did. -/
def fnExactParsePacketSpec : ChangeSpec := { name := "fnExactParsePacket", fn := fun _ => fun
  | [d] => { results := [.lit (.bool true)], args := [d] }
  | _ => none }
def fnExactParsePacketRow : OpenClaim := { program := "ytejjalajpapmbaa", sum := "a59cfcd636f4a0506f0a7bec3a79001bae0647aa42d40e5a862b32a0b8c11598", func := "loop.example/g00222/laws.FnExactParsePacket", spec := "fnExactParsePacket", unfollowed := true, recurses := true, apart := false }
def FnExactParsePacketSaid : Prop := fnExactParsePacketRow.holds Try.pinned (OpenSpec.ofChange fnExactParsePacketSpec)

/-- ITS FALSE NEIGHBOUR: 'it returns false'. Refute it at one input. -/
def fnExactParsePacketWrong : ChangeSpec := { name := "fnExactParsePacket", fn := fun _ => fun
  | [d] => { results := [.lit (.bool false)], args := [d] }
  | _ => none }
def FnExactParsePacketWrongFalsely : Prop := fnExactParsePacketRow.holds Try.pinned (OpenSpec.ofChange fnExactParsePacketWrong)

/- THE SECOND FORM. 'bulk': how many values and letters a reading holds, each counted each time it is reached (what is shared counts as often as it is met; a slice's spare places count too). A statement '..UptoSaid' is the law's where the arguments, and the package variables that the reading takes, are together of bulk at most 1048576: NARROWER than '..Said'. Prove '..Said' where nothing that the law and all that it calls make is longer than what came in: it says more and counts as full. Else prove '..UptoSaid'. A law counts once. -/
mutual
def uptoBulk {H : Type} : DataW H → Nat
  | .lit (.string bytes) => bytes.length + 1
  | .lit _ => 1
  | .nil => 1
  | .ptr d => uptoBulk d + 1
  | .slice elems spare => uptoBulkAll elems + uptoBulkAll spare + 1
  | .agg parts => uptoBulkAll parts + 1
  | .iface _ d => uptoBulk d + 1
  | .map entries => uptoBulkEntries entries + 1
  | .held _ => 1
def uptoBulkAll {H : Type} : List (DataW H) → Nat
  | [] => 0
  | d :: r => uptoBulk d + uptoBulkAll r
def uptoBulkEntries {H : Type} : List (Lit × DataW H) → Nat
  | [] => 0
  | x :: r => uptoBulkEntry x + uptoBulkEntries r
def uptoBulkEntry {H : Type} : Lit × DataW H → Nat
  | (.string bytes, d) => bytes.length + uptoBulk d + 1
  | (_, d) => uptoBulk d + 1
 end
def uptoSmall : (H : Type) → List (DataW H) → Bool := fun _ ds => decide (uptoBulkAll ds ≤ 1048576)
def OpenSpec.upto (s : _root_.Go.ChangeSpec) : _root_.Go.OpenSpec := { _root_.Go.OpenSpec.ofChange s with cond := some uptoSmall }

/-- 'laws.FnExactSumWords', WHERE WHAT IT READS IS OF BULK AT MOST 1048576: true; the input reads as it did. -/
def fnExactSumWordsUptoRow : OpenClaim := { program := "ytejjalajpapmbaa", sum := "a59cfcd636f4a0506f0a7bec3a79001bae0647aa42d40e5a862b32a0b8c11598", func := "loop.example/g00222/laws.FnExactSumWords", spec := "fnExactSumWords", unfollowed := true, recurses := true, apart := false, narrowed := true }
def FnExactSumWordsUptoSaid : Prop := fnExactSumWordsUptoRow.holds Try.pinned (OpenSpec.upto fnExactSumWordsSpec)

/-- 'laws.FnExactWholeSum', WHERE WHAT IT READS IS OF BULK AT MOST 1048576: true; the input reads as it did. -/
def fnExactWholeSumUptoRow : OpenClaim := { program := "ytejjalajpapmbaa", sum := "a59cfcd636f4a0506f0a7bec3a79001bae0647aa42d40e5a862b32a0b8c11598", func := "loop.example/g00222/laws.FnExactWholeSum", spec := "fnExactWholeSum", unfollowed := true, recurses := true, apart := false, narrowed := true }
def FnExactWholeSumUptoSaid : Prop := fnExactWholeSumUptoRow.holds Try.pinned (OpenSpec.upto fnExactWholeSumSpec)

/-- 'laws.FnSums', WHERE WHAT IT READS IS OF BULK AT MOST 1048576: true; the input reads as it did. -/
def fnSumsUptoRow : OpenClaim := { program := "ytejjalajpapmbaa", sum := "a59cfcd636f4a0506f0a7bec3a79001bae0647aa42d40e5a862b32a0b8c11598", func := "loop.example/g00222/laws.FnSums", spec := "fnSums", unfollowed := true, recurses := true, apart := false, narrowed := true }
def FnSumsUptoSaid : Prop := fnSumsUptoRow.holds Try.pinned (OpenSpec.upto fnSumsSpec)

/-- 'laws.FnExactPutFrame', WHERE WHAT IT READS IS OF BULK AT MOST 1048576: true; the input reads as it did. -/
def fnExactPutFrameUptoRow : OpenClaim := { program := "ytejjalajpapmbaa", sum := "a59cfcd636f4a0506f0a7bec3a79001bae0647aa42d40e5a862b32a0b8c11598", func := "loop.example/g00222/laws.FnExactPutFrame", spec := "fnExactPutFrame", unfollowed := true, recurses := true, apart := false, narrowed := true }
def FnExactPutFrameUptoSaid : Prop := fnExactPutFrameUptoRow.holds Try.pinned (OpenSpec.upto fnExactPutFrameSpec)

/-- 'laws.FnExactTakeFrames', WHERE WHAT IT READS IS OF BULK AT MOST 1048576: true; the input reads as it did. -/
def fnExactTakeFramesUptoRow : OpenClaim := { program := "ytejjalajpapmbaa", sum := "a59cfcd636f4a0506f0a7bec3a79001bae0647aa42d40e5a862b32a0b8c11598", func := "loop.example/g00222/laws.FnExactTakeFrames", spec := "fnExactTakeFrames", unfollowed := true, recurses := true, apart := false, narrowed := true }
def FnExactTakeFramesUptoSaid : Prop := fnExactTakeFramesUptoRow.holds Try.pinned (OpenSpec.upto fnExactTakeFramesSpec)

/-- 'laws.FnFrames', WHERE WHAT IT READS IS OF BULK AT MOST 1048576: true; the input reads as it did. -/
def fnFramesUptoRow : OpenClaim := { program := "ytejjalajpapmbaa", sum := "a59cfcd636f4a0506f0a7bec3a79001bae0647aa42d40e5a862b32a0b8c11598", func := "loop.example/g00222/laws.FnFrames", spec := "fnFrames", unfollowed := true, recurses := true, apart := false, narrowed := true }
def FnFramesUptoSaid : Prop := fnFramesUptoRow.holds Try.pinned (OpenSpec.upto fnFramesSpec)

/-- 'laws.FnExactWrapGre', WHERE WHAT IT READS IS OF BULK AT MOST 1048576: true; the input reads as it did. -/
def fnExactWrapGreUptoRow : OpenClaim := { program := "ytejjalajpapmbaa", sum := "a59cfcd636f4a0506f0a7bec3a79001bae0647aa42d40e5a862b32a0b8c11598", func := "loop.example/g00222/laws.FnExactWrapGre", spec := "fnExactWrapGre", unfollowed := true, recurses := true, apart := false, narrowed := true }
def FnExactWrapGreUptoSaid : Prop := fnExactWrapGreUptoRow.holds Try.pinned (OpenSpec.upto fnExactWrapGreSpec)

/-- 'laws.FnExactUnwrapGre', WHERE WHAT IT READS IS OF BULK AT MOST 1048576: true; the input reads as it did. -/
def fnExactUnwrapGreUptoRow : OpenClaim := { program := "ytejjalajpapmbaa", sum := "a59cfcd636f4a0506f0a7bec3a79001bae0647aa42d40e5a862b32a0b8c11598", func := "loop.example/g00222/laws.FnExactUnwrapGre", spec := "fnExactUnwrapGre", unfollowed := true, recurses := true, apart := false, narrowed := true }
def FnExactUnwrapGreUptoSaid : Prop := fnExactUnwrapGreUptoRow.holds Try.pinned (OpenSpec.upto fnExactUnwrapGreSpec)

/-- 'laws.FnWraps', WHERE WHAT IT READS IS OF BULK AT MOST 1048576: true; the input reads as it did. -/
def fnWrapsUptoRow : OpenClaim := { program := "ytejjalajpapmbaa", sum := "a59cfcd636f4a0506f0a7bec3a79001bae0647aa42d40e5a862b32a0b8c11598", func := "loop.example/g00222/laws.FnWraps", spec := "fnWraps", unfollowed := true, recurses := true, apart := false, narrowed := true }
def FnWrapsUptoSaid : Prop := fnWrapsUptoRow.holds Try.pinned (OpenSpec.upto fnWrapsSpec)

/-- 'laws.FnExactBuildPacket', WHERE WHAT IT READS IS OF BULK AT MOST 1048576: true; the input reads as it did. -/
def fnExactBuildPacketUptoRow : OpenClaim := { program := "ytejjalajpapmbaa", sum := "a59cfcd636f4a0506f0a7bec3a79001bae0647aa42d40e5a862b32a0b8c11598", func := "loop.example/g00222/laws.FnExactBuildPacket", spec := "fnExactBuildPacket", unfollowed := true, recurses := true, apart := false, narrowed := true }
def FnExactBuildPacketUptoSaid : Prop := fnExactBuildPacketUptoRow.holds Try.pinned (OpenSpec.upto fnExactBuildPacketSpec)

/-- 'laws.FnExactParsePacket', WHERE WHAT IT READS IS OF BULK AT MOST 1048576: true; the input reads as it did. -/
def fnExactParsePacketUptoRow : OpenClaim := { program := "ytejjalajpapmbaa", sum := "a59cfcd636f4a0506f0a7bec3a79001bae0647aa42d40e5a862b32a0b8c11598", func := "loop.example/g00222/laws.FnExactParsePacket", spec := "fnExactParsePacket", unfollowed := true, recurses := true, apart := false, narrowed := true }
def FnExactParsePacketUptoSaid : Prop := fnExactParsePacketUptoRow.holds Try.pinned (OpenSpec.upto fnExactParsePacketSpec)

end Rows
end Go.Proofs.Ytejjalajpapmbaa
