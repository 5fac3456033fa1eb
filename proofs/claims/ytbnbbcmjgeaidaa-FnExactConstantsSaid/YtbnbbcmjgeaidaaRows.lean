/-
  No cell of these rows narrows 'for every input' (looked for: loops, veiled, ifaces, maps, wideKeys, modest, calm, conditions, laid).
  DERIVED. THE GIVEN ROWS OF THIS SEAT. 12 by the template 'for every input the law returns true; each argument reads behind the call as it read before'; 0 by the template 'total and deterministic' (their statements: YtbnbbcmjgeaidaaTotals.lean).
  GIVEN WITH THE SEED: the statements are not yours to turn. If you find one false, say at which input.
  Laid BY PROGRAM, IN A SANDBOX (cutbox-rows.mjs): the forced cells as the released guide's own fill.sh prints them over the translation 496d7a75be575296… (all of the seat's roots in one cut). By AI agents, Wed Nov 11 2026. No macro, syntax, notation, axiom, sorry.
-/
import Derived.Test.YtbnbbcmjgeaidaaChecked
import GoSem.Claim
import GoSem.ClaimJoined
import GoSem.ClaimMapViews
import Derived.JoinedTies
import Derived.KernelRfl
namespace Go.Proofs.Ytbnbbcmjgeaidaa
/- THE CELL 'sum', in the pinned program and in every row, IS THE sha256 OF THE DUMP (.gsa) THAT YtbnbbcmjgeaidaaProg.lean LOADS. Nothing in Lean hashes anything: it is a label: what it is worth is what the hold of that sum in a sandbox is worth. -/
noncomputable def Try.pinned : Pinned := { name := "ytbnbbcmjgeaidaa", sum := "496d7a75be575296ddf42ad184db0935b5f74b953d7e037cf12eb0b7f112003b", checked := Try.checked }
namespace Rows
def none {H : Type} : Left H := { results := [], args := [] }

/-- 'laws.FnExactConstants': WHATEVER THE INPUT: true; the input reads as it did. -/
def fnExactConstantsSpec : ChangeSpec := { name := "fnExactConstants", fn := fun _ => fun
  | [] => { results := [.lit (.bool true)], args := [] }
  | _ => none }
def fnExactConstantsRow : OpenClaim := { program := "ytbnbbcmjgeaidaa", sum := "496d7a75be575296ddf42ad184db0935b5f74b953d7e037cf12eb0b7f112003b", func := "loop.example/g00222/laws.FnExactConstants", spec := "fnExactConstants", apart := false }
def FnExactConstantsSaid : Prop := fnExactConstantsRow.holds Try.pinned (OpenSpec.ofChange fnExactConstantsSpec)

/-- ITS FALSE NEIGHBOUR: 'it returns false'. Refute it at one input. -/
def fnExactConstantsWrong : ChangeSpec := { name := "fnExactConstants", fn := fun _ => fun
  | [] => { results := [.lit (.bool false)], args := [] }
  | _ => none }
def FnExactConstantsWrongFalsely : Prop := fnExactConstantsRow.holds Try.pinned (OpenSpec.ofChange fnExactConstantsWrong)

/-- 'laws.FnExactMixNumber': WHATEVER THE INPUT: true; the input reads as it did. -/
def fnExactMixNumberSpec : ChangeSpec := { name := "fnExactMixNumber", fn := fun _ => fun
  | [d1, d2] => { results := [.lit (.bool true)], args := [d1, d2] }
  | _ => none }
def fnExactMixNumberRow : OpenClaim := { program := "ytbnbbcmjgeaidaa", sum := "496d7a75be575296ddf42ad184db0935b5f74b953d7e037cf12eb0b7f112003b", func := "loop.example/g00222/laws.FnExactMixNumber", spec := "fnExactMixNumber", apart := false }
def FnExactMixNumberSaid : Prop := fnExactMixNumberRow.holds Try.pinned (OpenSpec.ofChange fnExactMixNumberSpec)

/-- ITS FALSE NEIGHBOUR: 'it returns false'. Refute it at one input. -/
def fnExactMixNumberWrong : ChangeSpec := { name := "fnExactMixNumber", fn := fun _ => fun
  | [d1, d2] => { results := [.lit (.bool false)], args := [d1, d2] }
  | _ => none }
def FnExactMixNumberWrongFalsely : Prop := fnExactMixNumberRow.holds Try.pinned (OpenSpec.ofChange fnExactMixNumberWrong)

/-- 'laws.FnExactCountOf': WHATEVER THE INPUT: true; the input reads as it did. -/
def fnExactCountOfSpec : ChangeSpec := { name := "fnExactCountOf", fn := fun _ => fun
  | [d1, d2] => { results := [.lit (.bool true)], args := [d1, d2] }
  | _ => none }
def fnExactCountOfRow : OpenClaim := { program := "ytbnbbcmjgeaidaa", sum := "496d7a75be575296ddf42ad184db0935b5f74b953d7e037cf12eb0b7f112003b", func := "loop.example/g00222/laws.FnExactCountOf", spec := "fnExactCountOf", apart := false }
def FnExactCountOfSaid : Prop := fnExactCountOfRow.holds Try.pinned (OpenSpec.ofChange fnExactCountOfSpec)

/-- ITS FALSE NEIGHBOUR: 'it returns false'. Refute it at one input. -/
def fnExactCountOfWrong : ChangeSpec := { name := "fnExactCountOf", fn := fun _ => fun
  | [d1, d2] => { results := [.lit (.bool false)], args := [d1, d2] }
  | _ => none }
def FnExactCountOfWrongFalsely : Prop := fnExactCountOfRow.holds Try.pinned (OpenSpec.ofChange fnExactCountOfWrong)

/-- 'laws.FnExactLookTable': WHATEVER THE INPUT: true; the input reads as it did. -/
def fnExactLookTableSpec : ChangeSpec := { name := "fnExactLookTable", fn := fun _ => fun
  | [d1, d2] => { results := [.lit (.bool true)], args := [d1, d2] }
  | _ => none }
def fnExactLookTableRow : OpenClaim := { program := "ytbnbbcmjgeaidaa", sum := "496d7a75be575296ddf42ad184db0935b5f74b953d7e037cf12eb0b7f112003b", func := "loop.example/g00222/laws.FnExactLookTable", spec := "fnExactLookTable", apart := false }
def FnExactLookTableSaid : Prop := fnExactLookTableRow.holds Try.pinned (OpenSpec.ofChange fnExactLookTableSpec)

/-- ITS FALSE NEIGHBOUR: 'it returns false'. Refute it at one input. -/
def fnExactLookTableWrong : ChangeSpec := { name := "fnExactLookTable", fn := fun _ => fun
  | [d1, d2] => { results := [.lit (.bool false)], args := [d1, d2] }
  | _ => none }
def FnExactLookTableWrongFalsely : Prop := fnExactLookTableRow.holds Try.pinned (OpenSpec.ofChange fnExactLookTableWrong)

/-- 'laws.FnExactMovedOf': WHATEVER THE INPUT: true; the input reads as it did. -/
def fnExactMovedOfSpec : ChangeSpec := { name := "fnExactMovedOf", fn := fun _ => fun
  | [d1, d2] => { results := [.lit (.bool true)], args := [d1, d2] }
  | _ => none }
def fnExactMovedOfRow : OpenClaim := { program := "ytbnbbcmjgeaidaa", sum := "496d7a75be575296ddf42ad184db0935b5f74b953d7e037cf12eb0b7f112003b", func := "loop.example/g00222/laws.FnExactMovedOf", spec := "fnExactMovedOf", apart := false }
def FnExactMovedOfSaid : Prop := fnExactMovedOfRow.holds Try.pinned (OpenSpec.ofChange fnExactMovedOfSpec)

/-- ITS FALSE NEIGHBOUR: 'it returns false'. Refute it at one input. -/
def fnExactMovedOfWrong : ChangeSpec := { name := "fnExactMovedOf", fn := fun _ => fun
  | [d1, d2] => { results := [.lit (.bool false)], args := [d1, d2] }
  | _ => none }
def FnExactMovedOfWrongFalsely : Prop := fnExactMovedOfRow.holds Try.pinned (OpenSpec.ofChange fnExactMovedOfWrong)

/-- 'laws.FnExactOffsetOf': WHATEVER THE INPUT: true; the input reads as it did. -/
def fnExactOffsetOfSpec : ChangeSpec := { name := "fnExactOffsetOf", fn := fun _ => fun
  | [d] => { results := [.lit (.bool true)], args := [d] }
  | _ => none }
def fnExactOffsetOfRow : OpenClaim := { program := "ytbnbbcmjgeaidaa", sum := "496d7a75be575296ddf42ad184db0935b5f74b953d7e037cf12eb0b7f112003b", func := "loop.example/g00222/laws.FnExactOffsetOf", spec := "fnExactOffsetOf", apart := false }
def FnExactOffsetOfSaid : Prop := fnExactOffsetOfRow.holds Try.pinned (OpenSpec.ofChange fnExactOffsetOfSpec)

/-- ITS FALSE NEIGHBOUR: 'it returns false'. Refute it at one input. -/
def fnExactOffsetOfWrong : ChangeSpec := { name := "fnExactOffsetOf", fn := fun _ => fun
  | [d] => { results := [.lit (.bool false)], args := [d] }
  | _ => none }
def FnExactOffsetOfWrongFalsely : Prop := fnExactOffsetOfRow.holds Try.pinned (OpenSpec.ofChange fnExactOffsetOfWrong)

/-- 'laws.FnExactSkipOf': WHATEVER THE INPUT: true; the input reads as it did. -/
def fnExactSkipOfSpec : ChangeSpec := { name := "fnExactSkipOf", fn := fun _ => fun
  | [d] => { results := [.lit (.bool true)], args := [d] }
  | _ => none }
def fnExactSkipOfRow : OpenClaim := { program := "ytbnbbcmjgeaidaa", sum := "496d7a75be575296ddf42ad184db0935b5f74b953d7e037cf12eb0b7f112003b", func := "loop.example/g00222/laws.FnExactSkipOf", spec := "fnExactSkipOf", apart := false }
def FnExactSkipOfSaid : Prop := fnExactSkipOfRow.holds Try.pinned (OpenSpec.ofChange fnExactSkipOfSpec)

/-- ITS FALSE NEIGHBOUR: 'it returns false'. Refute it at one input. -/
def fnExactSkipOfWrong : ChangeSpec := { name := "fnExactSkipOf", fn := fun _ => fun
  | [d] => { results := [.lit (.bool false)], args := [d] }
  | _ => none }
def FnExactSkipOfWrongFalsely : Prop := fnExactSkipOfRow.holds Try.pinned (OpenSpec.ofChange fnExactSkipOfWrong)

/-- 'laws.FnExactTakeNumber': WHATEVER THE INPUT: true; the input reads as it did. -/
def fnExactTakeNumberSpec : ChangeSpec := { name := "fnExactTakeNumber", fn := fun _ => fun
  | [d1, d2, d3] => { results := [.lit (.bool true)], args := [d1, d2, d3] }
  | _ => none }
def fnExactTakeNumberRow : OpenClaim := { program := "ytbnbbcmjgeaidaa", sum := "496d7a75be575296ddf42ad184db0935b5f74b953d7e037cf12eb0b7f112003b", func := "loop.example/g00222/laws.FnExactTakeNumber", spec := "fnExactTakeNumber", apart := false }
def FnExactTakeNumberSaid : Prop := fnExactTakeNumberRow.holds Try.pinned (OpenSpec.ofChange fnExactTakeNumberSpec)

/-- ITS FALSE NEIGHBOUR: 'it returns false'. Refute it at one input. -/
def fnExactTakeNumberWrong : ChangeSpec := { name := "fnExactTakeNumber", fn := fun _ => fun
  | [d1, d2, d3] => { results := [.lit (.bool false)], args := [d1, d2, d3] }
  | _ => none }
def FnExactTakeNumberWrongFalsely : Prop := fnExactTakeNumberRow.holds Try.pinned (OpenSpec.ofChange fnExactTakeNumberWrong)

/-- 'laws.FnExactSumWords': WHATEVER THE INPUT: true; the input reads as it did. -/
def fnExactSumWordsSpec : ChangeSpec := { name := "fnExactSumWords", fn := fun _ => fun
  | [d] => { results := [.lit (.bool true)], args := [d] }
  | _ => none }
def fnExactSumWordsRow : OpenClaim := { program := "ytbnbbcmjgeaidaa", sum := "496d7a75be575296ddf42ad184db0935b5f74b953d7e037cf12eb0b7f112003b", func := "loop.example/g00222/laws.FnExactSumWords", spec := "fnExactSumWords", unfollowed := true, recurses := true, apart := false }
def FnExactSumWordsSaid : Prop := fnExactSumWordsRow.holds Try.pinned (OpenSpec.ofChange fnExactSumWordsSpec)

/-- ITS FALSE NEIGHBOUR: 'it returns false'. Refute it at one input. -/
def fnExactSumWordsWrong : ChangeSpec := { name := "fnExactSumWords", fn := fun _ => fun
  | [d] => { results := [.lit (.bool false)], args := [d] }
  | _ => none }
def FnExactSumWordsWrongFalsely : Prop := fnExactSumWordsRow.holds Try.pinned (OpenSpec.ofChange fnExactSumWordsWrong)

/-- 'laws.FnExactWholeSum': WHATEVER THE INPUT: true; the input reads as it did. -/
def fnExactWholeSumSpec : ChangeSpec := { name := "fnExactWholeSum", fn := fun _ => fun
  | [d] => { results := [.lit (.bool true)], args := [d] }
  | _ => none }
def fnExactWholeSumRow : OpenClaim := { program := "ytbnbbcmjgeaidaa", sum := "496d7a75be575296ddf42ad184db0935b5f74b953d7e037cf12eb0b7f112003b", func := "loop.example/g00222/laws.FnExactWholeSum", spec := "fnExactWholeSum", unfollowed := true, recurses := true, apart := false }
def FnExactWholeSumSaid : Prop := fnExactWholeSumRow.holds Try.pinned (OpenSpec.ofChange fnExactWholeSumSpec)

/-- ITS FALSE NEIGHBOUR: 'it returns false'. Refute it at one input. -/
def fnExactWholeSumWrong : ChangeSpec := { name := "fnExactWholeSum", fn := fun _ => fun
  | [d] => { results := [.lit (.bool false)], args := [d] }
  | _ => none }
def FnExactWholeSumWrongFalsely : Prop := fnExactWholeSumRow.holds Try.pinned (OpenSpec.ofChange fnExactWholeSumWrong)

/-- 'laws.FnExactSamePacket': WHATEVER THE INPUT: true; the input reads as it did. -/
def fnExactSamePacketSpec : ChangeSpec := { name := "fnExactSamePacket", fn := fun _ => fun
  | [d1, d2] => { results := [.lit (.bool true)], args := [d1, d2] }
  | _ => none }
def fnExactSamePacketRow : OpenClaim := { program := "ytbnbbcmjgeaidaa", sum := "496d7a75be575296ddf42ad184db0935b5f74b953d7e037cf12eb0b7f112003b", func := "loop.example/g00222/laws.FnExactSamePacket", spec := "fnExactSamePacket", apart := false }
def FnExactSamePacketSaid : Prop := fnExactSamePacketRow.holds Try.pinned (OpenSpec.ofChange fnExactSamePacketSpec)

/-- ITS FALSE NEIGHBOUR: 'it returns false'. Refute it at one input. -/
def fnExactSamePacketWrong : ChangeSpec := { name := "fnExactSamePacket", fn := fun _ => fun
  | [d1, d2] => { results := [.lit (.bool false)], args := [d1, d2] }
  | _ => none }
def FnExactSamePacketWrongFalsely : Prop := fnExactSamePacketRow.holds Try.pinned (OpenSpec.ofChange fnExactSamePacketWrong)

/-- 'laws.FnExactSharesFault': WHATEVER THE INPUT: true; the input reads as it did. -/
def fnExactSharesFaultSpec : ChangeSpec := { name := "fnExactSharesFault", fn := fun _ => fun
  | [d] => { results := [.lit (.bool true)], args := [d] }
  | _ => none }
def fnExactSharesFaultRow : OpenClaim := { program := "ytbnbbcmjgeaidaa", sum := "496d7a75be575296ddf42ad184db0935b5f74b953d7e037cf12eb0b7f112003b", func := "loop.example/g00222/laws.FnExactSharesFault", spec := "fnExactSharesFault", apart := false }
def FnExactSharesFaultSaid : Prop := fnExactSharesFaultRow.holds Try.pinned (OpenSpec.ofChange fnExactSharesFaultSpec)

/-- ITS FALSE NEIGHBOUR: 'it returns false'. Refute it at one input. -/
def fnExactSharesFaultWrong : ChangeSpec := { name := "fnExactSharesFault", fn := fun _ => fun
  | [d] => { results := [.lit (.bool false)], args := [d] }
  | _ => none }
def FnExactSharesFaultWrongFalsely : Prop := fnExactSharesFaultRow.holds Try.pinned (OpenSpec.ofChange fnExactSharesFaultWrong)

/- THE SECOND FORM. 'bulk': how many values and letters a reading holds, each counted each time it is reached (what is shared counts as often as it is met; a slice's spare places count too). A statement '..UptoSaid' is the law's where the arguments, and the package variables that the reading takes, are together of bulk at most 1048576: NARROWER than '..Said'. Prove '..Said' where nothing that the law and all that it calls make is longer than what came in: it says more and counts as full. Else prove '..UptoSaid'. A law counts once. -/
mutual
def uptoBulk {H : Type} : DataW H → Nat
  | .lit (.string bytes) => bytes.length + 1
  | .lit _ => 1
  | .nil => 1
  | .ptr d => uptoBulk d + 1
  | .slice elems spare => uptoBulkAll elems + uptoBulkAll spare + 1
  | .agg parts => uptoBulkAll parts + 1
  | .iface _ d => uptoBulk d + 1
  | .map entries => uptoBulkEntries entries + 1
  | .held _ => 1
def uptoBulkAll {H : Type} : List (DataW H) → Nat
  | [] => 0
  | d :: r => uptoBulk d + uptoBulkAll r
def uptoBulkEntries {H : Type} : List (Lit × DataW H) → Nat
  | [] => 0
  | x :: r => uptoBulkEntry x + uptoBulkEntries r
def uptoBulkEntry {H : Type} : Lit × DataW H → Nat
  | (.string bytes, d) => bytes.length + uptoBulk d + 1
  | (_, d) => uptoBulk d + 1
 end
def uptoSmall : (H : Type) → List (DataW H) → Bool := fun _ ds => decide (uptoBulkAll ds ≤ 1048576)
def OpenSpec.upto (s : _root_.Go.ChangeSpec) : _root_.Go.OpenSpec := { _root_.Go.OpenSpec.ofChange s with cond := some uptoSmall }

/-- 'laws.FnExactConstants', WHERE WHAT IT READS IS OF BULK AT MOST 1048576: true; the input reads as it did. -/
def fnExactConstantsUptoRow : OpenClaim := { program := "ytbnbbcmjgeaidaa", sum := "496d7a75be575296ddf42ad184db0935b5f74b953d7e037cf12eb0b7f112003b", func := "loop.example/g00222/laws.FnExactConstants", spec := "fnExactConstants", apart := false, narrowed := true }
def FnExactConstantsUptoSaid : Prop := fnExactConstantsUptoRow.holds Try.pinned (OpenSpec.upto fnExactConstantsSpec)

/-- 'laws.FnExactMixNumber', WHERE WHAT IT READS IS OF BULK AT MOST 1048576: true; the input reads as it did. -/
def fnExactMixNumberUptoRow : OpenClaim := { program := "ytbnbbcmjgeaidaa", sum := "496d7a75be575296ddf42ad184db0935b5f74b953d7e037cf12eb0b7f112003b", func := "loop.example/g00222/laws.FnExactMixNumber", spec := "fnExactMixNumber", apart := false, narrowed := true }
def FnExactMixNumberUptoSaid : Prop := fnExactMixNumberUptoRow.holds Try.pinned (OpenSpec.upto fnExactMixNumberSpec)

/-- 'laws.FnExactCountOf', WHERE WHAT IT READS IS OF BULK AT MOST 1048576: true; the input reads as it did. -/
def fnExactCountOfUptoRow : OpenClaim := { program := "ytbnbbcmjgeaidaa", sum := "496d7a75be575296ddf42ad184db0935b5f74b953d7e037cf12eb0b7f112003b", func := "loop.example/g00222/laws.FnExactCountOf", spec := "fnExactCountOf", apart := false, narrowed := true }
def FnExactCountOfUptoSaid : Prop := fnExactCountOfUptoRow.holds Try.pinned (OpenSpec.upto fnExactCountOfSpec)

/-- 'laws.FnExactLookTable', WHERE WHAT IT READS IS OF BULK AT MOST 1048576: true; the input reads as it did. -/
def fnExactLookTableUptoRow : OpenClaim := { program := "ytbnbbcmjgeaidaa", sum := "496d7a75be575296ddf42ad184db0935b5f74b953d7e037cf12eb0b7f112003b", func := "loop.example/g00222/laws.FnExactLookTable", spec := "fnExactLookTable", apart := false, narrowed := true }
def FnExactLookTableUptoSaid : Prop := fnExactLookTableUptoRow.holds Try.pinned (OpenSpec.upto fnExactLookTableSpec)

/-- 'laws.FnExactMovedOf', WHERE WHAT IT READS IS OF BULK AT MOST 1048576: true; the input reads as it did. -/
def fnExactMovedOfUptoRow : OpenClaim := { program := "ytbnbbcmjgeaidaa", sum := "496d7a75be575296ddf42ad184db0935b5f74b953d7e037cf12eb0b7f112003b", func := "loop.example/g00222/laws.FnExactMovedOf", spec := "fnExactMovedOf", apart := false, narrowed := true }
def FnExactMovedOfUptoSaid : Prop := fnExactMovedOfUptoRow.holds Try.pinned (OpenSpec.upto fnExactMovedOfSpec)

/-- 'laws.FnExactOffsetOf', WHERE WHAT IT READS IS OF BULK AT MOST 1048576: true; the input reads as it did. -/
def fnExactOffsetOfUptoRow : OpenClaim := { program := "ytbnbbcmjgeaidaa", sum := "496d7a75be575296ddf42ad184db0935b5f74b953d7e037cf12eb0b7f112003b", func := "loop.example/g00222/laws.FnExactOffsetOf", spec := "fnExactOffsetOf", apart := false, narrowed := true }
def FnExactOffsetOfUptoSaid : Prop := fnExactOffsetOfUptoRow.holds Try.pinned (OpenSpec.upto fnExactOffsetOfSpec)

/-- 'laws.FnExactSkipOf', WHERE WHAT IT READS IS OF BULK AT MOST 1048576: true; the input reads as it did. -/
def fnExactSkipOfUptoRow : OpenClaim := { program := "ytbnbbcmjgeaidaa", sum := "496d7a75be575296ddf42ad184db0935b5f74b953d7e037cf12eb0b7f112003b", func := "loop.example/g00222/laws.FnExactSkipOf", spec := "fnExactSkipOf", apart := false, narrowed := true }
def FnExactSkipOfUptoSaid : Prop := fnExactSkipOfUptoRow.holds Try.pinned (OpenSpec.upto fnExactSkipOfSpec)

/-- 'laws.FnExactTakeNumber', WHERE WHAT IT READS IS OF BULK AT MOST 1048576: true; the input reads as it did. -/
def fnExactTakeNumberUptoRow : OpenClaim := { program := "ytbnbbcmjgeaidaa", sum := "496d7a75be575296ddf42ad184db0935b5f74b953d7e037cf12eb0b7f112003b", func := "loop.example/g00222/laws.FnExactTakeNumber", spec := "fnExactTakeNumber", apart := false, narrowed := true }
def FnExactTakeNumberUptoSaid : Prop := fnExactTakeNumberUptoRow.holds Try.pinned (OpenSpec.upto fnExactTakeNumberSpec)

/-- 'laws.FnExactSumWords', WHERE WHAT IT READS IS OF BULK AT MOST 1048576: true; the input reads as it did. -/
def fnExactSumWordsUptoRow : OpenClaim := { program := "ytbnbbcmjgeaidaa", sum := "496d7a75be575296ddf42ad184db0935b5f74b953d7e037cf12eb0b7f112003b", func := "loop.example/g00222/laws.FnExactSumWords", spec := "fnExactSumWords", unfollowed := true, recurses := true, apart := false, narrowed := true }
def FnExactSumWordsUptoSaid : Prop := fnExactSumWordsUptoRow.holds Try.pinned (OpenSpec.upto fnExactSumWordsSpec)

/-- 'laws.FnExactWholeSum', WHERE WHAT IT READS IS OF BULK AT MOST 1048576: true; the input reads as it did. -/
def fnExactWholeSumUptoRow : OpenClaim := { program := "ytbnbbcmjgeaidaa", sum := "496d7a75be575296ddf42ad184db0935b5f74b953d7e037cf12eb0b7f112003b", func := "loop.example/g00222/laws.FnExactWholeSum", spec := "fnExactWholeSum", unfollowed := true, recurses := true, apart := false, narrowed := true }
def FnExactWholeSumUptoSaid : Prop := fnExactWholeSumUptoRow.holds Try.pinned (OpenSpec.upto fnExactWholeSumSpec)

/-- 'laws.FnExactSamePacket', WHERE WHAT IT READS IS OF BULK AT MOST 1048576: true; the input reads as it did. -/
def fnExactSamePacketUptoRow : OpenClaim := { program := "ytbnbbcmjgeaidaa", sum := "496d7a75be575296ddf42ad184db0935b5f74b953d7e037cf12eb0b7f112003b", func := "loop.example/g00222/laws.FnExactSamePacket", spec := "fnExactSamePacket", apart := false, narrowed := true }
def FnExactSamePacketUptoSaid : Prop := fnExactSamePacketUptoRow.holds Try.pinned (OpenSpec.upto fnExactSamePacketSpec)

/-- 'laws.FnExactSharesFault', WHERE WHAT IT READS IS OF BULK AT MOST 1048576: true; the input reads as it did. -/
def fnExactSharesFaultUptoRow : OpenClaim := { program := "ytbnbbcmjgeaidaa", sum := "496d7a75be575296ddf42ad184db0935b5f74b953d7e037cf12eb0b7f112003b", func := "loop.example/g00222/laws.FnExactSharesFault", spec := "fnExactSharesFault", apart := false, narrowed := true }
def FnExactSharesFaultUptoSaid : Prop := fnExactSharesFaultUptoRow.holds Try.pinned (OpenSpec.upto fnExactSharesFaultSpec)

end Rows
end Go.Proofs.Ytbnbbcmjgeaidaa
