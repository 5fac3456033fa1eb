/-
  No cell of these rows narrows 'for every input' (looked for: loops, veiled, ifaces, maps, wideKeys, modest, calm, conditions, laid).
  DERIVED. THE GIVEN ROWS OF THIS SEAT. 9 by the template 'for every input the law returns true; each argument reads behind the call as it read before'; 0 by the template 'total and deterministic' (their statements: YtfmlhpoaipeoeaaTotals.lean).
  GIVEN WITH THE SEED: the statements are not yours to turn. If you find one false, say at which input.
  Laid BY PROGRAM, IN A SANDBOX (cutbox-rows.mjs): the forced cells as the released guide's own fill.sh prints them over the translation ffc48afb78f97b87… (all of the seat's roots in one cut). By AI agents, Wed Nov 11 2026. No macro, syntax, notation, axiom, sorry.
-/
import Derived.Test.YtfmlhpoaipeoeaaChecked
import GoSem.Claim
import GoSem.ClaimJoined
import GoSem.ClaimMapViews
import Derived.JoinedTies
import Derived.KernelRfl
namespace Go.Proofs.Ytfmlhpoaipeoeaa
/- THE CELL 'sum', in the pinned program and in every row, IS THE sha256 OF THE DUMP (.gsa) THAT YtfmlhpoaipeoeaaProg.lean LOADS. Nothing in Lean hashes anything: it is a label: what it is worth is what the hold of that sum in a sandbox is worth. -/
noncomputable def Try.pinned : Pinned := { name := "ytfmlhpoaipeoeaa", sum := "ffc48afb78f97b8743d8f121f490ded4592620ce93ee1258ebd2dad567cf4705", checked := Try.checked }
namespace Rows
def none {H : Type} : Left H := { results := [], args := [] }

/-- 'laws.FnExactConfigFault': WHATEVER THE INPUT: true; the input reads as it did. -/
def fnExactConfigFaultSpec : ChangeSpec := { name := "fnExactConfigFault", fn := fun _ => fun
  | [d] => { results := [.lit (.bool true)], args := [d] }
  | _ => none }
def fnExactConfigFaultRow : OpenClaim := { program := "ytfmlhpoaipeoeaa", sum := "ffc48afb78f97b8743d8f121f490ded4592620ce93ee1258ebd2dad567cf4705", func := "loop.example/g00222/laws.FnExactConfigFault", spec := "fnExactConfigFault", unfollowed := true, recurses := true, apart := false }
def FnExactConfigFaultSaid : Prop := fnExactConfigFaultRow.holds Try.pinned (OpenSpec.ofChange fnExactConfigFaultSpec)

/-- ITS FALSE NEIGHBOUR: 'it returns false'. Refute it at one input. -/
def fnExactConfigFaultWrong : ChangeSpec := { name := "fnExactConfigFault", fn := fun _ => fun
  | [d] => { results := [.lit (.bool false)], args := [d] }
  | _ => none }
def FnExactConfigFaultWrongFalsely : Prop := fnExactConfigFaultRow.holds Try.pinned (OpenSpec.ofChange fnExactConfigFaultWrong)

/-- 'laws.FnExactBackendAt': WHATEVER THE INPUT: true; the input reads as it did. -/
def fnExactBackendAtSpec : ChangeSpec := { name := "fnExactBackendAt", fn := fun _ => fun
  | [d1, d2] => { results := [.lit (.bool true)], args := [d1, d2] }
  | _ => none }
def fnExactBackendAtRow : OpenClaim := { program := "ytfmlhpoaipeoeaa", sum := "ffc48afb78f97b8743d8f121f490ded4592620ce93ee1258ebd2dad567cf4705", func := "loop.example/g00222/laws.FnExactBackendAt", spec := "fnExactBackendAt", unfollowed := true, recurses := true, apart := false }
def FnExactBackendAtSaid : Prop := fnExactBackendAtRow.holds Try.pinned (OpenSpec.ofChange fnExactBackendAtSpec)

/-- ITS FALSE NEIGHBOUR: 'it returns false'. Refute it at one input. -/
def fnExactBackendAtWrong : ChangeSpec := { name := "fnExactBackendAt", fn := fun _ => fun
  | [d1, d2] => { results := [.lit (.bool false)], args := [d1, d2] }
  | _ => none }
def FnExactBackendAtWrongFalsely : Prop := fnExactBackendAtRow.holds Try.pinned (OpenSpec.ofChange fnExactBackendAtWrong)

/-- 'laws.FnExactVipFor': WHATEVER THE INPUT: true; the input reads as it did. -/
def fnExactVipForSpec : ChangeSpec := { name := "fnExactVipFor", fn := fun _ => fun
  | [d1, d2] => { results := [.lit (.bool true)], args := [d1, d2] }
  | _ => none }
def fnExactVipForRow : OpenClaim := { program := "ytfmlhpoaipeoeaa", sum := "ffc48afb78f97b8743d8f121f490ded4592620ce93ee1258ebd2dad567cf4705", func := "loop.example/g00222/laws.FnExactVipFor", spec := "fnExactVipFor", unfollowed := true, recurses := true, apart := false }
def FnExactVipForSaid : Prop := fnExactVipForRow.holds Try.pinned (OpenSpec.ofChange fnExactVipForSpec)

/-- ITS FALSE NEIGHBOUR: 'it returns false'. Refute it at one input. -/
def fnExactVipForWrong : ChangeSpec := { name := "fnExactVipFor", fn := fun _ => fun
  | [d1, d2] => { results := [.lit (.bool false)], args := [d1, d2] }
  | _ => none }
def FnExactVipForWrongFalsely : Prop := fnExactVipForRow.holds Try.pinned (OpenSpec.ofChange fnExactVipForWrong)

/-- 'laws.FnExactSharesFor': WHATEVER THE INPUT: true; the input reads as it did. -/
def fnExactSharesForSpec : ChangeSpec := { name := "fnExactSharesFor", fn := fun _ => fun
  | [d1, d2] => { results := [.lit (.bool true)], args := [d1, d2] }
  | _ => none }
def fnExactSharesForRow : OpenClaim := { program := "ytfmlhpoaipeoeaa", sum := "ffc48afb78f97b8743d8f121f490ded4592620ce93ee1258ebd2dad567cf4705", func := "loop.example/g00222/laws.FnExactSharesFor", spec := "fnExactSharesFor", unfollowed := true, recurses := true, apart := false }
def FnExactSharesForSaid : Prop := fnExactSharesForRow.holds Try.pinned (OpenSpec.ofChange fnExactSharesForSpec)

/-- ITS FALSE NEIGHBOUR: 'it returns false'. Refute it at one input. -/
def fnExactSharesForWrong : ChangeSpec := { name := "fnExactSharesFor", fn := fun _ => fun
  | [d1, d2] => { results := [.lit (.bool false)], args := [d1, d2] }
  | _ => none }
def FnExactSharesForWrongFalsely : Prop := fnExactSharesForRow.holds Try.pinned (OpenSpec.ofChange fnExactSharesForWrong)

/-- 'laws.FnDrained': WHATEVER THE INPUT: true; the input reads as it did. -/
def fnDrainedSpec : ChangeSpec := { name := "fnDrained", fn := fun _ => fun
  | [d] => { results := [.lit (.bool true)], args := [d] }
  | _ => none }
def fnDrainedRow : OpenClaim := { program := "ytfmlhpoaipeoeaa", sum := "ffc48afb78f97b8743d8f121f490ded4592620ce93ee1258ebd2dad567cf4705", func := "loop.example/g00222/laws.FnDrained", spec := "fnDrained", unfollowed := true, recurses := true, apart := false }
def FnDrainedSaid : Prop := fnDrainedRow.holds Try.pinned (OpenSpec.ofChange fnDrainedSpec)

/-- ITS FALSE NEIGHBOUR: 'it returns false'. Refute it at one input. -/
def fnDrainedWrong : ChangeSpec := { name := "fnDrained", fn := fun _ => fun
  | [d] => { results := [.lit (.bool false)], args := [d] }
  | _ => none }
def FnDrainedWrongFalsely : Prop := fnDrainedRow.holds Try.pinned (OpenSpec.ofChange fnDrainedWrong)

/-- 'laws.FnExactSameConfigs': WHATEVER THE INPUT: true; the input reads as it did. -/
def fnExactSameConfigsSpec : ChangeSpec := { name := "fnExactSameConfigs", fn := fun _ => fun
  | [d1, d2] => { results := [.lit (.bool true)], args := [d1, d2] }
  | _ => none }
def fnExactSameConfigsRow : OpenClaim := { program := "ytfmlhpoaipeoeaa", sum := "ffc48afb78f97b8743d8f121f490ded4592620ce93ee1258ebd2dad567cf4705", func := "loop.example/g00222/laws.FnExactSameConfigs", spec := "fnExactSameConfigs", unfollowed := true, recurses := true, apart := false }
def FnExactSameConfigsSaid : Prop := fnExactSameConfigsRow.holds Try.pinned (OpenSpec.ofChange fnExactSameConfigsSpec)

/-- ITS FALSE NEIGHBOUR: 'it returns false'. Refute it at one input. -/
def fnExactSameConfigsWrong : ChangeSpec := { name := "fnExactSameConfigs", fn := fun _ => fun
  | [d1, d2] => { results := [.lit (.bool false)], args := [d1, d2] }
  | _ => none }
def FnExactSameConfigsWrongFalsely : Prop := fnExactSameConfigsRow.holds Try.pinned (OpenSpec.ofChange fnExactSameConfigsWrong)

/-- 'laws.FnExactPackConfig': WHATEVER THE INPUT: true; the input reads as it did. -/
def fnExactPackConfigSpec : ChangeSpec := { name := "fnExactPackConfig", fn := fun _ => fun
  | [d] => { results := [.lit (.bool true)], args := [d] }
  | _ => none }
def fnExactPackConfigRow : OpenClaim := { program := "ytfmlhpoaipeoeaa", sum := "ffc48afb78f97b8743d8f121f490ded4592620ce93ee1258ebd2dad567cf4705", func := "loop.example/g00222/laws.FnExactPackConfig", spec := "fnExactPackConfig", unfollowed := true, recurses := true, apart := false }
def FnExactPackConfigSaid : Prop := fnExactPackConfigRow.holds Try.pinned (OpenSpec.ofChange fnExactPackConfigSpec)

/-- ITS FALSE NEIGHBOUR: 'it returns false'. Refute it at one input. -/
def fnExactPackConfigWrong : ChangeSpec := { name := "fnExactPackConfig", fn := fun _ => fun
  | [d] => { results := [.lit (.bool false)], args := [d] }
  | _ => none }
def FnExactPackConfigWrongFalsely : Prop := fnExactPackConfigRow.holds Try.pinned (OpenSpec.ofChange fnExactPackConfigWrong)

/-- 'laws.FnExactDeltaOf': WHATEVER THE INPUT: true; the input reads as it did. -/
def fnExactDeltaOfSpec : ChangeSpec := { name := "fnExactDeltaOf", fn := fun _ => fun
  | [d1, d2] => { results := [.lit (.bool true)], args := [d1, d2] }
  | _ => none }
def fnExactDeltaOfRow : OpenClaim := { program := "ytfmlhpoaipeoeaa", sum := "ffc48afb78f97b8743d8f121f490ded4592620ce93ee1258ebd2dad567cf4705", func := "loop.example/g00222/laws.FnExactDeltaOf", spec := "fnExactDeltaOf", unfollowed := true, recurses := true, apart := false }
def FnExactDeltaOfSaid : Prop := fnExactDeltaOfRow.holds Try.pinned (OpenSpec.ofChange fnExactDeltaOfSpec)

/-- ITS FALSE NEIGHBOUR: 'it returns false'. Refute it at one input. -/
def fnExactDeltaOfWrong : ChangeSpec := { name := "fnExactDeltaOf", fn := fun _ => fun
  | [d1, d2] => { results := [.lit (.bool false)], args := [d1, d2] }
  | _ => none }
def FnExactDeltaOfWrongFalsely : Prop := fnExactDeltaOfRow.holds Try.pinned (OpenSpec.ofChange fnExactDeltaOfWrong)

/-- 'laws.FnDeltas': WHATEVER THE INPUT: true; the input reads as it did. -/
def fnDeltasSpec : ChangeSpec := { name := "fnDeltas", fn := fun _ => fun
  | [d] => { results := [.lit (.bool true)], args := [d] }
  | _ => none }
def fnDeltasRow : OpenClaim := { program := "ytfmlhpoaipeoeaa", sum := "ffc48afb78f97b8743d8f121f490ded4592620ce93ee1258ebd2dad567cf4705", func := "loop.example/g00222/laws.FnDeltas", spec := "fnDeltas", unfollowed := true, recurses := true, apart := false }
def FnDeltasSaid : Prop := fnDeltasRow.holds Try.pinned (OpenSpec.ofChange fnDeltasSpec)

/-- ITS FALSE NEIGHBOUR: 'it returns false'. Refute it at one input. -/
def fnDeltasWrong : ChangeSpec := { name := "fnDeltas", fn := fun _ => fun
  | [d] => { results := [.lit (.bool false)], args := [d] }
  | _ => none }
def FnDeltasWrongFalsely : Prop := fnDeltasRow.holds Try.pinned (OpenSpec.ofChange fnDeltasWrong)

/- THE SECOND FORM. 'bulk': how many values and letters a reading holds, each counted each time it is reached (what is shared counts as often as it is met; a slice's spare places count too). A statement '..UptoSaid' is the law's where the arguments, and the package variables that the reading takes, are together of bulk at most 1048576: NARROWER than '..Said'. Prove '..Said' where nothing that the law and all that it calls make is longer than what came in: it says more and counts as full. Else prove '..UptoSaid'. A law counts once. -/
mutual
def uptoBulk {H : Type} : DataW H → Nat
  | .lit (.string bytes) => bytes.length + 1
  | .lit _ => 1
  | .nil => 1
  | .ptr d => uptoBulk d + 1
  | .slice elems spare => uptoBulkAll elems + uptoBulkAll spare + 1
  | .agg parts => uptoBulkAll parts + 1
  | .iface _ d => uptoBulk d + 1
  | .map entries => uptoBulkEntries entries + 1
  | .held _ => 1
def uptoBulkAll {H : Type} : List (DataW H) → Nat
  | [] => 0
  | d :: r => uptoBulk d + uptoBulkAll r
def uptoBulkEntries {H : Type} : List (Lit × DataW H) → Nat
  | [] => 0
  | x :: r => uptoBulkEntry x + uptoBulkEntries r
def uptoBulkEntry {H : Type} : Lit × DataW H → Nat
  | (.string bytes, d) => bytes.length + uptoBulk d + 1
  | (_, d) => uptoBulk d + 1
 end
def uptoSmall : (H : Type) → List (DataW H) → Bool := fun _ ds => decide (uptoBulkAll ds ≤ 1048576)
def OpenSpec.upto (s : _root_.Go.ChangeSpec) : _root_.Go.OpenSpec := { _root_.Go.OpenSpec.ofChange s with cond := some uptoSmall }

/-- 'laws.FnExactConfigFault', WHERE WHAT IT READS IS OF BULK AT MOST 1048576: true; the input reads as it did. -/
def fnExactConfigFaultUptoRow : OpenClaim := { program := "ytfmlhpoaipeoeaa", sum := "ffc48afb78f97b8743d8f121f490ded4592620ce93ee1258ebd2dad567cf4705", func := "loop.example/g00222/laws.FnExactConfigFault", spec := "fnExactConfigFault", unfollowed := true, recurses := true, apart := false, narrowed := true }
def FnExactConfigFaultUptoSaid : Prop := fnExactConfigFaultUptoRow.holds Try.pinned (OpenSpec.upto fnExactConfigFaultSpec)

/-- 'laws.FnExactBackendAt', WHERE WHAT IT READS IS OF BULK AT MOST 1048576: true; the input reads as it did. -/
def fnExactBackendAtUptoRow : OpenClaim := { program := "ytfmlhpoaipeoeaa", sum := "ffc48afb78f97b8743d8f121f490ded4592620ce93ee1258ebd2dad567cf4705", func := "loop.example/g00222/laws.FnExactBackendAt", spec := "fnExactBackendAt", unfollowed := true, recurses := true, apart := false, narrowed := true }
def FnExactBackendAtUptoSaid : Prop := fnExactBackendAtUptoRow.holds Try.pinned (OpenSpec.upto fnExactBackendAtSpec)

/-- 'laws.FnExactVipFor', WHERE WHAT IT READS IS OF BULK AT MOST 1048576: true; the input reads as it did. -/
def fnExactVipForUptoRow : OpenClaim := { program := "ytfmlhpoaipeoeaa", sum := "ffc48afb78f97b8743d8f121f490ded4592620ce93ee1258ebd2dad567cf4705", func := "loop.example/g00222/laws.FnExactVipFor", spec := "fnExactVipFor", unfollowed := true, recurses := true, apart := false, narrowed := true }
def FnExactVipForUptoSaid : Prop := fnExactVipForUptoRow.holds Try.pinned (OpenSpec.upto fnExactVipForSpec)

/-- 'laws.FnExactSharesFor', WHERE WHAT IT READS IS OF BULK AT MOST 1048576: true; the input reads as it did. -/
def fnExactSharesForUptoRow : OpenClaim := { program := "ytfmlhpoaipeoeaa", sum := "ffc48afb78f97b8743d8f121f490ded4592620ce93ee1258ebd2dad567cf4705", func := "loop.example/g00222/laws.FnExactSharesFor", spec := "fnExactSharesFor", unfollowed := true, recurses := true, apart := false, narrowed := true }
def FnExactSharesForUptoSaid : Prop := fnExactSharesForUptoRow.holds Try.pinned (OpenSpec.upto fnExactSharesForSpec)

/-- 'laws.FnDrained', WHERE WHAT IT READS IS OF BULK AT MOST 1048576: true; the input reads as it did. -/
def fnDrainedUptoRow : OpenClaim := { program := "ytfmlhpoaipeoeaa", sum := "ffc48afb78f97b8743d8f121f490ded4592620ce93ee1258ebd2dad567cf4705", func := "loop.example/g00222/laws.FnDrained", spec := "fnDrained", unfollowed := true, recurses := true, apart := false, narrowed := true }
def FnDrainedUptoSaid : Prop := fnDrainedUptoRow.holds Try.pinned (OpenSpec.upto fnDrainedSpec)

/-- 'laws.FnExactSameConfigs', WHERE WHAT IT READS IS OF BULK AT MOST 1048576: true; the input reads as it did. -/
def fnExactSameConfigsUptoRow : OpenClaim := { program := "ytfmlhpoaipeoeaa", sum := "ffc48afb78f97b8743d8f121f490ded4592620ce93ee1258ebd2dad567cf4705", func := "loop.example/g00222/laws.FnExactSameConfigs", spec := "fnExactSameConfigs", unfollowed := true, recurses := true, apart := false, narrowed := true }
def FnExactSameConfigsUptoSaid : Prop := fnExactSameConfigsUptoRow.holds Try.pinned (OpenSpec.upto fnExactSameConfigsSpec)

/-- 'laws.FnExactPackConfig', WHERE WHAT IT READS IS OF BULK AT MOST 1048576: true; the input reads as it did. -/
def fnExactPackConfigUptoRow : OpenClaim := { program := "ytfmlhpoaipeoeaa", sum := "ffc48afb78f97b8743d8f121f490ded4592620ce93ee1258ebd2dad567cf4705", func := "loop.example/g00222/laws.FnExactPackConfig", spec := "fnExactPackConfig", unfollowed := true, recurses := true, apart := false, narrowed := true }
def FnExactPackConfigUptoSaid : Prop := fnExactPackConfigUptoRow.holds Try.pinned (OpenSpec.upto fnExactPackConfigSpec)

/-- 'laws.FnExactDeltaOf', WHERE WHAT IT READS IS OF BULK AT MOST 1048576: true; the input reads as it did. -/
def fnExactDeltaOfUptoRow : OpenClaim := { program := "ytfmlhpoaipeoeaa", sum := "ffc48afb78f97b8743d8f121f490ded4592620ce93ee1258ebd2dad567cf4705", func := "loop.example/g00222/laws.FnExactDeltaOf", spec := "fnExactDeltaOf", unfollowed := true, recurses := true, apart := false, narrowed := true }
def FnExactDeltaOfUptoSaid : Prop := fnExactDeltaOfUptoRow.holds Try.pinned (OpenSpec.upto fnExactDeltaOfSpec)

/-- 'laws.FnDeltas', WHERE WHAT IT READS IS OF BULK AT MOST 1048576: true; the input reads as it did. -/
def fnDeltasUptoRow : OpenClaim := { program := "ytfmlhpoaipeoeaa", sum := "ffc48afb78f97b8743d8f121f490ded4592620ce93ee1258ebd2dad567cf4705", func := "loop.example/g00222/laws.FnDeltas", spec := "fnDeltas", unfollowed := true, recurses := true, apart := false, narrowed := true }
def FnDeltasUptoSaid : Prop := fnDeltasUptoRow.holds Try.pinned (OpenSpec.upto fnDeltasSpec)

end Rows
end Go.Proofs.Ytfmlhpoaipeoeaa
