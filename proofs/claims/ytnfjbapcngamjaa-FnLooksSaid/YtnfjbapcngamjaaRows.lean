/-
  No cell of these rows narrows 'for every input' (looked for: loops, veiled, ifaces, maps, wideKeys, modest, calm, conditions, laid).
  DERIVED. THE GIVEN ROWS OF THIS SEAT. 6 by the template 'for every input the law returns true; each argument reads behind the call as it read before'; 0 by the template 'total and deterministic' (their statements: YtnfjbapcngamjaaTotals.lean).
  GIVEN WITH THE SEED: the statements are not yours to turn. If you find one false, say at which input.
  Laid BY PROGRAM, IN A SANDBOX (cutbox-rows.mjs): the forced cells as the released guide's own fill.sh prints them over the translation e83c82e4859b2000… (all of the seat's roots in one cut). By AI agents, Wed Nov 11 2026. No macro, syntax, notation, axiom, sorry.
-/
import Derived.Test.YtnfjbapcngamjaaChecked
import GoSem.Claim
import GoSem.ClaimJoined
import GoSem.ClaimMapViews
import Derived.JoinedTies
import Derived.KernelRfl
namespace Go.Proofs.Ytnfjbapcngamjaa
/- THE CELL 'sum', in the pinned program and in every row, IS THE sha256 OF THE DUMP (.gsa) THAT YtnfjbapcngamjaaProg.lean LOADS. Nothing in Lean hashes anything: it is a label: what it is worth is what the hold of that sum in a sandbox is worth. -/
noncomputable def Try.pinned : Pinned := { name := "ytnfjbapcngamjaa", sum := "e83c82e4859b2000ce0846e8b0529b41317bac883aeb8358a11dc98d9cd136f7", checked := Try.checked }
namespace Rows
def none {H : Type} : Left H := { results := [], args := [] }

/-- 'laws.FnExactSharesFault': WHATEVER THE INPUT: true; the input reads as it did. -/
def fnExactSharesFaultSpec : ChangeSpec := { name := "fnExactSharesFault", fn := fun _ => fun
  | [d] => { results := [.lit (.bool true)], args := [d] }
  | _ => none }
def fnExactSharesFaultRow : OpenClaim := { program := "ytnfjbapcngamjaa", sum := "e83c82e4859b2000ce0846e8b0529b41317bac883aeb8358a11dc98d9cd136f7", func := "loop.example/g00222/laws.FnExactSharesFault", spec := "fnExactSharesFault", apart := false }
def FnExactSharesFaultSaid : Prop := fnExactSharesFaultRow.holds Try.pinned (OpenSpec.ofChange fnExactSharesFaultSpec)

/-- ITS FALSE NEIGHBOUR: 'it returns false'. Refute it at one input. -/
def fnExactSharesFaultWrong : ChangeSpec := { name := "fnExactSharesFault", fn := fun _ => fun
  | [d] => { results := [.lit (.bool false)], args := [d] }
  | _ => none }
def FnExactSharesFaultWrongFalsely : Prop := fnExactSharesFaultRow.holds Try.pinned (OpenSpec.ofChange fnExactSharesFaultWrong)

/-- 'laws.FnExactWithoutShare': WHATEVER THE INPUT: true; the input reads as it did. -/
def fnExactWithoutShareSpec : ChangeSpec := { name := "fnExactWithoutShare", fn := fun _ => fun
  | [d1, d2] => { results := [.lit (.bool true)], args := [d1, d2] }
  | _ => none }
def fnExactWithoutShareRow : OpenClaim := { program := "ytnfjbapcngamjaa", sum := "e83c82e4859b2000ce0846e8b0529b41317bac883aeb8358a11dc98d9cd136f7", func := "loop.example/g00222/laws.FnExactWithoutShare", spec := "fnExactWithoutShare", unfollowed := true, recurses := true, apart := false }
def FnExactWithoutShareSaid : Prop := fnExactWithoutShareRow.holds Try.pinned (OpenSpec.ofChange fnExactWithoutShareSpec)

/-- ITS FALSE NEIGHBOUR: 'it returns false'. Refute it at one input. -/
def fnExactWithoutShareWrong : ChangeSpec := { name := "fnExactWithoutShare", fn := fun _ => fun
  | [d1, d2] => { results := [.lit (.bool false)], args := [d1, d2] }
  | _ => none }
def FnExactWithoutShareWrongFalsely : Prop := fnExactWithoutShareRow.holds Try.pinned (OpenSpec.ofChange fnExactWithoutShareWrong)

/-- 'laws.FnExactSpreadOf': WHATEVER THE INPUT: true; the input reads as it did. -/
def fnExactSpreadOfSpec : ChangeSpec := { name := "fnExactSpreadOf", fn := fun _ => fun
  | [d1, d2] => { results := [.lit (.bool true)], args := [d1, d2] }
  | _ => none }
def fnExactSpreadOfRow : OpenClaim := { program := "ytnfjbapcngamjaa", sum := "e83c82e4859b2000ce0846e8b0529b41317bac883aeb8358a11dc98d9cd136f7", func := "loop.example/g00222/laws.FnExactSpreadOf", spec := "fnExactSpreadOf", apart := false }
def FnExactSpreadOfSaid : Prop := fnExactSpreadOfRow.holds Try.pinned (OpenSpec.ofChange fnExactSpreadOfSpec)

/-- ITS FALSE NEIGHBOUR: 'it returns false'. Refute it at one input. -/
def fnExactSpreadOfWrong : ChangeSpec := { name := "fnExactSpreadOf", fn := fun _ => fun
  | [d1, d2] => { results := [.lit (.bool false)], args := [d1, d2] }
  | _ => none }
def FnExactSpreadOfWrongFalsely : Prop := fnExactSpreadOfRow.holds Try.pinned (OpenSpec.ofChange fnExactSpreadOfWrong)

/-- 'laws.FnExactFillTable': WHATEVER THE INPUT: true; the input reads as it did. -/
def fnExactFillTableSpec : ChangeSpec := { name := "fnExactFillTable", fn := fun _ => fun
  | [d] => { results := [.lit (.bool true)], args := [d] }
  | _ => none }
def fnExactFillTableRow : OpenClaim := { program := "ytnfjbapcngamjaa", sum := "e83c82e4859b2000ce0846e8b0529b41317bac883aeb8358a11dc98d9cd136f7", func := "loop.example/g00222/laws.FnExactFillTable", spec := "fnExactFillTable", unfollowed := true, recurses := true, apart := false }
def FnExactFillTableSaid : Prop := fnExactFillTableRow.holds Try.pinned (OpenSpec.ofChange fnExactFillTableSpec)

/-- ITS FALSE NEIGHBOUR: 'it returns false'. Refute it at one input. -/
def fnExactFillTableWrong : ChangeSpec := { name := "fnExactFillTable", fn := fun _ => fun
  | [d] => { results := [.lit (.bool false)], args := [d] }
  | _ => none }
def FnExactFillTableWrongFalsely : Prop := fnExactFillTableRow.holds Try.pinned (OpenSpec.ofChange fnExactFillTableWrong)

/-- 'laws.FnTables': WHATEVER THE INPUT: true; the input reads as it did. -/
def fnTablesSpec : ChangeSpec := { name := "fnTables", fn := fun _ => fun
  | [d] => { results := [.lit (.bool true)], args := [d] }
  | _ => none }
def fnTablesRow : OpenClaim := { program := "ytnfjbapcngamjaa", sum := "e83c82e4859b2000ce0846e8b0529b41317bac883aeb8358a11dc98d9cd136f7", func := "loop.example/g00222/laws.FnTables", spec := "fnTables", unfollowed := true, recurses := true, apart := false }
def FnTablesSaid : Prop := fnTablesRow.holds Try.pinned (OpenSpec.ofChange fnTablesSpec)

/-- ITS FALSE NEIGHBOUR: 'it returns false'. Refute it at one input. -/
def fnTablesWrong : ChangeSpec := { name := "fnTables", fn := fun _ => fun
  | [d] => { results := [.lit (.bool false)], args := [d] }
  | _ => none }
def FnTablesWrongFalsely : Prop := fnTablesRow.holds Try.pinned (OpenSpec.ofChange fnTablesWrong)

/-- 'laws.FnLooks': WHATEVER THE INPUT: true; the input reads as it did. -/
def fnLooksSpec : ChangeSpec := { name := "fnLooks", fn := fun _ => fun
  | [d] => { results := [.lit (.bool true)], args := [d] }
  | _ => none }
def fnLooksRow : OpenClaim := { program := "ytnfjbapcngamjaa", sum := "e83c82e4859b2000ce0846e8b0529b41317bac883aeb8358a11dc98d9cd136f7", func := "loop.example/g00222/laws.FnLooks", spec := "fnLooks", unfollowed := true, recurses := true, apart := false }
def FnLooksSaid : Prop := fnLooksRow.holds Try.pinned (OpenSpec.ofChange fnLooksSpec)

/-- ITS FALSE NEIGHBOUR: 'it returns false'. Refute it at one input. -/
def fnLooksWrong : ChangeSpec := { name := "fnLooks", fn := fun _ => fun
  | [d] => { results := [.lit (.bool false)], args := [d] }
  | _ => none }
def FnLooksWrongFalsely : Prop := fnLooksRow.holds Try.pinned (OpenSpec.ofChange fnLooksWrong)

/- THE SECOND FORM. 'bulk': how many values and letters a reading holds, each counted each time it is reached (what is shared counts as often as it is met; a slice's spare places count too). A statement '..UptoSaid' is the law's where the arguments, and the package variables that the reading takes, are together of bulk at most 1048576: NARROWER than '..Said'. Prove '..Said' where nothing that the law and all that it calls make is longer than what came in: it says more and counts as full. Else prove '..UptoSaid'. A law counts once. -/
mutual
def uptoBulk {H : Type} : DataW H → Nat
  | .lit (.string bytes) => bytes.length + 1
  | .lit _ => 1
  | .nil => 1
  | .ptr d => uptoBulk d + 1
  | .slice elems spare => uptoBulkAll elems + uptoBulkAll spare + 1
  | .agg parts => uptoBulkAll parts + 1
  | .iface _ d => uptoBulk d + 1
  | .map entries => uptoBulkEntries entries + 1
  | .held _ => 1
def uptoBulkAll {H : Type} : List (DataW H) → Nat
  | [] => 0
  | d :: r => uptoBulk d + uptoBulkAll r
def uptoBulkEntries {H : Type} : List (Lit × DataW H) → Nat
  | [] => 0
  | x :: r => uptoBulkEntry x + uptoBulkEntries r
def uptoBulkEntry {H : Type} : Lit × DataW H → Nat
  | (.string bytes, d) => bytes.length + uptoBulk d + 1
  | (_, d) => uptoBulk d + 1
 end
def uptoSmall : (H : Type) → List (DataW H) → Bool := fun _ ds => decide (uptoBulkAll ds ≤ 1048576)
def OpenSpec.upto (s : _root_.Go.ChangeSpec) : _root_.Go.OpenSpec := { _root_.Go.OpenSpec.ofChange s with cond := some uptoSmall }

/-- 'laws.FnExactSharesFault', WHERE WHAT IT READS IS OF BULK AT MOST 1048576: true; the input reads as it did. -/
def fnExactSharesFaultUptoRow : OpenClaim := { program := "ytnfjbapcngamjaa", sum := "e83c82e4859b2000ce0846e8b0529b41317bac883aeb8358a11dc98d9cd136f7", func := "loop.example/g00222/laws.FnExactSharesFault", spec := "fnExactSharesFault", apart := false, narrowed := true }
def FnExactSharesFaultUptoSaid : Prop := fnExactSharesFaultUptoRow.holds Try.pinned (OpenSpec.upto fnExactSharesFaultSpec)

/-- 'laws.FnExactWithoutShare', WHERE WHAT IT READS IS OF BULK AT MOST 1048576: true; the input reads as it did. -/
def fnExactWithoutShareUptoRow : OpenClaim := { program := "ytnfjbapcngamjaa", sum := "e83c82e4859b2000ce0846e8b0529b41317bac883aeb8358a11dc98d9cd136f7", func := "loop.example/g00222/laws.FnExactWithoutShare", spec := "fnExactWithoutShare", unfollowed := true, recurses := true, apart := false, narrowed := true }
def FnExactWithoutShareUptoSaid : Prop := fnExactWithoutShareUptoRow.holds Try.pinned (OpenSpec.upto fnExactWithoutShareSpec)

/-- 'laws.FnExactSpreadOf', WHERE WHAT IT READS IS OF BULK AT MOST 1048576: true; the input reads as it did. -/
def fnExactSpreadOfUptoRow : OpenClaim := { program := "ytnfjbapcngamjaa", sum := "e83c82e4859b2000ce0846e8b0529b41317bac883aeb8358a11dc98d9cd136f7", func := "loop.example/g00222/laws.FnExactSpreadOf", spec := "fnExactSpreadOf", apart := false, narrowed := true }
def FnExactSpreadOfUptoSaid : Prop := fnExactSpreadOfUptoRow.holds Try.pinned (OpenSpec.upto fnExactSpreadOfSpec)

/-- 'laws.FnExactFillTable', WHERE WHAT IT READS IS OF BULK AT MOST 1048576: true; the input reads as it did. -/
def fnExactFillTableUptoRow : OpenClaim := { program := "ytnfjbapcngamjaa", sum := "e83c82e4859b2000ce0846e8b0529b41317bac883aeb8358a11dc98d9cd136f7", func := "loop.example/g00222/laws.FnExactFillTable", spec := "fnExactFillTable", unfollowed := true, recurses := true, apart := false, narrowed := true }
def FnExactFillTableUptoSaid : Prop := fnExactFillTableUptoRow.holds Try.pinned (OpenSpec.upto fnExactFillTableSpec)

/-- 'laws.FnTables', WHERE WHAT IT READS IS OF BULK AT MOST 1048576: true; the input reads as it did. -/
def fnTablesUptoRow : OpenClaim := { program := "ytnfjbapcngamjaa", sum := "e83c82e4859b2000ce0846e8b0529b41317bac883aeb8358a11dc98d9cd136f7", func := "loop.example/g00222/laws.FnTables", spec := "fnTables", unfollowed := true, recurses := true, apart := false, narrowed := true }
def FnTablesUptoSaid : Prop := fnTablesUptoRow.holds Try.pinned (OpenSpec.upto fnTablesSpec)

/-- 'laws.FnLooks', WHERE WHAT IT READS IS OF BULK AT MOST 1048576: true; the input reads as it did. -/
def fnLooksUptoRow : OpenClaim := { program := "ytnfjbapcngamjaa", sum := "e83c82e4859b2000ce0846e8b0529b41317bac883aeb8358a11dc98d9cd136f7", func := "loop.example/g00222/laws.FnLooks", spec := "fnLooks", unfollowed := true, recurses := true, apart := false, narrowed := true }
def FnLooksUptoSaid : Prop := fnLooksUptoRow.holds Try.pinned (OpenSpec.upto fnLooksSpec)

end Rows
end Go.Proofs.Ytnfjbapcngamjaa
