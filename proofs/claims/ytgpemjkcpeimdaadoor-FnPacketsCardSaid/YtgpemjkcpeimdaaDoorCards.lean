/-
  DERIVED. GIVEN WITH THE SEED: THE CARDS: each row of YtgpemjkcpeimdaaDoorRows.lean that lists a variable, with what it lists TIED to the program's text (the seventh form; the later family's looks); each row that meets fmt, with fmt's text TOLD by the authors' own Lean function (tested against real Go, not proved from fmt's source: count such statements apart). THE CARD IS WHAT COUNTS. Prove the row's statement (the work); the ties are given (YtgpemjkcpeimdaaDoorTie.lean); close each card by the builder's one call (the guide's Derived/Test/ToyasCard.lean, 'card_holds'). Laid BY PROGRAM, IN A SANDBOX (cutbox-door.mjs). By AI agents, Wed Nov 11 2026. No macro, syntax, notation, axiom, sorry.
-/
import Derived.Test.YtgpemjkcpeimdaaDoorRows
import GoSem.ClaimSeven
namespace Go.Proofs.YtgpemjkcpeimdaaDoor
namespace Rows

/-- THE TIED CARD OF 'laws.FnPackets'. -/
def fnPacketsCard : Claim7 := { stood := { row := fnPacketsRow, standIns := [], harness := (true, "eafb1d65edbfe92a60961ee082836686c55b74e41db5b6d09b9adcdaade12e4b"), looks := false }, kinds := [], alts := [], laidByText := true, laidKinds := [.data, .data, .data], laidTests := true, laidLooks := .later }
def FnPacketsCardSaid : Prop := Claim7.holds Tryd.pinned (.plain (OpenSpec.ofChange fnPacketsSpec)) fnPacketsCard

/-- THE SECOND FORM's CARD OF 'laws.FnPackets'. -/
def fnPacketsUptoCard : Claim7 := { stood := { row := fnPacketsUptoRow, standIns := [], harness := (true, "eafb1d65edbfe92a60961ee082836686c55b74e41db5b6d09b9adcdaade12e4b"), looks := false }, kinds := [], alts := [], laidByText := true, laidKinds := [.data, .data, .data], laidTests := true, laidLooks := .later }
def FnPacketsUptoCardSaid : Prop := Claim7.holds Tryd.pinned (.plain (OpenSpec.upto fnPacketsSpec)) fnPacketsUptoCard
end Rows
end Go.Proofs.YtgpemjkcpeimdaaDoor
