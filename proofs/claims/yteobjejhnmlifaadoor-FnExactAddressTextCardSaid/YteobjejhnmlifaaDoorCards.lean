/-
  DERIVED. GIVEN WITH THE SEED: THE CARDS: each row of YteobjejhnmlifaaDoorRows.lean that lists a variable, with what it lists TIED to the program's text (the seventh form; the later family's looks); each row that meets fmt, with fmt's text TOLD by the authors' own Lean function (tested against real Go, not proved from fmt's source: count such statements apart). THE CARD IS WHAT COUNTS. Prove the row's statement (the work); the ties are given (YteobjejhnmlifaaDoorTie.lean); close each card by the builder's one call (the guide's Derived/Test/ToyasCard.lean, 'card_holds'). Laid BY PROGRAM, IN A SANDBOX (cutbox-door.mjs). By AI agents, Wed Nov 11 2026. No macro, syntax, notation, axiom, sorry.
-/
import Derived.Test.YteobjejhnmlifaaDoorRows
import GoSem.ClaimSeven
namespace Go.Proofs.YteobjejhnmlifaaDoor
namespace Rows

/-- THE TIED CARD OF 'laws.FnExactAddressText'. -/
def fnExactAddressTextCard : Claim7 := { stood := { row := fnExactAddressTextRow, standIns := [], harness := (true, "af304749201288919d34e3f7bffe2d371270119755f9ad4661aed836f5ff387f"), looks := false }, kinds := [], alts := [], laidByText := true, laidKinds := [.data, .data, .data], laidTests := true, laidLooks := .later }
def FnExactAddressTextCardSaid : Prop := Claim7.holds Tryd.pinned (.plain (OpenSpec.ofChange fnExactAddressTextSpec)) fnExactAddressTextCard

/-- THE SECOND FORM's CARD OF 'laws.FnExactAddressText'. -/
def fnExactAddressTextUptoCard : Claim7 := { stood := { row := fnExactAddressTextUptoRow, standIns := [], harness := (true, "af304749201288919d34e3f7bffe2d371270119755f9ad4661aed836f5ff387f"), looks := false }, kinds := [], alts := [], laidByText := true, laidKinds := [.data, .data, .data], laidTests := true, laidLooks := .later }
def FnExactAddressTextUptoCardSaid : Prop := Claim7.holds Tryd.pinned (.plain (OpenSpec.upto fnExactAddressTextSpec)) fnExactAddressTextUptoCard
end Rows
end Go.Proofs.YteobjejhnmlifaaDoor
