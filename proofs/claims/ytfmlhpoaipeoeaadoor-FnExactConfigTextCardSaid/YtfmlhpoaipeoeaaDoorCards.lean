/-
  DERIVED. GIVEN WITH THE SEED: THE CARDS: each row of YtfmlhpoaipeoeaaDoorRows.lean that lists a variable, with what it lists TIED to the program's text (the seventh form; the later family's looks); each row that meets fmt, with fmt's text TOLD by the authors' own Lean function (tested against real Go, not proved from fmt's source: count such statements apart). THE CARD IS WHAT COUNTS. Prove the row's statement (the work); the ties are given (YtfmlhpoaipeoeaaDoorTie.lean); close each card by the builder's one call (the guide's Derived/Test/ToyasCard.lean, 'card_holds'). Laid BY PROGRAM, IN A SANDBOX (cutbox-door.mjs). By AI agents, Wed Nov 11 2026. No macro, syntax, notation, axiom, sorry.
-/
import Derived.Test.YtfmlhpoaipeoeaaDoorRows
import GoSem.ClaimSeven
namespace Go.Proofs.YtfmlhpoaipeoeaaDoor
namespace Rows

/-- THE TIED CARD OF 'laws.FnExactConfigText'. -/
def fnExactConfigTextCard : Claim7 := { stood := { row := fnExactConfigTextRow, standIns := [], harness := (true, "c789424c124cc5ffa29560f9271268448a54cc7af91e7d0e0da4a8b532f5f668"), looks := false }, kinds := [], alts := [], laidByText := true, laidKinds := [.data, .data, .data], laidTests := true, laidLooks := .later }
def FnExactConfigTextCardSaid : Prop := Claim7.holds Tryd.pinned (.plain (OpenSpec.ofChange fnExactConfigTextSpec)) fnExactConfigTextCard

/-- THE SECOND FORM's CARD OF 'laws.FnExactConfigText'. -/
def fnExactConfigTextUptoCard : Claim7 := { stood := { row := fnExactConfigTextUptoRow, standIns := [], harness := (true, "c789424c124cc5ffa29560f9271268448a54cc7af91e7d0e0da4a8b532f5f668"), looks := false }, kinds := [], alts := [], laidByText := true, laidKinds := [.data, .data, .data], laidTests := true, laidLooks := .later }
def FnExactConfigTextUptoCardSaid : Prop := Claim7.holds Tryd.pinned (.plain (OpenSpec.upto fnExactConfigTextSpec)) fnExactConfigTextUptoCard
end Rows
end Go.Proofs.YtfmlhpoaipeoeaaDoor
