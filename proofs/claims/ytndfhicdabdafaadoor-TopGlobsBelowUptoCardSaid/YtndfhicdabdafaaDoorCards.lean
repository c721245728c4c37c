/-
  DERIVED. GIVEN WITH THE SEED: THE CARDS: each row of YtndfhicdabdafaaDoorRows.lean that lists a variable, with what it lists TIED to the program's text (the seventh form; the later family's looks); each row that meets fmt, with fmt's text TOLD by the authors' own Lean function (tested against real Go, not proved from fmt's source: count such statements apart). THE CARD IS WHAT COUNTS. Prove the row's statement (the work); the ties are given (YtndfhicdabdafaaDoorTie.lean); close each card by the builder's one call (the guide's Derived/Test/ToyasCard.lean, 'card_holds'). Laid BY PROGRAM, IN A SANDBOX (cutbox-door.mjs). By AI agents, Wed Nov 11 2026. No macro, syntax, notation, axiom, sorry.
-/
import Derived.Test.YtndfhicdabdafaaDoorRows
import GoSem.ClaimSeven
namespace Go.Proofs.YtndfhicdabdafaaDoor
namespace Rows

/-- THE TIED CARD OF 'wherrytop.TopGlobsBelow'. -/
def topGlobsBelowCard : Claim7 := { stood := { row := topGlobsBelowRow, standIns := [], harness := (true, "f6955706fa30b5146b2935ada0698ed2c48f666130773f9998b22b1316662ae8"), looks := false }, kinds := [], alts := [], laidByText := true, laidKinds := [.data, .pinned], laidTests := true, laidLooks := .later }
def TopGlobsBelowCardSaid : Prop := Claim7.holds Tryd.pinned (.plain (OpenSpec.ofChange topGlobsBelowSpec)) topGlobsBelowCard

/-- THE SECOND FORM's CARD OF 'wherrytop.TopGlobsBelow'. -/
def topGlobsBelowUptoCard : Claim7 := { stood := { row := topGlobsBelowUptoRow, standIns := [], harness := (true, "f6955706fa30b5146b2935ada0698ed2c48f666130773f9998b22b1316662ae8"), looks := false }, kinds := [], alts := [], laidByText := true, laidKinds := [.data, .pinned], laidTests := true, laidLooks := .later }
def TopGlobsBelowUptoCardSaid : Prop := Claim7.holds Tryd.pinned (.plain (OpenSpec.upto topGlobsBelowSpec)) topGlobsBelowUptoCard
end Rows
end Go.Proofs.YtndfhicdabdafaaDoor
