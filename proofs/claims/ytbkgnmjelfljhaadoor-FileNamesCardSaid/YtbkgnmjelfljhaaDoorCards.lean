/-
  DERIVED. GIVEN WITH THE SEED: THE CARDS: each row of YtbkgnmjelfljhaaDoorRows.lean that lists a variable, with what it lists TIED to the program's text (the seventh form; the later family's looks); each row that meets fmt, with fmt's text TOLD by the authors' own Lean function (tested against real Go, not proved from fmt's source: count such statements apart). THE CARD IS WHAT COUNTS. Prove the row's statement (the work); the ties are given (YtbkgnmjelfljhaaDoorTie.lean); close each card by the builder's one call (the guide's Derived/Test/ToyasCard.lean, 'card_holds'). Laid BY PROGRAM, IN A SANDBOX (cutbox-door.mjs). By AI agents, Wed Nov 11 2026. No macro, syntax, notation, axiom, sorry.
-/
import Derived.Test.YtbkgnmjelfljhaaDoorRows
import GoSem.ClaimSeven
namespace Go.Proofs.YtbkgnmjelfljhaaDoor
namespace Rows

/-- THE TIED CARD OF 'gleanerlaw24.FileNames'. -/
def fileNamesCard : Claim7 := { stood := { row := fileNamesRow, standIns := [], harness := (true, "eebd41ce8b798347f1cc0ba5ac6e131f8b132d4bc171ce510f71f294bf0dd72c"), looks := false }, kinds := [], alts := [], laidByText := true, laidKinds := [.data, .data, .data], laidTests := true, laidLooks := .later }
def FileNamesCardSaid : Prop := Claim7.holds Tryd.pinned (.plain (OpenSpec.ofChange fileNamesSpec)) fileNamesCard

/-- THE SECOND FORM's CARD OF 'gleanerlaw24.FileNames'. -/
def fileNamesUptoCard : Claim7 := { stood := { row := fileNamesUptoRow, standIns := [], harness := (true, "eebd41ce8b798347f1cc0ba5ac6e131f8b132d4bc171ce510f71f294bf0dd72c"), looks := false }, kinds := [], alts := [], laidByText := true, laidKinds := [.data, .data, .data], laidTests := true, laidLooks := .later }
def FileNamesUptoCardSaid : Prop := Claim7.holds Tryd.pinned (.plain (OpenSpec.upto fileNamesSpec)) fileNamesUptoCard
end Rows
end Go.Proofs.YtbkgnmjelfljhaaDoor
