/-
  DERIVED. GIVEN WITH THE SEED: THE CARDS: each row of YtajnpfgelpkijaaDoorRows.lean that lists a variable, with what it lists TIED to the program's text (the seventh form; the later family's looks); each row that meets fmt, with fmt's text TOLD by the authors' own Lean function (tested against real Go, not proved from fmt's source: count such statements apart). THE CARD IS WHAT COUNTS. Prove the row's statement (the work); the ties are given (YtajnpfgelpkijaaDoorTie.lean); close each card by the builder's one call (the guide's Derived/Test/ToyasCard.lean, 'card_holds'). Laid BY PROGRAM, IN A SANDBOX (cutbox-door.mjs). By AI agents, Wed Nov 11 2026. No macro, syntax, notation, axiom, sorry.
-/
import Derived.Test.YtajnpfgelpkijaaDoorRows
import GoSem.ClaimSeven
namespace Go.Proofs.YtajnpfgelpkijaaDoor
namespace Rows

/-- THE TIED CARD OF 'foretelllaw.SheetShows'. -/
def sheetShowsCard : Claim7 := { stood := { row := sheetShowsRow, standIns := [], harness := (true, "da83ed7af5a073e83dd4f1c39ff1d97e632d982f166a07db62f4ffb1a2612777"), looks := true }, kinds := [], alts := [], laidByText := true, laidKinds := [.data, .data, .data, .data, .data], laidTests := true, laidLooks := .later }
def SheetShowsCardSaid : Prop := Claim7.holds Tryd.pinned (.plain (OpenSpec.ofChange sheetShowsSpec)) sheetShowsCard

/-- THE SECOND FORM's CARD OF 'foretelllaw.SheetShows'. -/
def sheetShowsUptoCard : Claim7 := { stood := { row := sheetShowsUptoRow, standIns := [], harness := (true, "da83ed7af5a073e83dd4f1c39ff1d97e632d982f166a07db62f4ffb1a2612777"), looks := true }, kinds := [], alts := [], laidByText := true, laidKinds := [.data, .data, .data, .data, .data], laidTests := true, laidLooks := .later }
def SheetShowsUptoCardSaid : Prop := Claim7.holds Tryd.pinned (.plain (OpenSpec.upto sheetShowsSpec)) sheetShowsUptoCard
end Rows
end Go.Proofs.YtajnpfgelpkijaaDoor
