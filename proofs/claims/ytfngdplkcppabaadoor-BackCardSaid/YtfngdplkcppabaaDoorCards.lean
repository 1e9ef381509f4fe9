/-
  DERIVED. GIVEN WITH THE SEED: THE CARDS: each row of YtfngdplkcppabaaDoorRows.lean that lists a variable, with what it lists TIED to the program's text (the seventh form; the later family's looks); each row that meets fmt, with fmt's text TOLD by the authors' own Lean function (tested against real Go, not proved from fmt's source: count such statements apart). THE CARD IS WHAT COUNTS. Prove the row's statement (the work); the ties are given (YtfngdplkcppabaaDoorTie.lean); close each card by the builder's one call (the guide's Derived/Test/ToyasCard.lean, 'card_holds'). Laid BY PROGRAM, IN A SANDBOX (cutbox-door.mjs). By AI agents, Wed Nov 11 2026. No macro, syntax, notation, axiom, sorry.
-/
import Derived.Test.YtfngdplkcppabaaDoorRows
import GoSem.ClaimSeven
namespace Go.Proofs.YtfngdplkcppabaaDoor
namespace Rows

/-- THE TIED CARD OF 'gossipkeep.Back'. -/
def backCard : Claim7 := { stood := { row := backRow, standIns := [], harness := (true, "f95a3e99b771955ace2dd20a5261a834615c92f88ddc5128c682893eb24aa73c"), looks := true }, kinds := [], alts := [], laidByText := true, laidKinds := [.handle], laidTests := true, laidLooks := .later }
def BackCardSaid : Prop := Claim7.holds Tryd.pinned (.plain (OpenSpec.ofChange backSpec)) backCard

/-- THE TIED CARD OF 'gossipkeep.Forth'. -/
def forthCard : Claim7 := { stood := { row := forthRow, standIns := [], harness := (true, "f95a3e99b771955ace2dd20a5261a834615c92f88ddc5128c682893eb24aa73c"), looks := true }, kinds := [], alts := [], laidByText := true, laidKinds := [.handle], laidTests := true, laidLooks := .later }
def ForthCardSaid : Prop := Claim7.holds Tryd.pinned (.plain (OpenSpec.ofChange forthSpec)) forthCard

/-- THE SECOND FORM's CARD OF 'gossipkeep.Back'. -/
def backUptoCard : Claim7 := { stood := { row := backUptoRow, standIns := [], harness := (true, "f95a3e99b771955ace2dd20a5261a834615c92f88ddc5128c682893eb24aa73c"), looks := true }, kinds := [], alts := [], laidByText := true, laidKinds := [.handle], laidTests := true, laidLooks := .later }
def BackUptoCardSaid : Prop := Claim7.holds Tryd.pinned (.plain (OpenSpec.upto backSpec)) backUptoCard

/-- THE SECOND FORM's CARD OF 'gossipkeep.Forth'. -/
def forthUptoCard : Claim7 := { stood := { row := forthUptoRow, standIns := [], harness := (true, "f95a3e99b771955ace2dd20a5261a834615c92f88ddc5128c682893eb24aa73c"), looks := true }, kinds := [], alts := [], laidByText := true, laidKinds := [.handle], laidTests := true, laidLooks := .later }
def ForthUptoCardSaid : Prop := Claim7.holds Tryd.pinned (.plain (OpenSpec.upto forthSpec)) forthUptoCard
end Rows
end Go.Proofs.YtfngdplkcppabaaDoor
