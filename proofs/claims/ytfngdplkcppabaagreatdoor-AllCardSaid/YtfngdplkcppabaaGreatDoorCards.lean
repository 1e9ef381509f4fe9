/-
  DERIVED. GIVEN WITH THE SEED: THE CARDS: each row of YtfngdplkcppabaaGreatDoorRows.lean that lists a variable, with what it lists TIED to the program's text (the seventh form; the later family's looks); each row that meets fmt, with fmt's text TOLD by the authors' own Lean function (tested against real Go, not proved from fmt's source: count such statements apart). THE CARD IS WHAT COUNTS. Prove the row's statement (the work); the ties are given (YtfngdplkcppabaaGreatDoorTie.lean); close each card by the builder's one call (the guide's Derived/Test/ToyasCard.lean, 'card_holds'). Laid BY PROGRAM, IN A SANDBOX (cutbox-door.mjs). By AI agents, Wed Nov 11 2026. No macro, syntax, notation, axiom, sorry.
-/
import Derived.Test.YtfngdplkcppabaaGreatDoorRows
import GoSem.ClaimSeven
namespace Go.Proofs.YtfngdplkcppabaaGreatDoor
namespace Rows

/-- THE TIED CARD OF 'gossiplaw.Codes'. -/
def codesCard : Claim7 := { stood := { row := codesRow, standIns := [], harness := (true, "038e1bc58ec0da8fac6ba2ff1c8ad58e6f70b40bb780584a76c3c4f678f49272"), looks := true }, kinds := [], alts := [], laidByText := true, laidKinds := [.handle], laidTests := true, laidLooks := .later }
def CodesCardSaid : Prop := Claim7.holds Tryz.pinned (.plain (OpenSpec.ofChange codesSpec)) codesCard

/-- THE TIED CARD OF 'gossiplaw.Hears'. -/
def hearsCard : Claim7 := { stood := { row := hearsRow, standIns := [], harness := (true, "038e1bc58ec0da8fac6ba2ff1c8ad58e6f70b40bb780584a76c3c4f678f49272"), looks := true }, kinds := [], alts := [], laidByText := true, laidKinds := [.handle], laidTests := true, laidLooks := .later }
def HearsCardSaid : Prop := Claim7.holds Tryz.pinned (.plain (OpenSpec.ofChange hearsSpec)) hearsCard

/-- THE TIED CARD OF 'gossiplaw.Ticks'. -/
def ticksCard : Claim7 := { stood := { row := ticksRow, standIns := [], harness := (true, "038e1bc58ec0da8fac6ba2ff1c8ad58e6f70b40bb780584a76c3c4f678f49272"), looks := true }, kinds := [], alts := [], laidByText := true, laidKinds := [.handle], laidTests := true, laidLooks := .later }
def TicksCardSaid : Prop := Claim7.holds Tryz.pinned (.plain (OpenSpec.ofChange ticksSpec)) ticksCard

/-- THE TIED CARD OF 'gossiplaw.All'. -/
def allCard : Claim7 := { stood := { row := allRow, standIns := [], harness := (true, "038e1bc58ec0da8fac6ba2ff1c8ad58e6f70b40bb780584a76c3c4f678f49272"), looks := true }, kinds := [], alts := [], laidByText := true, laidKinds := [.handle], laidTests := true, laidLooks := .later }
def AllCardSaid : Prop := Claim7.holds Tryz.pinned (.plain (OpenSpec.ofChange allSpec)) allCard

/-- THE SECOND FORM's CARD OF 'gossiplaw.Codes'. -/
def codesUptoCard : Claim7 := { stood := { row := codesUptoRow, standIns := [], harness := (true, "038e1bc58ec0da8fac6ba2ff1c8ad58e6f70b40bb780584a76c3c4f678f49272"), looks := true }, kinds := [], alts := [], laidByText := true, laidKinds := [.handle], laidTests := true, laidLooks := .later }
def CodesUptoCardSaid : Prop := Claim7.holds Tryz.pinned (.plain (OpenSpec.upto codesSpec)) codesUptoCard

/-- THE SECOND FORM's CARD OF 'gossiplaw.Hears'. -/
def hearsUptoCard : Claim7 := { stood := { row := hearsUptoRow, standIns := [], harness := (true, "038e1bc58ec0da8fac6ba2ff1c8ad58e6f70b40bb780584a76c3c4f678f49272"), looks := true }, kinds := [], alts := [], laidByText := true, laidKinds := [.handle], laidTests := true, laidLooks := .later }
def HearsUptoCardSaid : Prop := Claim7.holds Tryz.pinned (.plain (OpenSpec.upto hearsSpec)) hearsUptoCard

/-- THE SECOND FORM's CARD OF 'gossiplaw.Ticks'. -/
def ticksUptoCard : Claim7 := { stood := { row := ticksUptoRow, standIns := [], harness := (true, "038e1bc58ec0da8fac6ba2ff1c8ad58e6f70b40bb780584a76c3c4f678f49272"), looks := true }, kinds := [], alts := [], laidByText := true, laidKinds := [.handle], laidTests := true, laidLooks := .later }
def TicksUptoCardSaid : Prop := Claim7.holds Tryz.pinned (.plain (OpenSpec.upto ticksSpec)) ticksUptoCard

/-- THE SECOND FORM's CARD OF 'gossiplaw.All'. -/
def allUptoCard : Claim7 := { stood := { row := allUptoRow, standIns := [], harness := (true, "038e1bc58ec0da8fac6ba2ff1c8ad58e6f70b40bb780584a76c3c4f678f49272"), looks := true }, kinds := [], alts := [], laidByText := true, laidKinds := [.handle], laidTests := true, laidLooks := .later }
def AllUptoCardSaid : Prop := Claim7.holds Tryz.pinned (.plain (OpenSpec.upto allSpec)) allUptoCard
end Rows
end Go.Proofs.YtfngdplkcppabaaGreatDoor
