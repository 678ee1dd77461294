/-
  DERIVED. GIVEN WITH THE SEED: THE CARDS: each row of YtaaimonnpmfnlaaDoorRows.lean that lists a variable, with what it lists TIED to the program's text (the seventh form; the later family's looks); each row that meets fmt, with fmt's text TOLD by the authors' own Lean function (tested against real Go, not proved from fmt's source: count such statements apart). THE CARD IS WHAT COUNTS. Prove the row's statement (the work); the ties are given (YtaaimonnpmfnlaaDoorTie.lean); close each card by the builder's one call (the guide's Derived/Test/ToyasCard.lean, 'card_holds'). Laid BY PROGRAM, IN A SANDBOX (cutbox-door.mjs). By AI agents, Wed Nov 11 2026. No macro, syntax, notation, axiom, sorry.
-/
import Derived.Test.YtaaimonnpmfnlaaDoorRows
import GoSem.ClaimSeven
namespace Go.Proofs.YtaaimonnpmfnlaaDoor
namespace Rows

/-- THE TIED CARD OF 'coffretlaw15.JournalFrames'. -/
def journalFramesCard : Claim7 := { stood := { row := journalFramesRow, standIns := [], harness := (true, "f00e6930cc376b3fc7dced314fbe740650693437bb4ff67e93152e4299382546"), looks := true }, kinds := [], alts := [], laidByText := true, laidKinds := [.data], laidTests := true, laidLooks := .later }
def JournalFramesCardSaid : Prop := Claim7.holds Tryd.pinned (.plain (OpenSpec.ofChange journalFramesSpec)) journalFramesCard

/-- THE TIED CARD OF 'coffretlaw15.JournalScans'. -/
def journalScansCard : Claim7 := { stood := { row := journalScansRow, standIns := [], harness := (true, "f00e6930cc376b3fc7dced314fbe740650693437bb4ff67e93152e4299382546"), looks := true }, kinds := [], alts := [], laidByText := true, laidKinds := [.data], laidTests := true, laidLooks := .later }
def JournalScansCardSaid : Prop := Claim7.holds Tryd.pinned (.plain (OpenSpec.ofChange journalScansSpec)) journalScansCard

/-- THE TIED CARD OF 'coffretlaw15.JournalTells'. -/
def journalTellsCard : Claim7 := { stood := { row := journalTellsRow, standIns := [], harness := (true, "f00e6930cc376b3fc7dced314fbe740650693437bb4ff67e93152e4299382546"), looks := true }, kinds := [], alts := [], laidByText := true, laidKinds := [.data], laidTests := true, laidLooks := .later }
def JournalTellsCardSaid : Prop := Claim7.holds Tryd.pinned (.plain (OpenSpec.ofChange journalTellsSpec)) journalTellsCard

/-- THE TIED CARD OF 'coffretlaw15.JournalGrows'. -/
def journalGrowsCard : Claim7 := { stood := { row := journalGrowsRow, standIns := [], harness := (true, "f00e6930cc376b3fc7dced314fbe740650693437bb4ff67e93152e4299382546"), looks := true }, kinds := [], alts := [], laidByText := true, laidKinds := [.data], laidTests := true, laidLooks := .later }
def JournalGrowsCardSaid : Prop := Claim7.holds Tryd.pinned (.plain (OpenSpec.ofChange journalGrowsSpec)) journalGrowsCard

/-- THE TIED CARD OF 'coffretlaw15.JournalBack'. -/
def journalBackCard : Claim7 := { stood := { row := journalBackRow, standIns := [], harness := (true, "f00e6930cc376b3fc7dced314fbe740650693437bb4ff67e93152e4299382546"), looks := true }, kinds := [], alts := [], laidByText := true, laidKinds := [.handle, .data], laidTests := true, laidLooks := .later }
def JournalBackCardSaid : Prop := Claim7.holds Tryd.pinned (.plain (OpenSpec.ofChange journalBackSpec)) journalBackCard

/-- THE TIED CARD OF 'coffretlaw15.JournalPower'. -/
def journalPowerCard : Claim7 := { stood := { row := journalPowerRow, standIns := [], harness := (true, "f00e6930cc376b3fc7dced314fbe740650693437bb4ff67e93152e4299382546"), looks := true }, kinds := [], alts := [], laidByText := true, laidKinds := [.handle, .data], laidTests := true, laidLooks := .later }
def JournalPowerCardSaid : Prop := Claim7.holds Tryd.pinned (.plain (OpenSpec.ofChange journalPowerSpec)) journalPowerCard

/-- THE SECOND FORM's CARD OF 'coffretlaw15.JournalFrames'. -/
def journalFramesUptoCard : Claim7 := { stood := { row := journalFramesUptoRow, standIns := [], harness := (true, "f00e6930cc376b3fc7dced314fbe740650693437bb4ff67e93152e4299382546"), looks := true }, kinds := [], alts := [], laidByText := true, laidKinds := [.data], laidTests := true, laidLooks := .later }
def JournalFramesUptoCardSaid : Prop := Claim7.holds Tryd.pinned (.plain (OpenSpec.upto journalFramesSpec)) journalFramesUptoCard

/-- THE SECOND FORM's CARD OF 'coffretlaw15.JournalScans'. -/
def journalScansUptoCard : Claim7 := { stood := { row := journalScansUptoRow, standIns := [], harness := (true, "f00e6930cc376b3fc7dced314fbe740650693437bb4ff67e93152e4299382546"), looks := true }, kinds := [], alts := [], laidByText := true, laidKinds := [.data], laidTests := true, laidLooks := .later }
def JournalScansUptoCardSaid : Prop := Claim7.holds Tryd.pinned (.plain (OpenSpec.upto journalScansSpec)) journalScansUptoCard

/-- THE SECOND FORM's CARD OF 'coffretlaw15.JournalTells'. -/
def journalTellsUptoCard : Claim7 := { stood := { row := journalTellsUptoRow, standIns := [], harness := (true, "f00e6930cc376b3fc7dced314fbe740650693437bb4ff67e93152e4299382546"), looks := true }, kinds := [], alts := [], laidByText := true, laidKinds := [.data], laidTests := true, laidLooks := .later }
def JournalTellsUptoCardSaid : Prop := Claim7.holds Tryd.pinned (.plain (OpenSpec.upto journalTellsSpec)) journalTellsUptoCard

/-- THE SECOND FORM's CARD OF 'coffretlaw15.JournalGrows'. -/
def journalGrowsUptoCard : Claim7 := { stood := { row := journalGrowsUptoRow, standIns := [], harness := (true, "f00e6930cc376b3fc7dced314fbe740650693437bb4ff67e93152e4299382546"), looks := true }, kinds := [], alts := [], laidByText := true, laidKinds := [.data], laidTests := true, laidLooks := .later }
def JournalGrowsUptoCardSaid : Prop := Claim7.holds Tryd.pinned (.plain (OpenSpec.upto journalGrowsSpec)) journalGrowsUptoCard

/-- THE SECOND FORM's CARD OF 'coffretlaw15.JournalBack'. -/
def journalBackUptoCard : Claim7 := { stood := { row := journalBackUptoRow, standIns := [], harness := (true, "f00e6930cc376b3fc7dced314fbe740650693437bb4ff67e93152e4299382546"), looks := true }, kinds := [], alts := [], laidByText := true, laidKinds := [.handle, .data], laidTests := true, laidLooks := .later }
def JournalBackUptoCardSaid : Prop := Claim7.holds Tryd.pinned (.plain (OpenSpec.upto journalBackSpec)) journalBackUptoCard

/-- THE SECOND FORM's CARD OF 'coffretlaw15.JournalPower'. -/
def journalPowerUptoCard : Claim7 := { stood := { row := journalPowerUptoRow, standIns := [], harness := (true, "f00e6930cc376b3fc7dced314fbe740650693437bb4ff67e93152e4299382546"), looks := true }, kinds := [], alts := [], laidByText := true, laidKinds := [.handle, .data], laidTests := true, laidLooks := .later }
def JournalPowerUptoCardSaid : Prop := Claim7.holds Tryd.pinned (.plain (OpenSpec.upto journalPowerSpec)) journalPowerUptoCard
end Rows
end Go.Proofs.YtaaimonnpmfnlaaDoor
