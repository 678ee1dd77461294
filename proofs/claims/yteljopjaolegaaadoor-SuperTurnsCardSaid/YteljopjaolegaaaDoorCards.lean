/-
  DERIVED. GIVEN WITH THE SEED: THE CARDS: each row of YteljopjaolegaaaDoorRows.lean that lists a variable, with what it lists TIED to the program's text (the seventh form; the later family's looks); each row that meets fmt, with fmt's text TOLD by the authors' own Lean function (tested against real Go, not proved from fmt's source: count such statements apart). THE CARD IS WHAT COUNTS. Prove the row's statement (the work); the ties are given (YteljopjaolegaaaDoorTie.lean); close each card by the builder's one call (the guide's Derived/Test/ToyasCard.lean, 'card_holds'). Laid BY PROGRAM, IN A SANDBOX (cutbox-door.mjs). By AI agents, Wed Nov 11 2026. No macro, syntax, notation, axiom, sorry.
-/
import Derived.Test.YteljopjaolegaaaDoorRows
import GoSem.ClaimSeven
namespace Go.Proofs.YteljopjaolegaaaDoor
namespace Rows

/-- THE TIED CARD OF 'coffretlaw14.SuperPlays'. -/
def superPlaysCard : Claim7 := { stood := { row := superPlaysRow, standIns := [], harness := (true, "15d8748b593a025de78c520a7eba91e34afede99031cf55efaba0b4b9c778c58"), looks := true }, kinds := [], alts := [], laidByText := true, laidKinds := [.handle, .data], laidTests := true, laidLooks := .later }
def SuperPlaysCardSaid : Prop := Claim7.holds Tryd.pinned (.plain (OpenSpec.ofChange superPlaysSpec)) superPlaysCard

/-- THE TIED CARD OF 'coffretlaw14.SuperMakes'. -/
def superMakesCard : Claim7 := { stood := { row := superMakesRow, standIns := [], harness := (true, "15d8748b593a025de78c520a7eba91e34afede99031cf55efaba0b4b9c778c58"), looks := true }, kinds := [], alts := [], laidByText := true, laidKinds := [.data], laidTests := true, laidLooks := .later }
def SuperMakesCardSaid : Prop := Claim7.holds Tryd.pinned (.plain (OpenSpec.ofChange superMakesSpec)) superMakesCard

/-- THE TIED CARD OF 'coffretlaw14.SuperChooses'. -/
def superChoosesCard : Claim7 := { stood := { row := superChoosesRow, standIns := [], harness := (true, "15d8748b593a025de78c520a7eba91e34afede99031cf55efaba0b4b9c778c58"), looks := true }, kinds := [], alts := [], laidByText := true, laidKinds := [.data], laidTests := true, laidLooks := .later }
def SuperChoosesCardSaid : Prop := Claim7.holds Tryd.pinned (.plain (OpenSpec.ofChange superChoosesSpec)) superChoosesCard

/-- THE TIED CARD OF 'coffretlaw14.SuperBack'. -/
def superBackCard : Claim7 := { stood := { row := superBackRow, standIns := [], harness := (true, "15d8748b593a025de78c520a7eba91e34afede99031cf55efaba0b4b9c778c58"), looks := true }, kinds := [], alts := [], laidByText := true, laidKinds := [.data], laidTests := true, laidLooks := .later }
def SuperBackCardSaid : Prop := Claim7.holds Tryd.pinned (.plain (OpenSpec.ofChange superBackSpec)) superBackCard

/-- THE TIED CARD OF 'coffretlaw14.SuperTurns'. -/
def superTurnsCard : Claim7 := { stood := { row := superTurnsRow, standIns := [], harness := (true, "15d8748b593a025de78c520a7eba91e34afede99031cf55efaba0b4b9c778c58"), looks := true }, kinds := [], alts := [], laidByText := true, laidKinds := [.data], laidTests := true, laidLooks := .later }
def SuperTurnsCardSaid : Prop := Claim7.holds Tryd.pinned (.plain (OpenSpec.ofChange superTurnsSpec)) superTurnsCard

/-- THE TIED CARD OF 'coffretlaw14.SuperPower'. -/
def superPowerCard : Claim7 := { stood := { row := superPowerRow, standIns := [], harness := (true, "15d8748b593a025de78c520a7eba91e34afede99031cf55efaba0b4b9c778c58"), looks := true }, kinds := [], alts := [], laidByText := true, laidKinds := [.data], laidTests := true, laidLooks := .later }
def SuperPowerCardSaid : Prop := Claim7.holds Tryd.pinned (.plain (OpenSpec.ofChange superPowerSpec)) superPowerCard

/-- THE SECOND FORM's CARD OF 'coffretlaw14.SuperPlays'. -/
def superPlaysUptoCard : Claim7 := { stood := { row := superPlaysUptoRow, standIns := [], harness := (true, "15d8748b593a025de78c520a7eba91e34afede99031cf55efaba0b4b9c778c58"), looks := true }, kinds := [], alts := [], laidByText := true, laidKinds := [.handle, .data], laidTests := true, laidLooks := .later }
def SuperPlaysUptoCardSaid : Prop := Claim7.holds Tryd.pinned (.plain (OpenSpec.upto superPlaysSpec)) superPlaysUptoCard

/-- THE SECOND FORM's CARD OF 'coffretlaw14.SuperMakes'. -/
def superMakesUptoCard : Claim7 := { stood := { row := superMakesUptoRow, standIns := [], harness := (true, "15d8748b593a025de78c520a7eba91e34afede99031cf55efaba0b4b9c778c58"), looks := true }, kinds := [], alts := [], laidByText := true, laidKinds := [.data], laidTests := true, laidLooks := .later }
def SuperMakesUptoCardSaid : Prop := Claim7.holds Tryd.pinned (.plain (OpenSpec.upto superMakesSpec)) superMakesUptoCard

/-- THE SECOND FORM's CARD OF 'coffretlaw14.SuperChooses'. -/
def superChoosesUptoCard : Claim7 := { stood := { row := superChoosesUptoRow, standIns := [], harness := (true, "15d8748b593a025de78c520a7eba91e34afede99031cf55efaba0b4b9c778c58"), looks := true }, kinds := [], alts := [], laidByText := true, laidKinds := [.data], laidTests := true, laidLooks := .later }
def SuperChoosesUptoCardSaid : Prop := Claim7.holds Tryd.pinned (.plain (OpenSpec.upto superChoosesSpec)) superChoosesUptoCard

/-- THE SECOND FORM's CARD OF 'coffretlaw14.SuperBack'. -/
def superBackUptoCard : Claim7 := { stood := { row := superBackUptoRow, standIns := [], harness := (true, "15d8748b593a025de78c520a7eba91e34afede99031cf55efaba0b4b9c778c58"), looks := true }, kinds := [], alts := [], laidByText := true, laidKinds := [.data], laidTests := true, laidLooks := .later }
def SuperBackUptoCardSaid : Prop := Claim7.holds Tryd.pinned (.plain (OpenSpec.upto superBackSpec)) superBackUptoCard

/-- THE SECOND FORM's CARD OF 'coffretlaw14.SuperTurns'. -/
def superTurnsUptoCard : Claim7 := { stood := { row := superTurnsUptoRow, standIns := [], harness := (true, "15d8748b593a025de78c520a7eba91e34afede99031cf55efaba0b4b9c778c58"), looks := true }, kinds := [], alts := [], laidByText := true, laidKinds := [.data], laidTests := true, laidLooks := .later }
def SuperTurnsUptoCardSaid : Prop := Claim7.holds Tryd.pinned (.plain (OpenSpec.upto superTurnsSpec)) superTurnsUptoCard

/-- THE SECOND FORM's CARD OF 'coffretlaw14.SuperPower'. -/
def superPowerUptoCard : Claim7 := { stood := { row := superPowerUptoRow, standIns := [], harness := (true, "15d8748b593a025de78c520a7eba91e34afede99031cf55efaba0b4b9c778c58"), looks := true }, kinds := [], alts := [], laidByText := true, laidKinds := [.data], laidTests := true, laidLooks := .later }
def SuperPowerUptoCardSaid : Prop := Claim7.holds Tryd.pinned (.plain (OpenSpec.upto superPowerSpec)) superPowerUptoCard
end Rows
end Go.Proofs.YteljopjaolegaaaDoor
