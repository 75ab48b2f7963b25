/-
  DERIVED. GIVEN WITH THE SEED: THE CARDS: each row of YtmjddgdcokbmeaaDoorRows.lean that lists a variable, with what it lists TIED to the program's text (the seventh form; the later family's looks); each row that meets fmt, with fmt's text TOLD by the authors' own Lean function (tested against real Go, not proved from fmt's source: count such statements apart). THE CARD IS WHAT COUNTS. Prove the row's statement (the work); the ties are given (YtmjddgdcokbmeaaDoorTie.lean); close each card by the builder's one call (the guide's Derived/Test/ToyasCard.lean, 'card_holds'). Laid BY PROGRAM, IN A SANDBOX (cutbox-door.mjs). By AI agents, Wed Nov 11 2026. No macro, syntax, notation, axiom, sorry.
-/
import Derived.Test.YtmjddgdcokbmeaaDoorRows
import GoSem.ClaimSeven
namespace Go.Proofs.YtmjddgdcokbmeaaDoor
namespace Rows

/-- THE TIED CARD OF 'laws.FnServices'. -/
def fnServicesCard : Claim7 := { stood := { row := fnServicesRow, standIns := [], harness := (true, "0f25b5b18c16e783d47ab4c399f1bd0628458a626752219da95c7c8bc7bced01"), looks := true }, kinds := [], alts := [], laidByText := true, laidKinds := [.data, .pinned], laidTests := true, laidLooks := .later }
def FnServicesCardSaid : Prop := Claim7.holds Tryd.pinned (.plain (OpenSpec.ofChange fnServicesSpec)) fnServicesCard

/-- THE TIED CARD OF 'laws.FnNames'. -/
def fnNamesCard : Claim7 := { stood := { row := fnNamesRow, standIns := [], harness := (true, "0f25b5b18c16e783d47ab4c399f1bd0628458a626752219da95c7c8bc7bced01"), looks := true }, kinds := [], alts := [], laidByText := true, laidKinds := [.data, .data, .data, .data, .sentinel, .sentinel, .pinned], laidTests := true, laidLooks := .later }
def FnNamesCardSaid : Prop := Claim7.holds Tryd.pinned (.plain (OpenSpec.ofChange fnNamesSpec)) fnNamesCard

/-- THE TIED CARD OF 'laws.FnNets'. -/
def fnNetsCard : Claim7 := { stood := { row := fnNetsRow, standIns := [], harness := (true, "0f25b5b18c16e783d47ab4c399f1bd0628458a626752219da95c7c8bc7bced01"), looks := true }, kinds := [], alts := [], laidByText := true, laidKinds := [.data, .data, .data, .data, .sentinel, .sentinel, .pinned], laidTests := true, laidLooks := .later }
def FnNetsCardSaid : Prop := Claim7.holds Tryd.pinned (.plain (OpenSpec.ofChange fnNetsSpec)) fnNetsCard

/-- THE SECOND FORM's CARD OF 'laws.FnServices'. -/
def fnServicesUptoCard : Claim7 := { stood := { row := fnServicesUptoRow, standIns := [], harness := (true, "0f25b5b18c16e783d47ab4c399f1bd0628458a626752219da95c7c8bc7bced01"), looks := true }, kinds := [], alts := [], laidByText := true, laidKinds := [.data, .pinned], laidTests := true, laidLooks := .later }
def FnServicesUptoCardSaid : Prop := Claim7.holds Tryd.pinned (.plain (OpenSpec.upto fnServicesSpec)) fnServicesUptoCard

/-- THE SECOND FORM's CARD OF 'laws.FnNames'. -/
def fnNamesUptoCard : Claim7 := { stood := { row := fnNamesUptoRow, standIns := [], harness := (true, "0f25b5b18c16e783d47ab4c399f1bd0628458a626752219da95c7c8bc7bced01"), looks := true }, kinds := [], alts := [], laidByText := true, laidKinds := [.data, .data, .data, .data, .sentinel, .sentinel, .pinned], laidTests := true, laidLooks := .later }
def FnNamesUptoCardSaid : Prop := Claim7.holds Tryd.pinned (.plain (OpenSpec.upto fnNamesSpec)) fnNamesUptoCard

/-- THE SECOND FORM's CARD OF 'laws.FnNets'. -/
def fnNetsUptoCard : Claim7 := { stood := { row := fnNetsUptoRow, standIns := [], harness := (true, "0f25b5b18c16e783d47ab4c399f1bd0628458a626752219da95c7c8bc7bced01"), looks := true }, kinds := [], alts := [], laidByText := true, laidKinds := [.data, .data, .data, .data, .sentinel, .sentinel, .pinned], laidTests := true, laidLooks := .later }
def FnNetsUptoCardSaid : Prop := Claim7.holds Tryd.pinned (.plain (OpenSpec.upto fnNetsSpec)) fnNetsUptoCard
end Rows
end Go.Proofs.YtmjddgdcokbmeaaDoor
