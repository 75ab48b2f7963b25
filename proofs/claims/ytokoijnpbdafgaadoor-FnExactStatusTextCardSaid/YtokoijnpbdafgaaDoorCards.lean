/-
  DERIVED. GIVEN WITH THE SEED: THE CARDS: each row of YtokoijnpbdafgaaDoorRows.lean that lists a variable, with what it lists TIED to the program's text (the seventh form; the later family's looks); each row that meets fmt, with fmt's text TOLD by the authors' own Lean function (tested against real Go, not proved from fmt's source: count such statements apart). THE CARD IS WHAT COUNTS. Prove the row's statement (the work); the ties are given (YtokoijnpbdafgaaDoorTie.lean); close each card by the builder's one call (the guide's Derived/Test/ToyasCard.lean, 'card_holds'). Laid BY PROGRAM, IN A SANDBOX (cutbox-door.mjs). By AI agents, Wed Nov 11 2026. No macro, syntax, notation, axiom, sorry.
-/
import Derived.Test.YtokoijnpbdafgaaDoorRows
import GoSem.ClaimSeven
namespace Go.Proofs.YtokoijnpbdafgaaDoor
namespace Rows

/-- THE TIED CARD OF 'laws.FnStatus'. -/
def fnStatusCard : Claim7 := { stood := { row := fnStatusRow, standIns := [], harness := (true, "6466c6e099a43a91b35d2df1f28969a497b6aba2a8f3855a311aae00dbd1f1e9"), looks := false }, kinds := [], alts := [], laidByText := true, laidKinds := [.data, .data, .data], laidTests := true, laidLooks := .later }
def FnStatusCardSaid : Prop := Claim7.holds Tryd.pinned (.plain (OpenSpec.ofChange fnStatusSpec)) fnStatusCard

/-- THE TIED CARD OF 'laws.FnExactStatusText'. -/
def fnExactStatusTextCard : Claim7 := { stood := { row := fnExactStatusTextRow, standIns := [], harness := (true, "6466c6e099a43a91b35d2df1f28969a497b6aba2a8f3855a311aae00dbd1f1e9"), looks := false }, kinds := [], alts := [], laidByText := true, laidKinds := [.data, .data, .data], laidTests := true, laidLooks := .later }
def FnExactStatusTextCardSaid : Prop := Claim7.holds Tryd.pinned (.plain (OpenSpec.ofChange fnExactStatusTextSpec)) fnExactStatusTextCard

/-- THE SECOND FORM's CARD OF 'laws.FnStatus'. -/
def fnStatusUptoCard : Claim7 := { stood := { row := fnStatusUptoRow, standIns := [], harness := (true, "6466c6e099a43a91b35d2df1f28969a497b6aba2a8f3855a311aae00dbd1f1e9"), looks := false }, kinds := [], alts := [], laidByText := true, laidKinds := [.data, .data, .data], laidTests := true, laidLooks := .later }
def FnStatusUptoCardSaid : Prop := Claim7.holds Tryd.pinned (.plain (OpenSpec.upto fnStatusSpec)) fnStatusUptoCard

/-- THE SECOND FORM's CARD OF 'laws.FnExactStatusText'. -/
def fnExactStatusTextUptoCard : Claim7 := { stood := { row := fnExactStatusTextUptoRow, standIns := [], harness := (true, "6466c6e099a43a91b35d2df1f28969a497b6aba2a8f3855a311aae00dbd1f1e9"), looks := false }, kinds := [], alts := [], laidByText := true, laidKinds := [.data, .data, .data], laidTests := true, laidLooks := .later }
def FnExactStatusTextUptoCardSaid : Prop := Claim7.holds Tryd.pinned (.plain (OpenSpec.upto fnExactStatusTextSpec)) fnExactStatusTextUptoCard
end Rows
end Go.Proofs.YtokoijnpbdafgaaDoor
