/-
  DERIVED. GIVEN WITH THE SEED: THE CARDS: each row of YtjmoaalchefdnaaDoorRows.lean that lists a variable, with what it lists TIED to the program's text (the seventh form; the later family's looks); each row that meets fmt, with fmt's text TOLD by the authors' own Lean function (tested against real Go, not proved from fmt's source: count such statements apart). THE CARD IS WHAT COUNTS. Prove the row's statement (the work); the ties are given (YtjmoaalchefdnaaDoorTie.lean); close each card by the builder's one call (the guide's Derived/Test/ToyasCard.lean, 'card_holds'). Laid BY PROGRAM, IN A SANDBOX (cutbox-door.mjs). By AI agents, Wed Nov 11 2026. No macro, syntax, notation, axiom, sorry.
-/
import Derived.Test.YtjmoaalchefdnaaDoorRows
import GoSem.ClaimSeven
namespace Go.Proofs.YtjmoaalchefdnaaDoor
namespace Rows

/-- THE TIED CARD OF 'inquestlaw03.MacSums'. -/
def macSumsCard : Claim7 := { stood := { row := macSumsRow, standIns := [], harness := (true, "f0ed56abbf4001156675574085a4cd148ab8ca0f753d8d0384ef75b7a32d784c"), looks := false }, kinds := [], alts := [], laidByText := true, laidKinds := [.data], laidTests := true, laidLooks := .later }
def MacSumsCardSaid : Prop := Claim7.holds Tryd.pinned (.plain (OpenSpec.ofChange macSumsSpec)) macSumsCard

/-- THE TIED CARD OF 'inquestlaw03.MacSames'. -/
def macSamesCard : Claim7 := { stood := { row := macSamesRow, standIns := [], harness := (true, "f0ed56abbf4001156675574085a4cd148ab8ca0f753d8d0384ef75b7a32d784c"), looks := false }, kinds := [], alts := [], laidByText := true, laidKinds := [.data], laidTests := true, laidLooks := .later }
def MacSamesCardSaid : Prop := Claim7.holds Tryd.pinned (.plain (OpenSpec.ofChange macSamesSpec)) macSamesCard

/-- THE TIED CARD OF 'inquestlaw03.MacLong'. -/
def macLongCard : Claim7 := { stood := { row := macLongRow, standIns := [], harness := (true, "f0ed56abbf4001156675574085a4cd148ab8ca0f753d8d0384ef75b7a32d784c"), looks := false }, kinds := [], alts := [], laidByText := true, laidKinds := [.data], laidTests := true, laidLooks := .later }
def MacLongCardSaid : Prop := Claim7.holds Tryd.pinned (.plain (OpenSpec.ofChange macLongSpec)) macLongCard

/-- THE TIED CARD OF 'inquestlaw03.MacTwo'. -/
def macTwoCard : Claim7 := { stood := { row := macTwoRow, standIns := [], harness := (true, "f0ed56abbf4001156675574085a4cd148ab8ca0f753d8d0384ef75b7a32d784c"), looks := false }, kinds := [], alts := [], laidByText := true, laidKinds := [.data], laidTests := true, laidLooks := .later }
def MacTwoCardSaid : Prop := Claim7.holds Tryd.pinned (.plain (OpenSpec.ofChange macTwoSpec)) macTwoCard

/-- THE TIED CARD OF 'inquestlaw03.MacChecks'. -/
def macChecksCard : Claim7 := { stood := { row := macChecksRow, standIns := [], harness := (true, "f0ed56abbf4001156675574085a4cd148ab8ca0f753d8d0384ef75b7a32d784c"), looks := false }, kinds := [], alts := [], laidByText := true, laidKinds := [.data], laidTests := true, laidLooks := .later }
def MacChecksCardSaid : Prop := Claim7.holds Tryd.pinned (.plain (OpenSpec.ofChange macChecksSpec)) macChecksCard

/-- THE TIED CARD OF 'inquestlaw03.MacKeys'. -/
def macKeysCard : Claim7 := { stood := { row := macKeysRow, standIns := [], harness := (true, "f0ed56abbf4001156675574085a4cd148ab8ca0f753d8d0384ef75b7a32d784c"), looks := false }, kinds := [], alts := [], laidByText := true, laidKinds := [.data], laidTests := true, laidLooks := .later }
def MacKeysCardSaid : Prop := Claim7.holds Tryd.pinned (.plain (OpenSpec.ofChange macKeysSpec)) macKeysCard

/-- THE SECOND FORM's CARD OF 'inquestlaw03.MacSums'. -/
def macSumsUptoCard : Claim7 := { stood := { row := macSumsUptoRow, standIns := [], harness := (true, "f0ed56abbf4001156675574085a4cd148ab8ca0f753d8d0384ef75b7a32d784c"), looks := false }, kinds := [], alts := [], laidByText := true, laidKinds := [.data], laidTests := true, laidLooks := .later }
def MacSumsUptoCardSaid : Prop := Claim7.holds Tryd.pinned (.plain (OpenSpec.upto macSumsSpec)) macSumsUptoCard

/-- THE SECOND FORM's CARD OF 'inquestlaw03.MacSames'. -/
def macSamesUptoCard : Claim7 := { stood := { row := macSamesUptoRow, standIns := [], harness := (true, "f0ed56abbf4001156675574085a4cd148ab8ca0f753d8d0384ef75b7a32d784c"), looks := false }, kinds := [], alts := [], laidByText := true, laidKinds := [.data], laidTests := true, laidLooks := .later }
def MacSamesUptoCardSaid : Prop := Claim7.holds Tryd.pinned (.plain (OpenSpec.upto macSamesSpec)) macSamesUptoCard

/-- THE SECOND FORM's CARD OF 'inquestlaw03.MacLong'. -/
def macLongUptoCard : Claim7 := { stood := { row := macLongUptoRow, standIns := [], harness := (true, "f0ed56abbf4001156675574085a4cd148ab8ca0f753d8d0384ef75b7a32d784c"), looks := false }, kinds := [], alts := [], laidByText := true, laidKinds := [.data], laidTests := true, laidLooks := .later }
def MacLongUptoCardSaid : Prop := Claim7.holds Tryd.pinned (.plain (OpenSpec.upto macLongSpec)) macLongUptoCard

/-- THE SECOND FORM's CARD OF 'inquestlaw03.MacTwo'. -/
def macTwoUptoCard : Claim7 := { stood := { row := macTwoUptoRow, standIns := [], harness := (true, "f0ed56abbf4001156675574085a4cd148ab8ca0f753d8d0384ef75b7a32d784c"), looks := false }, kinds := [], alts := [], laidByText := true, laidKinds := [.data], laidTests := true, laidLooks := .later }
def MacTwoUptoCardSaid : Prop := Claim7.holds Tryd.pinned (.plain (OpenSpec.upto macTwoSpec)) macTwoUptoCard

/-- THE SECOND FORM's CARD OF 'inquestlaw03.MacChecks'. -/
def macChecksUptoCard : Claim7 := { stood := { row := macChecksUptoRow, standIns := [], harness := (true, "f0ed56abbf4001156675574085a4cd148ab8ca0f753d8d0384ef75b7a32d784c"), looks := false }, kinds := [], alts := [], laidByText := true, laidKinds := [.data], laidTests := true, laidLooks := .later }
def MacChecksUptoCardSaid : Prop := Claim7.holds Tryd.pinned (.plain (OpenSpec.upto macChecksSpec)) macChecksUptoCard

/-- THE SECOND FORM's CARD OF 'inquestlaw03.MacKeys'. -/
def macKeysUptoCard : Claim7 := { stood := { row := macKeysUptoRow, standIns := [], harness := (true, "f0ed56abbf4001156675574085a4cd148ab8ca0f753d8d0384ef75b7a32d784c"), looks := false }, kinds := [], alts := [], laidByText := true, laidKinds := [.data], laidTests := true, laidLooks := .later }
def MacKeysUptoCardSaid : Prop := Claim7.holds Tryd.pinned (.plain (OpenSpec.upto macKeysSpec)) macKeysUptoCard
end Rows
end Go.Proofs.YtjmoaalchefdnaaDoor
