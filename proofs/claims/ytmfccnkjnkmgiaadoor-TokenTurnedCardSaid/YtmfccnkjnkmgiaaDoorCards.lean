/-
  DERIVED. GIVEN WITH THE SEED: THE CARDS: each row of YtmfccnkjnkmgiaaDoorRows.lean that lists a variable, with what it lists TIED to the program's text (the seventh form; the later family's looks); each row that meets fmt, with fmt's text TOLD by the authors' own Lean function (tested against real Go, not proved from fmt's source: count such statements apart). THE CARD IS WHAT COUNTS. Prove the row's statement (the work); the ties are given (YtmfccnkjnkmgiaaDoorTie.lean); close each card by the builder's one call (the guide's Derived/Test/ToyasCard.lean, 'card_holds'). Laid BY PROGRAM, IN A SANDBOX (cutbox-door.mjs). By AI agents, Wed Nov 11 2026. No macro, syntax, notation, axiom, sorry.
-/
import Derived.Test.YtmfccnkjnkmgiaaDoorRows
import GoSem.ClaimSeven
namespace Go.Proofs.YtmfccnkjnkmgiaaDoor
namespace Rows

/-- THE TIED CARD OF 'inquestlaw05.TokenMints'. -/
def tokenMintsCard : Claim7 := { stood := { row := tokenMintsRow, standIns := [], harness := (true, "a96d6bc89fcb9f2a90353259c77d566efa12b63a26f96efa9117742619e87532"), looks := false }, kinds := [], alts := [], laidByText := true, laidKinds := [.data], laidTests := true, laidLooks := .later }
def TokenMintsCardSaid : Prop := Claim7.holds Tryd.pinned (.plain (OpenSpec.ofChange tokenMintsSpec)) tokenMintsCard

/-- THE TIED CARD OF 'inquestlaw05.TokenOne'. -/
def tokenOneCard : Claim7 := { stood := { row := tokenOneRow, standIns := [], harness := (true, "a96d6bc89fcb9f2a90353259c77d566efa12b63a26f96efa9117742619e87532"), looks := false }, kinds := [], alts := [], laidByText := true, laidKinds := [.data], laidTests := true, laidLooks := .later }
def TokenOneCardSaid : Prop := Claim7.holds Tryd.pinned (.plain (OpenSpec.ofChange tokenOneSpec)) tokenOneCard

/-- THE TIED CARD OF 'inquestlaw05.TokenTurned'. -/
def tokenTurnedCard : Claim7 := { stood := { row := tokenTurnedRow, standIns := [], harness := (true, "a96d6bc89fcb9f2a90353259c77d566efa12b63a26f96efa9117742619e87532"), looks := false }, kinds := [], alts := [], laidByText := true, laidKinds := [.data], laidTests := true, laidLooks := .later }
def TokenTurnedCardSaid : Prop := Claim7.holds Tryd.pinned (.plain (OpenSpec.ofChange tokenTurnedSpec)) tokenTurnedCard

/-- THE TIED CARD OF 'inquestlaw05.TokenTimes'. -/
def tokenTimesCard : Claim7 := { stood := { row := tokenTimesRow, standIns := [], harness := (true, "a96d6bc89fcb9f2a90353259c77d566efa12b63a26f96efa9117742619e87532"), looks := false }, kinds := [], alts := [], laidByText := true, laidKinds := [.data], laidTests := true, laidLooks := .later }
def TokenTimesCardSaid : Prop := Claim7.holds Tryd.pinned (.plain (OpenSpec.ofChange tokenTimesSpec)) tokenTimesCard

/-- THE TIED CARD OF 'inquestlaw05.TokenOpens'. -/
def tokenOpensCard : Claim7 := { stood := { row := tokenOpensRow, standIns := [], harness := (true, "a96d6bc89fcb9f2a90353259c77d566efa12b63a26f96efa9117742619e87532"), looks := false }, kinds := [], alts := [], laidByText := true, laidKinds := [.data], laidTests := true, laidLooks := .later }
def TokenOpensCardSaid : Prop := Claim7.holds Tryd.pinned (.plain (OpenSpec.ofChange tokenOpensSpec)) tokenOpensCard

/-- THE TIED CARD OF 'inquestlaw05.TokenBack'. -/
def tokenBackCard : Claim7 := { stood := { row := tokenBackRow, standIns := [], harness := (true, "a96d6bc89fcb9f2a90353259c77d566efa12b63a26f96efa9117742619e87532"), looks := false }, kinds := [], alts := [], laidByText := true, laidKinds := [.data], laidTests := true, laidLooks := .later }
def TokenBackCardSaid : Prop := Claim7.holds Tryd.pinned (.plain (OpenSpec.ofChange tokenBackSpec)) tokenBackCard

/-- THE SECOND FORM's CARD OF 'inquestlaw05.TokenMints'. -/
def tokenMintsUptoCard : Claim7 := { stood := { row := tokenMintsUptoRow, standIns := [], harness := (true, "a96d6bc89fcb9f2a90353259c77d566efa12b63a26f96efa9117742619e87532"), looks := false }, kinds := [], alts := [], laidByText := true, laidKinds := [.data], laidTests := true, laidLooks := .later }
def TokenMintsUptoCardSaid : Prop := Claim7.holds Tryd.pinned (.plain (OpenSpec.upto tokenMintsSpec)) tokenMintsUptoCard

/-- THE SECOND FORM's CARD OF 'inquestlaw05.TokenOne'. -/
def tokenOneUptoCard : Claim7 := { stood := { row := tokenOneUptoRow, standIns := [], harness := (true, "a96d6bc89fcb9f2a90353259c77d566efa12b63a26f96efa9117742619e87532"), looks := false }, kinds := [], alts := [], laidByText := true, laidKinds := [.data], laidTests := true, laidLooks := .later }
def TokenOneUptoCardSaid : Prop := Claim7.holds Tryd.pinned (.plain (OpenSpec.upto tokenOneSpec)) tokenOneUptoCard

/-- THE SECOND FORM's CARD OF 'inquestlaw05.TokenTurned'. -/
def tokenTurnedUptoCard : Claim7 := { stood := { row := tokenTurnedUptoRow, standIns := [], harness := (true, "a96d6bc89fcb9f2a90353259c77d566efa12b63a26f96efa9117742619e87532"), looks := false }, kinds := [], alts := [], laidByText := true, laidKinds := [.data], laidTests := true, laidLooks := .later }
def TokenTurnedUptoCardSaid : Prop := Claim7.holds Tryd.pinned (.plain (OpenSpec.upto tokenTurnedSpec)) tokenTurnedUptoCard

/-- THE SECOND FORM's CARD OF 'inquestlaw05.TokenTimes'. -/
def tokenTimesUptoCard : Claim7 := { stood := { row := tokenTimesUptoRow, standIns := [], harness := (true, "a96d6bc89fcb9f2a90353259c77d566efa12b63a26f96efa9117742619e87532"), looks := false }, kinds := [], alts := [], laidByText := true, laidKinds := [.data], laidTests := true, laidLooks := .later }
def TokenTimesUptoCardSaid : Prop := Claim7.holds Tryd.pinned (.plain (OpenSpec.upto tokenTimesSpec)) tokenTimesUptoCard

/-- THE SECOND FORM's CARD OF 'inquestlaw05.TokenOpens'. -/
def tokenOpensUptoCard : Claim7 := { stood := { row := tokenOpensUptoRow, standIns := [], harness := (true, "a96d6bc89fcb9f2a90353259c77d566efa12b63a26f96efa9117742619e87532"), looks := false }, kinds := [], alts := [], laidByText := true, laidKinds := [.data], laidTests := true, laidLooks := .later }
def TokenOpensUptoCardSaid : Prop := Claim7.holds Tryd.pinned (.plain (OpenSpec.upto tokenOpensSpec)) tokenOpensUptoCard

/-- THE SECOND FORM's CARD OF 'inquestlaw05.TokenBack'. -/
def tokenBackUptoCard : Claim7 := { stood := { row := tokenBackUptoRow, standIns := [], harness := (true, "a96d6bc89fcb9f2a90353259c77d566efa12b63a26f96efa9117742619e87532"), looks := false }, kinds := [], alts := [], laidByText := true, laidKinds := [.data], laidTests := true, laidLooks := .later }
def TokenBackUptoCardSaid : Prop := Claim7.holds Tryd.pinned (.plain (OpenSpec.upto tokenBackSpec)) tokenBackUptoCard
end Rows
end Go.Proofs.YtmfccnkjnkmgiaaDoor
