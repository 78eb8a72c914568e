/-
  DERIVED. GIVEN WITH THE SEED: THE CARDS: each row of YtancldhincaphaaDoorRows.lean that lists a variable, with what it lists TIED to the program's text (the seventh form; the later family's looks); each row that meets fmt, with fmt's text TOLD by the authors' own Lean function (tested against real Go, not proved from fmt's source: count such statements apart). THE CARD IS WHAT COUNTS. Prove the row's statement (the work); the ties are given (YtancldhincaphaaDoorTie.lean); close each card by the builder's one call (the guide's Derived/Test/ToyasCard.lean, 'card_holds'). Laid BY PROGRAM, IN A SANDBOX (cutbox-door.mjs). By AI agents, Wed Nov 11 2026. No macro, syntax, notation, axiom, sorry.
-/
import Derived.Test.YtancldhincaphaaDoorRows
import GoSem.ClaimSeven
namespace Go.Proofs.YtancldhincaphaaDoor
namespace Rows

/-- THE TIED CARD OF 'inquestlaw21.LedgerHeads'. -/
def ledgerHeadsCard : Claim7 := { stood := { row := ledgerHeadsRow, standIns := [], harness := (true, "260345d588a431df6efec8e50f16f78c8d53abd2954e276463b06a9234880dba"), looks := false }, kinds := [], alts := [], laidByText := true, laidKinds := [.data], laidTests := true, laidLooks := .later }
def LedgerHeadsCardSaid : Prop := Claim7.holds Tryd.pinned (.plain (OpenSpec.ofChange ledgerHeadsSpec)) ledgerHeadsCard

/-- THE TIED CARD OF 'inquestlaw21.LedgerStays'. -/
def ledgerStaysCard : Claim7 := { stood := { row := ledgerStaysRow, standIns := [], harness := (true, "260345d588a431df6efec8e50f16f78c8d53abd2954e276463b06a9234880dba"), looks := false }, kinds := [], alts := [], laidByText := true, laidKinds := [.data], laidTests := true, laidLooks := .later }
def LedgerStaysCardSaid : Prop := Claim7.holds Tryd.pinned (.plain (OpenSpec.ofChange ledgerStaysSpec)) ledgerStaysCard

/-- THE TIED CARD OF 'inquestlaw21.LedgerChain'. -/
def ledgerChainCard : Claim7 := { stood := { row := ledgerChainRow, standIns := [], harness := (true, "260345d588a431df6efec8e50f16f78c8d53abd2954e276463b06a9234880dba"), looks := false }, kinds := [], alts := [], laidByText := true, laidKinds := [.data], laidTests := true, laidLooks := .later }
def LedgerChainCardSaid : Prop := Claim7.holds Tryd.pinned (.plain (OpenSpec.ofChange ledgerChainSpec)) ledgerChainCard

/-- THE TIED CARD OF 'inquestlaw21.LedgerPlays'. -/
def ledgerPlaysCard : Claim7 := { stood := { row := ledgerPlaysRow, standIns := [], harness := (true, "260345d588a431df6efec8e50f16f78c8d53abd2954e276463b06a9234880dba"), looks := false }, kinds := [], alts := [], laidByText := true, laidKinds := [.data], laidTests := true, laidLooks := .later }
def LedgerPlaysCardSaid : Prop := Claim7.holds Tryd.pinned (.plain (OpenSpec.ofChange ledgerPlaysSpec)) ledgerPlaysCard

/-- THE TIED CARD OF 'inquestlaw21.LedgerNobody'. -/
def ledgerNobodyCard : Claim7 := { stood := { row := ledgerNobodyRow, standIns := [], harness := (true, "260345d588a431df6efec8e50f16f78c8d53abd2954e276463b06a9234880dba"), looks := false }, kinds := [], alts := [], laidByText := true, laidKinds := [.data], laidTests := true, laidLooks := .later }
def LedgerNobodyCardSaid : Prop := Claim7.holds Tryd.pinned (.plain (OpenSpec.ofChange ledgerNobodySpec)) ledgerNobodyCard

/-- THE TIED CARD OF 'inquestlaw21.LedgerShown'. -/
def ledgerShownCard : Claim7 := { stood := { row := ledgerShownRow, standIns := [], harness := (true, "260345d588a431df6efec8e50f16f78c8d53abd2954e276463b06a9234880dba"), looks := false }, kinds := [], alts := [], laidByText := true, laidKinds := [.data], laidTests := true, laidLooks := .later }
def LedgerShownCardSaid : Prop := Claim7.holds Tryd.pinned (.plain (OpenSpec.ofChange ledgerShownSpec)) ledgerShownCard

/-- THE SECOND FORM's CARD OF 'inquestlaw21.LedgerHeads'. -/
def ledgerHeadsUptoCard : Claim7 := { stood := { row := ledgerHeadsUptoRow, standIns := [], harness := (true, "260345d588a431df6efec8e50f16f78c8d53abd2954e276463b06a9234880dba"), looks := false }, kinds := [], alts := [], laidByText := true, laidKinds := [.data], laidTests := true, laidLooks := .later }
def LedgerHeadsUptoCardSaid : Prop := Claim7.holds Tryd.pinned (.plain (OpenSpec.upto ledgerHeadsSpec)) ledgerHeadsUptoCard

/-- THE SECOND FORM's CARD OF 'inquestlaw21.LedgerStays'. -/
def ledgerStaysUptoCard : Claim7 := { stood := { row := ledgerStaysUptoRow, standIns := [], harness := (true, "260345d588a431df6efec8e50f16f78c8d53abd2954e276463b06a9234880dba"), looks := false }, kinds := [], alts := [], laidByText := true, laidKinds := [.data], laidTests := true, laidLooks := .later }
def LedgerStaysUptoCardSaid : Prop := Claim7.holds Tryd.pinned (.plain (OpenSpec.upto ledgerStaysSpec)) ledgerStaysUptoCard

/-- THE SECOND FORM's CARD OF 'inquestlaw21.LedgerChain'. -/
def ledgerChainUptoCard : Claim7 := { stood := { row := ledgerChainUptoRow, standIns := [], harness := (true, "260345d588a431df6efec8e50f16f78c8d53abd2954e276463b06a9234880dba"), looks := false }, kinds := [], alts := [], laidByText := true, laidKinds := [.data], laidTests := true, laidLooks := .later }
def LedgerChainUptoCardSaid : Prop := Claim7.holds Tryd.pinned (.plain (OpenSpec.upto ledgerChainSpec)) ledgerChainUptoCard

/-- THE SECOND FORM's CARD OF 'inquestlaw21.LedgerPlays'. -/
def ledgerPlaysUptoCard : Claim7 := { stood := { row := ledgerPlaysUptoRow, standIns := [], harness := (true, "260345d588a431df6efec8e50f16f78c8d53abd2954e276463b06a9234880dba"), looks := false }, kinds := [], alts := [], laidByText := true, laidKinds := [.data], laidTests := true, laidLooks := .later }
def LedgerPlaysUptoCardSaid : Prop := Claim7.holds Tryd.pinned (.plain (OpenSpec.upto ledgerPlaysSpec)) ledgerPlaysUptoCard

/-- THE SECOND FORM's CARD OF 'inquestlaw21.LedgerNobody'. -/
def ledgerNobodyUptoCard : Claim7 := { stood := { row := ledgerNobodyUptoRow, standIns := [], harness := (true, "260345d588a431df6efec8e50f16f78c8d53abd2954e276463b06a9234880dba"), looks := false }, kinds := [], alts := [], laidByText := true, laidKinds := [.data], laidTests := true, laidLooks := .later }
def LedgerNobodyUptoCardSaid : Prop := Claim7.holds Tryd.pinned (.plain (OpenSpec.upto ledgerNobodySpec)) ledgerNobodyUptoCard

/-- THE SECOND FORM's CARD OF 'inquestlaw21.LedgerShown'. -/
def ledgerShownUptoCard : Claim7 := { stood := { row := ledgerShownUptoRow, standIns := [], harness := (true, "260345d588a431df6efec8e50f16f78c8d53abd2954e276463b06a9234880dba"), looks := false }, kinds := [], alts := [], laidByText := true, laidKinds := [.data], laidTests := true, laidLooks := .later }
def LedgerShownUptoCardSaid : Prop := Claim7.holds Tryd.pinned (.plain (OpenSpec.upto ledgerShownSpec)) ledgerShownUptoCard
end Rows
end Go.Proofs.YtancldhincaphaaDoor
