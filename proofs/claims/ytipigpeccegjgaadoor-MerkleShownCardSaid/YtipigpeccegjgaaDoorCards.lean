/-
  DERIVED. GIVEN WITH THE SEED: THE CARDS: each row of YtipigpeccegjgaaDoorRows.lean that lists a variable, with what it lists TIED to the program's text (the seventh form; the later family's looks); each row that meets fmt, with fmt's text TOLD by the authors' own Lean function (tested against real Go, not proved from fmt's source: count such statements apart). THE CARD IS WHAT COUNTS. Prove the row's statement (the work); the ties are given (YtipigpeccegjgaaDoorTie.lean); close each card by the builder's one call (the guide's Derived/Test/ToyasCard.lean, 'card_holds'). Laid BY PROGRAM, IN A SANDBOX (cutbox-door.mjs). By AI agents, Wed Nov 11 2026. No macro, syntax, notation, axiom, sorry.
-/
import Derived.Test.YtipigpeccegjgaaDoorRows
import GoSem.ClaimSeven
namespace Go.Proofs.YtipigpeccegjgaaDoor
namespace Rows

/-- THE TIED CARD OF 'inquestlaw06.MerkleRoots'. -/
def merkleRootsCard : Claim7 := { stood := { row := merkleRootsRow, standIns := [], harness := (true, "be8efa90e27171c4d167c6de4b246784c8fc20969642bb1b41495071e4ab2a37"), looks := false }, kinds := [], alts := [], laidByText := true, laidKinds := [.data], laidTests := true, laidLooks := .later }
def MerkleRootsCardSaid : Prop := Claim7.holds Tryd.pinned (.plain (OpenSpec.ofChange merkleRootsSpec)) merkleRootsCard

/-- THE TIED CARD OF 'inquestlaw06.MerkleJoins'. -/
def merkleJoinsCard : Claim7 := { stood := { row := merkleJoinsRow, standIns := [], harness := (true, "be8efa90e27171c4d167c6de4b246784c8fc20969642bb1b41495071e4ab2a37"), looks := false }, kinds := [], alts := [], laidByText := true, laidKinds := [.data], laidTests := true, laidLooks := .later }
def MerkleJoinsCardSaid : Prop := Claim7.holds Tryd.pinned (.plain (OpenSpec.ofChange merkleJoinsSpec)) merkleJoinsCard

/-- THE TIED CARD OF 'inquestlaw06.MerkleSums'. -/
def merkleSumsCard : Claim7 := { stood := { row := merkleSumsRow, standIns := [], harness := (true, "be8efa90e27171c4d167c6de4b246784c8fc20969642bb1b41495071e4ab2a37"), looks := false }, kinds := [], alts := [], laidByText := true, laidKinds := [.data], laidTests := true, laidLooks := .later }
def MerkleSumsCardSaid : Prop := Claim7.holds Tryd.pinned (.plain (OpenSpec.ofChange merkleSumsSpec)) merkleSumsCard

/-- THE TIED CARD OF 'inquestlaw06.MerklePaths'. -/
def merklePathsCard : Claim7 := { stood := { row := merklePathsRow, standIns := [], harness := (true, "be8efa90e27171c4d167c6de4b246784c8fc20969642bb1b41495071e4ab2a37"), looks := false }, kinds := [], alts := [], laidByText := true, laidKinds := [.data], laidTests := true, laidLooks := .later }
def MerklePathsCardSaid : Prop := Claim7.holds Tryd.pinned (.plain (OpenSpec.ofChange merklePathsSpec)) merklePathsCard

/-- THE TIED CARD OF 'inquestlaw06.MerkleGrowths'. -/
def merkleGrowthsCard : Claim7 := { stood := { row := merkleGrowthsRow, standIns := [], harness := (true, "be8efa90e27171c4d167c6de4b246784c8fc20969642bb1b41495071e4ab2a37"), looks := false }, kinds := [], alts := [], laidByText := true, laidKinds := [.data], laidTests := true, laidLooks := .later }
def MerkleGrowthsCardSaid : Prop := Claim7.holds Tryd.pinned (.plain (OpenSpec.ofChange merkleGrowthsSpec)) merkleGrowthsCard

/-- THE TIED CARD OF 'inquestlaw06.MerkleChecks'. -/
def merkleChecksCard : Claim7 := { stood := { row := merkleChecksRow, standIns := [], harness := (true, "be8efa90e27171c4d167c6de4b246784c8fc20969642bb1b41495071e4ab2a37"), looks := false }, kinds := [], alts := [], laidByText := true, laidKinds := [.data], laidTests := true, laidLooks := .later }
def MerkleChecksCardSaid : Prop := Claim7.holds Tryd.pinned (.plain (OpenSpec.ofChange merkleChecksSpec)) merkleChecksCard

/-- THE TIED CARD OF 'inquestlaw06.MerkleGrows'. -/
def merkleGrowsCard : Claim7 := { stood := { row := merkleGrowsRow, standIns := [], harness := (true, "be8efa90e27171c4d167c6de4b246784c8fc20969642bb1b41495071e4ab2a37"), looks := false }, kinds := [], alts := [], laidByText := true, laidKinds := [.data], laidTests := true, laidLooks := .later }
def MerkleGrowsCardSaid : Prop := Claim7.holds Tryd.pinned (.plain (OpenSpec.ofChange merkleGrowsSpec)) merkleGrowsCard

/-- THE TIED CARD OF 'inquestlaw06.MerkleShown'. -/
def merkleShownCard : Claim7 := { stood := { row := merkleShownRow, standIns := [], harness := (true, "be8efa90e27171c4d167c6de4b246784c8fc20969642bb1b41495071e4ab2a37"), looks := false }, kinds := [], alts := [], laidByText := true, laidKinds := [.data], laidTests := true, laidLooks := .later }
def MerkleShownCardSaid : Prop := Claim7.holds Tryd.pinned (.plain (OpenSpec.ofChange merkleShownSpec)) merkleShownCard

/-- THE SECOND FORM's CARD OF 'inquestlaw06.MerkleRoots'. -/
def merkleRootsUptoCard : Claim7 := { stood := { row := merkleRootsUptoRow, standIns := [], harness := (true, "be8efa90e27171c4d167c6de4b246784c8fc20969642bb1b41495071e4ab2a37"), looks := false }, kinds := [], alts := [], laidByText := true, laidKinds := [.data], laidTests := true, laidLooks := .later }
def MerkleRootsUptoCardSaid : Prop := Claim7.holds Tryd.pinned (.plain (OpenSpec.upto merkleRootsSpec)) merkleRootsUptoCard

/-- THE SECOND FORM's CARD OF 'inquestlaw06.MerkleJoins'. -/
def merkleJoinsUptoCard : Claim7 := { stood := { row := merkleJoinsUptoRow, standIns := [], harness := (true, "be8efa90e27171c4d167c6de4b246784c8fc20969642bb1b41495071e4ab2a37"), looks := false }, kinds := [], alts := [], laidByText := true, laidKinds := [.data], laidTests := true, laidLooks := .later }
def MerkleJoinsUptoCardSaid : Prop := Claim7.holds Tryd.pinned (.plain (OpenSpec.upto merkleJoinsSpec)) merkleJoinsUptoCard

/-- THE SECOND FORM's CARD OF 'inquestlaw06.MerkleSums'. -/
def merkleSumsUptoCard : Claim7 := { stood := { row := merkleSumsUptoRow, standIns := [], harness := (true, "be8efa90e27171c4d167c6de4b246784c8fc20969642bb1b41495071e4ab2a37"), looks := false }, kinds := [], alts := [], laidByText := true, laidKinds := [.data], laidTests := true, laidLooks := .later }
def MerkleSumsUptoCardSaid : Prop := Claim7.holds Tryd.pinned (.plain (OpenSpec.upto merkleSumsSpec)) merkleSumsUptoCard

/-- THE SECOND FORM's CARD OF 'inquestlaw06.MerklePaths'. -/
def merklePathsUptoCard : Claim7 := { stood := { row := merklePathsUptoRow, standIns := [], harness := (true, "be8efa90e27171c4d167c6de4b246784c8fc20969642bb1b41495071e4ab2a37"), looks := false }, kinds := [], alts := [], laidByText := true, laidKinds := [.data], laidTests := true, laidLooks := .later }
def MerklePathsUptoCardSaid : Prop := Claim7.holds Tryd.pinned (.plain (OpenSpec.upto merklePathsSpec)) merklePathsUptoCard

/-- THE SECOND FORM's CARD OF 'inquestlaw06.MerkleGrowths'. -/
def merkleGrowthsUptoCard : Claim7 := { stood := { row := merkleGrowthsUptoRow, standIns := [], harness := (true, "be8efa90e27171c4d167c6de4b246784c8fc20969642bb1b41495071e4ab2a37"), looks := false }, kinds := [], alts := [], laidByText := true, laidKinds := [.data], laidTests := true, laidLooks := .later }
def MerkleGrowthsUptoCardSaid : Prop := Claim7.holds Tryd.pinned (.plain (OpenSpec.upto merkleGrowthsSpec)) merkleGrowthsUptoCard

/-- THE SECOND FORM's CARD OF 'inquestlaw06.MerkleChecks'. -/
def merkleChecksUptoCard : Claim7 := { stood := { row := merkleChecksUptoRow, standIns := [], harness := (true, "be8efa90e27171c4d167c6de4b246784c8fc20969642bb1b41495071e4ab2a37"), looks := false }, kinds := [], alts := [], laidByText := true, laidKinds := [.data], laidTests := true, laidLooks := .later }
def MerkleChecksUptoCardSaid : Prop := Claim7.holds Tryd.pinned (.plain (OpenSpec.upto merkleChecksSpec)) merkleChecksUptoCard

/-- THE SECOND FORM's CARD OF 'inquestlaw06.MerkleGrows'. -/
def merkleGrowsUptoCard : Claim7 := { stood := { row := merkleGrowsUptoRow, standIns := [], harness := (true, "be8efa90e27171c4d167c6de4b246784c8fc20969642bb1b41495071e4ab2a37"), looks := false }, kinds := [], alts := [], laidByText := true, laidKinds := [.data], laidTests := true, laidLooks := .later }
def MerkleGrowsUptoCardSaid : Prop := Claim7.holds Tryd.pinned (.plain (OpenSpec.upto merkleGrowsSpec)) merkleGrowsUptoCard

/-- THE SECOND FORM's CARD OF 'inquestlaw06.MerkleShown'. -/
def merkleShownUptoCard : Claim7 := { stood := { row := merkleShownUptoRow, standIns := [], harness := (true, "be8efa90e27171c4d167c6de4b246784c8fc20969642bb1b41495071e4ab2a37"), looks := false }, kinds := [], alts := [], laidByText := true, laidKinds := [.data], laidTests := true, laidLooks := .later }
def MerkleShownUptoCardSaid : Prop := Claim7.holds Tryd.pinned (.plain (OpenSpec.upto merkleShownSpec)) merkleShownUptoCard
end Rows
end Go.Proofs.YtipigpeccegjgaaDoor
