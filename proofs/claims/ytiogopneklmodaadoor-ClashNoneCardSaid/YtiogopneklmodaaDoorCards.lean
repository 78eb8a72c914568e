/-
  DERIVED. GIVEN WITH THE SEED: THE CARDS: each row of YtiogopneklmodaaDoorRows.lean that lists a variable, with what it lists TIED to the program's text (the seventh form; the later family's looks); each row that meets fmt, with fmt's text TOLD by the authors' own Lean function (tested against real Go, not proved from fmt's source: count such statements apart). THE CARD IS WHAT COUNTS. Prove the row's statement (the work); the ties are given (YtiogopneklmodaaDoorTie.lean); close each card by the builder's one call (the guide's Derived/Test/ToyasCard.lean, 'card_holds'). Laid BY PROGRAM, IN A SANDBOX (cutbox-door.mjs). By AI agents, Wed Nov 11 2026. No macro, syntax, notation, axiom, sorry.
-/
import Derived.Test.YtiogopneklmodaaDoorRows
import GoSem.ClaimSeven
namespace Go.Proofs.YtiogopneklmodaaDoor
namespace Rows

/-- THE TIED CARD OF 'inquestlaw07.ClashIs'. -/
def clashIsCard : Claim7 := { stood := { row := clashIsRow, standIns := [], harness := (true, "a6538040bf6182b9ac2a5c1781f00a0c3c748f2c258c576bb2217fdfb678af43"), looks := false }, kinds := [], alts := [], laidByText := true, laidKinds := [.data], laidTests := true, laidLooks := .later }
def ClashIsCardSaid : Prop := Claim7.holds Tryd.pinned (.plain (OpenSpec.ofChange clashIsSpec)) clashIsCard

/-- THE TIED CARD OF 'inquestlaw07.ClashPaths'. -/
def clashPathsCard : Claim7 := { stood := { row := clashPathsRow, standIns := [], harness := (true, "a6538040bf6182b9ac2a5c1781f00a0c3c748f2c258c576bb2217fdfb678af43"), looks := false }, kinds := [], alts := [], laidByText := true, laidKinds := [.data], laidTests := true, laidLooks := .later }
def ClashPathsCardSaid : Prop := Claim7.holds Tryd.pinned (.plain (OpenSpec.ofChange clashPathsSpec)) clashPathsCard

/-- THE TIED CARD OF 'inquestlaw07.ClashFew'. -/
def clashFewCard : Claim7 := { stood := { row := clashFewRow, standIns := [], harness := (true, "a6538040bf6182b9ac2a5c1781f00a0c3c748f2c258c576bb2217fdfb678af43"), looks := false }, kinds := [], alts := [], laidByText := true, laidKinds := [.data], laidTests := true, laidLooks := .later }
def ClashFewCardSaid : Prop := Claim7.holds Tryd.pinned (.plain (OpenSpec.ofChange clashFewSpec)) clashFewCard

/-- THE TIED CARD OF 'inquestlaw07.ClashGrowths'. -/
def clashGrowthsCard : Claim7 := { stood := { row := clashGrowthsRow, standIns := [], harness := (true, "a6538040bf6182b9ac2a5c1781f00a0c3c748f2c258c576bb2217fdfb678af43"), looks := false }, kinds := [], alts := [], laidByText := true, laidKinds := [.data], laidTests := true, laidLooks := .later }
def ClashGrowthsCardSaid : Prop := Claim7.holds Tryd.pinned (.plain (OpenSpec.ofChange clashGrowthsSpec)) clashGrowthsCard

/-- THE TIED CARD OF 'inquestlaw07.ClashNone'. -/
def clashNoneCard : Claim7 := { stood := { row := clashNoneRow, standIns := [], harness := (true, "a6538040bf6182b9ac2a5c1781f00a0c3c748f2c258c576bb2217fdfb678af43"), looks := false }, kinds := [], alts := [], laidByText := true, laidKinds := [.data], laidTests := true, laidLooks := .later }
def ClashNoneCardSaid : Prop := Claim7.holds Tryd.pinned (.plain (OpenSpec.ofChange clashNoneSpec)) clashNoneCard

/-- THE SECOND FORM's CARD OF 'inquestlaw07.ClashIs'. -/
def clashIsUptoCard : Claim7 := { stood := { row := clashIsUptoRow, standIns := [], harness := (true, "a6538040bf6182b9ac2a5c1781f00a0c3c748f2c258c576bb2217fdfb678af43"), looks := false }, kinds := [], alts := [], laidByText := true, laidKinds := [.data], laidTests := true, laidLooks := .later }
def ClashIsUptoCardSaid : Prop := Claim7.holds Tryd.pinned (.plain (OpenSpec.upto clashIsSpec)) clashIsUptoCard

/-- THE SECOND FORM's CARD OF 'inquestlaw07.ClashPaths'. -/
def clashPathsUptoCard : Claim7 := { stood := { row := clashPathsUptoRow, standIns := [], harness := (true, "a6538040bf6182b9ac2a5c1781f00a0c3c748f2c258c576bb2217fdfb678af43"), looks := false }, kinds := [], alts := [], laidByText := true, laidKinds := [.data], laidTests := true, laidLooks := .later }
def ClashPathsUptoCardSaid : Prop := Claim7.holds Tryd.pinned (.plain (OpenSpec.upto clashPathsSpec)) clashPathsUptoCard

/-- THE SECOND FORM's CARD OF 'inquestlaw07.ClashFew'. -/
def clashFewUptoCard : Claim7 := { stood := { row := clashFewUptoRow, standIns := [], harness := (true, "a6538040bf6182b9ac2a5c1781f00a0c3c748f2c258c576bb2217fdfb678af43"), looks := false }, kinds := [], alts := [], laidByText := true, laidKinds := [.data], laidTests := true, laidLooks := .later }
def ClashFewUptoCardSaid : Prop := Claim7.holds Tryd.pinned (.plain (OpenSpec.upto clashFewSpec)) clashFewUptoCard

/-- THE SECOND FORM's CARD OF 'inquestlaw07.ClashGrowths'. -/
def clashGrowthsUptoCard : Claim7 := { stood := { row := clashGrowthsUptoRow, standIns := [], harness := (true, "a6538040bf6182b9ac2a5c1781f00a0c3c748f2c258c576bb2217fdfb678af43"), looks := false }, kinds := [], alts := [], laidByText := true, laidKinds := [.data], laidTests := true, laidLooks := .later }
def ClashGrowthsUptoCardSaid : Prop := Claim7.holds Tryd.pinned (.plain (OpenSpec.upto clashGrowthsSpec)) clashGrowthsUptoCard

/-- THE SECOND FORM's CARD OF 'inquestlaw07.ClashNone'. -/
def clashNoneUptoCard : Claim7 := { stood := { row := clashNoneUptoRow, standIns := [], harness := (true, "a6538040bf6182b9ac2a5c1781f00a0c3c748f2c258c576bb2217fdfb678af43"), looks := false }, kinds := [], alts := [], laidByText := true, laidKinds := [.data], laidTests := true, laidLooks := .later }
def ClashNoneUptoCardSaid : Prop := Claim7.holds Tryd.pinned (.plain (OpenSpec.upto clashNoneSpec)) clashNoneUptoCard
end Rows
end Go.Proofs.YtiogopneklmodaaDoor
