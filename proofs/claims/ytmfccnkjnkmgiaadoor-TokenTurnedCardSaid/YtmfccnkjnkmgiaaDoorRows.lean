/-
  NARROWER THAN 'FOR EVERY INPUT', by the rows' own cells (each row's printed sentence says how): TokenMints: laid · TokenOne: laid · TokenTurned: laid · TokenTimes: laid · TokenOpens: laid · TokenBack: laid.
  DERIVED. THE GIVEN ROWS OF THIS SEAT. 6 by the template 'for every input the law returns true; each argument reads behind the call as it read before'; 0 by the template 'total and deterministic' (their statements: YtmfccnkjnkmgiaaDoorTotals.lean).
  GIVEN WITH THE SEED: the statements are not yours to turn. If you find one false, say at which input.
  Laid BY PROGRAM, IN A SANDBOX (cutbox-rows.mjs): the forced cells as the released guide's own fill.sh prints them over the translation 4c3b3f7d3d960298… (all of the seat's roots in one cut). By AI agents, Wed Nov 11 2026. No macro, syntax, notation, axiom, sorry.
-/
import Derived.Test.YtmfccnkjnkmgiaaDoorChecked
import GoSem.Claim
import GoSem.ClaimJoined
import GoSem.ClaimMapViews
import Derived.JoinedTies
import Derived.KernelRfl
namespace Go.Proofs.YtmfccnkjnkmgiaaDoor
/- THE CELL 'sum', in the pinned program and in every row, IS THE sha256 OF THE DUMP (.gsa) THAT YtmfccnkjnkmgiaaDoorProg.lean LOADS. Nothing in Lean hashes anything: it is a label: what it is worth is what the hold of that sum in a sandbox is worth. -/
noncomputable def Tryd.pinned : Pinned := { name := "ytmfccnkjnkmgiaadoor", sum := "4c3b3f7d3d96029837cd9707f78af9234c932167669c0994d251c9d236c4f401", checked := Tryd.checked }
namespace Rows
def none {H : Type} : Left H := { results := [], args := [] }

/- WHAT THE LISTED PACKAGE-LEVEL VARIABLES READ AS WHEN THE CALL BEGINS. Each datum BY PROGRAM (the guide's laid-datum.mjs) off the statement by which the dump's own 'gosem.cut.vars' lays the variable. In a bare row this is a premise. The card (YtmfccnkjnkmgiaaDoorCards.lean) ties it to the program's text. -/
def laid_inquest_sha_k {H : Type} : DataW H := .agg [.lit (.int .u32 1116352408), .lit (.int .u32 1899447441), .lit (.int .u32 3049323471), .lit (.int .u32 3921009573), .lit (.int .u32 961987163), .lit (.int .u32 1508970993), .lit (.int .u32 2453635748), .lit (.int .u32 2870763221), .lit (.int .u32 3624381080), .lit (.int .u32 310598401), .lit (.int .u32 607225278), .lit (.int .u32 1426881987), .lit (.int .u32 1925078388), .lit (.int .u32 2162078206), .lit (.int .u32 2614888103), .lit (.int .u32 3248222580), .lit (.int .u32 3835390401), .lit (.int .u32 4022224774), .lit (.int .u32 264347078), .lit (.int .u32 604807628), .lit (.int .u32 770255983), .lit (.int .u32 1249150122), .lit (.int .u32 1555081692), .lit (.int .u32 1996064986), .lit (.int .u32 2554220882), .lit (.int .u32 2821834349), .lit (.int .u32 2952996808), .lit (.int .u32 3210313671), .lit (.int .u32 3336571891), .lit (.int .u32 3584528711), .lit (.int .u32 113926993), .lit (.int .u32 338241895), .lit (.int .u32 666307205), .lit (.int .u32 773529912), .lit (.int .u32 1294757372), .lit (.int .u32 1396182291), .lit (.int .u32 1695183700), .lit (.int .u32 1986661051), .lit (.int .u32 2177026350), .lit (.int .u32 2456956037), .lit (.int .u32 2730485921), .lit (.int .u32 2820302411), .lit (.int .u32 3259730800), .lit (.int .u32 3345764771), .lit (.int .u32 3516065817), .lit (.int .u32 3600352804), .lit (.int .u32 4094571909), .lit (.int .u32 275423344), .lit (.int .u32 430227734), .lit (.int .u32 506948616), .lit (.int .u32 659060556), .lit (.int .u32 883997877), .lit (.int .u32 958139571), .lit (.int .u32 1322822218), .lit (.int .u32 1537002063), .lit (.int .u32 1747873779), .lit (.int .u32 1955562222), .lit (.int .u32 2024104815), .lit (.int .u32 2227730452), .lit (.int .u32 2361852424), .lit (.int .u32 2428436474), .lit (.int .u32 2756734187), .lit (.int .u32 3204031479), .lit (.int .u32 3329325298)]

/-- 'inquestlaw05.TokenMints': WHATEVER THE INPUT: true; the input reads as it did. -/
def tokenMintsSpec : ChangeSpec := { name := "tokenMints", fn := fun _ => fun
  | [d1, d2, d3] => { results := [.lit (.bool true)], args := [d1, d2, d3] }
  | _ => none }
def tokenMintsRow : OpenClaim := { program := "ytmfccnkjnkmgiaadoor", sum := "4c3b3f7d3d96029837cd9707f78af9234c932167669c0994d251c9d236c4f401", func := "inquest/inquestlaw05.TokenMints", spec := "tokenMints", recurses := true, named := ["inquest/sha.k"], apart := false, laid := [("inquest/sha.k", laid_inquest_sha_k)] }
def TokenMintsSaid : Prop := tokenMintsRow.holds Tryd.pinned (OpenSpec.ofChange tokenMintsSpec)

/-- ITS FALSE NEIGHBOUR: 'it returns false'. Refute it at one input. -/
def tokenMintsWrong : ChangeSpec := { name := "tokenMints", fn := fun _ => fun
  | [d1, d2, d3] => { results := [.lit (.bool false)], args := [d1, d2, d3] }
  | _ => none }
def TokenMintsWrongFalsely : Prop := tokenMintsRow.holds Tryd.pinned (OpenSpec.ofChange tokenMintsWrong)

/-- 'inquestlaw05.TokenOne': WHATEVER THE INPUT: true; the input reads as it did. -/
def tokenOneSpec : ChangeSpec := { name := "tokenOne", fn := fun _ => fun
  | [d1, d2, d3] => { results := [.lit (.bool true)], args := [d1, d2, d3] }
  | _ => none }
def tokenOneRow : OpenClaim := { program := "ytmfccnkjnkmgiaadoor", sum := "4c3b3f7d3d96029837cd9707f78af9234c932167669c0994d251c9d236c4f401", func := "inquest/inquestlaw05.TokenOne", spec := "tokenOne", named := ["inquest/sha.k"], apart := false, laid := [("inquest/sha.k", laid_inquest_sha_k)] }
def TokenOneSaid : Prop := tokenOneRow.holds Tryd.pinned (OpenSpec.ofChange tokenOneSpec)

/-- ITS FALSE NEIGHBOUR: 'it returns false'. Refute it at one input. -/
def tokenOneWrong : ChangeSpec := { name := "tokenOne", fn := fun _ => fun
  | [d1, d2, d3] => { results := [.lit (.bool false)], args := [d1, d2, d3] }
  | _ => none }
def TokenOneWrongFalsely : Prop := tokenOneRow.holds Tryd.pinned (OpenSpec.ofChange tokenOneWrong)

/-- 'inquestlaw05.TokenTurned': WHATEVER THE INPUT: true; the input reads as it did. -/
def tokenTurnedSpec : ChangeSpec := { name := "tokenTurned", fn := fun _ => fun
  | [d1, d2, d3, d4, d5] => { results := [.lit (.bool true)], args := [d1, d2, d3, d4, d5] }
  | _ => none }
def tokenTurnedRow : OpenClaim := { program := "ytmfccnkjnkmgiaadoor", sum := "4c3b3f7d3d96029837cd9707f78af9234c932167669c0994d251c9d236c4f401", func := "inquest/inquestlaw05.TokenTurned", spec := "tokenTurned", recurses := true, named := ["inquest/sha.k"], apart := false, laid := [("inquest/sha.k", laid_inquest_sha_k)] }
def TokenTurnedSaid : Prop := tokenTurnedRow.holds Tryd.pinned (OpenSpec.ofChange tokenTurnedSpec)

/-- ITS FALSE NEIGHBOUR: 'it returns false'. Refute it at one input. -/
def tokenTurnedWrong : ChangeSpec := { name := "tokenTurned", fn := fun _ => fun
  | [d1, d2, d3, d4, d5] => { results := [.lit (.bool false)], args := [d1, d2, d3, d4, d5] }
  | _ => none }
def TokenTurnedWrongFalsely : Prop := tokenTurnedRow.holds Tryd.pinned (OpenSpec.ofChange tokenTurnedWrong)

/-- 'inquestlaw05.TokenTimes': WHATEVER THE INPUT: true; the input reads as it did. -/
def tokenTimesSpec : ChangeSpec := { name := "tokenTimes", fn := fun _ => fun
  | [d1, d2, d3, d4] => { results := [.lit (.bool true)], args := [d1, d2, d3, d4] }
  | _ => none }
def tokenTimesRow : OpenClaim := { program := "ytmfccnkjnkmgiaadoor", sum := "4c3b3f7d3d96029837cd9707f78af9234c932167669c0994d251c9d236c4f401", func := "inquest/inquestlaw05.TokenTimes", spec := "tokenTimes", named := ["inquest/sha.k"], apart := false, laid := [("inquest/sha.k", laid_inquest_sha_k)] }
def TokenTimesSaid : Prop := tokenTimesRow.holds Tryd.pinned (OpenSpec.ofChange tokenTimesSpec)

/-- ITS FALSE NEIGHBOUR: 'it returns false'. Refute it at one input. -/
def tokenTimesWrong : ChangeSpec := { name := "tokenTimes", fn := fun _ => fun
  | [d1, d2, d3, d4] => { results := [.lit (.bool false)], args := [d1, d2, d3, d4] }
  | _ => none }
def TokenTimesWrongFalsely : Prop := tokenTimesRow.holds Tryd.pinned (OpenSpec.ofChange tokenTimesWrong)

/-- 'inquestlaw05.TokenOpens': WHATEVER THE INPUT: true; the input reads as it did. -/
def tokenOpensSpec : ChangeSpec := { name := "tokenOpens", fn := fun _ => fun
  | [d1, d2, d3] => { results := [.lit (.bool true)], args := [d1, d2, d3] }
  | _ => none }
def tokenOpensRow : OpenClaim := { program := "ytmfccnkjnkmgiaadoor", sum := "4c3b3f7d3d96029837cd9707f78af9234c932167669c0994d251c9d236c4f401", func := "inquest/inquestlaw05.TokenOpens", spec := "tokenOpens", recurses := true, named := ["inquest/sha.k"], apart := false, laid := [("inquest/sha.k", laid_inquest_sha_k)] }
def TokenOpensSaid : Prop := tokenOpensRow.holds Tryd.pinned (OpenSpec.ofChange tokenOpensSpec)

/-- ITS FALSE NEIGHBOUR: 'it returns false'. Refute it at one input. -/
def tokenOpensWrong : ChangeSpec := { name := "tokenOpens", fn := fun _ => fun
  | [d1, d2, d3] => { results := [.lit (.bool false)], args := [d1, d2, d3] }
  | _ => none }
def TokenOpensWrongFalsely : Prop := tokenOpensRow.holds Tryd.pinned (OpenSpec.ofChange tokenOpensWrong)

/-- 'inquestlaw05.TokenBack': WHATEVER THE INPUT: true; the input reads as it did. -/
def tokenBackSpec : ChangeSpec := { name := "tokenBack", fn := fun _ => fun
  | [d1, d2, d3, d4] => { results := [.lit (.bool true)], args := [d1, d2, d3, d4] }
  | _ => none }
def tokenBackRow : OpenClaim := { program := "ytmfccnkjnkmgiaadoor", sum := "4c3b3f7d3d96029837cd9707f78af9234c932167669c0994d251c9d236c4f401", func := "inquest/inquestlaw05.TokenBack", spec := "tokenBack", named := ["inquest/sha.k"], apart := false, laid := [("inquest/sha.k", laid_inquest_sha_k)] }
def TokenBackSaid : Prop := tokenBackRow.holds Tryd.pinned (OpenSpec.ofChange tokenBackSpec)

/-- ITS FALSE NEIGHBOUR: 'it returns false'. Refute it at one input. -/
def tokenBackWrong : ChangeSpec := { name := "tokenBack", fn := fun _ => fun
  | [d1, d2, d3, d4] => { results := [.lit (.bool false)], args := [d1, d2, d3, d4] }
  | _ => none }
def TokenBackWrongFalsely : Prop := tokenBackRow.holds Tryd.pinned (OpenSpec.ofChange tokenBackWrong)

/- THE SECOND FORM. 'bulk': how many values and letters a reading holds, each counted each time it is reached (what is shared counts as often as it is met; a slice's spare places count too). A statement '..UptoSaid' is the law's where the arguments, and the package variables that the reading takes, are together of bulk at most 1048576: NARROWER than '..Said'. Prove '..Said' where nothing that the law and all that it calls make is longer than what came in: it says more and counts as full. Else prove '..UptoSaid'. A law counts once. -/
mutual
def uptoBulk {H : Type} : DataW H → Nat
  | .lit (.string bytes) => bytes.length + 1
  | .lit _ => 1
  | .nil => 1
  | .ptr d => uptoBulk d + 1
  | .slice elems spare => uptoBulkAll elems + uptoBulkAll spare + 1
  | .agg parts => uptoBulkAll parts + 1
  | .iface _ d => uptoBulk d + 1
  | .map entries => uptoBulkEntries entries + 1
  | .held _ => 1
def uptoBulkAll {H : Type} : List (DataW H) → Nat
  | [] => 0
  | d :: r => uptoBulk d + uptoBulkAll r
def uptoBulkEntries {H : Type} : List (Lit × DataW H) → Nat
  | [] => 0
  | x :: r => uptoBulkEntry x + uptoBulkEntries r
def uptoBulkEntry {H : Type} : Lit × DataW H → Nat
  | (.string bytes, d) => bytes.length + uptoBulk d + 1
  | (_, d) => uptoBulk d + 1
 end
def uptoSmall : (H : Type) → List (DataW H) → Bool := fun _ ds => decide (uptoBulkAll ds ≤ 1048576)
def OpenSpec.upto (s : _root_.Go.ChangeSpec) : _root_.Go.OpenSpec := { _root_.Go.OpenSpec.ofChange s with cond := some uptoSmall }

/-- 'inquestlaw05.TokenMints', WHERE WHAT IT READS IS OF BULK AT MOST 1048576: true; the input reads as it did. -/
def tokenMintsUptoRow : OpenClaim := { program := "ytmfccnkjnkmgiaadoor", sum := "4c3b3f7d3d96029837cd9707f78af9234c932167669c0994d251c9d236c4f401", func := "inquest/inquestlaw05.TokenMints", spec := "tokenMints", recurses := true, named := ["inquest/sha.k"], apart := false, laid := [("inquest/sha.k", laid_inquest_sha_k)], narrowed := true }
def TokenMintsUptoSaid : Prop := tokenMintsUptoRow.holds Tryd.pinned (OpenSpec.upto tokenMintsSpec)

/-- 'inquestlaw05.TokenOne', WHERE WHAT IT READS IS OF BULK AT MOST 1048576: true; the input reads as it did. -/
def tokenOneUptoRow : OpenClaim := { program := "ytmfccnkjnkmgiaadoor", sum := "4c3b3f7d3d96029837cd9707f78af9234c932167669c0994d251c9d236c4f401", func := "inquest/inquestlaw05.TokenOne", spec := "tokenOne", named := ["inquest/sha.k"], apart := false, laid := [("inquest/sha.k", laid_inquest_sha_k)], narrowed := true }
def TokenOneUptoSaid : Prop := tokenOneUptoRow.holds Tryd.pinned (OpenSpec.upto tokenOneSpec)

/-- 'inquestlaw05.TokenTurned', WHERE WHAT IT READS IS OF BULK AT MOST 1048576: true; the input reads as it did. -/
def tokenTurnedUptoRow : OpenClaim := { program := "ytmfccnkjnkmgiaadoor", sum := "4c3b3f7d3d96029837cd9707f78af9234c932167669c0994d251c9d236c4f401", func := "inquest/inquestlaw05.TokenTurned", spec := "tokenTurned", recurses := true, named := ["inquest/sha.k"], apart := false, laid := [("inquest/sha.k", laid_inquest_sha_k)], narrowed := true }
def TokenTurnedUptoSaid : Prop := tokenTurnedUptoRow.holds Tryd.pinned (OpenSpec.upto tokenTurnedSpec)

/-- 'inquestlaw05.TokenTimes', WHERE WHAT IT READS IS OF BULK AT MOST 1048576: true; the input reads as it did. -/
def tokenTimesUptoRow : OpenClaim := { program := "ytmfccnkjnkmgiaadoor", sum := "4c3b3f7d3d96029837cd9707f78af9234c932167669c0994d251c9d236c4f401", func := "inquest/inquestlaw05.TokenTimes", spec := "tokenTimes", named := ["inquest/sha.k"], apart := false, laid := [("inquest/sha.k", laid_inquest_sha_k)], narrowed := true }
def TokenTimesUptoSaid : Prop := tokenTimesUptoRow.holds Tryd.pinned (OpenSpec.upto tokenTimesSpec)

/-- 'inquestlaw05.TokenOpens', WHERE WHAT IT READS IS OF BULK AT MOST 1048576: true; the input reads as it did. -/
def tokenOpensUptoRow : OpenClaim := { program := "ytmfccnkjnkmgiaadoor", sum := "4c3b3f7d3d96029837cd9707f78af9234c932167669c0994d251c9d236c4f401", func := "inquest/inquestlaw05.TokenOpens", spec := "tokenOpens", recurses := true, named := ["inquest/sha.k"], apart := false, laid := [("inquest/sha.k", laid_inquest_sha_k)], narrowed := true }
def TokenOpensUptoSaid : Prop := tokenOpensUptoRow.holds Tryd.pinned (OpenSpec.upto tokenOpensSpec)

/-- 'inquestlaw05.TokenBack', WHERE WHAT IT READS IS OF BULK AT MOST 1048576: true; the input reads as it did. -/
def tokenBackUptoRow : OpenClaim := { program := "ytmfccnkjnkmgiaadoor", sum := "4c3b3f7d3d96029837cd9707f78af9234c932167669c0994d251c9d236c4f401", func := "inquest/inquestlaw05.TokenBack", spec := "tokenBack", named := ["inquest/sha.k"], apart := false, laid := [("inquest/sha.k", laid_inquest_sha_k)], narrowed := true }
def TokenBackUptoSaid : Prop := tokenBackUptoRow.holds Tryd.pinned (OpenSpec.upto tokenBackSpec)

end Rows
end Go.Proofs.YtmfccnkjnkmgiaaDoor
