/-
  No cell of these rows narrows 'for every input' (looked for: loops, veiled, ifaces, maps, wideKeys, modest, calm, conditions, laid).
  DERIVED. THE GIVEN ROWS OF THIS SEAT. 7 by the template 'for every input the law returns true; each argument reads behind the call as it read before'; 0 by the template 'total and deterministic' (their statements: YtabhilifliekmaaTotals.lean).
  GIVEN WITH THE SEED: the statements are not yours to turn. If you find one false, say at which input.
  Laid BY PROGRAM, IN A SANDBOX (cutbox-rows.mjs): the forced cells as the released guide's own fill.sh prints them over the translation 43cd79d3f96cdea9… (all of the seat's roots in one cut). By AI agents, Wed Nov 11 2026. No macro, syntax, notation, axiom, sorry.
-/
import Derived.Test.YtabhilifliekmaaChecked
import GoSem.Claim
import GoSem.ClaimJoined
import GoSem.ClaimMapViews
import Derived.JoinedTies
import Derived.KernelRfl
namespace Go.Proofs.Ytabhilifliekmaa
/- THE CELL 'sum', in the pinned program and in every row, IS THE sha256 OF THE DUMP (.gsa) THAT YtabhilifliekmaaProg.lean LOADS. Nothing in Lean hashes anything: it is a label: what it is worth is what the hold of that sum in a sandbox is worth. -/
noncomputable def Try.pinned : Pinned := { name := "ytabhilifliekmaa", sum := "43cd79d3f96cdea91c8ebb7a7d5f3894ce5b61b986b520d790cf4bf203918dd6", checked := Try.checked }
namespace Rows
def none {H : Type} : Left H := { results := [], args := [] }

/-- 'inquestlaw04.TextNames': WHATEVER THE INPUT: true; the input reads as it did. -/
def textNamesSpec : ChangeSpec := { name := "textNames", fn := fun _ => fun
  | [d] => { results := [.lit (.bool true)], args := [d] }
  | _ => none }
def textNamesRow : OpenClaim := { program := "ytabhilifliekmaa", sum := "43cd79d3f96cdea91c8ebb7a7d5f3894ce5b61b986b520d790cf4bf203918dd6", func := "inquest/inquestlaw04.TextNames", spec := "textNames", apart := false }
def TextNamesSaid : Prop := textNamesRow.holds Try.pinned (OpenSpec.ofChange textNamesSpec)

/-- ITS FALSE NEIGHBOUR: 'it returns false'. Refute it at one input. -/
def textNamesWrong : ChangeSpec := { name := "textNames", fn := fun _ => fun
  | [d] => { results := [.lit (.bool false)], args := [d] }
  | _ => none }
def TextNamesWrongFalsely : Prop := textNamesRow.holds Try.pinned (OpenSpec.ofChange textNamesWrong)

/-- 'inquestlaw04.TextOrder': WHATEVER THE INPUT: true; the input reads as it did. -/
def textOrderSpec : ChangeSpec := { name := "textOrder", fn := fun _ => fun
  | [d1, d2] => { results := [.lit (.bool true)], args := [d1, d2] }
  | _ => none }
def textOrderRow : OpenClaim := { program := "ytabhilifliekmaa", sum := "43cd79d3f96cdea91c8ebb7a7d5f3894ce5b61b986b520d790cf4bf203918dd6", func := "inquest/inquestlaw04.TextOrder", spec := "textOrder", apart := false }
def TextOrderSaid : Prop := textOrderRow.holds Try.pinned (OpenSpec.ofChange textOrderSpec)

/-- ITS FALSE NEIGHBOUR: 'it returns false'. Refute it at one input. -/
def textOrderWrong : ChangeSpec := { name := "textOrder", fn := fun _ => fun
  | [d1, d2] => { results := [.lit (.bool false)], args := [d1, d2] }
  | _ => none }
def TextOrderWrongFalsely : Prop := textOrderRow.holds Try.pinned (OpenSpec.ofChange textOrderWrong)

/-- 'inquestlaw04.TextJoins': WHATEVER THE INPUT: true; the input reads as it did. -/
def textJoinsSpec : ChangeSpec := { name := "textJoins", fn := fun _ => fun
  | [d1, d2, d3] => { results := [.lit (.bool true)], args := [d1, d2, d3] }
  | _ => none }
def textJoinsRow : OpenClaim := { program := "ytabhilifliekmaa", sum := "43cd79d3f96cdea91c8ebb7a7d5f3894ce5b61b986b520d790cf4bf203918dd6", func := "inquest/inquestlaw04.TextJoins", spec := "textJoins", apart := false }
def TextJoinsSaid : Prop := textJoinsRow.holds Try.pinned (OpenSpec.ofChange textJoinsSpec)

/-- ITS FALSE NEIGHBOUR: 'it returns false'. Refute it at one input. -/
def textJoinsWrong : ChangeSpec := { name := "textJoins", fn := fun _ => fun
  | [d1, d2, d3] => { results := [.lit (.bool false)], args := [d1, d2, d3] }
  | _ => none }
def TextJoinsWrongFalsely : Prop := textJoinsRow.holds Try.pinned (OpenSpec.ofChange textJoinsWrong)

/-- 'inquestlaw04.TextDecs': WHATEVER THE INPUT: true; the input reads as it did. -/
def textDecsSpec : ChangeSpec := { name := "textDecs", fn := fun _ => fun
  | [d1, d2] => { results := [.lit (.bool true)], args := [d1, d2] }
  | _ => none }
def textDecsRow : OpenClaim := { program := "ytabhilifliekmaa", sum := "43cd79d3f96cdea91c8ebb7a7d5f3894ce5b61b986b520d790cf4bf203918dd6", func := "inquest/inquestlaw04.TextDecs", spec := "textDecs", recurses := true, apart := false }
def TextDecsSaid : Prop := textDecsRow.holds Try.pinned (OpenSpec.ofChange textDecsSpec)

/-- ITS FALSE NEIGHBOUR: 'it returns false'. Refute it at one input. -/
def textDecsWrong : ChangeSpec := { name := "textDecs", fn := fun _ => fun
  | [d1, d2] => { results := [.lit (.bool false)], args := [d1, d2] }
  | _ => none }
def TextDecsWrongFalsely : Prop := textDecsRow.holds Try.pinned (OpenSpec.ofChange textDecsWrong)

/-- 'inquestlaw04.TextFields': WHATEVER THE INPUT: true; the input reads as it did. -/
def textFieldsSpec : ChangeSpec := { name := "textFields", fn := fun _ => fun
  | [d1, d2, d3] => { results := [.lit (.bool true)], args := [d1, d2, d3] }
  | _ => none }
def textFieldsRow : OpenClaim := { program := "ytabhilifliekmaa", sum := "43cd79d3f96cdea91c8ebb7a7d5f3894ce5b61b986b520d790cf4bf203918dd6", func := "inquest/inquestlaw04.TextFields", spec := "textFields", apart := false }
def TextFieldsSaid : Prop := textFieldsRow.holds Try.pinned (OpenSpec.ofChange textFieldsSpec)

/-- ITS FALSE NEIGHBOUR: 'it returns false'. Refute it at one input. -/
def textFieldsWrong : ChangeSpec := { name := "textFields", fn := fun _ => fun
  | [d1, d2, d3] => { results := [.lit (.bool false)], args := [d1, d2, d3] }
  | _ => none }
def TextFieldsWrongFalsely : Prop := textFieldsRow.holds Try.pinned (OpenSpec.ofChange textFieldsWrong)

/-- 'inquestlaw04.TextHexes': WHATEVER THE INPUT: true; the input reads as it did. -/
def textHexesSpec : ChangeSpec := { name := "textHexes", fn := fun _ => fun
  | [d1, d2] => { results := [.lit (.bool true)], args := [d1, d2] }
  | _ => none }
def textHexesRow : OpenClaim := { program := "ytabhilifliekmaa", sum := "43cd79d3f96cdea91c8ebb7a7d5f3894ce5b61b986b520d790cf4bf203918dd6", func := "inquest/inquestlaw04.TextHexes", spec := "textHexes", apart := false }
def TextHexesSaid : Prop := textHexesRow.holds Try.pinned (OpenSpec.ofChange textHexesSpec)

/-- ITS FALSE NEIGHBOUR: 'it returns false'. Refute it at one input. -/
def textHexesWrong : ChangeSpec := { name := "textHexes", fn := fun _ => fun
  | [d1, d2] => { results := [.lit (.bool false)], args := [d1, d2] }
  | _ => none }
def TextHexesWrongFalsely : Prop := textHexesRow.holds Try.pinned (OpenSpec.ofChange textHexesWrong)

/-- 'inquestlaw04.TextBack': WHATEVER THE INPUT: true; the input reads as it did. -/
def textBackSpec : ChangeSpec := { name := "textBack", fn := fun _ => fun
  | [d1, d2, d3] => { results := [.lit (.bool true)], args := [d1, d2, d3] }
  | _ => none }
def textBackRow : OpenClaim := { program := "ytabhilifliekmaa", sum := "43cd79d3f96cdea91c8ebb7a7d5f3894ce5b61b986b520d790cf4bf203918dd6", func := "inquest/inquestlaw04.TextBack", spec := "textBack", apart := false }
def TextBackSaid : Prop := textBackRow.holds Try.pinned (OpenSpec.ofChange textBackSpec)

/-- ITS FALSE NEIGHBOUR: 'it returns false'. Refute it at one input. -/
def textBackWrong : ChangeSpec := { name := "textBack", fn := fun _ => fun
  | [d1, d2, d3] => { results := [.lit (.bool false)], args := [d1, d2, d3] }
  | _ => none }
def TextBackWrongFalsely : Prop := textBackRow.holds Try.pinned (OpenSpec.ofChange textBackWrong)

/- THE SECOND FORM. 'bulk': how many values and letters a reading holds, each counted each time it is reached (what is shared counts as often as it is met; a slice's spare places count too). A statement '..UptoSaid' is the law's where the arguments, and the package variables that the reading takes, are together of bulk at most 1048576: NARROWER than '..Said'. Prove '..Said' where nothing that the law and all that it calls make is longer than what came in: it says more and counts as full. Else prove '..UptoSaid'. A law counts once. -/
mutual
def uptoBulk {H : Type} : DataW H → Nat
  | .lit (.string bytes) => bytes.length + 1
  | .lit _ => 1
  | .nil => 1
  | .ptr d => uptoBulk d + 1
  | .slice elems spare => uptoBulkAll elems + uptoBulkAll spare + 1
  | .agg parts => uptoBulkAll parts + 1
  | .iface _ d => uptoBulk d + 1
  | .map entries => uptoBulkEntries entries + 1
  | .held _ => 1
def uptoBulkAll {H : Type} : List (DataW H) → Nat
  | [] => 0
  | d :: r => uptoBulk d + uptoBulkAll r
def uptoBulkEntries {H : Type} : List (Lit × DataW H) → Nat
  | [] => 0
  | x :: r => uptoBulkEntry x + uptoBulkEntries r
def uptoBulkEntry {H : Type} : Lit × DataW H → Nat
  | (.string bytes, d) => bytes.length + uptoBulk d + 1
  | (_, d) => uptoBulk d + 1
 end
def uptoSmall : (H : Type) → List (DataW H) → Bool := fun _ ds => decide (uptoBulkAll ds ≤ 1048576)
def OpenSpec.upto (s : _root_.Go.ChangeSpec) : _root_.Go.OpenSpec := { _root_.Go.OpenSpec.ofChange s with cond := some uptoSmall }

/-- 'inquestlaw04.TextNames', WHERE WHAT IT READS IS OF BULK AT MOST 1048576: true; the input reads as it did. -/
def textNamesUptoRow : OpenClaim := { program := "ytabhilifliekmaa", sum := "43cd79d3f96cdea91c8ebb7a7d5f3894ce5b61b986b520d790cf4bf203918dd6", func := "inquest/inquestlaw04.TextNames", spec := "textNames", apart := false, narrowed := true }
def TextNamesUptoSaid : Prop := textNamesUptoRow.holds Try.pinned (OpenSpec.upto textNamesSpec)

/-- 'inquestlaw04.TextOrder', WHERE WHAT IT READS IS OF BULK AT MOST 1048576: true; the input reads as it did. -/
def textOrderUptoRow : OpenClaim := { program := "ytabhilifliekmaa", sum := "43cd79d3f96cdea91c8ebb7a7d5f3894ce5b61b986b520d790cf4bf203918dd6", func := "inquest/inquestlaw04.TextOrder", spec := "textOrder", apart := false, narrowed := true }
def TextOrderUptoSaid : Prop := textOrderUptoRow.holds Try.pinned (OpenSpec.upto textOrderSpec)

/-- 'inquestlaw04.TextJoins', WHERE WHAT IT READS IS OF BULK AT MOST 1048576: true; the input reads as it did. -/
def textJoinsUptoRow : OpenClaim := { program := "ytabhilifliekmaa", sum := "43cd79d3f96cdea91c8ebb7a7d5f3894ce5b61b986b520d790cf4bf203918dd6", func := "inquest/inquestlaw04.TextJoins", spec := "textJoins", apart := false, narrowed := true }
def TextJoinsUptoSaid : Prop := textJoinsUptoRow.holds Try.pinned (OpenSpec.upto textJoinsSpec)

/-- 'inquestlaw04.TextDecs', WHERE WHAT IT READS IS OF BULK AT MOST 1048576: true; the input reads as it did. -/
def textDecsUptoRow : OpenClaim := { program := "ytabhilifliekmaa", sum := "43cd79d3f96cdea91c8ebb7a7d5f3894ce5b61b986b520d790cf4bf203918dd6", func := "inquest/inquestlaw04.TextDecs", spec := "textDecs", recurses := true, apart := false, narrowed := true }
def TextDecsUptoSaid : Prop := textDecsUptoRow.holds Try.pinned (OpenSpec.upto textDecsSpec)

/-- 'inquestlaw04.TextFields', WHERE WHAT IT READS IS OF BULK AT MOST 1048576: true; the input reads as it did. -/
def textFieldsUptoRow : OpenClaim := { program := "ytabhilifliekmaa", sum := "43cd79d3f96cdea91c8ebb7a7d5f3894ce5b61b986b520d790cf4bf203918dd6", func := "inquest/inquestlaw04.TextFields", spec := "textFields", apart := false, narrowed := true }
def TextFieldsUptoSaid : Prop := textFieldsUptoRow.holds Try.pinned (OpenSpec.upto textFieldsSpec)

/-- 'inquestlaw04.TextHexes', WHERE WHAT IT READS IS OF BULK AT MOST 1048576: true; the input reads as it did. -/
def textHexesUptoRow : OpenClaim := { program := "ytabhilifliekmaa", sum := "43cd79d3f96cdea91c8ebb7a7d5f3894ce5b61b986b520d790cf4bf203918dd6", func := "inquest/inquestlaw04.TextHexes", spec := "textHexes", apart := false, narrowed := true }
def TextHexesUptoSaid : Prop := textHexesUptoRow.holds Try.pinned (OpenSpec.upto textHexesSpec)

/-- 'inquestlaw04.TextBack', WHERE WHAT IT READS IS OF BULK AT MOST 1048576: true; the input reads as it did. -/
def textBackUptoRow : OpenClaim := { program := "ytabhilifliekmaa", sum := "43cd79d3f96cdea91c8ebb7a7d5f3894ce5b61b986b520d790cf4bf203918dd6", func := "inquest/inquestlaw04.TextBack", spec := "textBack", apart := false, narrowed := true }
def TextBackUptoSaid : Prop := textBackUptoRow.holds Try.pinned (OpenSpec.upto textBackSpec)

end Rows
end Go.Proofs.Ytabhilifliekmaa
