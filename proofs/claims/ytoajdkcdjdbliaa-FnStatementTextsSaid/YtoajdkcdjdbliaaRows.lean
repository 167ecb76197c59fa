/-
  No cell of these rows narrows 'for every input' (looked for: loops, veiled, ifaces, maps, wideKeys, modest, calm, conditions, laid).
  DERIVED. THE GIVEN ROWS OF THIS SEAT. 3 by the template 'for every input the law returns true; each argument reads behind the call as it read before'; 0 by the template 'total and deterministic' (their statements: YtoajdkcdjdbliaaTotals.lean).
  GIVEN WITH THE SEED: the statements are not yours to turn. If you find one false, say at which input.
  Laid BY PROGRAM, IN A SANDBOX (cutbox-rows.mjs): the forced cells as the released guide's own fill.sh prints them over the translation f397693c951b9d26… (all of the seat's roots in one cut). By AI agents, Wed Nov 11 2026. No macro, syntax, notation, axiom, sorry.
-/
import Derived.Test.YtoajdkcdjdbliaaChecked
import GoSem.Claim
import GoSem.ClaimJoined
import GoSem.ClaimMapViews
import Derived.JoinedTies
import Derived.KernelRfl
namespace Go.Proofs.Ytoajdkcdjdbliaa
/- THE CELL 'sum', in the pinned program and in every row, IS THE sha256 OF THE DUMP (.gsa) THAT YtoajdkcdjdbliaaProg.lean LOADS. Nothing in Lean hashes anything: it is a label: what it is worth is what the hold of that sum in a sandbox is worth. -/
noncomputable def Try.pinned : Pinned := { name := "ytoajdkcdjdbliaa", sum := "f397693c951b9d263c65085452f785bcdc56c7224cc89f9bd328af2921c30c57", checked := Try.checked }
namespace Rows
def none {H : Type} : Left H := { results := [], args := [] }

/-- 'laws.FnExactStatementShape': WHATEVER THE INPUT: true; the input reads as it did. -/
def fnExactStatementShapeSpec : ChangeSpec := { name := "fnExactStatementShape", fn := fun _ => fun
  | [d] => { results := [.lit (.bool true)], args := [d] }
  | _ => none }
def fnExactStatementShapeRow : OpenClaim := { program := "ytoajdkcdjdbliaa", sum := "f397693c951b9d263c65085452f785bcdc56c7224cc89f9bd328af2921c30c57", func := "loop.example/templateescaper/laws.FnExactStatementShape", spec := "fnExactStatementShape", apart := false }
def FnExactStatementShapeSaid : Prop := fnExactStatementShapeRow.holds Try.pinned (OpenSpec.ofChange fnExactStatementShapeSpec)

/-- ITS FALSE NEIGHBOUR: 'it returns false'. Refute it at one input. -/
def fnExactStatementShapeWrong : ChangeSpec := { name := "fnExactStatementShape", fn := fun _ => fun
  | [d] => { results := [.lit (.bool false)], args := [d] }
  | _ => none }
def FnExactStatementShapeWrongFalsely : Prop := fnExactStatementShapeRow.holds Try.pinned (OpenSpec.ofChange fnExactStatementShapeWrong)

/-- 'laws.FnExactStatementTexts': WHATEVER THE INPUT: true; the input reads as it did. -/
def fnExactStatementTextsSpec : ChangeSpec := { name := "fnExactStatementTexts", fn := fun _ => fun
  | [d] => { results := [.lit (.bool true)], args := [d] }
  | _ => none }
def fnExactStatementTextsRow : OpenClaim := { program := "ytoajdkcdjdbliaa", sum := "f397693c951b9d263c65085452f785bcdc56c7224cc89f9bd328af2921c30c57", func := "loop.example/templateescaper/laws.FnExactStatementTexts", spec := "fnExactStatementTexts", apart := false }
def FnExactStatementTextsSaid : Prop := fnExactStatementTextsRow.holds Try.pinned (OpenSpec.ofChange fnExactStatementTextsSpec)

/-- ITS FALSE NEIGHBOUR: 'it returns false'. Refute it at one input. -/
def fnExactStatementTextsWrong : ChangeSpec := { name := "fnExactStatementTexts", fn := fun _ => fun
  | [d] => { results := [.lit (.bool false)], args := [d] }
  | _ => none }
def FnExactStatementTextsWrongFalsely : Prop := fnExactStatementTextsRow.holds Try.pinned (OpenSpec.ofChange fnExactStatementTextsWrong)

/-- 'laws.FnStatementTexts': WHATEVER THE INPUT: true; the input reads as it did. -/
def fnStatementTextsSpec : ChangeSpec := { name := "fnStatementTexts", fn := fun _ => fun
  | [d] => { results := [.lit (.bool true)], args := [d] }
  | _ => none }
def fnStatementTextsRow : OpenClaim := { program := "ytoajdkcdjdbliaa", sum := "f397693c951b9d263c65085452f785bcdc56c7224cc89f9bd328af2921c30c57", func := "loop.example/templateescaper/laws.FnStatementTexts", spec := "fnStatementTexts", apart := false }
def FnStatementTextsSaid : Prop := fnStatementTextsRow.holds Try.pinned (OpenSpec.ofChange fnStatementTextsSpec)

/-- ITS FALSE NEIGHBOUR: 'it returns false'. Refute it at one input. -/
def fnStatementTextsWrong : ChangeSpec := { name := "fnStatementTexts", fn := fun _ => fun
  | [d] => { results := [.lit (.bool false)], args := [d] }
  | _ => none }
def FnStatementTextsWrongFalsely : Prop := fnStatementTextsRow.holds Try.pinned (OpenSpec.ofChange fnStatementTextsWrong)

/- THE SECOND FORM. 'bulk': how many values and letters a reading holds, each counted each time it is reached (what is shared counts as often as it is met; a slice's spare places count too). A statement '..UptoSaid' is the law's where the arguments, and the package variables that the reading takes, are together of bulk at most 1048576: NARROWER than '..Said'. Prove '..Said' where nothing that the law and all that it calls make is longer than what came in: it says more and counts as full. Else prove '..UptoSaid'. A law counts once. -/
mutual
def uptoBulk {H : Type} : DataW H → Nat
  | .lit (.string bytes) => bytes.length + 1
  | .lit _ => 1
  | .nil => 1
  | .ptr d => uptoBulk d + 1
  | .slice elems spare => uptoBulkAll elems + uptoBulkAll spare + 1
  | .agg parts => uptoBulkAll parts + 1
  | .iface _ d => uptoBulk d + 1
  | .map entries => uptoBulkEntries entries + 1
  | .held _ => 1
def uptoBulkAll {H : Type} : List (DataW H) → Nat
  | [] => 0
  | d :: r => uptoBulk d + uptoBulkAll r
def uptoBulkEntries {H : Type} : List (Lit × DataW H) → Nat
  | [] => 0
  | x :: r => uptoBulkEntry x + uptoBulkEntries r
def uptoBulkEntry {H : Type} : Lit × DataW H → Nat
  | (.string bytes, d) => bytes.length + uptoBulk d + 1
  | (_, d) => uptoBulk d + 1
 end
def uptoSmall : (H : Type) → List (DataW H) → Bool := fun _ ds => decide (uptoBulkAll ds ≤ 1048576)
def OpenSpec.upto (s : _root_.Go.ChangeSpec) : _root_.Go.OpenSpec := { _root_.Go.OpenSpec.ofChange s with cond := some uptoSmall }

/-- 'laws.FnExactStatementShape', WHERE WHAT IT READS IS OF BULK AT MOST 1048576: true; the input reads as it did. -/
def fnExactStatementShapeUptoRow : OpenClaim := { program := "ytoajdkcdjdbliaa", sum := "f397693c951b9d263c65085452f785bcdc56c7224cc89f9bd328af2921c30c57", func := "loop.example/templateescaper/laws.FnExactStatementShape", spec := "fnExactStatementShape", apart := false, narrowed := true }
def FnExactStatementShapeUptoSaid : Prop := fnExactStatementShapeUptoRow.holds Try.pinned (OpenSpec.upto fnExactStatementShapeSpec)

/-- 'laws.FnExactStatementTexts', WHERE WHAT IT READS IS OF BULK AT MOST 1048576: true; the input reads as it did. -/
def fnExactStatementTextsUptoRow : OpenClaim := { program := "ytoajdkcdjdbliaa", sum := "f397693c951b9d263c65085452f785bcdc56c7224cc89f9bd328af2921c30c57", func := "loop.example/templateescaper/laws.FnExactStatementTexts", spec := "fnExactStatementTexts", apart := false, narrowed := true }
def FnExactStatementTextsUptoSaid : Prop := fnExactStatementTextsUptoRow.holds Try.pinned (OpenSpec.upto fnExactStatementTextsSpec)

/-- 'laws.FnStatementTexts', WHERE WHAT IT READS IS OF BULK AT MOST 1048576: true; the input reads as it did. -/
def fnStatementTextsUptoRow : OpenClaim := { program := "ytoajdkcdjdbliaa", sum := "f397693c951b9d263c65085452f785bcdc56c7224cc89f9bd328af2921c30c57", func := "loop.example/templateescaper/laws.FnStatementTexts", spec := "fnStatementTexts", apart := false, narrowed := true }
def FnStatementTextsUptoSaid : Prop := fnStatementTextsUptoRow.holds Try.pinned (OpenSpec.upto fnStatementTextsSpec)

end Rows
end Go.Proofs.Ytoajdkcdjdbliaa
