/-
  NARROWER THAN 'FOR EVERY INPUT', by the rows' own cells (each row's printed sentence says how): FnExactQuoteText: laid · FnQuoteText: laid · FnExactFillStatement: laid · FnStatementShape: laid · FnFillStatement: laid.
  DERIVED. THE GIVEN ROWS OF THIS SEAT. 5 by the template 'for every input the law returns true; each argument reads behind the call as it read before'; 0 by the template 'total and deterministic' (their statements: YtoajdkcdjdbliaaDoorTotals.lean).
  GIVEN WITH THE SEED: the statements are not yours to turn. If you find one false, say at which input.
  Laid BY PROGRAM, IN A SANDBOX (cutbox-rows.mjs): the forced cells as the released guide's own fill.sh prints them over the translation fb190055717aac23… (all of the seat's roots in one cut). By AI agents, Wed Nov 11 2026. No macro, syntax, notation, axiom, sorry.
-/
import Derived.Test.YtoajdkcdjdbliaaDoorChecked
import GoSem.PinnedTables
import GoSem.Claim
import GoSem.ClaimJoined
import GoSem.ClaimMapViews
import Derived.JoinedTies
import Derived.KernelRfl
namespace Go.Proofs.YtoajdkcdjdbliaaDoor
/- THE CELL 'sum', in the pinned program and in every row, IS THE sha256 OF THE DUMP (.gsa) THAT YtoajdkcdjdbliaaDoorProg.lean LOADS. Nothing in Lean hashes anything: it is a label: what it is worth is what the hold of that sum in a sandbox is worth. -/
noncomputable def Tryd.pinned : Pinned := { name := "ytoajdkcdjdbliaadoor", sum := "fb190055717aac23cd3261e90d72c2cbcd31c72e2104764a00f97d2b60410da4", checked := Tryd.checked }
namespace Rows
def none {H : Type} : Left H := { results := [], args := [] }

/- WHAT THE LISTED PACKAGE-LEVEL VARIABLES READ AS WHEN THE CALL BEGINS. Each datum BY PROGRAM (the guide's laid-datum.mjs) off the statement by which the dump's own 'gosem.cut.vars' lays the variable. In a bare row this is a premise. The card (YtoajdkcdjdbliaaDoorCards.lean) ties it to the program's text. -/
def laid_unicode_utf8_acceptRanges {H : Type} : DataW H := .agg [.agg [.lit (.int .u8 128), .lit (.int .u8 191)], .agg [.lit (.int .u8 160), .lit (.int .u8 191)], .agg [.lit (.int .u8 128), .lit (.int .u8 159)], .agg [.lit (.int .u8 144), .lit (.int .u8 191)], .agg [.lit (.int .u8 128), .lit (.int .u8 143)], .agg [.lit (.int .u8 0), .lit (.int .u8 0)], .agg [.lit (.int .u8 0), .lit (.int .u8 0)], .agg [.lit (.int .u8 0), .lit (.int .u8 0)], .agg [.lit (.int .u8 0), .lit (.int .u8 0)], .agg [.lit (.int .u8 0), .lit (.int .u8 0)], .agg [.lit (.int .u8 0), .lit (.int .u8 0)], .agg [.lit (.int .u8 0), .lit (.int .u8 0)], .agg [.lit (.int .u8 0), .lit (.int .u8 0)], .agg [.lit (.int .u8 0), .lit (.int .u8 0)], .agg [.lit (.int .u8 0), .lit (.int .u8 0)], .agg [.lit (.int .u8 0), .lit (.int .u8 0)]]
/-- One of Go's own tables, pinned by name: the form's constant. -/
def laid_unicode_utf8_first : DataW Unit := Go.Pinned.utf8First

/-- 'laws.FnExactQuoteText': WHATEVER THE INPUT: true; the input reads as it did. -/
def fnExactQuoteTextSpec : ChangeSpec := { name := "fnExactQuoteText", fn := fun _ => fun
  | [d] => { results := [.lit (.bool true)], args := [d] }
  | _ => none }
def fnExactQuoteTextRow : OpenClaim := { program := "ytoajdkcdjdbliaadoor", sum := "fb190055717aac23cd3261e90d72c2cbcd31c72e2104764a00f97d2b60410da4", func := "loop.example/templateescaper/laws.FnExactQuoteText", spec := "fnExactQuoteText", inPlace := ["internal/bytealg.CountString", "internal/bytealg.IndexByteString", "internal/bytealg.IndexString", "internal/abi.NoEscape", "internal/bytealg.MakeNoZero"], named := ["internal/bytealg.MaxLen", "unicode/utf8.first", "unicode/utf8.acceptRanges"], apart := false, laid := [("unicode/utf8.acceptRanges", laid_unicode_utf8_acceptRanges), ("unicode/utf8.first", laid_unicode_utf8_first)] }
def FnExactQuoteTextSaid : Prop := fnExactQuoteTextRow.holds Tryd.pinned (OpenSpec.ofChange fnExactQuoteTextSpec)

/-- ITS FALSE NEIGHBOUR: 'it returns false'. Refute it at one input. -/
def fnExactQuoteTextWrong : ChangeSpec := { name := "fnExactQuoteText", fn := fun _ => fun
  | [d] => { results := [.lit (.bool false)], args := [d] }
  | _ => none }
def FnExactQuoteTextWrongFalsely : Prop := fnExactQuoteTextRow.holds Tryd.pinned (OpenSpec.ofChange fnExactQuoteTextWrong)

/-- 'laws.FnQuoteText': WHATEVER THE INPUT: true; the input reads as it did. -/
def fnQuoteTextSpec : ChangeSpec := { name := "fnQuoteText", fn := fun _ => fun
  | [d] => { results := [.lit (.bool true)], args := [d] }
  | _ => none }
def fnQuoteTextRow : OpenClaim := { program := "ytoajdkcdjdbliaadoor", sum := "fb190055717aac23cd3261e90d72c2cbcd31c72e2104764a00f97d2b60410da4", func := "loop.example/templateescaper/laws.FnQuoteText", spec := "fnQuoteText", inPlace := ["internal/bytealg.CountString", "internal/bytealg.IndexByteString", "internal/bytealg.IndexString", "internal/abi.NoEscape", "internal/bytealg.MakeNoZero"], named := ["internal/bytealg.MaxLen", "unicode/utf8.first", "unicode/utf8.acceptRanges"], apart := false, laid := [("unicode/utf8.acceptRanges", laid_unicode_utf8_acceptRanges), ("unicode/utf8.first", laid_unicode_utf8_first)] }
def FnQuoteTextSaid : Prop := fnQuoteTextRow.holds Tryd.pinned (OpenSpec.ofChange fnQuoteTextSpec)

/-- ITS FALSE NEIGHBOUR: 'it returns false'. Refute it at one input. -/
def fnQuoteTextWrong : ChangeSpec := { name := "fnQuoteText", fn := fun _ => fun
  | [d] => { results := [.lit (.bool false)], args := [d] }
  | _ => none }
def FnQuoteTextWrongFalsely : Prop := fnQuoteTextRow.holds Tryd.pinned (OpenSpec.ofChange fnQuoteTextWrong)

/-- 'laws.FnExactFillStatement': WHATEVER THE INPUT: true; the input reads as it did. -/
def fnExactFillStatementSpec : ChangeSpec := { name := "fnExactFillStatement", fn := fun _ => fun
  | [d1, d2] => { results := [.lit (.bool true)], args := [d1, d2] }
  | _ => none }
def fnExactFillStatementRow : OpenClaim := { program := "ytoajdkcdjdbliaadoor", sum := "fb190055717aac23cd3261e90d72c2cbcd31c72e2104764a00f97d2b60410da4", func := "loop.example/templateescaper/laws.FnExactFillStatement", spec := "fnExactFillStatement", inPlace := ["internal/bytealg.IndexByteString", "internal/bytealg.IndexString", "internal/bytealg.CountString", "internal/abi.NoEscape", "internal/bytealg.MakeNoZero"], named := ["internal/bytealg.MaxLen", "unicode/utf8.first", "unicode/utf8.acceptRanges"], apart := false, laid := [("unicode/utf8.acceptRanges", laid_unicode_utf8_acceptRanges), ("unicode/utf8.first", laid_unicode_utf8_first)] }
def FnExactFillStatementSaid : Prop := fnExactFillStatementRow.holds Tryd.pinned (OpenSpec.ofChange fnExactFillStatementSpec)

/-- ITS FALSE NEIGHBOUR: 'it returns false'. Refute it at one input. -/
def fnExactFillStatementWrong : ChangeSpec := { name := "fnExactFillStatement", fn := fun _ => fun
  | [d1, d2] => { results := [.lit (.bool false)], args := [d1, d2] }
  | _ => none }
def FnExactFillStatementWrongFalsely : Prop := fnExactFillStatementRow.holds Tryd.pinned (OpenSpec.ofChange fnExactFillStatementWrong)

/-- 'laws.FnStatementShape': WHATEVER THE INPUT: true; the input reads as it did. -/
def fnStatementShapeSpec : ChangeSpec := { name := "fnStatementShape", fn := fun _ => fun
  | [d] => { results := [.lit (.bool true)], args := [d] }
  | _ => none }
def fnStatementShapeRow : OpenClaim := { program := "ytoajdkcdjdbliaadoor", sum := "fb190055717aac23cd3261e90d72c2cbcd31c72e2104764a00f97d2b60410da4", func := "loop.example/templateescaper/laws.FnStatementShape", spec := "fnStatementShape", inPlace := ["internal/bytealg.IndexByteString", "internal/bytealg.IndexString", "internal/bytealg.CountString", "internal/abi.NoEscape", "internal/bytealg.MakeNoZero"], named := ["internal/bytealg.MaxLen", "unicode/utf8.first", "unicode/utf8.acceptRanges"], apart := false, laid := [("unicode/utf8.acceptRanges", laid_unicode_utf8_acceptRanges), ("unicode/utf8.first", laid_unicode_utf8_first)] }
def FnStatementShapeSaid : Prop := fnStatementShapeRow.holds Tryd.pinned (OpenSpec.ofChange fnStatementShapeSpec)

/-- ITS FALSE NEIGHBOUR: 'it returns false'. Refute it at one input. -/
def fnStatementShapeWrong : ChangeSpec := { name := "fnStatementShape", fn := fun _ => fun
  | [d] => { results := [.lit (.bool false)], args := [d] }
  | _ => none }
def FnStatementShapeWrongFalsely : Prop := fnStatementShapeRow.holds Tryd.pinned (OpenSpec.ofChange fnStatementShapeWrong)

/-- 'laws.FnFillStatement': WHATEVER THE INPUT: true; the input reads as it did. -/
def fnFillStatementSpec : ChangeSpec := { name := "fnFillStatement", fn := fun _ => fun
  | [d] => { results := [.lit (.bool true)], args := [d] }
  | _ => none }
def fnFillStatementRow : OpenClaim := { program := "ytoajdkcdjdbliaadoor", sum := "fb190055717aac23cd3261e90d72c2cbcd31c72e2104764a00f97d2b60410da4", func := "loop.example/templateescaper/laws.FnFillStatement", spec := "fnFillStatement", inPlace := ["internal/bytealg.IndexByteString", "internal/bytealg.IndexString", "internal/bytealg.CountString", "internal/abi.NoEscape", "internal/bytealg.MakeNoZero"], named := ["internal/bytealg.MaxLen", "unicode/utf8.first", "unicode/utf8.acceptRanges"], apart := false, laid := [("unicode/utf8.acceptRanges", laid_unicode_utf8_acceptRanges), ("unicode/utf8.first", laid_unicode_utf8_first)] }
def FnFillStatementSaid : Prop := fnFillStatementRow.holds Tryd.pinned (OpenSpec.ofChange fnFillStatementSpec)

/-- ITS FALSE NEIGHBOUR: 'it returns false'. Refute it at one input. -/
def fnFillStatementWrong : ChangeSpec := { name := "fnFillStatement", fn := fun _ => fun
  | [d] => { results := [.lit (.bool false)], args := [d] }
  | _ => none }
def FnFillStatementWrongFalsely : Prop := fnFillStatementRow.holds Tryd.pinned (OpenSpec.ofChange fnFillStatementWrong)

/- THE SECOND FORM. 'bulk': how many values and letters a reading holds, each counted each time it is reached (what is shared counts as often as it is met; a slice's spare places count too). A statement '..UptoSaid' is the law's where the arguments, and the package variables that the reading takes, are together of bulk at most 1048576: NARROWER than '..Said'. Prove '..Said' where nothing that the law and all that it calls make is longer than what came in: it says more and counts as full. Else prove '..UptoSaid'. A law counts once. -/
mutual
def uptoBulk {H : Type} : DataW H → Nat
  | .lit (.string bytes) => bytes.length + 1
  | .lit _ => 1
  | .nil => 1
  | .ptr d => uptoBulk d + 1
  | .slice elems spare => uptoBulkAll elems + uptoBulkAll spare + 1
  | .agg parts => uptoBulkAll parts + 1
  | .iface _ d => uptoBulk d + 1
  | .map entries => uptoBulkEntries entries + 1
  | .held _ => 1
def uptoBulkAll {H : Type} : List (DataW H) → Nat
  | [] => 0
  | d :: r => uptoBulk d + uptoBulkAll r
def uptoBulkEntries {H : Type} : List (Lit × DataW H) → Nat
  | [] => 0
  | x :: r => uptoBulkEntry x + uptoBulkEntries r
def uptoBulkEntry {H : Type} : Lit × DataW H → Nat
  | (.string bytes, d) => bytes.length + uptoBulk d + 1
  | (_, d) => uptoBulk d + 1
 end
def uptoSmall : (H : Type) → List (DataW H) → Bool := fun _ ds => decide (uptoBulkAll ds ≤ 1048576)
def OpenSpec.upto (s : _root_.Go.ChangeSpec) : _root_.Go.OpenSpec := { _root_.Go.OpenSpec.ofChange s with cond := some uptoSmall }

/-- 'laws.FnExactQuoteText', WHERE WHAT IT READS IS OF BULK AT MOST 1048576: true; the input reads as it did. -/
def fnExactQuoteTextUptoRow : OpenClaim := { program := "ytoajdkcdjdbliaadoor", sum := "fb190055717aac23cd3261e90d72c2cbcd31c72e2104764a00f97d2b60410da4", func := "loop.example/templateescaper/laws.FnExactQuoteText", spec := "fnExactQuoteText", inPlace := ["internal/bytealg.CountString", "internal/bytealg.IndexByteString", "internal/bytealg.IndexString", "internal/abi.NoEscape", "internal/bytealg.MakeNoZero"], named := ["internal/bytealg.MaxLen", "unicode/utf8.first", "unicode/utf8.acceptRanges"], apart := false, laid := [("unicode/utf8.acceptRanges", laid_unicode_utf8_acceptRanges), ("unicode/utf8.first", laid_unicode_utf8_first)], narrowed := true }
def FnExactQuoteTextUptoSaid : Prop := fnExactQuoteTextUptoRow.holds Tryd.pinned (OpenSpec.upto fnExactQuoteTextSpec)

/-- 'laws.FnQuoteText', WHERE WHAT IT READS IS OF BULK AT MOST 1048576: true; the input reads as it did. -/
def fnQuoteTextUptoRow : OpenClaim := { program := "ytoajdkcdjdbliaadoor", sum := "fb190055717aac23cd3261e90d72c2cbcd31c72e2104764a00f97d2b60410da4", func := "loop.example/templateescaper/laws.FnQuoteText", spec := "fnQuoteText", inPlace := ["internal/bytealg.CountString", "internal/bytealg.IndexByteString", "internal/bytealg.IndexString", "internal/abi.NoEscape", "internal/bytealg.MakeNoZero"], named := ["internal/bytealg.MaxLen", "unicode/utf8.first", "unicode/utf8.acceptRanges"], apart := false, laid := [("unicode/utf8.acceptRanges", laid_unicode_utf8_acceptRanges), ("unicode/utf8.first", laid_unicode_utf8_first)], narrowed := true }
def FnQuoteTextUptoSaid : Prop := fnQuoteTextUptoRow.holds Tryd.pinned (OpenSpec.upto fnQuoteTextSpec)

/-- 'laws.FnExactFillStatement', WHERE WHAT IT READS IS OF BULK AT MOST 1048576: true; the input reads as it did. -/
def fnExactFillStatementUptoRow : OpenClaim := { program := "ytoajdkcdjdbliaadoor", sum := "fb190055717aac23cd3261e90d72c2cbcd31c72e2104764a00f97d2b60410da4", func := "loop.example/templateescaper/laws.FnExactFillStatement", spec := "fnExactFillStatement", inPlace := ["internal/bytealg.IndexByteString", "internal/bytealg.IndexString", "internal/bytealg.CountString", "internal/abi.NoEscape", "internal/bytealg.MakeNoZero"], named := ["internal/bytealg.MaxLen", "unicode/utf8.first", "unicode/utf8.acceptRanges"], apart := false, laid := [("unicode/utf8.acceptRanges", laid_unicode_utf8_acceptRanges), ("unicode/utf8.first", laid_unicode_utf8_first)], narrowed := true }
def FnExactFillStatementUptoSaid : Prop := fnExactFillStatementUptoRow.holds Tryd.pinned (OpenSpec.upto fnExactFillStatementSpec)

/-- 'laws.FnStatementShape', WHERE WHAT IT READS IS OF BULK AT MOST 1048576: true; the input reads as it did. -/
def fnStatementShapeUptoRow : OpenClaim := { program := "ytoajdkcdjdbliaadoor", sum := "fb190055717aac23cd3261e90d72c2cbcd31c72e2104764a00f97d2b60410da4", func := "loop.example/templateescaper/laws.FnStatementShape", spec := "fnStatementShape", inPlace := ["internal/bytealg.IndexByteString", "internal/bytealg.IndexString", "internal/bytealg.CountString", "internal/abi.NoEscape", "internal/bytealg.MakeNoZero"], named := ["internal/bytealg.MaxLen", "unicode/utf8.first", "unicode/utf8.acceptRanges"], apart := false, laid := [("unicode/utf8.acceptRanges", laid_unicode_utf8_acceptRanges), ("unicode/utf8.first", laid_unicode_utf8_first)], narrowed := true }
def FnStatementShapeUptoSaid : Prop := fnStatementShapeUptoRow.holds Tryd.pinned (OpenSpec.upto fnStatementShapeSpec)

/-- 'laws.FnFillStatement', WHERE WHAT IT READS IS OF BULK AT MOST 1048576: true; the input reads as it did. -/
def fnFillStatementUptoRow : OpenClaim := { program := "ytoajdkcdjdbliaadoor", sum := "fb190055717aac23cd3261e90d72c2cbcd31c72e2104764a00f97d2b60410da4", func := "loop.example/templateescaper/laws.FnFillStatement", spec := "fnFillStatement", inPlace := ["internal/bytealg.IndexByteString", "internal/bytealg.IndexString", "internal/bytealg.CountString", "internal/abi.NoEscape", "internal/bytealg.MakeNoZero"], named := ["internal/bytealg.MaxLen", "unicode/utf8.first", "unicode/utf8.acceptRanges"], apart := false, laid := [("unicode/utf8.acceptRanges", laid_unicode_utf8_acceptRanges), ("unicode/utf8.first", laid_unicode_utf8_first)], narrowed := true }
def FnFillStatementUptoSaid : Prop := fnFillStatementUptoRow.holds Tryd.pinned (OpenSpec.upto fnFillStatementSpec)

end Rows
end Go.Proofs.YtoajdkcdjdbliaaDoor
