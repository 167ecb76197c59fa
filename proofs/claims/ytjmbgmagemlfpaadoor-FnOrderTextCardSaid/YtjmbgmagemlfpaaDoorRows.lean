/-
  NARROWER THAN 'FOR EVERY INPUT', by the rows' own cells (each row's printed sentence says how): FnExactQuoteWord: laid · FnExactOrderText: laid · FnQuoteWord: laid · FnOrderText: laid · FnSplitOrder: laid.
  DERIVED. THE GIVEN ROWS OF THIS SEAT. 5 by the template 'for every input the law returns true; each argument reads behind the call as it read before'; 0 by the template 'total and deterministic' (their statements: YtjmbgmagemlfpaaDoorTotals.lean).
  GIVEN WITH THE SEED: the statements are not yours to turn. If you find one false, say at which input.
  Laid BY PROGRAM, IN A SANDBOX (cutbox-rows.mjs): the forced cells as the released guide's own fill.sh prints them over the translation e78c80b586afc2df… (all of the seat's roots in one cut). By AI agents, Wed Nov 11 2026. No macro, syntax, notation, axiom, sorry.
-/
import Derived.Test.YtjmbgmagemlfpaaDoorChecked
import GoSem.PinnedTables
import GoSem.Claim
import GoSem.ClaimJoined
import GoSem.ClaimMapViews
import Derived.JoinedTies
import Derived.KernelRfl
namespace Go.Proofs.YtjmbgmagemlfpaaDoor
/- THE CELL 'sum', in the pinned program and in every row, IS THE sha256 OF THE DUMP (.gsa) THAT YtjmbgmagemlfpaaDoorProg.lean LOADS. Nothing in Lean hashes anything: it is a label: what it is worth is what the hold of that sum in a sandbox is worth. -/
noncomputable def Tryd.pinned : Pinned := { name := "ytjmbgmagemlfpaadoor", sum := "e78c80b586afc2df402014d7bc9f9815c11d2dd889202b004ecb1321960fdc50", checked := Tryd.checked }
namespace Rows
def none {H : Type} : Left H := { results := [], args := [] }

/- WHAT THE LISTED PACKAGE-LEVEL VARIABLES READ AS WHEN THE CALL BEGINS. Each datum BY PROGRAM (the guide's laid-datum.mjs) off the statement by which the dump's own 'gosem.cut.vars' lays the variable. In a bare row this is a premise. The card (YtjmbgmagemlfpaaDoorCards.lean) ties it to the program's text. -/
def laid_unicode_utf8_acceptRanges {H : Type} : DataW H := .agg [.agg [.lit (.int .u8 128), .lit (.int .u8 191)], .agg [.lit (.int .u8 160), .lit (.int .u8 191)], .agg [.lit (.int .u8 128), .lit (.int .u8 159)], .agg [.lit (.int .u8 144), .lit (.int .u8 191)], .agg [.lit (.int .u8 128), .lit (.int .u8 143)], .agg [.lit (.int .u8 0), .lit (.int .u8 0)], .agg [.lit (.int .u8 0), .lit (.int .u8 0)], .agg [.lit (.int .u8 0), .lit (.int .u8 0)], .agg [.lit (.int .u8 0), .lit (.int .u8 0)], .agg [.lit (.int .u8 0), .lit (.int .u8 0)], .agg [.lit (.int .u8 0), .lit (.int .u8 0)], .agg [.lit (.int .u8 0), .lit (.int .u8 0)], .agg [.lit (.int .u8 0), .lit (.int .u8 0)], .agg [.lit (.int .u8 0), .lit (.int .u8 0)], .agg [.lit (.int .u8 0), .lit (.int .u8 0)], .agg [.lit (.int .u8 0), .lit (.int .u8 0)]]
/-- One of Go's own tables, pinned by name: the form's constant. -/
def laid_unicode_utf8_first : DataW Unit := Go.Pinned.utf8First

/-- 'laws.FnExactQuoteWord': WHATEVER THE INPUT: true; the input reads as it did. -/
def fnExactQuoteWordSpec : ChangeSpec := { name := "fnExactQuoteWord", fn := fun _ => fun
  | [d] => { results := [.lit (.bool true)], args := [d] }
  | _ => none }
def fnExactQuoteWordRow : OpenClaim := { program := "ytjmbgmagemlfpaadoor", sum := "e78c80b586afc2df402014d7bc9f9815c11d2dd889202b004ecb1321960fdc50", func := "loop.example/templateescaper/laws.FnExactQuoteWord", spec := "fnExactQuoteWord", inPlace := ["internal/bytealg.CountString", "internal/bytealg.IndexByteString", "internal/bytealg.IndexString", "internal/abi.NoEscape", "internal/bytealg.MakeNoZero"], named := ["internal/bytealg.MaxLen", "unicode/utf8.first", "unicode/utf8.acceptRanges"], apart := false, laid := [("unicode/utf8.acceptRanges", laid_unicode_utf8_acceptRanges), ("unicode/utf8.first", laid_unicode_utf8_first)] }
def FnExactQuoteWordSaid : Prop := fnExactQuoteWordRow.holds Tryd.pinned (OpenSpec.ofChange fnExactQuoteWordSpec)

/-- ITS FALSE NEIGHBOUR: 'it returns false'. Refute it at one input. -/
def fnExactQuoteWordWrong : ChangeSpec := { name := "fnExactQuoteWord", fn := fun _ => fun
  | [d] => { results := [.lit (.bool false)], args := [d] }
  | _ => none }
def FnExactQuoteWordWrongFalsely : Prop := fnExactQuoteWordRow.holds Tryd.pinned (OpenSpec.ofChange fnExactQuoteWordWrong)

/-- 'laws.FnExactOrderText': WHATEVER THE INPUT: true; the input reads as it did. -/
def fnExactOrderTextSpec : ChangeSpec := { name := "fnExactOrderText", fn := fun _ => fun
  | [d] => { results := [.lit (.bool true)], args := [d] }
  | _ => none }
def fnExactOrderTextRow : OpenClaim := { program := "ytjmbgmagemlfpaadoor", sum := "e78c80b586afc2df402014d7bc9f9815c11d2dd889202b004ecb1321960fdc50", func := "loop.example/templateescaper/laws.FnExactOrderText", spec := "fnExactOrderText", inPlace := ["internal/bytealg.CountString", "internal/bytealg.IndexByteString", "internal/bytealg.IndexString", "internal/abi.NoEscape", "internal/bytealg.MakeNoZero"], named := ["internal/bytealg.MaxLen", "unicode/utf8.first", "unicode/utf8.acceptRanges"], apart := false, laid := [("unicode/utf8.acceptRanges", laid_unicode_utf8_acceptRanges), ("unicode/utf8.first", laid_unicode_utf8_first)] }
def FnExactOrderTextSaid : Prop := fnExactOrderTextRow.holds Tryd.pinned (OpenSpec.ofChange fnExactOrderTextSpec)

/-- ITS FALSE NEIGHBOUR: 'it returns false'. Refute it at one input. -/
def fnExactOrderTextWrong : ChangeSpec := { name := "fnExactOrderText", fn := fun _ => fun
  | [d] => { results := [.lit (.bool false)], args := [d] }
  | _ => none }
def FnExactOrderTextWrongFalsely : Prop := fnExactOrderTextRow.holds Tryd.pinned (OpenSpec.ofChange fnExactOrderTextWrong)

/-- 'laws.FnQuoteWord': WHATEVER THE INPUT: true; the input reads as it did. -/
def fnQuoteWordSpec : ChangeSpec := { name := "fnQuoteWord", fn := fun _ => fun
  | [d] => { results := [.lit (.bool true)], args := [d] }
  | _ => none }
def fnQuoteWordRow : OpenClaim := { program := "ytjmbgmagemlfpaadoor", sum := "e78c80b586afc2df402014d7bc9f9815c11d2dd889202b004ecb1321960fdc50", func := "loop.example/templateescaper/laws.FnQuoteWord", spec := "fnQuoteWord", inPlace := ["internal/bytealg.CountString", "internal/bytealg.IndexByteString", "internal/bytealg.IndexString", "internal/abi.NoEscape", "internal/bytealg.MakeNoZero"], named := ["internal/bytealg.MaxLen", "unicode/utf8.first", "unicode/utf8.acceptRanges"], apart := false, laid := [("unicode/utf8.acceptRanges", laid_unicode_utf8_acceptRanges), ("unicode/utf8.first", laid_unicode_utf8_first)] }
def FnQuoteWordSaid : Prop := fnQuoteWordRow.holds Tryd.pinned (OpenSpec.ofChange fnQuoteWordSpec)

/-- ITS FALSE NEIGHBOUR: 'it returns false'. Refute it at one input. -/
def fnQuoteWordWrong : ChangeSpec := { name := "fnQuoteWord", fn := fun _ => fun
  | [d] => { results := [.lit (.bool false)], args := [d] }
  | _ => none }
def FnQuoteWordWrongFalsely : Prop := fnQuoteWordRow.holds Tryd.pinned (OpenSpec.ofChange fnQuoteWordWrong)

/-- 'laws.FnOrderText': WHATEVER THE INPUT: true; the input reads as it did. -/
def fnOrderTextSpec : ChangeSpec := { name := "fnOrderText", fn := fun _ => fun
  | [d] => { results := [.lit (.bool true)], args := [d] }
  | _ => none }
def fnOrderTextRow : OpenClaim := { program := "ytjmbgmagemlfpaadoor", sum := "e78c80b586afc2df402014d7bc9f9815c11d2dd889202b004ecb1321960fdc50", func := "loop.example/templateescaper/laws.FnOrderText", spec := "fnOrderText", inPlace := ["internal/bytealg.CountString", "internal/bytealg.IndexByteString", "internal/bytealg.IndexString", "internal/abi.NoEscape", "internal/bytealg.MakeNoZero"], named := ["internal/bytealg.MaxLen", "unicode/utf8.first", "unicode/utf8.acceptRanges"], apart := false, laid := [("unicode/utf8.acceptRanges", laid_unicode_utf8_acceptRanges), ("unicode/utf8.first", laid_unicode_utf8_first)] }
def FnOrderTextSaid : Prop := fnOrderTextRow.holds Tryd.pinned (OpenSpec.ofChange fnOrderTextSpec)

/-- ITS FALSE NEIGHBOUR: 'it returns false'. Refute it at one input. -/
def fnOrderTextWrong : ChangeSpec := { name := "fnOrderText", fn := fun _ => fun
  | [d] => { results := [.lit (.bool false)], args := [d] }
  | _ => none }
def FnOrderTextWrongFalsely : Prop := fnOrderTextRow.holds Tryd.pinned (OpenSpec.ofChange fnOrderTextWrong)

/-- 'laws.FnSplitOrder': WHATEVER THE INPUT: true; the input reads as it did. -/
def fnSplitOrderSpec : ChangeSpec := { name := "fnSplitOrder", fn := fun _ => fun
  | [d] => { results := [.lit (.bool true)], args := [d] }
  | _ => none }
def fnSplitOrderRow : OpenClaim := { program := "ytjmbgmagemlfpaadoor", sum := "e78c80b586afc2df402014d7bc9f9815c11d2dd889202b004ecb1321960fdc50", func := "loop.example/templateescaper/laws.FnSplitOrder", spec := "fnSplitOrder", inPlace := ["internal/bytealg.CountString", "internal/bytealg.IndexByteString", "internal/bytealg.IndexString", "internal/abi.NoEscape", "internal/bytealg.MakeNoZero"], named := ["internal/bytealg.MaxLen", "unicode/utf8.first", "unicode/utf8.acceptRanges"], apart := false, laid := [("unicode/utf8.acceptRanges", laid_unicode_utf8_acceptRanges), ("unicode/utf8.first", laid_unicode_utf8_first)] }
def FnSplitOrderSaid : Prop := fnSplitOrderRow.holds Tryd.pinned (OpenSpec.ofChange fnSplitOrderSpec)

/-- ITS FALSE NEIGHBOUR: 'it returns false'. Refute it at one input. -/
def fnSplitOrderWrong : ChangeSpec := { name := "fnSplitOrder", fn := fun _ => fun
  | [d] => { results := [.lit (.bool false)], args := [d] }
  | _ => none }
def FnSplitOrderWrongFalsely : Prop := fnSplitOrderRow.holds Tryd.pinned (OpenSpec.ofChange fnSplitOrderWrong)

/- THE SECOND FORM. 'bulk': how many values and letters a reading holds, each counted each time it is reached (what is shared counts as often as it is met; a slice's spare places count too). A statement '..UptoSaid' is the law's where the arguments, and the package variables that the reading takes, are together of bulk at most 1048576: NARROWER than '..Said'. Prove '..Said' where nothing that the law and all that it calls make is longer than what came in: it says more and counts as full. Else prove '..UptoSaid'. A law counts once. -/
mutual
def uptoBulk {H : Type} : DataW H → Nat
  | .lit (.string bytes) => bytes.length + 1
  | .lit _ => 1
  | .nil => 1
  | .ptr d => uptoBulk d + 1
  | .slice elems spare => uptoBulkAll elems + uptoBulkAll spare + 1
  | .agg parts => uptoBulkAll parts + 1
  | .iface _ d => uptoBulk d + 1
  | .map entries => uptoBulkEntries entries + 1
  | .held _ => 1
def uptoBulkAll {H : Type} : List (DataW H) → Nat
  | [] => 0
  | d :: r => uptoBulk d + uptoBulkAll r
def uptoBulkEntries {H : Type} : List (Lit × DataW H) → Nat
  | [] => 0
  | x :: r => uptoBulkEntry x + uptoBulkEntries r
def uptoBulkEntry {H : Type} : Lit × DataW H → Nat
  | (.string bytes, d) => bytes.length + uptoBulk d + 1
  | (_, d) => uptoBulk d + 1
 end
def uptoSmall : (H : Type) → List (DataW H) → Bool := fun _ ds => decide (uptoBulkAll ds ≤ 1048576)
def OpenSpec.upto (s : _root_.Go.ChangeSpec) : _root_.Go.OpenSpec := { _root_.Go.OpenSpec.ofChange s with cond := some uptoSmall }

/-- 'laws.FnExactQuoteWord', WHERE WHAT IT READS IS OF BULK AT MOST 1048576: true; the input reads as it did. -/
def fnExactQuoteWordUptoRow : OpenClaim := { program := "ytjmbgmagemlfpaadoor", sum := "e78c80b586afc2df402014d7bc9f9815c11d2dd889202b004ecb1321960fdc50", func := "loop.example/templateescaper/laws.FnExactQuoteWord", spec := "fnExactQuoteWord", inPlace := ["internal/bytealg.CountString", "internal/bytealg.IndexByteString", "internal/bytealg.IndexString", "internal/abi.NoEscape", "internal/bytealg.MakeNoZero"], named := ["internal/bytealg.MaxLen", "unicode/utf8.first", "unicode/utf8.acceptRanges"], apart := false, laid := [("unicode/utf8.acceptRanges", laid_unicode_utf8_acceptRanges), ("unicode/utf8.first", laid_unicode_utf8_first)], narrowed := true }
def FnExactQuoteWordUptoSaid : Prop := fnExactQuoteWordUptoRow.holds Tryd.pinned (OpenSpec.upto fnExactQuoteWordSpec)

/-- 'laws.FnExactOrderText', WHERE WHAT IT READS IS OF BULK AT MOST 1048576: true; the input reads as it did. -/
def fnExactOrderTextUptoRow : OpenClaim := { program := "ytjmbgmagemlfpaadoor", sum := "e78c80b586afc2df402014d7bc9f9815c11d2dd889202b004ecb1321960fdc50", func := "loop.example/templateescaper/laws.FnExactOrderText", spec := "fnExactOrderText", inPlace := ["internal/bytealg.CountString", "internal/bytealg.IndexByteString", "internal/bytealg.IndexString", "internal/abi.NoEscape", "internal/bytealg.MakeNoZero"], named := ["internal/bytealg.MaxLen", "unicode/utf8.first", "unicode/utf8.acceptRanges"], apart := false, laid := [("unicode/utf8.acceptRanges", laid_unicode_utf8_acceptRanges), ("unicode/utf8.first", laid_unicode_utf8_first)], narrowed := true }
def FnExactOrderTextUptoSaid : Prop := fnExactOrderTextUptoRow.holds Tryd.pinned (OpenSpec.upto fnExactOrderTextSpec)

/-- 'laws.FnQuoteWord', WHERE WHAT IT READS IS OF BULK AT MOST 1048576: true; the input reads as it did. -/
def fnQuoteWordUptoRow : OpenClaim := { program := "ytjmbgmagemlfpaadoor", sum := "e78c80b586afc2df402014d7bc9f9815c11d2dd889202b004ecb1321960fdc50", func := "loop.example/templateescaper/laws.FnQuoteWord", spec := "fnQuoteWord", inPlace := ["internal/bytealg.CountString", "internal/bytealg.IndexByteString", "internal/bytealg.IndexString", "internal/abi.NoEscape", "internal/bytealg.MakeNoZero"], named := ["internal/bytealg.MaxLen", "unicode/utf8.first", "unicode/utf8.acceptRanges"], apart := false, laid := [("unicode/utf8.acceptRanges", laid_unicode_utf8_acceptRanges), ("unicode/utf8.first", laid_unicode_utf8_first)], narrowed := true }
def FnQuoteWordUptoSaid : Prop := fnQuoteWordUptoRow.holds Tryd.pinned (OpenSpec.upto fnQuoteWordSpec)

/-- 'laws.FnOrderText', WHERE WHAT IT READS IS OF BULK AT MOST 1048576: true; the input reads as it did. -/
def fnOrderTextUptoRow : OpenClaim := { program := "ytjmbgmagemlfpaadoor", sum := "e78c80b586afc2df402014d7bc9f9815c11d2dd889202b004ecb1321960fdc50", func := "loop.example/templateescaper/laws.FnOrderText", spec := "fnOrderText", inPlace := ["internal/bytealg.CountString", "internal/bytealg.IndexByteString", "internal/bytealg.IndexString", "internal/abi.NoEscape", "internal/bytealg.MakeNoZero"], named := ["internal/bytealg.MaxLen", "unicode/utf8.first", "unicode/utf8.acceptRanges"], apart := false, laid := [("unicode/utf8.acceptRanges", laid_unicode_utf8_acceptRanges), ("unicode/utf8.first", laid_unicode_utf8_first)], narrowed := true }
def FnOrderTextUptoSaid : Prop := fnOrderTextUptoRow.holds Tryd.pinned (OpenSpec.upto fnOrderTextSpec)

/-- 'laws.FnSplitOrder', WHERE WHAT IT READS IS OF BULK AT MOST 1048576: true; the input reads as it did. -/
def fnSplitOrderUptoRow : OpenClaim := { program := "ytjmbgmagemlfpaadoor", sum := "e78c80b586afc2df402014d7bc9f9815c11d2dd889202b004ecb1321960fdc50", func := "loop.example/templateescaper/laws.FnSplitOrder", spec := "fnSplitOrder", inPlace := ["internal/bytealg.CountString", "internal/bytealg.IndexByteString", "internal/bytealg.IndexString", "internal/abi.NoEscape", "internal/bytealg.MakeNoZero"], named := ["internal/bytealg.MaxLen", "unicode/utf8.first", "unicode/utf8.acceptRanges"], apart := false, laid := [("unicode/utf8.acceptRanges", laid_unicode_utf8_acceptRanges), ("unicode/utf8.first", laid_unicode_utf8_first)], narrowed := true }
def FnSplitOrderUptoSaid : Prop := fnSplitOrderUptoRow.holds Tryd.pinned (OpenSpec.upto fnSplitOrderSpec)

end Rows
end Go.Proofs.YtjmbgmagemlfpaaDoor
