/-
  No cell of these rows narrows 'for every input' (looked for: loops, veiled, ifaces, maps, wideKeys, modest, calm, conditions, laid).
  DERIVED. THE GIVEN ROWS OF THIS SEAT. 6 by the template 'for every input the law returns true; each argument reads behind the call as it read before'; 0 by the template 'total and deterministic' (their statements: YtmpidoenboffcaaTotals.lean).
  GIVEN WITH THE SEED: the statements are not yours to turn. If you find one false, say at which input.
  Laid BY PROGRAM, IN A SANDBOX (cutbox-rows.mjs): the forced cells as the released guide's own fill.sh prints them over the translation 32a8f54472b6361a… (all of the seat's roots in one cut). By AI agents, Wed Nov 11 2026. No macro, syntax, notation, axiom, sorry.
-/
import Derived.Test.YtmpidoenboffcaaChecked
import GoSem.Claim
import GoSem.ClaimJoined
import GoSem.ClaimMapViews
import Derived.JoinedTies
import Derived.KernelRfl
namespace Go.Proofs.Ytmpidoenboffcaa
/- THE CELL 'sum', in the pinned program and in every row, IS THE sha256 OF THE DUMP (.gsa) THAT YtmpidoenboffcaaProg.lean LOADS. Nothing in Lean hashes anything: it is a label: what it is worth is what the hold of that sum in a sandbox is worth. -/
noncomputable def Try.pinned : Pinned := { name := "ytmpidoenboffcaa", sum := "32a8f54472b6361a7cfcd2284d591060bd685b2d5a225fadfd28718a51579ca7", checked := Try.checked }
namespace Rows
def none {H : Type} : Left H := { results := [], args := [] }

/-- 'laws.FnExactShapeValid': WHATEVER THE INPUT: true; the input reads as it did. -/
def fnExactShapeValidSpec : ChangeSpec := { name := "fnExactShapeValid", fn := fun _ => fun
  | [d] => { results := [.lit (.bool true)], args := [d] }
  | _ => none }
def fnExactShapeValidRow : OpenClaim := { program := "ytmpidoenboffcaa", sum := "32a8f54472b6361a7cfcd2284d591060bd685b2d5a225fadfd28718a51579ca7", func := "loop.example/templateescaper/laws.FnExactShapeValid", spec := "fnExactShapeValid", apart := false }
def FnExactShapeValidSaid : Prop := fnExactShapeValidRow.holds Try.pinned (OpenSpec.ofChange fnExactShapeValidSpec)

/-- ITS FALSE NEIGHBOUR: 'it returns false'. Refute it at one input. -/
def fnExactShapeValidWrong : ChangeSpec := { name := "fnExactShapeValid", fn := fun _ => fun
  | [d] => { results := [.lit (.bool false)], args := [d] }
  | _ => none }
def FnExactShapeValidWrongFalsely : Prop := fnExactShapeValidRow.holds Try.pinned (OpenSpec.ofChange fnExactShapeValidWrong)

/-- 'laws.FnShapeValid': WHATEVER THE INPUT: true; the input reads as it did. -/
def fnShapeValidSpec : ChangeSpec := { name := "fnShapeValid", fn := fun _ => fun
  | [d] => { results := [.lit (.bool true)], args := [d] }
  | _ => none }
def fnShapeValidRow : OpenClaim := { program := "ytmpidoenboffcaa", sum := "32a8f54472b6361a7cfcd2284d591060bd685b2d5a225fadfd28718a51579ca7", func := "loop.example/templateescaper/laws.FnShapeValid", spec := "fnShapeValid", apart := false }
def FnShapeValidSaid : Prop := fnShapeValidRow.holds Try.pinned (OpenSpec.ofChange fnShapeValidSpec)

/-- ITS FALSE NEIGHBOUR: 'it returns false'. Refute it at one input. -/
def fnShapeValidWrong : ChangeSpec := { name := "fnShapeValid", fn := fun _ => fun
  | [d] => { results := [.lit (.bool false)], args := [d] }
  | _ => none }
def FnShapeValidWrongFalsely : Prop := fnShapeValidRow.holds Try.pinned (OpenSpec.ofChange fnShapeValidWrong)

/-- 'laws.FnExactSetText': WHATEVER THE INPUT: true; the input reads as it did. -/
def fnExactSetTextSpec : ChangeSpec := { name := "fnExactSetText", fn := fun _ => fun
  | [d1, d2] => { results := [.lit (.bool true)], args := [d1, d2] }
  | _ => none }
def fnExactSetTextRow : OpenClaim := { program := "ytmpidoenboffcaa", sum := "32a8f54472b6361a7cfcd2284d591060bd685b2d5a225fadfd28718a51579ca7", func := "loop.example/templateescaper/laws.FnExactSetText", spec := "fnExactSetText", inPlace := ["internal/abi.NoEscape", "internal/bytealg.MakeNoZero"], apart := false }
def FnExactSetTextSaid : Prop := fnExactSetTextRow.holds Try.pinned (OpenSpec.ofChange fnExactSetTextSpec)

/-- ITS FALSE NEIGHBOUR: 'it returns false'. Refute it at one input. -/
def fnExactSetTextWrong : ChangeSpec := { name := "fnExactSetText", fn := fun _ => fun
  | [d1, d2] => { results := [.lit (.bool false)], args := [d1, d2] }
  | _ => none }
def FnExactSetTextWrongFalsely : Prop := fnExactSetTextRow.holds Try.pinned (OpenSpec.ofChange fnExactSetTextWrong)

/-- 'laws.FnSetText': WHATEVER THE INPUT: true; the input reads as it did. -/
def fnSetTextSpec : ChangeSpec := { name := "fnSetText", fn := fun _ => fun
  | [d] => { results := [.lit (.bool true)], args := [d] }
  | _ => none }
def fnSetTextRow : OpenClaim := { program := "ytmpidoenboffcaa", sum := "32a8f54472b6361a7cfcd2284d591060bd685b2d5a225fadfd28718a51579ca7", func := "loop.example/templateescaper/laws.FnSetText", spec := "fnSetText", inPlace := ["internal/abi.NoEscape", "internal/bytealg.MakeNoZero"], apart := false }
def FnSetTextSaid : Prop := fnSetTextRow.holds Try.pinned (OpenSpec.ofChange fnSetTextSpec)

/-- ITS FALSE NEIGHBOUR: 'it returns false'. Refute it at one input. -/
def fnSetTextWrong : ChangeSpec := { name := "fnSetText", fn := fun _ => fun
  | [d] => { results := [.lit (.bool false)], args := [d] }
  | _ => none }
def FnSetTextWrongFalsely : Prop := fnSetTextRow.holds Try.pinned (OpenSpec.ofChange fnSetTextWrong)

/-- 'laws.FnSetRow': WHATEVER THE INPUT: true; the input reads as it did. -/
def fnSetRowSpec : ChangeSpec := { name := "fnSetRow", fn := fun _ => fun
  | [d] => { results := [.lit (.bool true)], args := [d] }
  | _ => none }
def fnSetRowRow : OpenClaim := { program := "ytmpidoenboffcaa", sum := "32a8f54472b6361a7cfcd2284d591060bd685b2d5a225fadfd28718a51579ca7", func := "loop.example/templateescaper/laws.FnSetRow", spec := "fnSetRow", inPlace := ["internal/abi.NoEscape", "internal/bytealg.MakeNoZero"], apart := false }
def FnSetRowSaid : Prop := fnSetRowRow.holds Try.pinned (OpenSpec.ofChange fnSetRowSpec)

/-- ITS FALSE NEIGHBOUR: 'it returns false'. Refute it at one input. -/
def fnSetRowWrong : ChangeSpec := { name := "fnSetRow", fn := fun _ => fun
  | [d] => { results := [.lit (.bool false)], args := [d] }
  | _ => none }
def FnSetRowWrongFalsely : Prop := fnSetRowRow.holds Try.pinned (OpenSpec.ofChange fnSetRowWrong)

/-- 'laws.FnExactSetRow': WHATEVER THE INPUT: true; the input reads as it did. -/
def fnExactSetRowSpec : ChangeSpec := { name := "fnExactSetRow", fn := fun _ => fun
  | [d1, d2] => { results := [.lit (.bool true)], args := [d1, d2] }
  | _ => none }
def fnExactSetRowRow : OpenClaim := { program := "ytmpidoenboffcaa", sum := "32a8f54472b6361a7cfcd2284d591060bd685b2d5a225fadfd28718a51579ca7", func := "loop.example/templateescaper/laws.FnExactSetRow", spec := "fnExactSetRow", inPlace := ["internal/abi.NoEscape", "internal/bytealg.MakeNoZero"], apart := false }
def FnExactSetRowSaid : Prop := fnExactSetRowRow.holds Try.pinned (OpenSpec.ofChange fnExactSetRowSpec)

/-- ITS FALSE NEIGHBOUR: 'it returns false'. Refute it at one input. -/
def fnExactSetRowWrong : ChangeSpec := { name := "fnExactSetRow", fn := fun _ => fun
  | [d1, d2] => { results := [.lit (.bool false)], args := [d1, d2] }
  | _ => none }
def FnExactSetRowWrongFalsely : Prop := fnExactSetRowRow.holds Try.pinned (OpenSpec.ofChange fnExactSetRowWrong)

/- THE SECOND FORM. 'bulk': how many values and letters a reading holds, each counted each time it is reached (what is shared counts as often as it is met; a slice's spare places count too). A statement '..UptoSaid' is the law's where the arguments, and the package variables that the reading takes, are together of bulk at most 1048576: NARROWER than '..Said'. Prove '..Said' where nothing that the law and all that it calls make is longer than what came in: it says more and counts as full. Else prove '..UptoSaid'. A law counts once. -/
mutual
def uptoBulk {H : Type} : DataW H → Nat
  | .lit (.string bytes) => bytes.length + 1
  | .lit _ => 1
  | .nil => 1
  | .ptr d => uptoBulk d + 1
  | .slice elems spare => uptoBulkAll elems + uptoBulkAll spare + 1
  | .agg parts => uptoBulkAll parts + 1
  | .iface _ d => uptoBulk d + 1
  | .map entries => uptoBulkEntries entries + 1
  | .held _ => 1
def uptoBulkAll {H : Type} : List (DataW H) → Nat
  | [] => 0
  | d :: r => uptoBulk d + uptoBulkAll r
def uptoBulkEntries {H : Type} : List (Lit × DataW H) → Nat
  | [] => 0
  | x :: r => uptoBulkEntry x + uptoBulkEntries r
def uptoBulkEntry {H : Type} : Lit × DataW H → Nat
  | (.string bytes, d) => bytes.length + uptoBulk d + 1
  | (_, d) => uptoBulk d + 1
 end
def uptoSmall : (H : Type) → List (DataW H) → Bool := fun _ ds => decide (uptoBulkAll ds ≤ 1048576)
def OpenSpec.upto (s : _root_.Go.ChangeSpec) : _root_.Go.OpenSpec := { _root_.Go.OpenSpec.ofChange s with cond := some uptoSmall }

/-- 'laws.FnExactShapeValid', WHERE WHAT IT READS IS OF BULK AT MOST 1048576: true; the input reads as it did. -/
def fnExactShapeValidUptoRow : OpenClaim := { program := "ytmpidoenboffcaa", sum := "32a8f54472b6361a7cfcd2284d591060bd685b2d5a225fadfd28718a51579ca7", func := "loop.example/templateescaper/laws.FnExactShapeValid", spec := "fnExactShapeValid", apart := false, narrowed := true }
def FnExactShapeValidUptoSaid : Prop := fnExactShapeValidUptoRow.holds Try.pinned (OpenSpec.upto fnExactShapeValidSpec)

/-- 'laws.FnShapeValid', WHERE WHAT IT READS IS OF BULK AT MOST 1048576: true; the input reads as it did. -/
def fnShapeValidUptoRow : OpenClaim := { program := "ytmpidoenboffcaa", sum := "32a8f54472b6361a7cfcd2284d591060bd685b2d5a225fadfd28718a51579ca7", func := "loop.example/templateescaper/laws.FnShapeValid", spec := "fnShapeValid", apart := false, narrowed := true }
def FnShapeValidUptoSaid : Prop := fnShapeValidUptoRow.holds Try.pinned (OpenSpec.upto fnShapeValidSpec)

/-- 'laws.FnExactSetText', WHERE WHAT IT READS IS OF BULK AT MOST 1048576: true; the input reads as it did. -/
def fnExactSetTextUptoRow : OpenClaim := { program := "ytmpidoenboffcaa", sum := "32a8f54472b6361a7cfcd2284d591060bd685b2d5a225fadfd28718a51579ca7", func := "loop.example/templateescaper/laws.FnExactSetText", spec := "fnExactSetText", inPlace := ["internal/abi.NoEscape", "internal/bytealg.MakeNoZero"], apart := false, narrowed := true }
def FnExactSetTextUptoSaid : Prop := fnExactSetTextUptoRow.holds Try.pinned (OpenSpec.upto fnExactSetTextSpec)

/-- 'laws.FnSetText', WHERE WHAT IT READS IS OF BULK AT MOST 1048576: true; the input reads as it did. -/
def fnSetTextUptoRow : OpenClaim := { program := "ytmpidoenboffcaa", sum := "32a8f54472b6361a7cfcd2284d591060bd685b2d5a225fadfd28718a51579ca7", func := "loop.example/templateescaper/laws.FnSetText", spec := "fnSetText", inPlace := ["internal/abi.NoEscape", "internal/bytealg.MakeNoZero"], apart := false, narrowed := true }
def FnSetTextUptoSaid : Prop := fnSetTextUptoRow.holds Try.pinned (OpenSpec.upto fnSetTextSpec)

/-- 'laws.FnSetRow', WHERE WHAT IT READS IS OF BULK AT MOST 1048576: true; the input reads as it did. -/
def fnSetRowUptoRow : OpenClaim := { program := "ytmpidoenboffcaa", sum := "32a8f54472b6361a7cfcd2284d591060bd685b2d5a225fadfd28718a51579ca7", func := "loop.example/templateescaper/laws.FnSetRow", spec := "fnSetRow", inPlace := ["internal/abi.NoEscape", "internal/bytealg.MakeNoZero"], apart := false, narrowed := true }
def FnSetRowUptoSaid : Prop := fnSetRowUptoRow.holds Try.pinned (OpenSpec.upto fnSetRowSpec)

/-- 'laws.FnExactSetRow', WHERE WHAT IT READS IS OF BULK AT MOST 1048576: true; the input reads as it did. -/
def fnExactSetRowUptoRow : OpenClaim := { program := "ytmpidoenboffcaa", sum := "32a8f54472b6361a7cfcd2284d591060bd685b2d5a225fadfd28718a51579ca7", func := "loop.example/templateescaper/laws.FnExactSetRow", spec := "fnExactSetRow", inPlace := ["internal/abi.NoEscape", "internal/bytealg.MakeNoZero"], apart := false, narrowed := true }
def FnExactSetRowUptoSaid : Prop := fnExactSetRowUptoRow.holds Try.pinned (OpenSpec.upto fnExactSetRowSpec)

end Rows
end Go.Proofs.Ytmpidoenboffcaa
