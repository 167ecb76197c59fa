/-
  No cell of these rows narrows 'for every input' (looked for: loops, veiled, ifaces, maps, wideKeys, modest, calm, conditions, laid).
  DERIVED. THE GIVEN ROWS OF THIS SEAT. 6 by the template 'for every input the law returns true; each argument reads behind the call as it read before'; 0 by the template 'total and deterministic' (their statements: YtdoomfckdjjlaaaTotals.lean).
  GIVEN WITH THE SEED: the statements are not yours to turn. If you find one false, say at which input.
  Laid BY PROGRAM, IN A SANDBOX (cutbox-rows.mjs): the forced cells as the released guide's own fill.sh prints them over the translation 01738bef57ddfc45… (all of the seat's roots in one cut). By AI agents, Wed Nov 11 2026. No macro, syntax, notation, axiom, sorry.
-/
import Derived.Test.YtdoomfckdjjlaaaChecked
import GoSem.Claim
import GoSem.ClaimJoined
import GoSem.ClaimMapViews
import Derived.JoinedTies
import Derived.KernelRfl
namespace Go.Proofs.Ytdoomfckdjjlaaa
/- THE CELL 'sum', in the pinned program and in every row, IS THE sha256 OF THE DUMP (.gsa) THAT YtdoomfckdjjlaaaProg.lean LOADS. Nothing in Lean hashes anything: it is a label: what it is worth is what the hold of that sum in a sandbox is worth. -/
noncomputable def Try.pinned : Pinned := { name := "ytdoomfckdjjlaaa", sum := "01738bef57ddfc45b4854ac8025904e38ec4bdee3e160e9f3d073cecd4b6b40c", checked := Try.checked }
namespace Rows
def none {H : Type} : Left H := { results := [], args := [] }

/-- 'laws.FnTableMarkup': WHATEVER THE INPUT: true; the input reads as it did. -/
def fnTableMarkupSpec : ChangeSpec := { name := "fnTableMarkup", fn := fun _ => fun
  | [d] => { results := [.lit (.bool true)], args := [d] }
  | _ => none }
def fnTableMarkupRow : OpenClaim := { program := "ytdoomfckdjjlaaa", sum := "01738bef57ddfc45b4854ac8025904e38ec4bdee3e160e9f3d073cecd4b6b40c", func := "loop.example/templateescaper/laws.FnTableMarkup", spec := "fnTableMarkup", inPlace := ["internal/abi.NoEscape"], apart := false }
def FnTableMarkupSaid : Prop := fnTableMarkupRow.holds Try.pinned (OpenSpec.ofChange fnTableMarkupSpec)

/-- ITS FALSE NEIGHBOUR: 'it returns false'. Refute it at one input. -/
def fnTableMarkupWrong : ChangeSpec := { name := "fnTableMarkup", fn := fun _ => fun
  | [d] => { results := [.lit (.bool false)], args := [d] }
  | _ => none }
def FnTableMarkupWrongFalsely : Prop := fnTableMarkupRow.holds Try.pinned (OpenSpec.ofChange fnTableMarkupWrong)

/-- 'laws.FnTableRows': WHATEVER THE INPUT: true; the input reads as it did. -/
def fnTableRowsSpec : ChangeSpec := { name := "fnTableRows", fn := fun _ => fun
  | [d] => { results := [.lit (.bool true)], args := [d] }
  | _ => none }
def fnTableRowsRow : OpenClaim := { program := "ytdoomfckdjjlaaa", sum := "01738bef57ddfc45b4854ac8025904e38ec4bdee3e160e9f3d073cecd4b6b40c", func := "loop.example/templateescaper/laws.FnTableRows", spec := "fnTableRows", inPlace := ["internal/abi.NoEscape"], apart := false }
def FnTableRowsSaid : Prop := fnTableRowsRow.holds Try.pinned (OpenSpec.ofChange fnTableRowsSpec)

/-- ITS FALSE NEIGHBOUR: 'it returns false'. Refute it at one input. -/
def fnTableRowsWrong : ChangeSpec := { name := "fnTableRows", fn := fun _ => fun
  | [d] => { results := [.lit (.bool false)], args := [d] }
  | _ => none }
def FnTableRowsWrongFalsely : Prop := fnTableRowsRow.holds Try.pinned (OpenSpec.ofChange fnTableRowsWrong)

/-- 'laws.FnExactTableTokens': WHATEVER THE INPUT: true; the input reads as it did. -/
def fnExactTableTokensSpec : ChangeSpec := { name := "fnExactTableTokens", fn := fun _ => fun
  | [d] => { results := [.lit (.bool true)], args := [d] }
  | _ => none }
def fnExactTableTokensRow : OpenClaim := { program := "ytdoomfckdjjlaaa", sum := "01738bef57ddfc45b4854ac8025904e38ec4bdee3e160e9f3d073cecd4b6b40c", func := "loop.example/templateescaper/laws.FnExactTableTokens", spec := "fnExactTableTokens", apart := false }
def FnExactTableTokensSaid : Prop := fnExactTableTokensRow.holds Try.pinned (OpenSpec.ofChange fnExactTableTokensSpec)

/-- ITS FALSE NEIGHBOUR: 'it returns false'. Refute it at one input. -/
def fnExactTableTokensWrong : ChangeSpec := { name := "fnExactTableTokens", fn := fun _ => fun
  | [d] => { results := [.lit (.bool false)], args := [d] }
  | _ => none }
def FnExactTableTokensWrongFalsely : Prop := fnExactTableTokensRow.holds Try.pinned (OpenSpec.ofChange fnExactTableTokensWrong)

/-- 'laws.FnTableTokens': WHATEVER THE INPUT: true; the input reads as it did. -/
def fnTableTokensSpec : ChangeSpec := { name := "fnTableTokens", fn := fun _ => fun
  | [d] => { results := [.lit (.bool true)], args := [d] }
  | _ => none }
def fnTableTokensRow : OpenClaim := { program := "ytdoomfckdjjlaaa", sum := "01738bef57ddfc45b4854ac8025904e38ec4bdee3e160e9f3d073cecd4b6b40c", func := "loop.example/templateescaper/laws.FnTableTokens", spec := "fnTableTokens", apart := false }
def FnTableTokensSaid : Prop := fnTableTokensRow.holds Try.pinned (OpenSpec.ofChange fnTableTokensSpec)

/-- ITS FALSE NEIGHBOUR: 'it returns false'. Refute it at one input. -/
def fnTableTokensWrong : ChangeSpec := { name := "fnTableTokens", fn := fun _ => fun
  | [d] => { results := [.lit (.bool false)], args := [d] }
  | _ => none }
def FnTableTokensWrongFalsely : Prop := fnTableTokensRow.holds Try.pinned (OpenSpec.ofChange fnTableTokensWrong)

/-- 'laws.FnExactTableMarkup': WHATEVER THE INPUT: true; the input reads as it did. -/
def fnExactTableMarkupSpec : ChangeSpec := { name := "fnExactTableMarkup", fn := fun _ => fun
  | [d] => { results := [.lit (.bool true)], args := [d] }
  | _ => none }
def fnExactTableMarkupRow : OpenClaim := { program := "ytdoomfckdjjlaaa", sum := "01738bef57ddfc45b4854ac8025904e38ec4bdee3e160e9f3d073cecd4b6b40c", func := "loop.example/templateescaper/laws.FnExactTableMarkup", spec := "fnExactTableMarkup", inPlace := ["internal/abi.NoEscape"], apart := false }
def FnExactTableMarkupSaid : Prop := fnExactTableMarkupRow.holds Try.pinned (OpenSpec.ofChange fnExactTableMarkupSpec)

/-- ITS FALSE NEIGHBOUR: 'it returns false'. Refute it at one input. -/
def fnExactTableMarkupWrong : ChangeSpec := { name := "fnExactTableMarkup", fn := fun _ => fun
  | [d] => { results := [.lit (.bool false)], args := [d] }
  | _ => none }
def FnExactTableMarkupWrongFalsely : Prop := fnExactTableMarkupRow.holds Try.pinned (OpenSpec.ofChange fnExactTableMarkupWrong)

/-- 'laws.FnExactTableRows': WHATEVER THE INPUT: true; the input reads as it did. -/
def fnExactTableRowsSpec : ChangeSpec := { name := "fnExactTableRows", fn := fun _ => fun
  | [d] => { results := [.lit (.bool true)], args := [d] }
  | _ => none }
def fnExactTableRowsRow : OpenClaim := { program := "ytdoomfckdjjlaaa", sum := "01738bef57ddfc45b4854ac8025904e38ec4bdee3e160e9f3d073cecd4b6b40c", func := "loop.example/templateescaper/laws.FnExactTableRows", spec := "fnExactTableRows", inPlace := ["internal/abi.NoEscape"], apart := false }
def FnExactTableRowsSaid : Prop := fnExactTableRowsRow.holds Try.pinned (OpenSpec.ofChange fnExactTableRowsSpec)

/-- ITS FALSE NEIGHBOUR: 'it returns false'. Refute it at one input. -/
def fnExactTableRowsWrong : ChangeSpec := { name := "fnExactTableRows", fn := fun _ => fun
  | [d] => { results := [.lit (.bool false)], args := [d] }
  | _ => none }
def FnExactTableRowsWrongFalsely : Prop := fnExactTableRowsRow.holds Try.pinned (OpenSpec.ofChange fnExactTableRowsWrong)

/- THE SECOND FORM. 'bulk': how many values and letters a reading holds, each counted each time it is reached (what is shared counts as often as it is met; a slice's spare places count too). A statement '..UptoSaid' is the law's where the arguments, and the package variables that the reading takes, are together of bulk at most 1048576: NARROWER than '..Said'. Prove '..Said' where nothing that the law and all that it calls make is longer than what came in: it says more and counts as full. Else prove '..UptoSaid'. A law counts once. -/
mutual
def uptoBulk {H : Type} : DataW H → Nat
  | .lit (.string bytes) => bytes.length + 1
  | .lit _ => 1
  | .nil => 1
  | .ptr d => uptoBulk d + 1
  | .slice elems spare => uptoBulkAll elems + uptoBulkAll spare + 1
  | .agg parts => uptoBulkAll parts + 1
  | .iface _ d => uptoBulk d + 1
  | .map entries => uptoBulkEntries entries + 1
  | .held _ => 1
def uptoBulkAll {H : Type} : List (DataW H) → Nat
  | [] => 0
  | d :: r => uptoBulk d + uptoBulkAll r
def uptoBulkEntries {H : Type} : List (Lit × DataW H) → Nat
  | [] => 0
  | x :: r => uptoBulkEntry x + uptoBulkEntries r
def uptoBulkEntry {H : Type} : Lit × DataW H → Nat
  | (.string bytes, d) => bytes.length + uptoBulk d + 1
  | (_, d) => uptoBulk d + 1
 end
def uptoSmall : (H : Type) → List (DataW H) → Bool := fun _ ds => decide (uptoBulkAll ds ≤ 1048576)
def OpenSpec.upto (s : _root_.Go.ChangeSpec) : _root_.Go.OpenSpec := { _root_.Go.OpenSpec.ofChange s with cond := some uptoSmall }

/-- 'laws.FnTableMarkup', WHERE WHAT IT READS IS OF BULK AT MOST 1048576: true; the input reads as it did. -/
def fnTableMarkupUptoRow : OpenClaim := { program := "ytdoomfckdjjlaaa", sum := "01738bef57ddfc45b4854ac8025904e38ec4bdee3e160e9f3d073cecd4b6b40c", func := "loop.example/templateescaper/laws.FnTableMarkup", spec := "fnTableMarkup", inPlace := ["internal/abi.NoEscape"], apart := false, narrowed := true }
def FnTableMarkupUptoSaid : Prop := fnTableMarkupUptoRow.holds Try.pinned (OpenSpec.upto fnTableMarkupSpec)

/-- 'laws.FnTableRows', WHERE WHAT IT READS IS OF BULK AT MOST 1048576: true; the input reads as it did. -/
def fnTableRowsUptoRow : OpenClaim := { program := "ytdoomfckdjjlaaa", sum := "01738bef57ddfc45b4854ac8025904e38ec4bdee3e160e9f3d073cecd4b6b40c", func := "loop.example/templateescaper/laws.FnTableRows", spec := "fnTableRows", inPlace := ["internal/abi.NoEscape"], apart := false, narrowed := true }
def FnTableRowsUptoSaid : Prop := fnTableRowsUptoRow.holds Try.pinned (OpenSpec.upto fnTableRowsSpec)

/-- 'laws.FnExactTableTokens', WHERE WHAT IT READS IS OF BULK AT MOST 1048576: true; the input reads as it did. -/
def fnExactTableTokensUptoRow : OpenClaim := { program := "ytdoomfckdjjlaaa", sum := "01738bef57ddfc45b4854ac8025904e38ec4bdee3e160e9f3d073cecd4b6b40c", func := "loop.example/templateescaper/laws.FnExactTableTokens", spec := "fnExactTableTokens", apart := false, narrowed := true }
def FnExactTableTokensUptoSaid : Prop := fnExactTableTokensUptoRow.holds Try.pinned (OpenSpec.upto fnExactTableTokensSpec)

/-- 'laws.FnTableTokens', WHERE WHAT IT READS IS OF BULK AT MOST 1048576: true; the input reads as it did. -/
def fnTableTokensUptoRow : OpenClaim := { program := "ytdoomfckdjjlaaa", sum := "01738bef57ddfc45b4854ac8025904e38ec4bdee3e160e9f3d073cecd4b6b40c", func := "loop.example/templateescaper/laws.FnTableTokens", spec := "fnTableTokens", apart := false, narrowed := true }
def FnTableTokensUptoSaid : Prop := fnTableTokensUptoRow.holds Try.pinned (OpenSpec.upto fnTableTokensSpec)

/-- 'laws.FnExactTableMarkup', WHERE WHAT IT READS IS OF BULK AT MOST 1048576: true; the input reads as it did. -/
def fnExactTableMarkupUptoRow : OpenClaim := { program := "ytdoomfckdjjlaaa", sum := "01738bef57ddfc45b4854ac8025904e38ec4bdee3e160e9f3d073cecd4b6b40c", func := "loop.example/templateescaper/laws.FnExactTableMarkup", spec := "fnExactTableMarkup", inPlace := ["internal/abi.NoEscape"], apart := false, narrowed := true }
def FnExactTableMarkupUptoSaid : Prop := fnExactTableMarkupUptoRow.holds Try.pinned (OpenSpec.upto fnExactTableMarkupSpec)

/-- 'laws.FnExactTableRows', WHERE WHAT IT READS IS OF BULK AT MOST 1048576: true; the input reads as it did. -/
def fnExactTableRowsUptoRow : OpenClaim := { program := "ytdoomfckdjjlaaa", sum := "01738bef57ddfc45b4854ac8025904e38ec4bdee3e160e9f3d073cecd4b6b40c", func := "loop.example/templateescaper/laws.FnExactTableRows", spec := "fnExactTableRows", inPlace := ["internal/abi.NoEscape"], apart := false, narrowed := true }
def FnExactTableRowsUptoSaid : Prop := fnExactTableRowsUptoRow.holds Try.pinned (OpenSpec.upto fnExactTableRowsSpec)

end Rows
end Go.Proofs.Ytdoomfckdjjlaaa
