/-
  No cell of these rows narrows 'for every input' (looked for: loops, veiled, ifaces, maps, wideKeys, modest, calm, conditions, laid).
  DERIVED. THE GIVEN ROWS OF THIS SEAT. 5 by the template 'for every input the law returns true; each argument reads behind the call as it read before'; 0 by the template 'total and deterministic' (their statements: YtpplagecancccaaTotals.lean).
  GIVEN WITH THE SEED: the statements are not yours to turn. If you find one false, say at which input.
  Laid BY PROGRAM, IN A SANDBOX (cutbox-rows.mjs): the forced cells as the released guide's own fill.sh prints them over the translation db390d62d17c0953… (all of the seat's roots in one cut). By AI agents, Wed Nov 11 2026. No macro, syntax, notation, axiom, sorry.
-/
import Derived.Test.YtpplagecancccaaChecked
import GoSem.Claim
import GoSem.ClaimJoined
import GoSem.ClaimMapViews
import Derived.JoinedTies
import Derived.KernelRfl
namespace Go.Proofs.Ytpplagecancccaa
/- THE CELL 'sum', in the pinned program and in every row, IS THE sha256 OF THE DUMP (.gsa) THAT YtpplagecancccaaProg.lean LOADS. Nothing in Lean hashes anything: it is a label: what it is worth is what the hold of that sum in a sandbox is worth. -/
noncomputable def Try.pinned : Pinned := { name := "ytpplagecancccaa", sum := "db390d62d17c0953f1ee84bff1b7d2718dd4c5d37374563fffb3ea25edba2129", checked := Try.checked }
namespace Rows
def none {H : Type} : Left H := { results := [], args := [] }

/-- 'laws.FnSourcesValid': WHATEVER THE INPUT: true; the input reads as it did. -/
def fnSourcesValidSpec : ChangeSpec := { name := "fnSourcesValid", fn := fun _ => fun
  | [d] => { results := [.lit (.bool true)], args := [d] }
  | _ => none }
def fnSourcesValidRow : OpenClaim := { program := "ytpplagecancccaa", sum := "db390d62d17c0953f1ee84bff1b7d2718dd4c5d37374563fffb3ea25edba2129", func := "loop.example/templateescaper/laws.FnSourcesValid", spec := "fnSourcesValid", apart := false }
def FnSourcesValidSaid : Prop := fnSourcesValidRow.holds Try.pinned (OpenSpec.ofChange fnSourcesValidSpec)

/-- ITS FALSE NEIGHBOUR: 'it returns false'. Refute it at one input. -/
def fnSourcesValidWrong : ChangeSpec := { name := "fnSourcesValid", fn := fun _ => fun
  | [d] => { results := [.lit (.bool false)], args := [d] }
  | _ => none }
def FnSourcesValidWrongFalsely : Prop := fnSourcesValidRow.holds Try.pinned (OpenSpec.ofChange fnSourcesValidWrong)

/-- 'laws.FnExactSourcesValid': WHATEVER THE INPUT: true; the input reads as it did. -/
def fnExactSourcesValidSpec : ChangeSpec := { name := "fnExactSourcesValid", fn := fun _ => fun
  | [d] => { results := [.lit (.bool true)], args := [d] }
  | _ => none }
def fnExactSourcesValidRow : OpenClaim := { program := "ytpplagecancccaa", sum := "db390d62d17c0953f1ee84bff1b7d2718dd4c5d37374563fffb3ea25edba2129", func := "loop.example/templateescaper/laws.FnExactSourcesValid", spec := "fnExactSourcesValid", apart := false }
def FnExactSourcesValidSaid : Prop := fnExactSourcesValidRow.holds Try.pinned (OpenSpec.ofChange fnExactSourcesValidSpec)

/-- ITS FALSE NEIGHBOUR: 'it returns false'. Refute it at one input. -/
def fnExactSourcesValidWrong : ChangeSpec := { name := "fnExactSourcesValid", fn := fun _ => fun
  | [d] => { results := [.lit (.bool false)], args := [d] }
  | _ => none }
def FnExactSourcesValidWrongFalsely : Prop := fnExactSourcesValidRow.holds Try.pinned (OpenSpec.ofChange fnExactSourcesValidWrong)

/-- 'laws.FnSourceAllows': WHATEVER THE INPUT: true; the input reads as it did. -/
def fnSourceAllowsSpec : ChangeSpec := { name := "fnSourceAllows", fn := fun _ => fun
  | [d] => { results := [.lit (.bool true)], args := [d] }
  | _ => none }
def fnSourceAllowsRow : OpenClaim := { program := "ytpplagecancccaa", sum := "db390d62d17c0953f1ee84bff1b7d2718dd4c5d37374563fffb3ea25edba2129", func := "loop.example/templateescaper/laws.FnSourceAllows", spec := "fnSourceAllows", apart := false }
def FnSourceAllowsSaid : Prop := fnSourceAllowsRow.holds Try.pinned (OpenSpec.ofChange fnSourceAllowsSpec)

/-- ITS FALSE NEIGHBOUR: 'it returns false'. Refute it at one input. -/
def fnSourceAllowsWrong : ChangeSpec := { name := "fnSourceAllows", fn := fun _ => fun
  | [d] => { results := [.lit (.bool false)], args := [d] }
  | _ => none }
def FnSourceAllowsWrongFalsely : Prop := fnSourceAllowsRow.holds Try.pinned (OpenSpec.ofChange fnSourceAllowsWrong)

/-- 'laws.FnExactSourceAllows': WHATEVER THE INPUT: true; the input reads as it did. -/
def fnExactSourceAllowsSpec : ChangeSpec := { name := "fnExactSourceAllows", fn := fun _ => fun
  | [d1, d2, d3, d4] => { results := [.lit (.bool true)], args := [d1, d2, d3, d4] }
  | _ => none }
def fnExactSourceAllowsRow : OpenClaim := { program := "ytpplagecancccaa", sum := "db390d62d17c0953f1ee84bff1b7d2718dd4c5d37374563fffb3ea25edba2129", func := "loop.example/templateescaper/laws.FnExactSourceAllows", spec := "fnExactSourceAllows", apart := false }
def FnExactSourceAllowsSaid : Prop := fnExactSourceAllowsRow.holds Try.pinned (OpenSpec.ofChange fnExactSourceAllowsSpec)

/-- ITS FALSE NEIGHBOUR: 'it returns false'. Refute it at one input. -/
def fnExactSourceAllowsWrong : ChangeSpec := { name := "fnExactSourceAllows", fn := fun _ => fun
  | [d1, d2, d3, d4] => { results := [.lit (.bool false)], args := [d1, d2, d3, d4] }
  | _ => none }
def FnExactSourceAllowsWrongFalsely : Prop := fnExactSourceAllowsRow.holds Try.pinned (OpenSpec.ofChange fnExactSourceAllowsWrong)

/-- 'laws.FnExactSourcesText': WHATEVER THE INPUT: true; the input reads as it did. -/
def fnExactSourcesTextSpec : ChangeSpec := { name := "fnExactSourcesText", fn := fun _ => fun
  | [d] => { results := [.lit (.bool true)], args := [d] }
  | _ => none }
def fnExactSourcesTextRow : OpenClaim := { program := "ytpplagecancccaa", sum := "db390d62d17c0953f1ee84bff1b7d2718dd4c5d37374563fffb3ea25edba2129", func := "loop.example/templateescaper/laws.FnExactSourcesText", spec := "fnExactSourcesText", inPlace := ["internal/abi.NoEscape", "internal/bytealg.MakeNoZero"], apart := false }
def FnExactSourcesTextSaid : Prop := fnExactSourcesTextRow.holds Try.pinned (OpenSpec.ofChange fnExactSourcesTextSpec)

/-- ITS FALSE NEIGHBOUR: 'it returns false'. Refute it at one input. -/
def fnExactSourcesTextWrong : ChangeSpec := { name := "fnExactSourcesText", fn := fun _ => fun
  | [d] => { results := [.lit (.bool false)], args := [d] }
  | _ => none }
def FnExactSourcesTextWrongFalsely : Prop := fnExactSourcesTextRow.holds Try.pinned (OpenSpec.ofChange fnExactSourcesTextWrong)

/- THE SECOND FORM. 'bulk': how many values and letters a reading holds, each counted each time it is reached (what is shared counts as often as it is met; a slice's spare places count too). A statement '..UptoSaid' is the law's where the arguments, and the package variables that the reading takes, are together of bulk at most 1048576: NARROWER than '..Said'. Prove '..Said' where nothing that the law and all that it calls make is longer than what came in: it says more and counts as full. Else prove '..UptoSaid'. A law counts once. -/
mutual
def uptoBulk {H : Type} : DataW H → Nat
  | .lit (.string bytes) => bytes.length + 1
  | .lit _ => 1
  | .nil => 1
  | .ptr d => uptoBulk d + 1
  | .slice elems spare => uptoBulkAll elems + uptoBulkAll spare + 1
  | .agg parts => uptoBulkAll parts + 1
  | .iface _ d => uptoBulk d + 1
  | .map entries => uptoBulkEntries entries + 1
  | .held _ => 1
def uptoBulkAll {H : Type} : List (DataW H) → Nat
  | [] => 0
  | d :: r => uptoBulk d + uptoBulkAll r
def uptoBulkEntries {H : Type} : List (Lit × DataW H) → Nat
  | [] => 0
  | x :: r => uptoBulkEntry x + uptoBulkEntries r
def uptoBulkEntry {H : Type} : Lit × DataW H → Nat
  | (.string bytes, d) => bytes.length + uptoBulk d + 1
  | (_, d) => uptoBulk d + 1
 end
def uptoSmall : (H : Type) → List (DataW H) → Bool := fun _ ds => decide (uptoBulkAll ds ≤ 1048576)
def OpenSpec.upto (s : _root_.Go.ChangeSpec) : _root_.Go.OpenSpec := { _root_.Go.OpenSpec.ofChange s with cond := some uptoSmall }

/-- 'laws.FnSourcesValid', WHERE WHAT IT READS IS OF BULK AT MOST 1048576: true; the input reads as it did. -/
def fnSourcesValidUptoRow : OpenClaim := { program := "ytpplagecancccaa", sum := "db390d62d17c0953f1ee84bff1b7d2718dd4c5d37374563fffb3ea25edba2129", func := "loop.example/templateescaper/laws.FnSourcesValid", spec := "fnSourcesValid", apart := false, narrowed := true }
def FnSourcesValidUptoSaid : Prop := fnSourcesValidUptoRow.holds Try.pinned (OpenSpec.upto fnSourcesValidSpec)

/-- 'laws.FnExactSourcesValid', WHERE WHAT IT READS IS OF BULK AT MOST 1048576: true; the input reads as it did. -/
def fnExactSourcesValidUptoRow : OpenClaim := { program := "ytpplagecancccaa", sum := "db390d62d17c0953f1ee84bff1b7d2718dd4c5d37374563fffb3ea25edba2129", func := "loop.example/templateescaper/laws.FnExactSourcesValid", spec := "fnExactSourcesValid", apart := false, narrowed := true }
def FnExactSourcesValidUptoSaid : Prop := fnExactSourcesValidUptoRow.holds Try.pinned (OpenSpec.upto fnExactSourcesValidSpec)

/-- 'laws.FnSourceAllows', WHERE WHAT IT READS IS OF BULK AT MOST 1048576: true; the input reads as it did. -/
def fnSourceAllowsUptoRow : OpenClaim := { program := "ytpplagecancccaa", sum := "db390d62d17c0953f1ee84bff1b7d2718dd4c5d37374563fffb3ea25edba2129", func := "loop.example/templateescaper/laws.FnSourceAllows", spec := "fnSourceAllows", apart := false, narrowed := true }
def FnSourceAllowsUptoSaid : Prop := fnSourceAllowsUptoRow.holds Try.pinned (OpenSpec.upto fnSourceAllowsSpec)

/-- 'laws.FnExactSourceAllows', WHERE WHAT IT READS IS OF BULK AT MOST 1048576: true; the input reads as it did. -/
def fnExactSourceAllowsUptoRow : OpenClaim := { program := "ytpplagecancccaa", sum := "db390d62d17c0953f1ee84bff1b7d2718dd4c5d37374563fffb3ea25edba2129", func := "loop.example/templateescaper/laws.FnExactSourceAllows", spec := "fnExactSourceAllows", apart := false, narrowed := true }
def FnExactSourceAllowsUptoSaid : Prop := fnExactSourceAllowsUptoRow.holds Try.pinned (OpenSpec.upto fnExactSourceAllowsSpec)

/-- 'laws.FnExactSourcesText', WHERE WHAT IT READS IS OF BULK AT MOST 1048576: true; the input reads as it did. -/
def fnExactSourcesTextUptoRow : OpenClaim := { program := "ytpplagecancccaa", sum := "db390d62d17c0953f1ee84bff1b7d2718dd4c5d37374563fffb3ea25edba2129", func := "loop.example/templateescaper/laws.FnExactSourcesText", spec := "fnExactSourcesText", inPlace := ["internal/abi.NoEscape", "internal/bytealg.MakeNoZero"], apart := false, narrowed := true }
def FnExactSourcesTextUptoSaid : Prop := fnExactSourcesTextUptoRow.holds Try.pinned (OpenSpec.upto fnExactSourcesTextSpec)

end Rows
end Go.Proofs.Ytpplagecancccaa
