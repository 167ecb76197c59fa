/-
  No cell of these rows narrows 'for every input' (looked for: loops, veiled, ifaces, maps, wideKeys, modest, calm, conditions, laid).
  DERIVED. THE GIVEN ROWS OF THIS SEAT. 12 by the template 'for every input the law returns true; each argument reads behind the call as it read before'; 0 by the template 'total and deterministic' (their statements: YtfefgnehbpfonaaTotals.lean).
  GIVEN WITH THE SEED: the statements are not yours to turn. If you find one false, say at which input.
  Laid BY PROGRAM, IN A SANDBOX (cutbox-rows.mjs): the forced cells as the released guide's own fill.sh prints them over the translation 37850856ea850eec… (all of the seat's roots in one cut). By AI agents, Wed Nov 11 2026. No macro, syntax, notation, axiom, sorry.
-/
import Derived.Test.YtfefgnehbpfonaaChecked
import GoSem.Claim
import GoSem.ClaimJoined
import GoSem.ClaimMapViews
import Derived.JoinedTies
import Derived.KernelRfl
namespace Go.Proofs.Ytfefgnehbpfonaa
/- THE CELL 'sum', in the pinned program and in every row, IS THE sha256 OF THE DUMP (.gsa) THAT YtfefgnehbpfonaaProg.lean LOADS. Nothing in Lean hashes anything: it is a label: what it is worth is what the hold of that sum in a sandbox is worth. -/
noncomputable def Try.pinned : Pinned := { name := "ytfefgnehbpfonaa", sum := "37850856ea850eec0134c759e05b472ad9fb923db9c7e98c83c246ecdfc2dd9c", checked := Try.checked }
namespace Rows
def none {H : Type} : Left H := { results := [], args := [] }

/-- 'laws.FnExactPointValid': WHATEVER THE INPUT: true; the input reads as it did. -/
def fnExactPointValidSpec : ChangeSpec := { name := "fnExactPointValid", fn := fun _ => fun
  | [d] => { results := [.lit (.bool true)], args := [d] }
  | _ => none }
def fnExactPointValidRow : OpenClaim := { program := "ytfefgnehbpfonaa", sum := "37850856ea850eec0134c759e05b472ad9fb923db9c7e98c83c246ecdfc2dd9c", func := "loop.example/templateescaper/laws.FnExactPointValid", spec := "fnExactPointValid", apart := false }
def FnExactPointValidSaid : Prop := fnExactPointValidRow.holds Try.pinned (OpenSpec.ofChange fnExactPointValidSpec)

/-- ITS FALSE NEIGHBOUR: 'it returns false'. Refute it at one input. -/
def fnExactPointValidWrong : ChangeSpec := { name := "fnExactPointValid", fn := fun _ => fun
  | [d] => { results := [.lit (.bool false)], args := [d] }
  | _ => none }
def FnExactPointValidWrongFalsely : Prop := fnExactPointValidRow.holds Try.pinned (OpenSpec.ofChange fnExactPointValidWrong)

/-- 'laws.FnExactLettersLong': WHATEVER THE INPUT: true; the input reads as it did. -/
def fnExactLettersLongSpec : ChangeSpec := { name := "fnExactLettersLong", fn := fun _ => fun
  | [d] => { results := [.lit (.bool true)], args := [d] }
  | _ => none }
def fnExactLettersLongRow : OpenClaim := { program := "ytfefgnehbpfonaa", sum := "37850856ea850eec0134c759e05b472ad9fb923db9c7e98c83c246ecdfc2dd9c", func := "loop.example/templateescaper/laws.FnExactLettersLong", spec := "fnExactLettersLong", apart := false }
def FnExactLettersLongSaid : Prop := fnExactLettersLongRow.holds Try.pinned (OpenSpec.ofChange fnExactLettersLongSpec)

/-- ITS FALSE NEIGHBOUR: 'it returns false'. Refute it at one input. -/
def fnExactLettersLongWrong : ChangeSpec := { name := "fnExactLettersLong", fn := fun _ => fun
  | [d] => { results := [.lit (.bool false)], args := [d] }
  | _ => none }
def FnExactLettersLongWrongFalsely : Prop := fnExactLettersLongRow.holds Try.pinned (OpenSpec.ofChange fnExactLettersLongWrong)

/-- 'laws.FnLettersLong': WHATEVER THE INPUT: true; the input reads as it did. -/
def fnLettersLongSpec : ChangeSpec := { name := "fnLettersLong", fn := fun _ => fun
  | [d] => { results := [.lit (.bool true)], args := [d] }
  | _ => none }
def fnLettersLongRow : OpenClaim := { program := "ytfefgnehbpfonaa", sum := "37850856ea850eec0134c759e05b472ad9fb923db9c7e98c83c246ecdfc2dd9c", func := "loop.example/templateescaper/laws.FnLettersLong", spec := "fnLettersLong", apart := false }
def FnLettersLongSaid : Prop := fnLettersLongRow.holds Try.pinned (OpenSpec.ofChange fnLettersLongSpec)

/-- ITS FALSE NEIGHBOUR: 'it returns false'. Refute it at one input. -/
def fnLettersLongWrong : ChangeSpec := { name := "fnLettersLong", fn := fun _ => fun
  | [d] => { results := [.lit (.bool false)], args := [d] }
  | _ => none }
def FnLettersLongWrongFalsely : Prop := fnLettersLongRow.holds Try.pinned (OpenSpec.ofChange fnLettersLongWrong)

/-- 'laws.FnPointValid': WHATEVER THE INPUT: true; the input reads as it did. -/
def fnPointValidSpec : ChangeSpec := { name := "fnPointValid", fn := fun _ => fun
  | [d] => { results := [.lit (.bool true)], args := [d] }
  | _ => none }
def fnPointValidRow : OpenClaim := { program := "ytfefgnehbpfonaa", sum := "37850856ea850eec0134c759e05b472ad9fb923db9c7e98c83c246ecdfc2dd9c", func := "loop.example/templateescaper/laws.FnPointValid", spec := "fnPointValid", apart := false }
def FnPointValidSaid : Prop := fnPointValidRow.holds Try.pinned (OpenSpec.ofChange fnPointValidSpec)

/-- ITS FALSE NEIGHBOUR: 'it returns false'. Refute it at one input. -/
def fnPointValidWrong : ChangeSpec := { name := "fnPointValid", fn := fun _ => fun
  | [d] => { results := [.lit (.bool false)], args := [d] }
  | _ => none }
def FnPointValidWrongFalsely : Prop := fnPointValidRow.holds Try.pinned (OpenSpec.ofChange fnPointValidWrong)

/-- 'laws.FnExactPutPoint': WHATEVER THE INPUT: true; the input reads as it did. -/
def fnExactPutPointSpec : ChangeSpec := { name := "fnExactPutPoint", fn := fun _ => fun
  | [d] => { results := [.lit (.bool true)], args := [d] }
  | _ => none }
def fnExactPutPointRow : OpenClaim := { program := "ytfefgnehbpfonaa", sum := "37850856ea850eec0134c759e05b472ad9fb923db9c7e98c83c246ecdfc2dd9c", func := "loop.example/templateescaper/laws.FnExactPutPoint", spec := "fnExactPutPoint", apart := false }
def FnExactPutPointSaid : Prop := fnExactPutPointRow.holds Try.pinned (OpenSpec.ofChange fnExactPutPointSpec)

/-- ITS FALSE NEIGHBOUR: 'it returns false'. Refute it at one input. -/
def fnExactPutPointWrong : ChangeSpec := { name := "fnExactPutPoint", fn := fun _ => fun
  | [d] => { results := [.lit (.bool false)], args := [d] }
  | _ => none }
def FnExactPutPointWrongFalsely : Prop := fnExactPutPointRow.holds Try.pinned (OpenSpec.ofChange fnExactPutPointWrong)

/-- 'laws.FnPutPoint': WHATEVER THE INPUT: true; the input reads as it did. -/
def fnPutPointSpec : ChangeSpec := { name := "fnPutPoint", fn := fun _ => fun
  | [d] => { results := [.lit (.bool true)], args := [d] }
  | _ => none }
def fnPutPointRow : OpenClaim := { program := "ytfefgnehbpfonaa", sum := "37850856ea850eec0134c759e05b472ad9fb923db9c7e98c83c246ecdfc2dd9c", func := "loop.example/templateescaper/laws.FnPutPoint", spec := "fnPutPoint", apart := false }
def FnPutPointSaid : Prop := fnPutPointRow.holds Try.pinned (OpenSpec.ofChange fnPutPointSpec)

/-- ITS FALSE NEIGHBOUR: 'it returns false'. Refute it at one input. -/
def fnPutPointWrong : ChangeSpec := { name := "fnPutPoint", fn := fun _ => fun
  | [d] => { results := [.lit (.bool false)], args := [d] }
  | _ => none }
def FnPutPointWrongFalsely : Prop := fnPutPointRow.holds Try.pinned (OpenSpec.ofChange fnPutPointWrong)

/-- 'laws.FnExactPointsBytes': WHATEVER THE INPUT: true; the input reads as it did. -/
def fnExactPointsBytesSpec : ChangeSpec := { name := "fnExactPointsBytes", fn := fun _ => fun
  | [d] => { results := [.lit (.bool true)], args := [d] }
  | _ => none }
def fnExactPointsBytesRow : OpenClaim := { program := "ytfefgnehbpfonaa", sum := "37850856ea850eec0134c759e05b472ad9fb923db9c7e98c83c246ecdfc2dd9c", func := "loop.example/templateescaper/laws.FnExactPointsBytes", spec := "fnExactPointsBytes", apart := false }
def FnExactPointsBytesSaid : Prop := fnExactPointsBytesRow.holds Try.pinned (OpenSpec.ofChange fnExactPointsBytesSpec)

/-- ITS FALSE NEIGHBOUR: 'it returns false'. Refute it at one input. -/
def fnExactPointsBytesWrong : ChangeSpec := { name := "fnExactPointsBytes", fn := fun _ => fun
  | [d] => { results := [.lit (.bool false)], args := [d] }
  | _ => none }
def FnExactPointsBytesWrongFalsely : Prop := fnExactPointsBytesRow.holds Try.pinned (OpenSpec.ofChange fnExactPointsBytesWrong)

/-- 'laws.FnExactGetPoint': WHATEVER THE INPUT: true; the input reads as it did. -/
def fnExactGetPointSpec : ChangeSpec := { name := "fnExactGetPoint", fn := fun _ => fun
  | [d1, d2] => { results := [.lit (.bool true)], args := [d1, d2] }
  | _ => none }
def fnExactGetPointRow : OpenClaim := { program := "ytfefgnehbpfonaa", sum := "37850856ea850eec0134c759e05b472ad9fb923db9c7e98c83c246ecdfc2dd9c", func := "loop.example/templateescaper/laws.FnExactGetPoint", spec := "fnExactGetPoint", apart := false }
def FnExactGetPointSaid : Prop := fnExactGetPointRow.holds Try.pinned (OpenSpec.ofChange fnExactGetPointSpec)

/-- ITS FALSE NEIGHBOUR: 'it returns false'. Refute it at one input. -/
def fnExactGetPointWrong : ChangeSpec := { name := "fnExactGetPoint", fn := fun _ => fun
  | [d1, d2] => { results := [.lit (.bool false)], args := [d1, d2] }
  | _ => none }
def FnExactGetPointWrongFalsely : Prop := fnExactGetPointRow.holds Try.pinned (OpenSpec.ofChange fnExactGetPointWrong)

/-- 'laws.FnGetPoint': WHATEVER THE INPUT: true; the input reads as it did. -/
def fnGetPointSpec : ChangeSpec := { name := "fnGetPoint", fn := fun _ => fun
  | [d] => { results := [.lit (.bool true)], args := [d] }
  | _ => none }
def fnGetPointRow : OpenClaim := { program := "ytfefgnehbpfonaa", sum := "37850856ea850eec0134c759e05b472ad9fb923db9c7e98c83c246ecdfc2dd9c", func := "loop.example/templateescaper/laws.FnGetPoint", spec := "fnGetPoint", apart := false }
def FnGetPointSaid : Prop := fnGetPointRow.holds Try.pinned (OpenSpec.ofChange fnGetPointSpec)

/-- ITS FALSE NEIGHBOUR: 'it returns false'. Refute it at one input. -/
def fnGetPointWrong : ChangeSpec := { name := "fnGetPoint", fn := fun _ => fun
  | [d] => { results := [.lit (.bool false)], args := [d] }
  | _ => none }
def FnGetPointWrongFalsely : Prop := fnGetPointRow.holds Try.pinned (OpenSpec.ofChange fnGetPointWrong)

/-- 'laws.FnPointsBytes': WHATEVER THE INPUT: true; the input reads as it did. -/
def fnPointsBytesSpec : ChangeSpec := { name := "fnPointsBytes", fn := fun _ => fun
  | [d] => { results := [.lit (.bool true)], args := [d] }
  | _ => none }
def fnPointsBytesRow : OpenClaim := { program := "ytfefgnehbpfonaa", sum := "37850856ea850eec0134c759e05b472ad9fb923db9c7e98c83c246ecdfc2dd9c", func := "loop.example/templateescaper/laws.FnPointsBytes", spec := "fnPointsBytes", apart := false }
def FnPointsBytesSaid : Prop := fnPointsBytesRow.holds Try.pinned (OpenSpec.ofChange fnPointsBytesSpec)

/-- ITS FALSE NEIGHBOUR: 'it returns false'. Refute it at one input. -/
def fnPointsBytesWrong : ChangeSpec := { name := "fnPointsBytes", fn := fun _ => fun
  | [d] => { results := [.lit (.bool false)], args := [d] }
  | _ => none }
def FnPointsBytesWrongFalsely : Prop := fnPointsBytesRow.holds Try.pinned (OpenSpec.ofChange fnPointsBytesWrong)

/-- 'laws.FnExactPointsOf': WHATEVER THE INPUT: true; the input reads as it did. -/
def fnExactPointsOfSpec : ChangeSpec := { name := "fnExactPointsOf", fn := fun _ => fun
  | [d] => { results := [.lit (.bool true)], args := [d] }
  | _ => none }
def fnExactPointsOfRow : OpenClaim := { program := "ytfefgnehbpfonaa", sum := "37850856ea850eec0134c759e05b472ad9fb923db9c7e98c83c246ecdfc2dd9c", func := "loop.example/templateescaper/laws.FnExactPointsOf", spec := "fnExactPointsOf", apart := false }
def FnExactPointsOfSaid : Prop := fnExactPointsOfRow.holds Try.pinned (OpenSpec.ofChange fnExactPointsOfSpec)

/-- ITS FALSE NEIGHBOUR: 'it returns false'. Refute it at one input. -/
def fnExactPointsOfWrong : ChangeSpec := { name := "fnExactPointsOf", fn := fun _ => fun
  | [d] => { results := [.lit (.bool false)], args := [d] }
  | _ => none }
def FnExactPointsOfWrongFalsely : Prop := fnExactPointsOfRow.holds Try.pinned (OpenSpec.ofChange fnExactPointsOfWrong)

/-- 'laws.FnPointsOf': WHATEVER THE INPUT: true; the input reads as it did. -/
def fnPointsOfSpec : ChangeSpec := { name := "fnPointsOf", fn := fun _ => fun
  | [d] => { results := [.lit (.bool true)], args := [d] }
  | _ => none }
def fnPointsOfRow : OpenClaim := { program := "ytfefgnehbpfonaa", sum := "37850856ea850eec0134c759e05b472ad9fb923db9c7e98c83c246ecdfc2dd9c", func := "loop.example/templateescaper/laws.FnPointsOf", spec := "fnPointsOf", apart := false }
def FnPointsOfSaid : Prop := fnPointsOfRow.holds Try.pinned (OpenSpec.ofChange fnPointsOfSpec)

/-- ITS FALSE NEIGHBOUR: 'it returns false'. Refute it at one input. -/
def fnPointsOfWrong : ChangeSpec := { name := "fnPointsOf", fn := fun _ => fun
  | [d] => { results := [.lit (.bool false)], args := [d] }
  | _ => none }
def FnPointsOfWrongFalsely : Prop := fnPointsOfRow.holds Try.pinned (OpenSpec.ofChange fnPointsOfWrong)

/- THE SECOND FORM. 'bulk': how many values and letters a reading holds, each counted each time it is reached (what is shared counts as often as it is met; a slice's spare places count too). A statement '..UptoSaid' is the law's where the arguments, and the package variables that the reading takes, are together of bulk at most 1048576: NARROWER than '..Said'. Prove '..Said' where nothing that the law and all that it calls make is longer than what came in: it says more and counts as full. Else prove '..UptoSaid'. A law counts once. -/
mutual
def uptoBulk {H : Type} : DataW H → Nat
  | .lit (.string bytes) => bytes.length + 1
  | .lit _ => 1
  | .nil => 1
  | .ptr d => uptoBulk d + 1
  | .slice elems spare => uptoBulkAll elems + uptoBulkAll spare + 1
  | .agg parts => uptoBulkAll parts + 1
  | .iface _ d => uptoBulk d + 1
  | .map entries => uptoBulkEntries entries + 1
  | .held _ => 1
def uptoBulkAll {H : Type} : List (DataW H) → Nat
  | [] => 0
  | d :: r => uptoBulk d + uptoBulkAll r
def uptoBulkEntries {H : Type} : List (Lit × DataW H) → Nat
  | [] => 0
  | x :: r => uptoBulkEntry x + uptoBulkEntries r
def uptoBulkEntry {H : Type} : Lit × DataW H → Nat
  | (.string bytes, d) => bytes.length + uptoBulk d + 1
  | (_, d) => uptoBulk d + 1
 end
def uptoSmall : (H : Type) → List (DataW H) → Bool := fun _ ds => decide (uptoBulkAll ds ≤ 1048576)
def OpenSpec.upto (s : _root_.Go.ChangeSpec) : _root_.Go.OpenSpec := { _root_.Go.OpenSpec.ofChange s with cond := some uptoSmall }

/-- 'laws.FnExactPointValid', WHERE WHAT IT READS IS OF BULK AT MOST 1048576: true; the input reads as it did. -/
def fnExactPointValidUptoRow : OpenClaim := { program := "ytfefgnehbpfonaa", sum := "37850856ea850eec0134c759e05b472ad9fb923db9c7e98c83c246ecdfc2dd9c", func := "loop.example/templateescaper/laws.FnExactPointValid", spec := "fnExactPointValid", apart := false, narrowed := true }
def FnExactPointValidUptoSaid : Prop := fnExactPointValidUptoRow.holds Try.pinned (OpenSpec.upto fnExactPointValidSpec)

/-- 'laws.FnExactLettersLong', WHERE WHAT IT READS IS OF BULK AT MOST 1048576: true; the input reads as it did. -/
def fnExactLettersLongUptoRow : OpenClaim := { program := "ytfefgnehbpfonaa", sum := "37850856ea850eec0134c759e05b472ad9fb923db9c7e98c83c246ecdfc2dd9c", func := "loop.example/templateescaper/laws.FnExactLettersLong", spec := "fnExactLettersLong", apart := false, narrowed := true }
def FnExactLettersLongUptoSaid : Prop := fnExactLettersLongUptoRow.holds Try.pinned (OpenSpec.upto fnExactLettersLongSpec)

/-- 'laws.FnLettersLong', WHERE WHAT IT READS IS OF BULK AT MOST 1048576: true; the input reads as it did. -/
def fnLettersLongUptoRow : OpenClaim := { program := "ytfefgnehbpfonaa", sum := "37850856ea850eec0134c759e05b472ad9fb923db9c7e98c83c246ecdfc2dd9c", func := "loop.example/templateescaper/laws.FnLettersLong", spec := "fnLettersLong", apart := false, narrowed := true }
def FnLettersLongUptoSaid : Prop := fnLettersLongUptoRow.holds Try.pinned (OpenSpec.upto fnLettersLongSpec)

/-- 'laws.FnPointValid', WHERE WHAT IT READS IS OF BULK AT MOST 1048576: true; the input reads as it did. -/
def fnPointValidUptoRow : OpenClaim := { program := "ytfefgnehbpfonaa", sum := "37850856ea850eec0134c759e05b472ad9fb923db9c7e98c83c246ecdfc2dd9c", func := "loop.example/templateescaper/laws.FnPointValid", spec := "fnPointValid", apart := false, narrowed := true }
def FnPointValidUptoSaid : Prop := fnPointValidUptoRow.holds Try.pinned (OpenSpec.upto fnPointValidSpec)

/-- 'laws.FnExactPutPoint', WHERE WHAT IT READS IS OF BULK AT MOST 1048576: true; the input reads as it did. -/
def fnExactPutPointUptoRow : OpenClaim := { program := "ytfefgnehbpfonaa", sum := "37850856ea850eec0134c759e05b472ad9fb923db9c7e98c83c246ecdfc2dd9c", func := "loop.example/templateescaper/laws.FnExactPutPoint", spec := "fnExactPutPoint", apart := false, narrowed := true }
def FnExactPutPointUptoSaid : Prop := fnExactPutPointUptoRow.holds Try.pinned (OpenSpec.upto fnExactPutPointSpec)

/-- 'laws.FnPutPoint', WHERE WHAT IT READS IS OF BULK AT MOST 1048576: true; the input reads as it did. -/
def fnPutPointUptoRow : OpenClaim := { program := "ytfefgnehbpfonaa", sum := "37850856ea850eec0134c759e05b472ad9fb923db9c7e98c83c246ecdfc2dd9c", func := "loop.example/templateescaper/laws.FnPutPoint", spec := "fnPutPoint", apart := false, narrowed := true }
def FnPutPointUptoSaid : Prop := fnPutPointUptoRow.holds Try.pinned (OpenSpec.upto fnPutPointSpec)

/-- 'laws.FnExactPointsBytes', WHERE WHAT IT READS IS OF BULK AT MOST 1048576: true; the input reads as it did. -/
def fnExactPointsBytesUptoRow : OpenClaim := { program := "ytfefgnehbpfonaa", sum := "37850856ea850eec0134c759e05b472ad9fb923db9c7e98c83c246ecdfc2dd9c", func := "loop.example/templateescaper/laws.FnExactPointsBytes", spec := "fnExactPointsBytes", apart := false, narrowed := true }
def FnExactPointsBytesUptoSaid : Prop := fnExactPointsBytesUptoRow.holds Try.pinned (OpenSpec.upto fnExactPointsBytesSpec)

/-- 'laws.FnExactGetPoint', WHERE WHAT IT READS IS OF BULK AT MOST 1048576: true; the input reads as it did. -/
def fnExactGetPointUptoRow : OpenClaim := { program := "ytfefgnehbpfonaa", sum := "37850856ea850eec0134c759e05b472ad9fb923db9c7e98c83c246ecdfc2dd9c", func := "loop.example/templateescaper/laws.FnExactGetPoint", spec := "fnExactGetPoint", apart := false, narrowed := true }
def FnExactGetPointUptoSaid : Prop := fnExactGetPointUptoRow.holds Try.pinned (OpenSpec.upto fnExactGetPointSpec)

/-- 'laws.FnGetPoint', WHERE WHAT IT READS IS OF BULK AT MOST 1048576: true; the input reads as it did. -/
def fnGetPointUptoRow : OpenClaim := { program := "ytfefgnehbpfonaa", sum := "37850856ea850eec0134c759e05b472ad9fb923db9c7e98c83c246ecdfc2dd9c", func := "loop.example/templateescaper/laws.FnGetPoint", spec := "fnGetPoint", apart := false, narrowed := true }
def FnGetPointUptoSaid : Prop := fnGetPointUptoRow.holds Try.pinned (OpenSpec.upto fnGetPointSpec)

/-- 'laws.FnPointsBytes', WHERE WHAT IT READS IS OF BULK AT MOST 1048576: true; the input reads as it did. -/
def fnPointsBytesUptoRow : OpenClaim := { program := "ytfefgnehbpfonaa", sum := "37850856ea850eec0134c759e05b472ad9fb923db9c7e98c83c246ecdfc2dd9c", func := "loop.example/templateescaper/laws.FnPointsBytes", spec := "fnPointsBytes", apart := false, narrowed := true }
def FnPointsBytesUptoSaid : Prop := fnPointsBytesUptoRow.holds Try.pinned (OpenSpec.upto fnPointsBytesSpec)

/-- 'laws.FnExactPointsOf', WHERE WHAT IT READS IS OF BULK AT MOST 1048576: true; the input reads as it did. -/
def fnExactPointsOfUptoRow : OpenClaim := { program := "ytfefgnehbpfonaa", sum := "37850856ea850eec0134c759e05b472ad9fb923db9c7e98c83c246ecdfc2dd9c", func := "loop.example/templateescaper/laws.FnExactPointsOf", spec := "fnExactPointsOf", apart := false, narrowed := true }
def FnExactPointsOfUptoSaid : Prop := fnExactPointsOfUptoRow.holds Try.pinned (OpenSpec.upto fnExactPointsOfSpec)

/-- 'laws.FnPointsOf', WHERE WHAT IT READS IS OF BULK AT MOST 1048576: true; the input reads as it did. -/
def fnPointsOfUptoRow : OpenClaim := { program := "ytfefgnehbpfonaa", sum := "37850856ea850eec0134c759e05b472ad9fb923db9c7e98c83c246ecdfc2dd9c", func := "loop.example/templateescaper/laws.FnPointsOf", spec := "fnPointsOf", apart := false, narrowed := true }
def FnPointsOfUptoSaid : Prop := fnPointsOfUptoRow.holds Try.pinned (OpenSpec.upto fnPointsOfSpec)

end Rows
end Go.Proofs.Ytfefgnehbpfonaa
