/-
  No cell of these rows narrows 'for every input' (looked for: loops, veiled, ifaces, maps, wideKeys, modest, calm, conditions, laid).
  DERIVED. THE GIVEN ROWS OF THIS SEAT. 4 by the template 'for every input the law returns true; each argument reads behind the call as it read before'; 0 by the template 'total and deterministic' (their statements: YtnehdaocfijcpaaTotals.lean).
  GIVEN WITH THE SEED: the statements are not yours to turn. If you find one false, say at which input.
  Laid BY PROGRAM, IN A SANDBOX (cutbox-rows.mjs): the forced cells as the released guide's own fill.sh prints them over the translation 8b9bf776fb118ef0… (all of the seat's roots in one cut). By AI agents, Wed Nov 11 2026. No macro, syntax, notation, axiom, sorry.
-/
import Derived.Test.YtnehdaocfijcpaaChecked
import GoSem.Claim
import GoSem.ClaimJoined
import GoSem.ClaimMapViews
import Derived.JoinedTies
import Derived.KernelRfl
namespace Go.Proofs.Ytnehdaocfijcpaa
/- THE CELL 'sum', in the pinned program and in every row, IS THE sha256 OF THE DUMP (.gsa) THAT YtnehdaocfijcpaaProg.lean LOADS. Nothing in Lean hashes anything: it is a label: what it is worth is what the hold of that sum in a sandbox is worth. -/
noncomputable def Try.pinned : Pinned := { name := "ytnehdaocfijcpaa", sum := "8b9bf776fb118ef0c911865f82be72f23dcdcc9db88f9f962779f7660794a137", checked := Try.checked }
namespace Rows
def none {H : Type} : Left H := { results := [], args := [] }

/-- 'laws.FnExactSoftLines': WHATEVER THE INPUT: true; the input reads as it did. -/
def fnExactSoftLinesSpec : ChangeSpec := { name := "fnExactSoftLines", fn := fun _ => fun
  | [d] => { results := [.lit (.bool true)], args := [d] }
  | _ => none }
def fnExactSoftLinesRow : OpenClaim := { program := "ytnehdaocfijcpaa", sum := "8b9bf776fb118ef0c911865f82be72f23dcdcc9db88f9f962779f7660794a137", func := "loop.example/templateescaper/laws.FnExactSoftLines", spec := "fnExactSoftLines", apart := false }
def FnExactSoftLinesSaid : Prop := fnExactSoftLinesRow.holds Try.pinned (OpenSpec.ofChange fnExactSoftLinesSpec)

/-- ITS FALSE NEIGHBOUR: 'it returns false'. Refute it at one input. -/
def fnExactSoftLinesWrong : ChangeSpec := { name := "fnExactSoftLines", fn := fun _ => fun
  | [d] => { results := [.lit (.bool false)], args := [d] }
  | _ => none }
def FnExactSoftLinesWrongFalsely : Prop := fnExactSoftLinesRow.holds Try.pinned (OpenSpec.ofChange fnExactSoftLinesWrong)

/-- 'laws.FnSoftLines': WHATEVER THE INPUT: true; the input reads as it did. -/
def fnSoftLinesSpec : ChangeSpec := { name := "fnSoftLines", fn := fun _ => fun
  | [d] => { results := [.lit (.bool true)], args := [d] }
  | _ => none }
def fnSoftLinesRow : OpenClaim := { program := "ytnehdaocfijcpaa", sum := "8b9bf776fb118ef0c911865f82be72f23dcdcc9db88f9f962779f7660794a137", func := "loop.example/templateescaper/laws.FnSoftLines", spec := "fnSoftLines", inPlace := ["internal/bytealg.IndexByteString"], apart := false }
def FnSoftLinesSaid : Prop := fnSoftLinesRow.holds Try.pinned (OpenSpec.ofChange fnSoftLinesSpec)

/-- ITS FALSE NEIGHBOUR: 'it returns false'. Refute it at one input. -/
def fnSoftLinesWrong : ChangeSpec := { name := "fnSoftLines", fn := fun _ => fun
  | [d] => { results := [.lit (.bool false)], args := [d] }
  | _ => none }
def FnSoftLinesWrongFalsely : Prop := fnSoftLinesRow.holds Try.pinned (OpenSpec.ofChange fnSoftLinesWrong)

/-- 'laws.FnReadSoft': WHATEVER THE INPUT: true; the input reads as it did. -/
def fnReadSoftSpec : ChangeSpec := { name := "fnReadSoft", fn := fun _ => fun
  | [d] => { results := [.lit (.bool true)], args := [d] }
  | _ => none }
def fnReadSoftRow : OpenClaim := { program := "ytnehdaocfijcpaa", sum := "8b9bf776fb118ef0c911865f82be72f23dcdcc9db88f9f962779f7660794a137", func := "loop.example/templateescaper/laws.FnReadSoft", spec := "fnReadSoft", inPlace := ["internal/bytealg.IndexByteString"], apart := false }
def FnReadSoftSaid : Prop := fnReadSoftRow.holds Try.pinned (OpenSpec.ofChange fnReadSoftSpec)

/-- ITS FALSE NEIGHBOUR: 'it returns false'. Refute it at one input. -/
def fnReadSoftWrong : ChangeSpec := { name := "fnReadSoft", fn := fun _ => fun
  | [d] => { results := [.lit (.bool false)], args := [d] }
  | _ => none }
def FnReadSoftWrongFalsely : Prop := fnReadSoftRow.holds Try.pinned (OpenSpec.ofChange fnReadSoftWrong)

/-- 'laws.FnExactReadSoft': WHATEVER THE INPUT: true; the input reads as it did. -/
def fnExactReadSoftSpec : ChangeSpec := { name := "fnExactReadSoft", fn := fun _ => fun
  | [d] => { results := [.lit (.bool true)], args := [d] }
  | _ => none }
def fnExactReadSoftRow : OpenClaim := { program := "ytnehdaocfijcpaa", sum := "8b9bf776fb118ef0c911865f82be72f23dcdcc9db88f9f962779f7660794a137", func := "loop.example/templateescaper/laws.FnExactReadSoft", spec := "fnExactReadSoft", inPlace := ["internal/bytealg.IndexByteString"], apart := false }
def FnExactReadSoftSaid : Prop := fnExactReadSoftRow.holds Try.pinned (OpenSpec.ofChange fnExactReadSoftSpec)

/-- ITS FALSE NEIGHBOUR: 'it returns false'. Refute it at one input. -/
def fnExactReadSoftWrong : ChangeSpec := { name := "fnExactReadSoft", fn := fun _ => fun
  | [d] => { results := [.lit (.bool false)], args := [d] }
  | _ => none }
def FnExactReadSoftWrongFalsely : Prop := fnExactReadSoftRow.holds Try.pinned (OpenSpec.ofChange fnExactReadSoftWrong)

/- THE SECOND FORM. 'bulk': how many values and letters a reading holds, each counted each time it is reached (what is shared counts as often as it is met; a slice's spare places count too). A statement '..UptoSaid' is the law's where the arguments, and the package variables that the reading takes, are together of bulk at most 1048576: NARROWER than '..Said'. Prove '..Said' where nothing that the law and all that it calls make is longer than what came in: it says more and counts as full. Else prove '..UptoSaid'. A law counts once. -/
mutual
def uptoBulk {H : Type} : DataW H → Nat
  | .lit (.string bytes) => bytes.length + 1
  | .lit _ => 1
  | .nil => 1
  | .ptr d => uptoBulk d + 1
  | .slice elems spare => uptoBulkAll elems + uptoBulkAll spare + 1
  | .agg parts => uptoBulkAll parts + 1
  | .iface _ d => uptoBulk d + 1
  | .map entries => uptoBulkEntries entries + 1
  | .held _ => 1
def uptoBulkAll {H : Type} : List (DataW H) → Nat
  | [] => 0
  | d :: r => uptoBulk d + uptoBulkAll r
def uptoBulkEntries {H : Type} : List (Lit × DataW H) → Nat
  | [] => 0
  | x :: r => uptoBulkEntry x + uptoBulkEntries r
def uptoBulkEntry {H : Type} : Lit × DataW H → Nat
  | (.string bytes, d) => bytes.length + uptoBulk d + 1
  | (_, d) => uptoBulk d + 1
 end
def uptoSmall : (H : Type) → List (DataW H) → Bool := fun _ ds => decide (uptoBulkAll ds ≤ 1048576)
def OpenSpec.upto (s : _root_.Go.ChangeSpec) : _root_.Go.OpenSpec := { _root_.Go.OpenSpec.ofChange s with cond := some uptoSmall }

/-- 'laws.FnExactSoftLines', WHERE WHAT IT READS IS OF BULK AT MOST 1048576: true; the input reads as it did. -/
def fnExactSoftLinesUptoRow : OpenClaim := { program := "ytnehdaocfijcpaa", sum := "8b9bf776fb118ef0c911865f82be72f23dcdcc9db88f9f962779f7660794a137", func := "loop.example/templateescaper/laws.FnExactSoftLines", spec := "fnExactSoftLines", apart := false, narrowed := true }
def FnExactSoftLinesUptoSaid : Prop := fnExactSoftLinesUptoRow.holds Try.pinned (OpenSpec.upto fnExactSoftLinesSpec)

/-- 'laws.FnSoftLines', WHERE WHAT IT READS IS OF BULK AT MOST 1048576: true; the input reads as it did. -/
def fnSoftLinesUptoRow : OpenClaim := { program := "ytnehdaocfijcpaa", sum := "8b9bf776fb118ef0c911865f82be72f23dcdcc9db88f9f962779f7660794a137", func := "loop.example/templateescaper/laws.FnSoftLines", spec := "fnSoftLines", inPlace := ["internal/bytealg.IndexByteString"], apart := false, narrowed := true }
def FnSoftLinesUptoSaid : Prop := fnSoftLinesUptoRow.holds Try.pinned (OpenSpec.upto fnSoftLinesSpec)

/-- 'laws.FnReadSoft', WHERE WHAT IT READS IS OF BULK AT MOST 1048576: true; the input reads as it did. -/
def fnReadSoftUptoRow : OpenClaim := { program := "ytnehdaocfijcpaa", sum := "8b9bf776fb118ef0c911865f82be72f23dcdcc9db88f9f962779f7660794a137", func := "loop.example/templateescaper/laws.FnReadSoft", spec := "fnReadSoft", inPlace := ["internal/bytealg.IndexByteString"], apart := false, narrowed := true }
def FnReadSoftUptoSaid : Prop := fnReadSoftUptoRow.holds Try.pinned (OpenSpec.upto fnReadSoftSpec)

/-- 'laws.FnExactReadSoft', WHERE WHAT IT READS IS OF BULK AT MOST 1048576: true; the input reads as it did. -/
def fnExactReadSoftUptoRow : OpenClaim := { program := "ytnehdaocfijcpaa", sum := "8b9bf776fb118ef0c911865f82be72f23dcdcc9db88f9f962779f7660794a137", func := "loop.example/templateescaper/laws.FnExactReadSoft", spec := "fnExactReadSoft", inPlace := ["internal/bytealg.IndexByteString"], apart := false, narrowed := true }
def FnExactReadSoftUptoSaid : Prop := fnExactReadSoftUptoRow.holds Try.pinned (OpenSpec.upto fnExactReadSoftSpec)

end Rows
end Go.Proofs.Ytnehdaocfijcpaa
