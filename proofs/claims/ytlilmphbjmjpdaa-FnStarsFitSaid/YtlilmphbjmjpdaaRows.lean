/-
  No cell of these rows narrows 'for every input' (looked for: loops, veiled, ifaces, maps, wideKeys, modest, calm, conditions, laid).
  DERIVED. THE GIVEN ROWS OF THIS SEAT. 6 by the template 'for every input the law returns true; each argument reads behind the call as it read before'; 0 by the template 'total and deterministic' (their statements: YtlilmphbjmjpdaaTotals.lean).
  GIVEN WITH THE SEED: the statements are not yours to turn. If you find one false, say at which input.
  Laid BY PROGRAM, IN A SANDBOX (cutbox-rows.mjs): the forced cells as the released guide's own fill.sh prints them over the translation 18786d665be4c348… (all of the seat's roots in one cut). By AI agents, Wed Nov 11 2026. No macro, syntax, notation, axiom, sorry.
-/
import Derived.Test.YtlilmphbjmjpdaaChecked
import GoSem.Claim
import GoSem.ClaimJoined
import GoSem.ClaimMapViews
import Derived.JoinedTies
import Derived.KernelRfl
namespace Go.Proofs.Ytlilmphbjmjpdaa
/- THE CELL 'sum', in the pinned program and in every row, IS THE sha256 OF THE DUMP (.gsa) THAT YtlilmphbjmjpdaaProg.lean LOADS. Nothing in Lean hashes anything: it is a label: what it is worth is what the hold of that sum in a sandbox is worth. -/
noncomputable def Try.pinned : Pinned := { name := "ytlilmphbjmjpdaa", sum := "18786d665be4c348c8b771e595cb04ae4f24049a07f334a543d6c48d7fad6c8a", checked := Try.checked }
namespace Rows
def none {H : Type} : Left H := { results := [], args := [] }

/-- 'laws.FnExactEscapeStars': WHATEVER THE INPUT: true; the input reads as it did. -/
def fnExactEscapeStarsSpec : ChangeSpec := { name := "fnExactEscapeStars", fn := fun _ => fun
  | [d] => { results := [.lit (.bool true)], args := [d] }
  | _ => none }
def fnExactEscapeStarsRow : OpenClaim := { program := "ytlilmphbjmjpdaa", sum := "18786d665be4c348c8b771e595cb04ae4f24049a07f334a543d6c48d7fad6c8a", func := "loop.example/templateescaper/laws.FnExactEscapeStars", spec := "fnExactEscapeStars", apart := false }
def FnExactEscapeStarsSaid : Prop := fnExactEscapeStarsRow.holds Try.pinned (OpenSpec.ofChange fnExactEscapeStarsSpec)

/-- ITS FALSE NEIGHBOUR: 'it returns false'. Refute it at one input. -/
def fnExactEscapeStarsWrong : ChangeSpec := { name := "fnExactEscapeStars", fn := fun _ => fun
  | [d] => { results := [.lit (.bool false)], args := [d] }
  | _ => none }
def FnExactEscapeStarsWrongFalsely : Prop := fnExactEscapeStarsRow.holds Try.pinned (OpenSpec.ofChange fnExactEscapeStarsWrong)

/-- 'laws.FnExactStarsPlain': WHATEVER THE INPUT: true; the input reads as it did. -/
def fnExactStarsPlainSpec : ChangeSpec := { name := "fnExactStarsPlain", fn := fun _ => fun
  | [d] => { results := [.lit (.bool true)], args := [d] }
  | _ => none }
def fnExactStarsPlainRow : OpenClaim := { program := "ytlilmphbjmjpdaa", sum := "18786d665be4c348c8b771e595cb04ae4f24049a07f334a543d6c48d7fad6c8a", func := "loop.example/templateescaper/laws.FnExactStarsPlain", spec := "fnExactStarsPlain", apart := false }
def FnExactStarsPlainSaid : Prop := fnExactStarsPlainRow.holds Try.pinned (OpenSpec.ofChange fnExactStarsPlainSpec)

/-- ITS FALSE NEIGHBOUR: 'it returns false'. Refute it at one input. -/
def fnExactStarsPlainWrong : ChangeSpec := { name := "fnExactStarsPlain", fn := fun _ => fun
  | [d] => { results := [.lit (.bool false)], args := [d] }
  | _ => none }
def FnExactStarsPlainWrongFalsely : Prop := fnExactStarsPlainRow.holds Try.pinned (OpenSpec.ofChange fnExactStarsPlainWrong)

/-- 'laws.FnExactStarsFit': WHATEVER THE INPUT: true; the input reads as it did. -/
def fnExactStarsFitSpec : ChangeSpec := { name := "fnExactStarsFit", fn := fun _ => fun
  | [d1, d2] => { results := [.lit (.bool true)], args := [d1, d2] }
  | _ => none }
def fnExactStarsFitRow : OpenClaim := { program := "ytlilmphbjmjpdaa", sum := "18786d665be4c348c8b771e595cb04ae4f24049a07f334a543d6c48d7fad6c8a", func := "loop.example/templateescaper/laws.FnExactStarsFit", spec := "fnExactStarsFit", recurses := true, apart := false }
def FnExactStarsFitSaid : Prop := fnExactStarsFitRow.holds Try.pinned (OpenSpec.ofChange fnExactStarsFitSpec)

/-- ITS FALSE NEIGHBOUR: 'it returns false'. Refute it at one input. -/
def fnExactStarsFitWrong : ChangeSpec := { name := "fnExactStarsFit", fn := fun _ => fun
  | [d1, d2] => { results := [.lit (.bool false)], args := [d1, d2] }
  | _ => none }
def FnExactStarsFitWrongFalsely : Prop := fnExactStarsFitRow.holds Try.pinned (OpenSpec.ofChange fnExactStarsFitWrong)

/-- 'laws.FnStarsPlain': WHATEVER THE INPUT: true; the input reads as it did. -/
def fnStarsPlainSpec : ChangeSpec := { name := "fnStarsPlain", fn := fun _ => fun
  | [d] => { results := [.lit (.bool true)], args := [d] }
  | _ => none }
def fnStarsPlainRow : OpenClaim := { program := "ytlilmphbjmjpdaa", sum := "18786d665be4c348c8b771e595cb04ae4f24049a07f334a543d6c48d7fad6c8a", func := "loop.example/templateescaper/laws.FnStarsPlain", spec := "fnStarsPlain", apart := false }
def FnStarsPlainSaid : Prop := fnStarsPlainRow.holds Try.pinned (OpenSpec.ofChange fnStarsPlainSpec)

/-- ITS FALSE NEIGHBOUR: 'it returns false'. Refute it at one input. -/
def fnStarsPlainWrong : ChangeSpec := { name := "fnStarsPlain", fn := fun _ => fun
  | [d] => { results := [.lit (.bool false)], args := [d] }
  | _ => none }
def FnStarsPlainWrongFalsely : Prop := fnStarsPlainRow.holds Try.pinned (OpenSpec.ofChange fnStarsPlainWrong)

/-- 'laws.FnEscapeStars': WHATEVER THE INPUT: true; the input reads as it did. -/
def fnEscapeStarsSpec : ChangeSpec := { name := "fnEscapeStars", fn := fun _ => fun
  | [d] => { results := [.lit (.bool true)], args := [d] }
  | _ => none }
def fnEscapeStarsRow : OpenClaim := { program := "ytlilmphbjmjpdaa", sum := "18786d665be4c348c8b771e595cb04ae4f24049a07f334a543d6c48d7fad6c8a", func := "loop.example/templateescaper/laws.FnEscapeStars", spec := "fnEscapeStars", recurses := true, apart := false }
def FnEscapeStarsSaid : Prop := fnEscapeStarsRow.holds Try.pinned (OpenSpec.ofChange fnEscapeStarsSpec)

/-- ITS FALSE NEIGHBOUR: 'it returns false'. Refute it at one input. -/
def fnEscapeStarsWrong : ChangeSpec := { name := "fnEscapeStars", fn := fun _ => fun
  | [d] => { results := [.lit (.bool false)], args := [d] }
  | _ => none }
def FnEscapeStarsWrongFalsely : Prop := fnEscapeStarsRow.holds Try.pinned (OpenSpec.ofChange fnEscapeStarsWrong)

/-- 'laws.FnStarsFit': WHATEVER THE INPUT: true; the input reads as it did. -/
def fnStarsFitSpec : ChangeSpec := { name := "fnStarsFit", fn := fun _ => fun
  | [d] => { results := [.lit (.bool true)], args := [d] }
  | _ => none }
def fnStarsFitRow : OpenClaim := { program := "ytlilmphbjmjpdaa", sum := "18786d665be4c348c8b771e595cb04ae4f24049a07f334a543d6c48d7fad6c8a", func := "loop.example/templateescaper/laws.FnStarsFit", spec := "fnStarsFit", recurses := true, apart := false }
def FnStarsFitSaid : Prop := fnStarsFitRow.holds Try.pinned (OpenSpec.ofChange fnStarsFitSpec)

/-- ITS FALSE NEIGHBOUR: 'it returns false'. Refute it at one input. -/
def fnStarsFitWrong : ChangeSpec := { name := "fnStarsFit", fn := fun _ => fun
  | [d] => { results := [.lit (.bool false)], args := [d] }
  | _ => none }
def FnStarsFitWrongFalsely : Prop := fnStarsFitRow.holds Try.pinned (OpenSpec.ofChange fnStarsFitWrong)

/- THE SECOND FORM. 'bulk': how many values and letters a reading holds, each counted each time it is reached (what is shared counts as often as it is met; a slice's spare places count too). A statement '..UptoSaid' is the law's where the arguments, and the package variables that the reading takes, are together of bulk at most 1048576: NARROWER than '..Said'. Prove '..Said' where nothing that the law and all that it calls make is longer than what came in: it says more and counts as full. Else prove '..UptoSaid'. A law counts once. -/
mutual
def uptoBulk {H : Type} : DataW H → Nat
  | .lit (.string bytes) => bytes.length + 1
  | .lit _ => 1
  | .nil => 1
  | .ptr d => uptoBulk d + 1
  | .slice elems spare => uptoBulkAll elems + uptoBulkAll spare + 1
  | .agg parts => uptoBulkAll parts + 1
  | .iface _ d => uptoBulk d + 1
  | .map entries => uptoBulkEntries entries + 1
  | .held _ => 1
def uptoBulkAll {H : Type} : List (DataW H) → Nat
  | [] => 0
  | d :: r => uptoBulk d + uptoBulkAll r
def uptoBulkEntries {H : Type} : List (Lit × DataW H) → Nat
  | [] => 0
  | x :: r => uptoBulkEntry x + uptoBulkEntries r
def uptoBulkEntry {H : Type} : Lit × DataW H → Nat
  | (.string bytes, d) => bytes.length + uptoBulk d + 1
  | (_, d) => uptoBulk d + 1
 end
def uptoSmall : (H : Type) → List (DataW H) → Bool := fun _ ds => decide (uptoBulkAll ds ≤ 1048576)
def OpenSpec.upto (s : _root_.Go.ChangeSpec) : _root_.Go.OpenSpec := { _root_.Go.OpenSpec.ofChange s with cond := some uptoSmall }

/-- 'laws.FnExactEscapeStars', WHERE WHAT IT READS IS OF BULK AT MOST 1048576: true; the input reads as it did. -/
def fnExactEscapeStarsUptoRow : OpenClaim := { program := "ytlilmphbjmjpdaa", sum := "18786d665be4c348c8b771e595cb04ae4f24049a07f334a543d6c48d7fad6c8a", func := "loop.example/templateescaper/laws.FnExactEscapeStars", spec := "fnExactEscapeStars", apart := false, narrowed := true }
def FnExactEscapeStarsUptoSaid : Prop := fnExactEscapeStarsUptoRow.holds Try.pinned (OpenSpec.upto fnExactEscapeStarsSpec)

/-- 'laws.FnExactStarsPlain', WHERE WHAT IT READS IS OF BULK AT MOST 1048576: true; the input reads as it did. -/
def fnExactStarsPlainUptoRow : OpenClaim := { program := "ytlilmphbjmjpdaa", sum := "18786d665be4c348c8b771e595cb04ae4f24049a07f334a543d6c48d7fad6c8a", func := "loop.example/templateescaper/laws.FnExactStarsPlain", spec := "fnExactStarsPlain", apart := false, narrowed := true }
def FnExactStarsPlainUptoSaid : Prop := fnExactStarsPlainUptoRow.holds Try.pinned (OpenSpec.upto fnExactStarsPlainSpec)

/-- 'laws.FnExactStarsFit', WHERE WHAT IT READS IS OF BULK AT MOST 1048576: true; the input reads as it did. -/
def fnExactStarsFitUptoRow : OpenClaim := { program := "ytlilmphbjmjpdaa", sum := "18786d665be4c348c8b771e595cb04ae4f24049a07f334a543d6c48d7fad6c8a", func := "loop.example/templateescaper/laws.FnExactStarsFit", spec := "fnExactStarsFit", recurses := true, apart := false, narrowed := true }
def FnExactStarsFitUptoSaid : Prop := fnExactStarsFitUptoRow.holds Try.pinned (OpenSpec.upto fnExactStarsFitSpec)

/-- 'laws.FnStarsPlain', WHERE WHAT IT READS IS OF BULK AT MOST 1048576: true; the input reads as it did. -/
def fnStarsPlainUptoRow : OpenClaim := { program := "ytlilmphbjmjpdaa", sum := "18786d665be4c348c8b771e595cb04ae4f24049a07f334a543d6c48d7fad6c8a", func := "loop.example/templateescaper/laws.FnStarsPlain", spec := "fnStarsPlain", apart := false, narrowed := true }
def FnStarsPlainUptoSaid : Prop := fnStarsPlainUptoRow.holds Try.pinned (OpenSpec.upto fnStarsPlainSpec)

/-- 'laws.FnEscapeStars', WHERE WHAT IT READS IS OF BULK AT MOST 1048576: true; the input reads as it did. -/
def fnEscapeStarsUptoRow : OpenClaim := { program := "ytlilmphbjmjpdaa", sum := "18786d665be4c348c8b771e595cb04ae4f24049a07f334a543d6c48d7fad6c8a", func := "loop.example/templateescaper/laws.FnEscapeStars", spec := "fnEscapeStars", recurses := true, apart := false, narrowed := true }
def FnEscapeStarsUptoSaid : Prop := fnEscapeStarsUptoRow.holds Try.pinned (OpenSpec.upto fnEscapeStarsSpec)

/-- 'laws.FnStarsFit', WHERE WHAT IT READS IS OF BULK AT MOST 1048576: true; the input reads as it did. -/
def fnStarsFitUptoRow : OpenClaim := { program := "ytlilmphbjmjpdaa", sum := "18786d665be4c348c8b771e595cb04ae4f24049a07f334a543d6c48d7fad6c8a", func := "loop.example/templateescaper/laws.FnStarsFit", spec := "fnStarsFit", recurses := true, apart := false, narrowed := true }
def FnStarsFitUptoSaid : Prop := fnStarsFitUptoRow.holds Try.pinned (OpenSpec.upto fnStarsFitSpec)

end Rows
end Go.Proofs.Ytlilmphbjmjpdaa
