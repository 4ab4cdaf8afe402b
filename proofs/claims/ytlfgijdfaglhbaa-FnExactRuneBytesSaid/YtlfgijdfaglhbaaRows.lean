/-
  No cell of these rows narrows 'for every input' (looked for: loops, veiled, ifaces, maps, wideKeys, modest, calm, conditions, laid).
  DERIVED. THE GIVEN ROWS OF THIS SEAT. 4 by the template 'for every input the law returns true; each argument reads behind the call as it read before'; 0 by the template 'total and deterministic' (their statements: YtlfgijdfaglhbaaTotals.lean).
  GIVEN WITH THE SEED: the statements are not yours to turn. If you find one false, say at which input.
  Laid BY PROGRAM, IN A SANDBOX (cutbox-rows.mjs): the forced cells as the released guide's own fill.sh prints them over the translation 299e052e8a108e9e… (all of the seat's roots in one cut). By AI agents, Wed Nov 11 2026. No macro, syntax, notation, axiom, sorry.
-/
import Derived.Test.YtlfgijdfaglhbaaChecked
import GoSem.Claim
import GoSem.ClaimJoined
import GoSem.ClaimMapViews
import Derived.JoinedTies
import Derived.KernelRfl
namespace Go.Proofs.Ytlfgijdfaglhbaa
/- THE CELL 'sum', in the pinned program and in every row, IS THE sha256 OF THE DUMP (.gsa) THAT YtlfgijdfaglhbaaProg.lean LOADS. Nothing in Lean hashes anything: it is a label: what it is worth is what the hold of that sum in a sandbox is worth. -/
noncomputable def Try.pinned : Pinned := { name := "ytlfgijdfaglhbaa", sum := "299e052e8a108e9efdbc28249f5c4fcc92a45bc491fe27a8713584d3ce801563", checked := Try.checked }
namespace Rows
def none {H : Type} : Left H := { results := [], args := [] }

/-- 'laws.FnExactHexOf': WHATEVER THE INPUT: true; the input reads as it did. -/
def fnExactHexOfSpec : ChangeSpec := { name := "fnExactHexOf", fn := fun _ => fun
  | [d] => { results := [.lit (.bool true)], args := [d] }
  | _ => none }
def fnExactHexOfRow : OpenClaim := { program := "ytlfgijdfaglhbaa", sum := "299e052e8a108e9efdbc28249f5c4fcc92a45bc491fe27a8713584d3ce801563", func := "loop.example/g00088/laws.FnExactHexOf", spec := "fnExactHexOf", apart := false }
def FnExactHexOfSaid : Prop := fnExactHexOfRow.holds Try.pinned (OpenSpec.ofChange fnExactHexOfSpec)

/-- ITS FALSE NEIGHBOUR: 'it returns false'. Refute it at one input. -/
def fnExactHexOfWrong : ChangeSpec := { name := "fnExactHexOf", fn := fun _ => fun
  | [d] => { results := [.lit (.bool false)], args := [d] }
  | _ => none }
def FnExactHexOfWrongFalsely : Prop := fnExactHexOfRow.holds Try.pinned (OpenSpec.ofChange fnExactHexOfWrong)

/-- 'laws.FnExactRuneBytes': WHATEVER THE INPUT: true; the input reads as it did. -/
def fnExactRuneBytesSpec : ChangeSpec := { name := "fnExactRuneBytes", fn := fun _ => fun
  | [d] => { results := [.lit (.bool true)], args := [d] }
  | _ => none }
def fnExactRuneBytesRow : OpenClaim := { program := "ytlfgijdfaglhbaa", sum := "299e052e8a108e9efdbc28249f5c4fcc92a45bc491fe27a8713584d3ce801563", func := "loop.example/g00088/laws.FnExactRuneBytes", spec := "fnExactRuneBytes", apart := false }
def FnExactRuneBytesSaid : Prop := fnExactRuneBytesRow.holds Try.pinned (OpenSpec.ofChange fnExactRuneBytesSpec)

/-- ITS FALSE NEIGHBOUR: 'it returns false'. Refute it at one input. -/
def fnExactRuneBytesWrong : ChangeSpec := { name := "fnExactRuneBytes", fn := fun _ => fun
  | [d] => { results := [.lit (.bool false)], args := [d] }
  | _ => none }
def FnExactRuneBytesWrongFalsely : Prop := fnExactRuneBytesRow.holds Try.pinned (OpenSpec.ofChange fnExactRuneBytesWrong)

/-- 'laws.FnExactFromHex': WHATEVER THE INPUT: true; the input reads as it did. -/
def fnExactFromHexSpec : ChangeSpec := { name := "fnExactFromHex", fn := fun _ => fun
  | [d] => { results := [.lit (.bool true)], args := [d] }
  | _ => none }
def fnExactFromHexRow : OpenClaim := { program := "ytlfgijdfaglhbaa", sum := "299e052e8a108e9efdbc28249f5c4fcc92a45bc491fe27a8713584d3ce801563", func := "loop.example/g00088/laws.FnExactFromHex", spec := "fnExactFromHex", inPlace := ["internal/bytealg.IndexByteString"], apart := false }
def FnExactFromHexSaid : Prop := fnExactFromHexRow.holds Try.pinned (OpenSpec.ofChange fnExactFromHexSpec)

/-- ITS FALSE NEIGHBOUR: 'it returns false'. Refute it at one input. -/
def fnExactFromHexWrong : ChangeSpec := { name := "fnExactFromHex", fn := fun _ => fun
  | [d] => { results := [.lit (.bool false)], args := [d] }
  | _ => none }
def FnExactFromHexWrongFalsely : Prop := fnExactFromHexRow.holds Try.pinned (OpenSpec.ofChange fnExactFromHexWrong)

/-- 'laws.FnExactGuilty': WHATEVER THE INPUT: true; the input reads as it did. -/
def fnExactGuiltySpec : ChangeSpec := { name := "fnExactGuilty", fn := fun _ => fun
  | [d] => { results := [.lit (.bool true)], args := [d] }
  | _ => none }
def fnExactGuiltyRow : OpenClaim := { program := "ytlfgijdfaglhbaa", sum := "299e052e8a108e9efdbc28249f5c4fcc92a45bc491fe27a8713584d3ce801563", func := "loop.example/g00088/laws.FnExactGuilty", spec := "fnExactGuilty", unfollowed := true, recurses := true, apart := false }
def FnExactGuiltySaid : Prop := fnExactGuiltyRow.holds Try.pinned (OpenSpec.ofChange fnExactGuiltySpec)

/-- ITS FALSE NEIGHBOUR: 'it returns false'. Refute it at one input. -/
def fnExactGuiltyWrong : ChangeSpec := { name := "fnExactGuilty", fn := fun _ => fun
  | [d] => { results := [.lit (.bool false)], args := [d] }
  | _ => none }
def FnExactGuiltyWrongFalsely : Prop := fnExactGuiltyRow.holds Try.pinned (OpenSpec.ofChange fnExactGuiltyWrong)

/- THE SECOND FORM. 'bulk': how many values and letters a reading holds, each counted each time it is reached (what is shared counts as often as it is met; a slice's spare places count too). A statement '..UptoSaid' is the law's where the arguments, and the package variables that the reading takes, are together of bulk at most 1048576: NARROWER than '..Said'. Prove '..Said' where nothing that the law and all that it calls make is longer than what came in: it says more and counts as full. Else prove '..UptoSaid'. A law counts once. -/
mutual
def uptoBulk {H : Type} : DataW H → Nat
  | .lit (.string bytes) => bytes.length + 1
  | .lit _ => 1
  | .nil => 1
  | .ptr d => uptoBulk d + 1
  | .slice elems spare => uptoBulkAll elems + uptoBulkAll spare + 1
  | .agg parts => uptoBulkAll parts + 1
  | .iface _ d => uptoBulk d + 1
  | .map entries => uptoBulkEntries entries + 1
  | .held _ => 1
def uptoBulkAll {H : Type} : List (DataW H) → Nat
  | [] => 0
  | d :: r => uptoBulk d + uptoBulkAll r
def uptoBulkEntries {H : Type} : List (Lit × DataW H) → Nat
  | [] => 0
  | x :: r => uptoBulkEntry x + uptoBulkEntries r
def uptoBulkEntry {H : Type} : Lit × DataW H → Nat
  | (.string bytes, d) => bytes.length + uptoBulk d + 1
  | (_, d) => uptoBulk d + 1
 end
def uptoSmall : (H : Type) → List (DataW H) → Bool := fun _ ds => decide (uptoBulkAll ds ≤ 1048576)
def OpenSpec.upto (s : _root_.Go.ChangeSpec) : _root_.Go.OpenSpec := { _root_.Go.OpenSpec.ofChange s with cond := some uptoSmall }

/-- 'laws.FnExactHexOf', WHERE WHAT IT READS IS OF BULK AT MOST 1048576: true; the input reads as it did. -/
def fnExactHexOfUptoRow : OpenClaim := { program := "ytlfgijdfaglhbaa", sum := "299e052e8a108e9efdbc28249f5c4fcc92a45bc491fe27a8713584d3ce801563", func := "loop.example/g00088/laws.FnExactHexOf", spec := "fnExactHexOf", apart := false, narrowed := true }
def FnExactHexOfUptoSaid : Prop := fnExactHexOfUptoRow.holds Try.pinned (OpenSpec.upto fnExactHexOfSpec)

/-- 'laws.FnExactRuneBytes', WHERE WHAT IT READS IS OF BULK AT MOST 1048576: true; the input reads as it did. -/
def fnExactRuneBytesUptoRow : OpenClaim := { program := "ytlfgijdfaglhbaa", sum := "299e052e8a108e9efdbc28249f5c4fcc92a45bc491fe27a8713584d3ce801563", func := "loop.example/g00088/laws.FnExactRuneBytes", spec := "fnExactRuneBytes", apart := false, narrowed := true }
def FnExactRuneBytesUptoSaid : Prop := fnExactRuneBytesUptoRow.holds Try.pinned (OpenSpec.upto fnExactRuneBytesSpec)

/-- 'laws.FnExactFromHex', WHERE WHAT IT READS IS OF BULK AT MOST 1048576: true; the input reads as it did. -/
def fnExactFromHexUptoRow : OpenClaim := { program := "ytlfgijdfaglhbaa", sum := "299e052e8a108e9efdbc28249f5c4fcc92a45bc491fe27a8713584d3ce801563", func := "loop.example/g00088/laws.FnExactFromHex", spec := "fnExactFromHex", inPlace := ["internal/bytealg.IndexByteString"], apart := false, narrowed := true }
def FnExactFromHexUptoSaid : Prop := fnExactFromHexUptoRow.holds Try.pinned (OpenSpec.upto fnExactFromHexSpec)

/-- 'laws.FnExactGuilty', WHERE WHAT IT READS IS OF BULK AT MOST 1048576: true; the input reads as it did. -/
def fnExactGuiltyUptoRow : OpenClaim := { program := "ytlfgijdfaglhbaa", sum := "299e052e8a108e9efdbc28249f5c4fcc92a45bc491fe27a8713584d3ce801563", func := "loop.example/g00088/laws.FnExactGuilty", spec := "fnExactGuilty", unfollowed := true, recurses := true, apart := false, narrowed := true }
def FnExactGuiltyUptoSaid : Prop := fnExactGuiltyUptoRow.holds Try.pinned (OpenSpec.upto fnExactGuiltySpec)

end Rows
end Go.Proofs.Ytlfgijdfaglhbaa
