/-
  NARROWER THAN 'FOR EVERY INPUT', by the rows' own cells (each row's printed sentence says how): FnExactPlain: laid · FnExactRunesOf: laid · FnExactWidth: laid · FnExactShown: laid · FnFirstRunes: laid · FnExactFirstRunes: laid · FnExactUnshown: laid · FnTexts: laid.
  DERIVED. THE GIVEN ROWS OF THIS SEAT. 8 by the template 'for every input the law returns true; each argument reads behind the call as it read before'; 0 by the template 'total and deterministic' (their statements: YtklkaaaegnojkaaDoorTotals.lean).
  GIVEN WITH THE SEED: the statements are not yours to turn. If you find one false, say at which input.
  Laid BY PROGRAM, IN A SANDBOX (cutbox-rows.mjs): the forced cells as the released guide's own fill.sh prints them over the translation e1a8a83e688f4ee0… (all of the seat's roots in one cut). By AI agents, Wed Nov 11 2026. No macro, syntax, notation, axiom, sorry.
-/
import Derived.Test.YtklkaaaegnojkaaDoorChecked
import GoSem.PinnedTables
import GoSem.Claim
import GoSem.ClaimJoined
import GoSem.ClaimMapViews
import Derived.JoinedTies
import Derived.KernelRfl
namespace Go.Proofs.YtklkaaaegnojkaaDoor
/- THE CELL 'sum', in the pinned program and in every row, IS THE sha256 OF THE DUMP (.gsa) THAT YtklkaaaegnojkaaDoorProg.lean LOADS. Nothing in Lean hashes anything: it is a label: what it is worth is what the hold of that sum in a sandbox is worth. -/
noncomputable def Tryd.pinned : Pinned := { name := "ytklkaaaegnojkaadoor", sum := "e1a8a83e688f4ee0b2e883d2010dc2e676fd854c519ba94b6194d5dac7ca57cc", checked := Tryd.checked }
namespace Rows
def none {H : Type} : Left H := { results := [], args := [] }

/- WHAT THE LISTED PACKAGE-LEVEL VARIABLES READ AS WHEN THE CALL BEGINS. Each datum BY PROGRAM (the guide's laid-datum.mjs) off the statement by which the dump's own 'gosem.cut.vars' lays the variable. In a bare row this is a premise. The card (YtklkaaaegnojkaaDoorCards.lean) ties it to the program's text. -/
def laid_unicode_utf8_acceptRanges {H : Type} : DataW H := .agg [.agg [.lit (.int .u8 128), .lit (.int .u8 191)], .agg [.lit (.int .u8 160), .lit (.int .u8 191)], .agg [.lit (.int .u8 128), .lit (.int .u8 159)], .agg [.lit (.int .u8 144), .lit (.int .u8 191)], .agg [.lit (.int .u8 128), .lit (.int .u8 143)], .agg [.lit (.int .u8 0), .lit (.int .u8 0)], .agg [.lit (.int .u8 0), .lit (.int .u8 0)], .agg [.lit (.int .u8 0), .lit (.int .u8 0)], .agg [.lit (.int .u8 0), .lit (.int .u8 0)], .agg [.lit (.int .u8 0), .lit (.int .u8 0)], .agg [.lit (.int .u8 0), .lit (.int .u8 0)], .agg [.lit (.int .u8 0), .lit (.int .u8 0)], .agg [.lit (.int .u8 0), .lit (.int .u8 0)], .agg [.lit (.int .u8 0), .lit (.int .u8 0)], .agg [.lit (.int .u8 0), .lit (.int .u8 0)], .agg [.lit (.int .u8 0), .lit (.int .u8 0)]]
/-- One of Go's own tables, pinned by name: the form's constant. -/
def laid_unicode_utf8_first : DataW Unit := Go.Pinned.utf8First

/-- 'laws.FnExactPlain': WHATEVER THE INPUT: true; the input reads as it did. -/
def fnExactPlainSpec : ChangeSpec := { name := "fnExactPlain", fn := fun _ => fun
  | [d] => { results := [.lit (.bool true)], args := [d] }
  | _ => none }
def fnExactPlainRow : OpenClaim := { program := "ytklkaaaegnojkaadoor", sum := "e1a8a83e688f4ee0b2e883d2010dc2e676fd854c519ba94b6194d5dac7ca57cc", func := "loop.example/g00088/laws.FnExactPlain", spec := "fnExactPlain", named := ["unicode/utf8.first", "unicode/utf8.acceptRanges"], apart := false, laid := [("unicode/utf8.acceptRanges", laid_unicode_utf8_acceptRanges), ("unicode/utf8.first", laid_unicode_utf8_first)] }
def FnExactPlainSaid : Prop := fnExactPlainRow.holds Tryd.pinned (OpenSpec.ofChange fnExactPlainSpec)

/-- ITS FALSE NEIGHBOUR: 'it returns false'. Refute it at one input. -/
def fnExactPlainWrong : ChangeSpec := { name := "fnExactPlain", fn := fun _ => fun
  | [d] => { results := [.lit (.bool false)], args := [d] }
  | _ => none }
def FnExactPlainWrongFalsely : Prop := fnExactPlainRow.holds Tryd.pinned (OpenSpec.ofChange fnExactPlainWrong)

/-- 'laws.FnExactRunesOf': WHATEVER THE INPUT: true; the input reads as it did. -/
def fnExactRunesOfSpec : ChangeSpec := { name := "fnExactRunesOf", fn := fun _ => fun
  | [d] => { results := [.lit (.bool true)], args := [d] }
  | _ => none }
def fnExactRunesOfRow : OpenClaim := { program := "ytklkaaaegnojkaadoor", sum := "e1a8a83e688f4ee0b2e883d2010dc2e676fd854c519ba94b6194d5dac7ca57cc", func := "loop.example/g00088/laws.FnExactRunesOf", spec := "fnExactRunesOf", named := ["unicode/utf8.first", "unicode/utf8.acceptRanges"], apart := false, laid := [("unicode/utf8.acceptRanges", laid_unicode_utf8_acceptRanges), ("unicode/utf8.first", laid_unicode_utf8_first)] }
def FnExactRunesOfSaid : Prop := fnExactRunesOfRow.holds Tryd.pinned (OpenSpec.ofChange fnExactRunesOfSpec)

/-- ITS FALSE NEIGHBOUR: 'it returns false'. Refute it at one input. -/
def fnExactRunesOfWrong : ChangeSpec := { name := "fnExactRunesOf", fn := fun _ => fun
  | [d] => { results := [.lit (.bool false)], args := [d] }
  | _ => none }
def FnExactRunesOfWrongFalsely : Prop := fnExactRunesOfRow.holds Tryd.pinned (OpenSpec.ofChange fnExactRunesOfWrong)

/-- 'laws.FnExactWidth': WHATEVER THE INPUT: true; the input reads as it did. -/
def fnExactWidthSpec : ChangeSpec := { name := "fnExactWidth", fn := fun _ => fun
  | [d] => { results := [.lit (.bool true)], args := [d] }
  | _ => none }
def fnExactWidthRow : OpenClaim := { program := "ytklkaaaegnojkaadoor", sum := "e1a8a83e688f4ee0b2e883d2010dc2e676fd854c519ba94b6194d5dac7ca57cc", func := "loop.example/g00088/laws.FnExactWidth", spec := "fnExactWidth", named := ["unicode/utf8.first", "unicode/utf8.acceptRanges"], apart := false, laid := [("unicode/utf8.acceptRanges", laid_unicode_utf8_acceptRanges), ("unicode/utf8.first", laid_unicode_utf8_first)] }
def FnExactWidthSaid : Prop := fnExactWidthRow.holds Tryd.pinned (OpenSpec.ofChange fnExactWidthSpec)

/-- ITS FALSE NEIGHBOUR: 'it returns false'. Refute it at one input. -/
def fnExactWidthWrong : ChangeSpec := { name := "fnExactWidth", fn := fun _ => fun
  | [d] => { results := [.lit (.bool false)], args := [d] }
  | _ => none }
def FnExactWidthWrongFalsely : Prop := fnExactWidthRow.holds Tryd.pinned (OpenSpec.ofChange fnExactWidthWrong)

/-- 'laws.FnExactShown': WHATEVER THE INPUT: true; the input reads as it did. -/
def fnExactShownSpec : ChangeSpec := { name := "fnExactShown", fn := fun _ => fun
  | [d] => { results := [.lit (.bool true)], args := [d] }
  | _ => none }
def fnExactShownRow : OpenClaim := { program := "ytklkaaaegnojkaadoor", sum := "e1a8a83e688f4ee0b2e883d2010dc2e676fd854c519ba94b6194d5dac7ca57cc", func := "loop.example/g00088/laws.FnExactShown", spec := "fnExactShown", named := ["unicode/utf8.first", "unicode/utf8.acceptRanges"], apart := false, laid := [("unicode/utf8.acceptRanges", laid_unicode_utf8_acceptRanges), ("unicode/utf8.first", laid_unicode_utf8_first)] }
def FnExactShownSaid : Prop := fnExactShownRow.holds Tryd.pinned (OpenSpec.ofChange fnExactShownSpec)

/-- ITS FALSE NEIGHBOUR: 'it returns false'. Refute it at one input. -/
def fnExactShownWrong : ChangeSpec := { name := "fnExactShown", fn := fun _ => fun
  | [d] => { results := [.lit (.bool false)], args := [d] }
  | _ => none }
def FnExactShownWrongFalsely : Prop := fnExactShownRow.holds Tryd.pinned (OpenSpec.ofChange fnExactShownWrong)

/-- 'laws.FnFirstRunes': WHATEVER THE INPUT: true; the input reads as it did. -/
def fnFirstRunesSpec : ChangeSpec := { name := "fnFirstRunes", fn := fun _ => fun
  | [d] => { results := [.lit (.bool true)], args := [d] }
  | _ => none }
def fnFirstRunesRow : OpenClaim := { program := "ytklkaaaegnojkaadoor", sum := "e1a8a83e688f4ee0b2e883d2010dc2e676fd854c519ba94b6194d5dac7ca57cc", func := "loop.example/g00088/laws.FnFirstRunes", spec := "fnFirstRunes", named := ["unicode/utf8.first", "unicode/utf8.acceptRanges"], apart := false, laid := [("unicode/utf8.acceptRanges", laid_unicode_utf8_acceptRanges), ("unicode/utf8.first", laid_unicode_utf8_first)] }
def FnFirstRunesSaid : Prop := fnFirstRunesRow.holds Tryd.pinned (OpenSpec.ofChange fnFirstRunesSpec)

/-- ITS FALSE NEIGHBOUR: 'it returns false'. Refute it at one input. -/
def fnFirstRunesWrong : ChangeSpec := { name := "fnFirstRunes", fn := fun _ => fun
  | [d] => { results := [.lit (.bool false)], args := [d] }
  | _ => none }
def FnFirstRunesWrongFalsely : Prop := fnFirstRunesRow.holds Tryd.pinned (OpenSpec.ofChange fnFirstRunesWrong)

/-- 'laws.FnExactFirstRunes': WHATEVER THE INPUT: true; the input reads as it did. -/
def fnExactFirstRunesSpec : ChangeSpec := { name := "fnExactFirstRunes", fn := fun _ => fun
  | [d1, d2] => { results := [.lit (.bool true)], args := [d1, d2] }
  | _ => none }
def fnExactFirstRunesRow : OpenClaim := { program := "ytklkaaaegnojkaadoor", sum := "e1a8a83e688f4ee0b2e883d2010dc2e676fd854c519ba94b6194d5dac7ca57cc", func := "loop.example/g00088/laws.FnExactFirstRunes", spec := "fnExactFirstRunes", named := ["unicode/utf8.first", "unicode/utf8.acceptRanges"], apart := false, laid := [("unicode/utf8.acceptRanges", laid_unicode_utf8_acceptRanges), ("unicode/utf8.first", laid_unicode_utf8_first)] }
def FnExactFirstRunesSaid : Prop := fnExactFirstRunesRow.holds Tryd.pinned (OpenSpec.ofChange fnExactFirstRunesSpec)

/-- ITS FALSE NEIGHBOUR: 'it returns false'. Refute it at one input. -/
def fnExactFirstRunesWrong : ChangeSpec := { name := "fnExactFirstRunes", fn := fun _ => fun
  | [d1, d2] => { results := [.lit (.bool false)], args := [d1, d2] }
  | _ => none }
def FnExactFirstRunesWrongFalsely : Prop := fnExactFirstRunesRow.holds Tryd.pinned (OpenSpec.ofChange fnExactFirstRunesWrong)

/-- 'laws.FnExactUnshown': WHATEVER THE INPUT: true; the input reads as it did. -/
def fnExactUnshownSpec : ChangeSpec := { name := "fnExactUnshown", fn := fun _ => fun
  | [d] => { results := [.lit (.bool true)], args := [d] }
  | _ => none }
def fnExactUnshownRow : OpenClaim := { program := "ytklkaaaegnojkaadoor", sum := "e1a8a83e688f4ee0b2e883d2010dc2e676fd854c519ba94b6194d5dac7ca57cc", func := "loop.example/g00088/laws.FnExactUnshown", spec := "fnExactUnshown", inPlace := ["internal/bytealg.IndexByteString", "internal/bytealg.IndexString"], named := ["unicode/utf8.first", "unicode/utf8.acceptRanges", "internal/bytealg.MaxLen"], apart := false, laid := [("unicode/utf8.acceptRanges", laid_unicode_utf8_acceptRanges), ("unicode/utf8.first", laid_unicode_utf8_first)] }
def FnExactUnshownSaid : Prop := fnExactUnshownRow.holds Tryd.pinned (OpenSpec.ofChange fnExactUnshownSpec)

/-- ITS FALSE NEIGHBOUR: 'it returns false'. Refute it at one input. -/
def fnExactUnshownWrong : ChangeSpec := { name := "fnExactUnshown", fn := fun _ => fun
  | [d] => { results := [.lit (.bool false)], args := [d] }
  | _ => none }
def FnExactUnshownWrongFalsely : Prop := fnExactUnshownRow.holds Tryd.pinned (OpenSpec.ofChange fnExactUnshownWrong)

/-- 'laws.FnTexts': WHATEVER THE INPUT: true; the input reads as it did. -/
def fnTextsSpec : ChangeSpec := { name := "fnTexts", fn := fun _ => fun
  | [d] => { results := [.lit (.bool true)], args := [d] }
  | _ => none }
def fnTextsRow : OpenClaim := { program := "ytklkaaaegnojkaadoor", sum := "e1a8a83e688f4ee0b2e883d2010dc2e676fd854c519ba94b6194d5dac7ca57cc", func := "loop.example/g00088/laws.FnTexts", spec := "fnTexts", inPlace := ["internal/bytealg.IndexByteString", "internal/bytealg.IndexString"], named := ["unicode/utf8.first", "unicode/utf8.acceptRanges", "internal/bytealg.MaxLen"], apart := false, laid := [("unicode/utf8.acceptRanges", laid_unicode_utf8_acceptRanges), ("unicode/utf8.first", laid_unicode_utf8_first)] }
def FnTextsSaid : Prop := fnTextsRow.holds Tryd.pinned (OpenSpec.ofChange fnTextsSpec)

/-- ITS FALSE NEIGHBOUR: 'it returns false'. Refute it at one input. -/
def fnTextsWrong : ChangeSpec := { name := "fnTexts", fn := fun _ => fun
  | [d] => { results := [.lit (.bool false)], args := [d] }
  | _ => none }
def FnTextsWrongFalsely : Prop := fnTextsRow.holds Tryd.pinned (OpenSpec.ofChange fnTextsWrong)

/- THE SECOND FORM. 'bulk': how many values and letters a reading holds, each counted each time it is reached (what is shared counts as often as it is met; a slice's spare places count too). A statement '..UptoSaid' is the law's where the arguments, and the package variables that the reading takes, are together of bulk at most 1048576: NARROWER than '..Said'. Prove '..Said' where nothing that the law and all that it calls make is longer than what came in: it says more and counts as full. Else prove '..UptoSaid'. A law counts once. -/
mutual
def uptoBulk {H : Type} : DataW H → Nat
  | .lit (.string bytes) => bytes.length + 1
  | .lit _ => 1
  | .nil => 1
  | .ptr d => uptoBulk d + 1
  | .slice elems spare => uptoBulkAll elems + uptoBulkAll spare + 1
  | .agg parts => uptoBulkAll parts + 1
  | .iface _ d => uptoBulk d + 1
  | .map entries => uptoBulkEntries entries + 1
  | .held _ => 1
def uptoBulkAll {H : Type} : List (DataW H) → Nat
  | [] => 0
  | d :: r => uptoBulk d + uptoBulkAll r
def uptoBulkEntries {H : Type} : List (Lit × DataW H) → Nat
  | [] => 0
  | x :: r => uptoBulkEntry x + uptoBulkEntries r
def uptoBulkEntry {H : Type} : Lit × DataW H → Nat
  | (.string bytes, d) => bytes.length + uptoBulk d + 1
  | (_, d) => uptoBulk d + 1
 end
def uptoSmall : (H : Type) → List (DataW H) → Bool := fun _ ds => decide (uptoBulkAll ds ≤ 1048576)
def OpenSpec.upto (s : _root_.Go.ChangeSpec) : _root_.Go.OpenSpec := { _root_.Go.OpenSpec.ofChange s with cond := some uptoSmall }

/-- 'laws.FnExactPlain', WHERE WHAT IT READS IS OF BULK AT MOST 1048576: true; the input reads as it did. -/
def fnExactPlainUptoRow : OpenClaim := { program := "ytklkaaaegnojkaadoor", sum := "e1a8a83e688f4ee0b2e883d2010dc2e676fd854c519ba94b6194d5dac7ca57cc", func := "loop.example/g00088/laws.FnExactPlain", spec := "fnExactPlain", named := ["unicode/utf8.first", "unicode/utf8.acceptRanges"], apart := false, laid := [("unicode/utf8.acceptRanges", laid_unicode_utf8_acceptRanges), ("unicode/utf8.first", laid_unicode_utf8_first)], narrowed := true }
def FnExactPlainUptoSaid : Prop := fnExactPlainUptoRow.holds Tryd.pinned (OpenSpec.upto fnExactPlainSpec)

/-- 'laws.FnExactRunesOf', WHERE WHAT IT READS IS OF BULK AT MOST 1048576: true; the input reads as it did. -/
def fnExactRunesOfUptoRow : OpenClaim := { program := "ytklkaaaegnojkaadoor", sum := "e1a8a83e688f4ee0b2e883d2010dc2e676fd854c519ba94b6194d5dac7ca57cc", func := "loop.example/g00088/laws.FnExactRunesOf", spec := "fnExactRunesOf", named := ["unicode/utf8.first", "unicode/utf8.acceptRanges"], apart := false, laid := [("unicode/utf8.acceptRanges", laid_unicode_utf8_acceptRanges), ("unicode/utf8.first", laid_unicode_utf8_first)], narrowed := true }
def FnExactRunesOfUptoSaid : Prop := fnExactRunesOfUptoRow.holds Tryd.pinned (OpenSpec.upto fnExactRunesOfSpec)

/-- 'laws.FnExactWidth', WHERE WHAT IT READS IS OF BULK AT MOST 1048576: true; the input reads as it did. -/
def fnExactWidthUptoRow : OpenClaim := { program := "ytklkaaaegnojkaadoor", sum := "e1a8a83e688f4ee0b2e883d2010dc2e676fd854c519ba94b6194d5dac7ca57cc", func := "loop.example/g00088/laws.FnExactWidth", spec := "fnExactWidth", named := ["unicode/utf8.first", "unicode/utf8.acceptRanges"], apart := false, laid := [("unicode/utf8.acceptRanges", laid_unicode_utf8_acceptRanges), ("unicode/utf8.first", laid_unicode_utf8_first)], narrowed := true }
def FnExactWidthUptoSaid : Prop := fnExactWidthUptoRow.holds Tryd.pinned (OpenSpec.upto fnExactWidthSpec)

/-- 'laws.FnExactShown', WHERE WHAT IT READS IS OF BULK AT MOST 1048576: true; the input reads as it did. -/
def fnExactShownUptoRow : OpenClaim := { program := "ytklkaaaegnojkaadoor", sum := "e1a8a83e688f4ee0b2e883d2010dc2e676fd854c519ba94b6194d5dac7ca57cc", func := "loop.example/g00088/laws.FnExactShown", spec := "fnExactShown", named := ["unicode/utf8.first", "unicode/utf8.acceptRanges"], apart := false, laid := [("unicode/utf8.acceptRanges", laid_unicode_utf8_acceptRanges), ("unicode/utf8.first", laid_unicode_utf8_first)], narrowed := true }
def FnExactShownUptoSaid : Prop := fnExactShownUptoRow.holds Tryd.pinned (OpenSpec.upto fnExactShownSpec)

/-- 'laws.FnFirstRunes', WHERE WHAT IT READS IS OF BULK AT MOST 1048576: true; the input reads as it did. -/
def fnFirstRunesUptoRow : OpenClaim := { program := "ytklkaaaegnojkaadoor", sum := "e1a8a83e688f4ee0b2e883d2010dc2e676fd854c519ba94b6194d5dac7ca57cc", func := "loop.example/g00088/laws.FnFirstRunes", spec := "fnFirstRunes", named := ["unicode/utf8.first", "unicode/utf8.acceptRanges"], apart := false, laid := [("unicode/utf8.acceptRanges", laid_unicode_utf8_acceptRanges), ("unicode/utf8.first", laid_unicode_utf8_first)], narrowed := true }
def FnFirstRunesUptoSaid : Prop := fnFirstRunesUptoRow.holds Tryd.pinned (OpenSpec.upto fnFirstRunesSpec)

/-- 'laws.FnExactFirstRunes', WHERE WHAT IT READS IS OF BULK AT MOST 1048576: true; the input reads as it did. -/
def fnExactFirstRunesUptoRow : OpenClaim := { program := "ytklkaaaegnojkaadoor", sum := "e1a8a83e688f4ee0b2e883d2010dc2e676fd854c519ba94b6194d5dac7ca57cc", func := "loop.example/g00088/laws.FnExactFirstRunes", spec := "fnExactFirstRunes", named := ["unicode/utf8.first", "unicode/utf8.acceptRanges"], apart := false, laid := [("unicode/utf8.acceptRanges", laid_unicode_utf8_acceptRanges), ("unicode/utf8.first", laid_unicode_utf8_first)], narrowed := true }
def FnExactFirstRunesUptoSaid : Prop := fnExactFirstRunesUptoRow.holds Tryd.pinned (OpenSpec.upto fnExactFirstRunesSpec)

/-- 'laws.FnExactUnshown', WHERE WHAT IT READS IS OF BULK AT MOST 1048576: true; the input reads as it did. -/
def fnExactUnshownUptoRow : OpenClaim := { program := "ytklkaaaegnojkaadoor", sum := "e1a8a83e688f4ee0b2e883d2010dc2e676fd854c519ba94b6194d5dac7ca57cc", func := "loop.example/g00088/laws.FnExactUnshown", spec := "fnExactUnshown", inPlace := ["internal/bytealg.IndexByteString", "internal/bytealg.IndexString"], named := ["unicode/utf8.first", "unicode/utf8.acceptRanges", "internal/bytealg.MaxLen"], apart := false, laid := [("unicode/utf8.acceptRanges", laid_unicode_utf8_acceptRanges), ("unicode/utf8.first", laid_unicode_utf8_first)], narrowed := true }
def FnExactUnshownUptoSaid : Prop := fnExactUnshownUptoRow.holds Tryd.pinned (OpenSpec.upto fnExactUnshownSpec)

/-- 'laws.FnTexts', WHERE WHAT IT READS IS OF BULK AT MOST 1048576: true; the input reads as it did. -/
def fnTextsUptoRow : OpenClaim := { program := "ytklkaaaegnojkaadoor", sum := "e1a8a83e688f4ee0b2e883d2010dc2e676fd854c519ba94b6194d5dac7ca57cc", func := "loop.example/g00088/laws.FnTexts", spec := "fnTexts", inPlace := ["internal/bytealg.IndexByteString", "internal/bytealg.IndexString"], named := ["unicode/utf8.first", "unicode/utf8.acceptRanges", "internal/bytealg.MaxLen"], apart := false, laid := [("unicode/utf8.acceptRanges", laid_unicode_utf8_acceptRanges), ("unicode/utf8.first", laid_unicode_utf8_first)], narrowed := true }
def FnTextsUptoSaid : Prop := fnTextsUptoRow.holds Tryd.pinned (OpenSpec.upto fnTextsSpec)

end Rows
end Go.Proofs.YtklkaaaegnojkaaDoor
