/-
The two tables of unicode/utf8, as the rows' cell 'laid' lists them: what the walks of the functions that read them ask of the world, and that it stays so.
-/
import Derived.Test.YtklkaaaegnojkaaDoorRows
import Derived.Lib.LaidU8T
import Derived.PinnedBridge
import Derived.Handed
import Derived.LaidMore
import Derived.Lay
import Derived.Below
import Derived.Shelf.Unicode.DecodeSlow
namespace Go.Proofs.YtklkaaaegnojkaaDoorW.PrintMore
open Go Go.Shelf Go.Lib Go.Proofs Go.RowKit

/-- Both tables lie in the world. -/
def LaidG (w : World) : Prop := Lib.Utf8Tabs 0 1 w
theorem LaidG_below {w w' : World} (h : LaidG w) (hb : Below w.heap.size w w') : LaidG w' := Utf8Tabs_below h hb

/-- The numbers of this program's types and variables, by the shelf's numbers. -/
def laidRen : Ren := ⟨fun x => x, fun x => if x = 5 then 5 else if x = 119 then 60 else if x = 138 then 62 else if x = 139 then 63 else x, fun x => if x = 3 then 0 else if x = 4 then 1 else x⟩
theorem laidTypes : U8Types Tryd.prog laidRen where
  t5 := by kernel_rfl
  t119 := by kernel_rfl
  t138 := by kernel_rfl
  t139 := by kernel_rfl
theorem laidExtra : U8Extra Tryd.prog laidRen where
  n3 := by kernel_rfl
  n4 := by kernel_rfl
  y3 := by kernel_rfl
  y4 := by kernel_rfl
  c5 := by kernel_rfl
  c119 := by kernel_rfl
  c138 := by kernel_rfl

/-- The rows' list. -/
def laidList : List (String × DataW Unit) := [("unicode/utf8.acceptRanges", YtklkaaaegnojkaaDoor.Rows.laid_unicode_utf8_acceptRanges), ("unicode/utf8.first", YtklkaaaegnojkaaDoor.Rows.laid_unicode_utf8_first)]
theorem accept_eq : (YtklkaaaegnojkaaDoor.Rows.laid_unicode_utf8_acceptRanges : DataW Unit) = acceptData := by kernel_rfl
theorem LaidG_of {w : World} (h : laidMet Tryd.prog laidList w) : LaidG w := by
  have h3 := laidMet.reads h (n := "unicode/utf8.first") (d := YtklkaaaegnojkaaDoor.Rows.laid_unicode_utf8_first) (by simp [laidList])
  have h4 := laidMet.reads h (n := "unicode/utf8.acceptRanges") (d := YtklkaaaegnojkaaDoor.Rows.laid_unicode_utf8_acceptRanges) (by simp [laidList])
  rw [show YtklkaaaegnojkaaDoor.Rows.laid_unicode_utf8_first = firstData from Pinned.utf8First_eq] at h3
  rw [accept_eq] at h4
  exact utf8Tabs_of_readsT laidTypes laidExtra h3 h4
theorem LaidG_ofH {w : World} (h : laidMetH Tryd.prog laidList w) : LaidG w := by
  rw [MakeChecks.laidMetH_plain _ _ _ (by kernel_rfl)] at h
  exact LaidG_of h
/-- A start that meets the condition. -/
theorem laid_shaped (os : Os) (args : Array Value) : ((World.laidAll Tryd.prog os laidList).forCall (fun _ _ => 0) ⟨#[], args, []⟩).Shaped Tryd.prog := World.shaped_of_ZipB (by kernel_rfl) (by kernel_rfl)
theorem laid_met (os : Os) (args : Array Value) : laidMetH Tryd.prog laidList ((World.laidAll Tryd.prog os laidList).forCall (fun _ _ => 0) ⟨#[], args, []⟩).memory := by
  rw [MakeChecks.laidMetH_plain _ _ _ (by kernel_rfl)]
  exact laidMet_laidAll _ (by kernel_rfl) (by kernel_rfl)
end Go.Proofs.YtklkaaaegnojkaaDoorW.PrintMore
