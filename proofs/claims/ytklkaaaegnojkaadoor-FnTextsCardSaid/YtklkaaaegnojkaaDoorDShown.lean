/-
Both Showns give the same text.
-/
import Derived.Test.YtklkaaaegnojkaaDoorDx4
import Derived.Test.YtklkaaaegnojkaaDoorDx7
import Derived.Test.YtklkaaaegnojkaaDoorDPlain
import Derived.Test.YtklkaaaegnojkaaDoorDHexSpec
namespace Go.Proofs.YtklkaaaegnojkaaDoor.PureD
open Go Go.RowKit Go.Proofs.YtklkaaaegnojkaaDoor.Pure Go.Proofs.YtklkaaaegnojkaaDoor.PureD Go.Proofs.YtklkaaaegnojkaaDoor.D Go.Proofs.YtklkaaaegnojkaaDoorW.PrintWords Go.Proofs.YtklkaaaegnojkaaDoorW.PrintLast Go.Proofs.YtklkaaaegnojkaaDoorW.PrintMore
set_option linter.unusedSectionVars false
/-- What both give. -/
def shownOf (l : List Int) : ByteArray := if plainOf l = true then ((⟨#[34]⟩ : ByteArray) ++ (strOfNums l)) ++ (⟨#[34]⟩ : ByteArray) else (⟨#[120]⟩ : ByteArray) ++ strOfNums (hexL l)
section
variable (l : List Int) (hw : ∀ x ∈ l, 0 ≤ x ∧ x ≤ 255) (hn : l.length ≤ 1048576)
include hw hn
omit hw hn in
theorem one_size (b : UInt8) : (⟨#[b]⟩ : ByteArray).size = 1 := rfl
theorem spec_Shown_all (k : Nat) (hk : 8 * l.length + 8 ≤ k) : spec_Shown.f k l = some (shownOf l) := by
  unfold spec_Shown.f shownOf
  rw [spec_Plain_all l hw hn k hk, Option.bind_some]
  have hs := strOfNums_size l
  have hs2 := strOfNums_size (hexL l)
  have hl := hexL_length l
  by_cases h : plainOf l = true
  · rw [if_pos h, if_pos h, if_pos (by omega), if_pos (by rw [ByteArray.size_append]; show 1 + _ + 1 ≤ _; omega)]
  · rw [if_neg h, if_neg h, spec_HexOf_all l hn hw k (by omega), Option.bind_some, if_pos (by omega)]
theorem impl_Shown_all (k : Nat) (hk : 8 * l.length + 8 ≤ k) : impl_Shown.f k l = some (shownOf l) := by
  unfold impl_Shown.f shownOf
  rw [impl_Plain_all l hw hn k hk, Option.bind_some]
  have hs := strOfNums_size l
  have hs2 := strOfNums_size (hexL l)
  have hl := hexL_length l
  by_cases h : plainOf l = true
  · rw [if_pos h, if_pos h, if_pos (by omega), if_pos (by rw [ByteArray.size_append]; show 1 + _ + 1 ≤ _; omega)]
  · rw [if_neg h, if_neg h, impl_HexOf_all l hn hw k (by omega), Option.bind_some, if_pos (by omega)]
end
end Go.Proofs.YtklkaaaegnojkaaDoor.PureD
