/-
The program's Width gives how many runes plain bytes have, and how many bytes others have.
-/
import Derived.Test.YtklkaaaegnojkaaDoorDx1
import Derived.Test.YtklkaaaegnojkaaDoorDPlain
import Derived.Test.YtklkaaaegnojkaaDoorDCount
namespace Go.Proofs.YtklkaaaegnojkaaDoor.PureD
open Go Go.RowKit Go.Proofs.YtklkaaaegnojkaaDoor.Pure Go.Proofs.YtklkaaaegnojkaaDoor.PureD Go.Proofs.YtklkaaaegnojkaaDoor.D Go.Proofs.YtklkaaaegnojkaaDoorW.PrintWords Go.Proofs.YtklkaaaegnojkaaDoorW.PrintLast Go.Proofs.YtklkaaaegnojkaaDoorW.PrintMore
set_option linter.unusedSectionVars false

/-- What both give. -/
def widthOf (l : List Int) : Int := if plainOf l = true then ((runesOf l).1.length : Int) else (l.length : Int)
section
variable (l : List Int) (hw : ∀ x ∈ l, 0 ≤ x ∧ x ≤ 255) (hn : l.length ≤ 1048576)
include hw hn
theorem impl_Width_all (k : Nat) (hk : 8 * l.length + 8 ≤ k) : impl_Width.f k l = some (widthOf l) := by
  unfold impl_Width.f widthOf
  rw [impl_Plain_all l hw hn k hk, Option.bind_some]
  by_cases h : plainOf l = true
  · have hv : (runesOf l).1 = runesAt (strOfNums l) l.length 0 := by
      have h2 : (runesOf l).2 = true := by
        unfold plainOf at h
        exact (Bool.and_eq_true _ _ ▸ h : _ ∧ _).1
      unfold runesOf at h2 ⊢
      split
      · rfl
      · rename_i hc
        rw [if_neg hc] at h2
        cases h2
    rw [if_pos h, if_pos h, hv, RuneCount_all l hw hn k (by omega), Option.bind_some]
  · rw [if_neg h, if_neg h]
end
end Go.Proofs.YtklkaaaegnojkaaDoor.PureD
