/-
The pure statement of FnExactWidth.
-/
import Derived.Test.YtklkaaaegnojkaaDoorMx5
import Derived.Test.YtklkaaaegnojkaaDoorMWidth
import Derived.Test.YtklkaaaegnojkaaDoorMBytes
import Derived.Test.YtklkaaaegnojkaaDoorMCopy
namespace Go.Proofs.YtklkaaaegnojkaaDoor.PureM
open Go Go.RowKit Go.Proofs.YtklkaaaegnojkaaDoor.Pure Go.Proofs.YtklkaaaegnojkaaDoor.PureM Go.Proofs.YtklkaaaegnojkaaDoor.M Go.Proofs.YtklkaaaegnojkaaDoorW.PrintWords Go.Proofs.YtklkaaaegnojkaaDoorW.PrintLast Go.Proofs.YtklkaaaegnojkaaDoorW.PrintMore
theorem Width_holds : laws_FnExactWidth.Pure := by
  intro l hl
  refine ⟨8 * l.length + 8, ?_⟩
  unfold laws_FnExactWidth.f
  by_cases h : (l.length : Int) > 1048576
  · rw [if_pos h]
  · have hw : ∀ x ∈ l, 0 ≤ x ∧ x ≤ 255 := fun x hx => u8_wf (hl.2 x hx)
    have hn : l.length ≤ 1048576 := by omega
    rw [if_neg h, toByteS_all l (by omega) _ (by omega), Option.bind_some, spec_Width_all l hw hn _ (by omega), Option.bind_some, Option.bind_some, impl_Width_all l hw hn _ (by omega), Option.bind_some, if_pos rfl, Option.bind_some, eqByteS_self l (by omega) _ (by omega), Option.bind_some, if_pos rfl]
end Go.Proofs.YtklkaaaegnojkaaDoor.PureM
namespace Go.Proofs.YtklkaaaegnojkaaDoor.Pure
theorem FnExactWidth : Go.Proofs.YtklkaaaegnojkaaDoor.M.laws_FnExactWidth.Pure := Go.Proofs.YtklkaaaegnojkaaDoor.PureM.Width_holds
end Go.Proofs.YtklkaaaegnojkaaDoor.Pure
