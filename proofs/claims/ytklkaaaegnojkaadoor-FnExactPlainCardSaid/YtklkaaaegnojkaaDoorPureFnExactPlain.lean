/-
The pure statement of FnExactPlain.
-/
import Derived.Test.YtklkaaaegnojkaaDoorMx3
import Derived.Test.YtklkaaaegnojkaaDoorMPlain
import Derived.Test.YtklkaaaegnojkaaDoorMBytes
import Derived.Test.YtklkaaaegnojkaaDoorMCopy
namespace Go.Proofs.YtklkaaaegnojkaaDoor.PureM
open Go Go.RowKit Go.Proofs.YtklkaaaegnojkaaDoor.Pure Go.Proofs.YtklkaaaegnojkaaDoor.PureM Go.Proofs.YtklkaaaegnojkaaDoor.M Go.Proofs.YtklkaaaegnojkaaDoorW.PrintWords Go.Proofs.YtklkaaaegnojkaaDoorW.PrintLast Go.Proofs.YtklkaaaegnojkaaDoorW.PrintMore
theorem Plain_holds : laws_FnExactPlain.Pure := by
  intro l hl
  refine ⟨8 * l.length + 8, ?_⟩
  unfold laws_FnExactPlain.f
  by_cases h : (l.length : Int) > 1048576
  · rw [if_pos h]
  · have hw : ∀ x ∈ l, 0 ≤ x ∧ x ≤ 255 := fun x hx => u8_wf (hl.2 x hx)
    have hn : l.length ≤ 1048576 := by omega
    rw [if_neg h, toByteS_all l (by omega) _ (by omega), Option.bind_some, spec_Plain_all l hw hn _ (by omega), Option.bind_some, Option.bind_some, impl_Plain_all l hw hn _ (by omega), Option.bind_some, bne_self_eq_false, if_neg Bool.false_ne_true, Option.bind_some, eqByteS_self l (by omega) _ (by omega), Option.bind_some, if_pos rfl]
end Go.Proofs.YtklkaaaegnojkaaDoor.PureM
namespace Go.Proofs.YtklkaaaegnojkaaDoor.Pure
theorem FnExactPlain : Go.Proofs.YtklkaaaegnojkaaDoor.M.laws_FnExactPlain.Pure := Go.Proofs.YtklkaaaegnojkaaDoor.PureM.Plain_holds
end Go.Proofs.YtklkaaaegnojkaaDoor.Pure
