/-
The pure statement of FnExactUnshown.
-/
import Derived.Test.YtklkaaaegnojkaaDoorUx6
import Derived.Test.YtklkaaaegnojkaaDoorUUnshown
import Derived.Test.YtklkaaaegnojkaaDoorUBytes
import Derived.Test.YtklkaaaegnojkaaDoorUMarkB
import Derived.Test.YtklkaaaegnojkaaDoorUHeldB
namespace Go.Proofs.YtklkaaaegnojkaaDoor.PureU
open Go Go.RowKit Go.Proofs.YtklkaaaegnojkaaDoor.Pure Go.Proofs.YtklkaaaegnojkaaDoor.PureU Go.Proofs.YtklkaaaegnojkaaDoor.U Go.Proofs.YtklkaaaegnojkaaDoorW.PrintWords Go.Proofs.YtklkaaaegnojkaaDoorW.PrintLast Go.Proofs.YtklkaaaegnojkaaDoorW.PrintMore
theorem Unshown_holds : laws_FnExactUnshown.Pure := by
  intro s hs
  refine ⟨8 * s.size + 12, ?_⟩
  unfold laws_FnExactUnshown.f
  by_cases h : (s.size : Int) > 1048576
  · rw [if_pos h]
  · have hn : s.size ≤ 1048576 := by omega
    have hr := unshownOf_length s
    have hi := fun k hk => impl_Unshown_all s hn k hk
    rw [if_neg h, spec_Unshown_all s hn _ (by omega), Option.bind_some, hi _ (by omega), Option.bind_some]
    obtain ⟨⟨r, ok⟩, he⟩ : ∃ q, unshownOf s = q := ⟨_, rfl⟩
    rw [he] at hr ⊢
    simp only [he] at hi
    have hr' : r.length ≤ s.size := hr
    rw [eqByteS_self r (by omega) _ (by omega), Option.bind_some, if_pos rfl, bne_self_eq_false]
    show laws_FnExactUnshown.j0 (8 * s.size + 11 + 1) s r ok r false = some true
    simp only [laws_FnExactUnshown.j0]
    rw [if_neg Bool.false_ne_true, markByteS_all r (by omega) 1 (by omega) (by omega) _ (by omega), Option.bind_some, heldByteS_all r (by omega) 1 (by omega) (by omega) _ (by omega), Option.bind_some, if_neg (by omega), if_pos rfl, hi _ (by omega), Option.bind_some, eqByteS_self r (by omega) _ (by omega), Option.bind_some, if_pos rfl, bne_self_eq_false]
    show laws_FnExactUnshown.j1 (8 * s.size + 10 + 1) (markL r 1) (1 + r.length) false = some true
    simp only [laws_FnExactUnshown.j1]
    rw [if_neg Bool.false_ne_true, heldByteS_all r (by omega) 1 (by omega) (by omega) _ (by omega), Option.bind_some, if_neg (by omega), if_pos rfl]
end Go.Proofs.YtklkaaaegnojkaaDoor.PureU
namespace Go.Proofs.YtklkaaaegnojkaaDoor.Pure
theorem FnExactUnshown : Go.Proofs.YtklkaaaegnojkaaDoor.U.laws_FnExactUnshown.Pure := Go.Proofs.YtklkaaaegnojkaaDoor.PureU.Unshown_holds
end Go.Proofs.YtklkaaaegnojkaaDoor.Pure
