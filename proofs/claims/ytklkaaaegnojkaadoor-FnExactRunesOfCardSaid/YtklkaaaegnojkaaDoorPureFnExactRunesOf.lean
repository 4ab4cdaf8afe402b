/-
The pure statement of FnExactRunesOf.
-/
import Derived.Test.YtklkaaaegnojkaaDoorMx4
import Derived.Test.YtklkaaaegnojkaaDoorMRunes
import Derived.Test.YtklkaaaegnojkaaDoorMBytes
import Derived.Test.YtklkaaaegnojkaaDoorMMarkB
import Derived.Test.YtklkaaaegnojkaaDoorMInts
import Derived.Test.YtklkaaaegnojkaaDoorMCopy
namespace Go.Proofs.YtklkaaaegnojkaaDoor.PureM
open Go Go.RowKit Go.Proofs.YtklkaaaegnojkaaDoor.Pure Go.Proofs.YtklkaaaegnojkaaDoor.PureM Go.Proofs.YtklkaaaegnojkaaDoor.M Go.Proofs.YtklkaaaegnojkaaDoorW.PrintWords Go.Proofs.YtklkaaaegnojkaaDoorW.PrintLast Go.Proofs.YtklkaaaegnojkaaDoorW.PrintMore
theorem RunesOf_holds : laws_FnExactRunesOf.Pure := by
  intro l hl
  refine ⟨8 * l.length + 12, ?_⟩
  unfold laws_FnExactRunesOf.f
  by_cases h : (l.length : Int) > 1048576
  · rw [if_pos h]
  · have hw : ∀ x ∈ l, 0 ≤ x ∧ x ≤ 255 := fun x hx => u8_wf (hl.2 x hx)
    have hn : l.length ≤ 1048576 := by omega
    have hr := runesOf_length l
    have hi := impl_RunesOf_all l hw hn
    rw [if_neg h, toByteS_all l (by omega) _ (by omega), Option.bind_some, spec_RunesOf_all l hw hn _ (by omega), Option.bind_some, Option.bind_some, hi, Option.bind_some, eqIntS_self _ (by omega) _ (by omega), Option.bind_some, if_pos rfl, bne_self_eq_false]
    obtain ⟨⟨r, ok⟩, he⟩ : ∃ q, runesOf l = q := ⟨_, rfl⟩
    rw [he] at hr hi ⊢
    have hr' : r.length ≤ l.length := hr
    show laws_FnExactRunesOf.j0 (8 * l.length + 11 + 1) l r ok l r ok false = some true
    simp only [laws_FnExactRunesOf.j0]
    rw [if_neg Bool.false_ne_true, toByteS_all l (by omega) _ (by omega), Option.bind_some, eqByteS_self l (by omega) _ (by omega), Option.bind_some, if_pos rfl, markByteS_all l (by omega) 1 (by omega) (by omega) _ (by omega), Option.bind_some, if_neg (by omega), eqIntS_self r (by omega) _ (by omega), Option.bind_some, if_pos rfl, bne_self_eq_false]
    show laws_FnExactRunesOf.j1 (8 * l.length + 10 + 1) l r ok r false = some true
    simp only [laws_FnExactRunesOf.j1]
    rw [if_neg Bool.false_ne_true, markIntS_all r (by omega) 1 (by omega) (by omega) _ (by omega), Option.bind_some, heldIntS_all r (by omega) 1 (by omega) (by omega) _ (by omega), Option.bind_some, if_neg (by omega), if_pos rfl, toByteS_all l (by omega) _ (by omega), Option.bind_some, hi, Option.bind_some, eqIntS_self r (by omega) _ (by omega), Option.bind_some, if_pos rfl, bne_self_eq_false]
    show laws_FnExactRunesOf.j2 (8 * l.length + 9 + 1) (markI r 1) (1 + r.length) false = some true
    simp only [laws_FnExactRunesOf.j2]
    rw [if_neg Bool.false_ne_true, heldIntS_all r (by omega) 1 (by omega) (by omega) _ (by omega), Option.bind_some, if_neg (by omega), if_pos rfl]
end Go.Proofs.YtklkaaaegnojkaaDoor.PureM
namespace Go.Proofs.YtklkaaaegnojkaaDoor.Pure
theorem FnExactRunesOf : Go.Proofs.YtklkaaaegnojkaaDoor.M.laws_FnExactRunesOf.Pure := Go.Proofs.YtklkaaaegnojkaaDoor.PureM.RunesOf_holds
end Go.Proofs.YtklkaaaegnojkaaDoor.Pure
