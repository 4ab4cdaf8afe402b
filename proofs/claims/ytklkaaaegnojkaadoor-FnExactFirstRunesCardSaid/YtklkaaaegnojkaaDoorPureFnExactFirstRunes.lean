/-
The pure statement of FnExactFirstRunes.
-/
import Derived.Test.YtklkaaaegnojkaaDoorUx8
import Derived.Test.YtklkaaaegnojkaaDoorUFirstRunes
import Derived.Test.YtklkaaaegnojkaaDoorUBytes
import Derived.Test.YtklkaaaegnojkaaDoorUCopy
import Derived.Test.YtklkaaaegnojkaaDoorUMarkB
import Derived.Test.YtklkaaaegnojkaaDoorUHeldB
namespace Go.Proofs.YtklkaaaegnojkaaDoor.PureU
open Go Go.RowKit Go.Proofs.YtklkaaaegnojkaaDoor.Pure Go.Proofs.YtklkaaaegnojkaaDoor.PureU Go.Proofs.YtklkaaaegnojkaaDoor.U Go.Proofs.YtklkaaaegnojkaaDoorW.PrintWords Go.Proofs.YtklkaaaegnojkaaDoorW.PrintLast Go.Proofs.YtklkaaaegnojkaaDoorW.PrintMore
theorem FirstRunes_holds : laws_FnExactFirstRunes.Pure := by
  intro l n hl _
  refine ⟨8 * l.length + 12, ?_⟩
  unfold laws_FnExactFirstRunes.f
  by_cases h : (l.length : Int) > 1048576
  · rw [if_pos h]
  · have hw : ∀ x ∈ l, 0 ≤ x ∧ x ≤ 255 := fun x hx => u8_wf (hl.2 x hx)
    have hn : l.length ≤ 1048576 := by omega
    have hr := firstOf_length l hw hn n
    have hi := fun k hk => impl_FirstRunes_all l hw hn n k hk
    have hc := fun k hk => toByteS_all l (by omega) k hk
    rw [if_neg h, hc _ (by omega), Option.bind_some, spec_FirstRunes_all l hw hn n _ (by omega), Option.bind_some, Option.bind_some, hi _ (by omega), Option.bind_some]
    obtain ⟨⟨r, ok⟩, he⟩ : ∃ q, firstOf l n = q := ⟨_, rfl⟩
    rw [he] at hr ⊢
    simp only [he] at hi
    have hr' : r.length ≤ 4 * l.length := hr
    obtain ⟨k0, hk0, hk1⟩ : ∃ k0, 8 * l.length + 12 = k0 ∧ 8 * l.length + 12 ≤ k0 := ⟨_, rfl, Nat.le_refl _⟩
    have hq := fun k (hk : r.length < k) => eqByteS_self r (by omega) k hk
    rw [hq _ (by omega), Option.bind_some, if_pos rfl, bne_self_eq_false]
    show laws_FnExactFirstRunes.j0 (8 * l.length + 11 + 1) l n r ok l r ok false = some true
    simp only [laws_FnExactFirstRunes.j0]
    rw [if_neg Bool.false_ne_true, hc _ (by omega), Option.bind_some, eqByteS_self l (by omega) _ (by omega), Option.bind_some, if_pos rfl, markByteS_all l (by omega) 1 (by omega) (by omega) _ (by omega), Option.bind_some, if_neg (by omega), hq _ (by omega), Option.bind_some, if_pos rfl, bne_self_eq_false]
    show laws_FnExactFirstRunes.j1 (8 * l.length + 10 + 1) l n r ok r false = some true
    simp only [laws_FnExactFirstRunes.j1]
    rw [if_neg Bool.false_ne_true, markByteS_all r (by omega) 1 (by omega) (by omega) _ (by omega), Option.bind_some, heldByteS_all r (by omega) 1 (by omega) (by omega) _ (by omega), Option.bind_some, if_neg (by omega), if_pos rfl, hc _ (by omega), Option.bind_some, hi _ (by omega), Option.bind_some, hq _ (by omega), Option.bind_some, if_pos rfl, bne_self_eq_false]
    show laws_FnExactFirstRunes.j2 (8 * l.length + 9 + 1) (markL r 1) (1 + r.length) false = some true
    simp only [laws_FnExactFirstRunes.j2]
    rw [if_neg Bool.false_ne_true, heldByteS_all r (by omega) 1 (by omega) (by omega) _ (by omega), Option.bind_some, if_neg (by omega), if_pos rfl]
end Go.Proofs.YtklkaaaegnojkaaDoor.PureU
namespace Go.Proofs.YtklkaaaegnojkaaDoor.Pure
theorem FnExactFirstRunes : Go.Proofs.YtklkaaaegnojkaaDoor.U.laws_FnExactFirstRunes.Pure := Go.Proofs.YtklkaaaegnojkaaDoor.PureU.FirstRunes_holds
end Go.Proofs.YtklkaaaegnojkaaDoor.Pure
