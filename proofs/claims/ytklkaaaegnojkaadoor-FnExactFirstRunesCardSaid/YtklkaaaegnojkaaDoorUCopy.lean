/-
What the laws' helpers over lists of bytes compute: a copy is the list itself, a list equals itself, marks are read back; for lists of at most 2^40 bytes.
-/
import Derived.Test.YtklkaaaegnojkaaDoorUx7
import Derived.Test.YtklkaaaegnojkaaDoorCommon
namespace Go.Proofs.YtklkaaaegnojkaaDoor.PureU
open Go Go.RowKit Go.Proofs.YtklkaaaegnojkaaDoor.Pure Go.Proofs.YtklkaaaegnojkaaDoor.U Go.Proofs.YtklkaaaegnojkaaDoorW.PrintWords Go.Proofs.YtklkaaaegnojkaaDoorW.PrintLast

theorem toByteS_go (x0 : List Int) (hn : x0.length ≤ 1099511627776) : ∀ (d k i : Nat) (x3 : List Int), x3.length = x0.length → i ≤ x0.length → x0.length - i = d → d < k →
    x3.take i = x0.take i → laws_toByteS.l0 k x0 x3 (i : Int) = some x0 := by
  intro d
  induction d with
  | zero =>
    intro k i x3 hl hi hd hk ht
    obtain ⟨k, rfl⟩ : ∃ m, k = m + 1 := ⟨k - 1, by omega⟩
    simp only [laws_toByteS.l0]
    rw [if_neg (by omega)]
    have e : i = x0.length := by omega
    subst e
    rw [List.take_length] at ht
    rw [← hl, List.take_length] at ht
    rw [ht]
  | succ d ih =>
    intro k i x3 hl hi hd hk ht
    obtain ⟨k, rfl⟩ : ∃ m, k = m + 1 := ⟨k - 1, by omega⟩
    have hlt : i < x0.length := by omega
    simp only [laws_toByteS.l0]
    rw [if_pos (by omega), if_pos (by omega), if_pos (by omega), wrap_in _ (by omega) (by omega)]
    have e : (i : Int) + 1 = ((i + 1 : Nat) : Int) := by omega
    rw [e]
    refine ih k (i + 1) _ (by simp [hl]) (by omega) (by omega) (by omega) ?_
    rw [take_succ_rd hlt, ← ht]
    simp only [Int.toNat_natCast]
    rw [List.take_add_one, List.take_set_of_le (by omega), List.getElem?_set_self (by omega)]
    rfl

theorem toByteS_all (l : List Int) (hn : l.length ≤ 1048576) (k : Nat) (hk : l.length < k) : laws_toByteS.f k l = some l := by
  unfold laws_toByteS.f
  rw [if_pos (by omega), if_pos (by omega)]
  exact toByteS_go l (by omega) l.length k 0 _ (by simp) (by omega) (by omega) hk (by simp)

end Go.Proofs.YtklkaaaegnojkaaDoor.PureU
