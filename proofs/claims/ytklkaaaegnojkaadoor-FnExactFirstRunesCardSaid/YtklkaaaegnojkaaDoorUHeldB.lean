/-
What the laws' marks over a list of bytes compute: what was marked is held; for lists of at most 2^40 bytes and small marks.
-/
import Derived.Test.YtklkaaaegnojkaaDoorUx1
import Derived.Test.YtklkaaaegnojkaaDoorUMarkB
namespace Go.Proofs.YtklkaaaegnojkaaDoor.PureU
open Go Go.RowKit Go.Proofs.YtklkaaaegnojkaaDoor.Pure Go.Proofs.YtklkaaaegnojkaaDoor.U Go.Proofs.YtklkaaaegnojkaaDoorW.PrintWords Go.Proofs.YtklkaaaegnojkaaDoorW.PrintLast

theorem heldByteS_go : ∀ (d k i : Nat) (x0 : List Int) (m : Int) (l : List Int), x0.length ≤ 1099511627776 → 0 ≤ m → m ≤ 1099511627776 + i → i ≤ x0.length → x0.length - i = d → d < k →
    x0.drop i = markL l m → laws_heldByteS.l0 k x0 m (i : Int) = some (m + d) := by
  intro d
  induction d with
  | zero =>
    intro k i x0 m l hn h0 h1 hi hd hk he
    obtain ⟨k, rfl⟩ : ∃ m, k = m + 1 := ⟨k - 1, by omega⟩
    simp only [laws_heldByteS.l0]
    rw [if_neg (by omega)]
    simp
  | succ d ih =>
    intro k i x0 m l hn h0 h1 hi hd hk he
    obtain ⟨k, rfl⟩ : ∃ m, k = m + 1 := ⟨k - 1, by omega⟩
    have hlt : i < x0.length := by omega
    rw [drop_cons_rd hlt] at he
    cases l with
    | nil => simp [markL] at he
    | cons c r =>
      simp only [markL, List.cons.injEq] at he
      simp only [laws_heldByteS.l0]
      rw [if_pos (by omega), if_pos (by omega), if_pos he.1, wrap_in (m + 1) (by omega) (by omega), wrap_in _ (by omega) (by omega)]
      have e : (i : Int) + 1 = ((i + 1 : Nat) : Int) := by omega
      rw [e, ih k (i + 1) x0 (m + 1) r hn (by omega) (by omega) (by omega) (by omega) (by omega) he.2]
      congr 1
      omega

theorem heldByteS_all (l : List Int) (hn : l.length ≤ 1099511627776) (m : Int) (h0 : 0 ≤ m) (h1 : m ≤ 1099511627776) (k : Nat) (hk : l.length < k) :
    laws_heldByteS.f k (markL l m) m = some (m + l.length) := by
  unfold laws_heldByteS.f
  have h := heldByteS_go l.length k 0 (markL l m) m l (by rw [markL_length]; exact hn) h0 (by omega) (by omega) (by rw [markL_length]; omega) hk (by simp)
  exact h

end Go.Proofs.YtklkaaaegnojkaaDoor.PureU
