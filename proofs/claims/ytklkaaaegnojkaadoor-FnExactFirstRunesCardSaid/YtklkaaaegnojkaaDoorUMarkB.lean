/-
What the laws' marks over a list of bytes compute: marking tells the next mark; for lists of at most 2^40 bytes and small marks.
-/
import Derived.Test.YtklkaaaegnojkaaDoorUx1
import Derived.Test.YtklkaaaegnojkaaDoorCommon
namespace Go.Proofs.YtklkaaaegnojkaaDoor.PureU
open Go Go.RowKit Go.Proofs.YtklkaaaegnojkaaDoor.Pure Go.Proofs.YtklkaaaegnojkaaDoor.U Go.Proofs.YtklkaaaegnojkaaDoorW.PrintWords Go.Proofs.YtklkaaaegnojkaaDoorW.PrintLast

def markL : List Int → Int → List Int
  | [], _ => []
  | _ :: r, m => m % 256 :: markL r (m + 1)
theorem markL_length (l : List Int) : ∀ m, (markL l m).length = l.length := by
  induction l with
  | nil => intro m; rfl
  | cons c r ih => intro m; simp [markL, ih]

theorem markByteS_go : ∀ (d k i : Nat) (x0 : List Int) (m : Int), x0.length ≤ 1099511627776 → 0 ≤ m → m ≤ 1099511627776 + i → i ≤ x0.length → x0.length - i = d → d < k →
    laws_markByteS.l0 k x0 m (i : Int) = some (m + d, x0.take i ++ markL (x0.drop i) m) := by
  intro d
  induction d with
  | zero =>
    intro k i x0 m hn h0 h1 hi hd hk
    obtain ⟨k, rfl⟩ : ∃ m, k = m + 1 := ⟨k - 1, by omega⟩
    simp only [laws_markByteS.l0]
    rw [if_neg (by omega), List.drop_eq_nil_of_le (by omega), List.take_of_length_le (by omega)]
    simp [markL]
  | succ d ih =>
    intro k i x0 m hn h0 h1 hi hd hk
    obtain ⟨k, rfl⟩ : ∃ m, k = m + 1 := ⟨k - 1, by omega⟩
    have hlt : i < x0.length := by omega
    simp only [laws_markByteS.l0]
    rw [if_pos (by omega), if_pos (by omega), wrap_in (m + 1) (by omega) (by omega), wrap_in _ (by omega) (by omega)]
    have e : (i : Int) + 1 = ((i + 1 : Nat) : Int) := by omega
    rw [e, ih k (i + 1) _ (m + 1) (by simpa using hn) (by omega) (by omega) (by simp; omega) (by simp; omega) (by omega), drop_cons_rd hlt]
    simp only [Int.toNat_natCast, markL]
    rw [List.take_add_one, List.take_set_of_le (Nat.le_refl _), List.getElem?_set_self (by omega), List.drop_set_of_lt (by omega)]
    simp
    omega

theorem markByteS_all (l : List Int) (hn : l.length ≤ 1099511627776) (m : Int) (h0 : 0 ≤ m) (h1 : m ≤ 1099511627776) (k : Nat) (hk : l.length < k) :
    laws_markByteS.f k l m = some (m + l.length, markL l m) := by
  unfold laws_markByteS.f
  have h := markByteS_go l.length k 0 l m hn h0 (by omega) (by omega) (by omega) hk
  simpa using h

end Go.Proofs.YtklkaaaegnojkaaDoor.PureU
