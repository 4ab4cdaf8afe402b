/-
What the laws' helpers over lists of numbers compute: a list equals itself, marking tells the next mark, what was marked is held; for lists of at most 2^40 numbers and small marks.
-/
import Derived.Test.YtklkaaaegnojkaaDoorMx3
import Derived.Test.YtklkaaaegnojkaaDoorCommon
namespace Go.Proofs.YtklkaaaegnojkaaDoor.PureM
open Go Go.RowKit Go.Proofs.YtklkaaaegnojkaaDoor.Pure Go.Proofs.YtklkaaaegnojkaaDoor.M Go.Proofs.YtklkaaaegnojkaaDoorW.PrintWords Go.Proofs.YtklkaaaegnojkaaDoorW.PrintLast

theorem eqIntS_go (x0 : List Int) (hn : x0.length ≤ 1099511627776) : ∀ (d k i : Nat), i ≤ x0.length → x0.length - i = d → d < k → laws_eqIntS.l0 k x0 x0 (i : Int) = some true := by
  intro d
  induction d with
  | zero =>
    intro k i hi hd hk
    obtain ⟨k, rfl⟩ : ∃ m, k = m + 1 := ⟨k - 1, by omega⟩
    simp only [laws_eqIntS.l0]
    rw [if_neg (by omega)]
  | succ d ih =>
    intro k i hi hd hk
    obtain ⟨k, rfl⟩ : ∃ m, k = m + 1 := ⟨k - 1, by omega⟩
    simp only [laws_eqIntS.l0]
    rw [if_pos (by omega), if_pos (by omega), if_pos (by omega), if_pos trivial, wrap_in _ (by omega) (by omega)]
    exact ih k (i + 1) (by omega) (by omega) (by omega)

theorem eqIntS_self (l : List Int) (hn : l.length ≤ 1099511627776) (k : Nat) (hk : l.length < k) : laws_eqIntS.f k l l = some true := by
  unfold laws_eqIntS.f
  rw [if_pos rfl]
  exact eqIntS_go l hn l.length k 0 (by omega) (by omega) hk

def markI : List Int → Int → List Int
  | [], _ => []
  | _ :: r, m => m :: markI r (m + 1)
theorem markI_length (l : List Int) : ∀ m, (markI l m).length = l.length := by
  induction l with
  | nil => intro m; rfl
  | cons c r ih => intro m; simp [markI, ih]

theorem markIntS_go : ∀ (d k i : Nat) (x0 : List Int) (m : Int), x0.length ≤ 1099511627776 → 0 ≤ m → m ≤ 1099511627776 + i → i ≤ x0.length → x0.length - i = d → d < k →
    laws_markIntS.l0 k x0 m (i : Int) = some (m + d, x0.take i ++ markI (x0.drop i) m) := by
  intro d
  induction d with
  | zero =>
    intro k i x0 m hn h0 h1 hi hd hk
    obtain ⟨k, rfl⟩ : ∃ m, k = m + 1 := ⟨k - 1, by omega⟩
    simp only [laws_markIntS.l0]
    rw [if_neg (by omega), List.drop_eq_nil_of_le (by omega), List.take_of_length_le (by omega)]
    simp [markI]
  | succ d ih =>
    intro k i x0 m hn h0 h1 hi hd hk
    obtain ⟨k, rfl⟩ : ∃ m, k = m + 1 := ⟨k - 1, by omega⟩
    have hlt : i < x0.length := by omega
    simp only [laws_markIntS.l0]
    rw [if_pos (by omega), if_pos (by omega), wrap_in (m + 1) (by omega) (by omega), wrap_in _ (by omega) (by omega)]
    have e : (i : Int) + 1 = ((i + 1 : Nat) : Int) := by omega
    rw [e, ih k (i + 1) _ (m + 1) (by simpa using hn) (by omega) (by omega) (by simp; omega) (by simp; omega) (by omega), drop_cons_rd hlt]
    simp only [Int.toNat_natCast, markI]
    rw [List.take_add_one, List.take_set_of_le (Nat.le_refl _), List.getElem?_set_self (by omega), List.drop_set_of_lt (by omega)]
    simp
    omega

theorem markIntS_all (l : List Int) (hn : l.length ≤ 1099511627776) (m : Int) (h0 : 0 ≤ m) (h1 : m ≤ 1099511627776) (k : Nat) (hk : l.length < k) :
    laws_markIntS.f k l m = some (m + l.length, markI l m) := by
  unfold laws_markIntS.f
  have h := markIntS_go l.length k 0 l m hn h0 (by omega) (by omega) (by omega) hk
  simpa using h

theorem heldIntS_go : ∀ (d k i : Nat) (x0 : List Int) (m : Int) (l : List Int), x0.length ≤ 1099511627776 → 0 ≤ m → m ≤ 1099511627776 + i → i ≤ x0.length → x0.length - i = d → d < k →
    x0.drop i = markI l m → laws_heldIntS.l0 k x0 m (i : Int) = some (m + d) := by
  intro d
  induction d with
  | zero =>
    intro k i x0 m l hn h0 h1 hi hd hk he
    obtain ⟨k, rfl⟩ : ∃ m, k = m + 1 := ⟨k - 1, by omega⟩
    simp only [laws_heldIntS.l0]
    rw [if_neg (by omega)]
    simp
  | succ d ih =>
    intro k i x0 m l hn h0 h1 hi hd hk he
    obtain ⟨k, rfl⟩ : ∃ m, k = m + 1 := ⟨k - 1, by omega⟩
    have hlt : i < x0.length := by omega
    rw [drop_cons_rd hlt] at he
    cases l with
    | nil => simp [markI] at he
    | cons c r =>
      simp only [markI, List.cons.injEq] at he
      simp only [laws_heldIntS.l0]
      rw [if_pos (by omega), if_pos (by omega), if_pos he.1, wrap_in (m + 1) (by omega) (by omega), wrap_in _ (by omega) (by omega)]
      have e : (i : Int) + 1 = ((i + 1 : Nat) : Int) := by omega
      rw [e, ih k (i + 1) x0 (m + 1) r hn (by omega) (by omega) (by omega) (by omega) (by omega) he.2]
      congr 1
      omega

theorem heldIntS_all (l : List Int) (hn : l.length ≤ 1099511627776) (m : Int) (h0 : 0 ≤ m) (h1 : m ≤ 1099511627776) (k : Nat) (hk : l.length < k) :
    laws_heldIntS.f k (markI l m) m = some (m + l.length) := by
  unfold laws_heldIntS.f
  have h := heldIntS_go l.length k 0 (markI l m) m l (by rw [markI_length]; exact hn) h0 (by omega) (by omega) (by rw [markI_length]; omega) hk (by simp)
  exact h

end Go.Proofs.YtklkaaaegnojkaaDoor.PureM
