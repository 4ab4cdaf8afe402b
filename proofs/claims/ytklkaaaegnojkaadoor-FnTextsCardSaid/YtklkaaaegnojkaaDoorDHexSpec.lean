/-
Both HexOfs give the same signs.
-/
import Derived.Test.YtklkaaaegnojkaaDoorDx4
import Derived.Test.YtklkaaaegnojkaaDoorDx6
import Derived.Test.YtklkaaaegnojkaaDoorDx7
import Derived.Test.YtklkaaaegnojkaaDoorCommon
namespace Go.Proofs.YtklkaaaegnojkaaDoor.PureD
open Go Go.RowKit Go.Proofs.YtklkaaaegnojkaaDoor.Pure Go.Proofs.YtklkaaaegnojkaaDoor.PureD Go.Proofs.YtklkaaaegnojkaaDoor.D Go.Proofs.YtklkaaaegnojkaaDoorW.PrintWords Go.Proofs.YtklkaaaegnojkaaDoorW.PrintLast
set_option linter.unusedSectionVars false

def digit (x : Int) : Int := if x < 10 then 48 + x else 87 + x
def hexL : List Int → List Int
  | [] => []
  | c :: r => digit (c / 16) :: digit (c % 16) :: hexL r
theorem hexL_length (l : List Int) : (hexL l).length = 2 * l.length := by
  induction l with
  | nil => rfl
  | cons c r ih => simp [hexL, ih]; omega

theorem spec_digit {x : Int} (h0 : 0 ≤ x) (h1 : x < 16) : spec_l15Digit.f x = some (digit x) := by
  unfold spec_l15Digit.f digit
  by_cases h : x < 10
  · rw [if_pos h, if_pos h, wrap_in _ (by omega) (by omega)]
    congr 1
    omega
  · rw [if_neg h, if_neg h, wrap_in (97 + x) (by omega) (by omega), wrap_in _ (by omega) (by omega)]
    congr 1
    omega

theorem spec_HexOf_go (x0 : List Int) (hn : x0.length ≤ 1048576) (hw : ∀ x ∈ x0, 0 ≤ x ∧ x ≤ 255) : ∀ (d k i : Nat) (x3 : List Int), x3.length ≤ 2 * i → i ≤ x0.length → x0.length - i = d → d < k →
    spec_HexOf.l0 k x0 x3 (i : Int) = some (strOfNums (x3 ++ hexL (x0.drop i))) := by
  intro d
  induction d with
  | zero =>
    intro k i x3 hl hi hd hk
    obtain ⟨k, rfl⟩ : ∃ m, k = m + 1 := ⟨k - 1, by omega⟩
    simp only [spec_HexOf.l0]
    rw [if_neg (by omega), List.drop_eq_nil_of_le (by omega)]
    simp [hexL]
  | succ d ih =>
    intro k i x3 hl hi hd hk
    obtain ⟨k, rfl⟩ : ∃ m, k = m + 1 := ⟨k - 1, by omega⟩
    have hlt : i < x0.length := by omega
    have hb := hw _ (rd_mem hlt)
    simp only [spec_HexOf.l0]
    rw [drop_cons_rd hlt]
    generalize rd x0 (i : Int) = c at *
    have e1 : wrap64 c = c := wrap_in _ (by omega) (by omega)
    have e2 : Int.tdiv c 16 = c / 16 := Int.tdiv_eq_ediv_of_nonneg (by omega)
    have e3 : Int.tmod c 16 = c % 16 := Int.tmod_eq_emod_of_nonneg (by omega)
    rw [if_pos (by omega), if_pos (by omega), e1, e2, e3, wrap_in (c / 16) (by omega) (by omega), spec_digit (by omega) (by omega), spec_digit (by omega) (by omega)]
    simp only [Option.bind_some]
    rw [if_pos (by simp; omega), wrap_in _ (by omega) (by omega)]
    have e : (i : Int) + 1 = ((i + 1 : Nat) : Int) := by omega
    rw [e, ih k (i + 1) _ (by simp; omega) (by omega) (by omega) (by omega)]
    simp [hexL]

theorem signs_at (n : Nat) (h : n < 16) : bt (⟨#[48, 49, 50, 51, 52, 53, 54, 55, 56, 57, 97, 98, 99, 100, 101, 102]⟩ : ByteArray) (n : Int) = digit n := by
  revert n
  decide

theorem signs_int {x : Int} (h0 : 0 ≤ x) (h1 : x < 16) : bt (⟨#[48, 49, 50, 51, 52, 53, 54, 55, 56, 57, 97, 98, 99, 100, 101, 102]⟩ : ByteArray) x = digit x := by
  obtain ⟨n, rfl⟩ := Int.eq_ofNat_of_zero_le h0
  exact signs_at n (by omega)

theorem impl_HexOf_go (x0 : List Int) (hn : x0.length ≤ 1048576) (hw : ∀ x ∈ x0, 0 ≤ x ∧ x ≤ 255) : ∀ (d k i : Nat) (x3 : List Int), x3.length ≤ 2 * i → i ≤ x0.length → x0.length - i = d → d < k →
    impl_HexOf.l0 k x3 x0 (x0.length : Int) (i : Int) = some (strOfNums (x3 ++ hexL (x0.drop i))) := by
  intro d
  induction d with
  | zero =>
    intro k i x3 hl hi hd hk
    obtain ⟨k, rfl⟩ : ∃ m, k = m + 1 := ⟨k - 1, by omega⟩
    simp only [impl_HexOf.l0]
    rw [if_neg (by omega), List.drop_eq_nil_of_le (by omega)]
    simp [hexL]
  | succ d ih =>
    intro k i x3 hl hi hd hk
    obtain ⟨k, rfl⟩ : ∃ m, k = m + 1 := ⟨k - 1, by omega⟩
    have hlt : i < x0.length := by omega
    have hb := hw _ (rd_mem hlt)
    simp only [impl_HexOf.l0]
    rw [drop_cons_rd hlt]
    generalize rd x0 (i : Int) = c at *
    have e2 : Int.tdiv c 16 % 256 = c / 16 := by rw [Int.tdiv_eq_ediv_of_nonneg (by omega)]; omega
    have e3 : Int.tmod c 16 = c % 16 := Int.tmod_eq_emod_of_nonneg (by omega)
    rw [if_pos (by omega), if_pos (by omega), if_pos (by omega), e2, e3, if_pos (by omega), if_pos (by omega), if_pos (by omega), if_pos (by omega), signs_int (by omega) (by omega), signs_int (by omega) (by omega)]
    simp only [Option.bind_some]
    rw [if_pos (by simp; omega), wrap_in _ (by omega) (by omega)]
    have e : (i : Int) + 1 = ((i + 1 : Nat) : Int) := by omega
    rw [e, ih k (i + 1) _ (by simp; omega) (by omega) (by omega) (by omega)]
    simp [hexL]

theorem spec_HexOf_all (l : List Int) (hn : l.length ≤ 1048576) (hw : ∀ x ∈ l, 0 ≤ x ∧ x ≤ 255) (k : Nat) (hk : l.length < k) : spec_HexOf.f k l = some (strOfNums (hexL l)) := by
  unfold spec_HexOf.f
  exact spec_HexOf_go l hn hw l.length k 0 [] (by simp) (by omega) (by omega) hk

theorem impl_HexOf_all (l : List Int) (hn : l.length ≤ 1048576) (hw : ∀ x ∈ l, 0 ≤ x ∧ x ≤ 255) (k : Nat) (hk : l.length < k) : impl_HexOf.f k l = some (strOfNums (hexL l)) := by
  unfold impl_HexOf.f
  exact impl_HexOf_go l hn hw l.length k 0 [] (by simp) (by omega) (by omega) hk

end Go.Proofs.YtklkaaaegnojkaaDoor.PureD
