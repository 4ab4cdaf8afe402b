/-
The program's FromHex and the reference's FromHex give the same bytes and the same flag of every text of at most 2^20 bytes; what is given back is new memory.
-/
import Derived.Test.YtlfgijdfaglhbaaMx2
import Derived.Test.YtlfgijdfaglhbaaMx3
import Derived.Test.YtlfgijdfaglhbaaBytes
import Derived.Test.YtlfgijdfaglhbaaMarks
namespace Go.Proofs.Ytlfgijdfaglhbaa.Pure
open Go Go.RowKit Go.Proofs.Ytlfgijdfaglhbaa.M Go.Proofs.YtlfgijdfaglhbaaW.PrintWords Go.Proofs.YtlfgijdfaglhbaaW.PrintLast

def digitOf (b : Int) : Int := if 48 ≤ b ∧ b ≤ 57 then b - 48 else if 97 ≤ b ∧ b ≤ 102 then b - 87 else -1

theorem bt_range (s : ByteArray) (i : Int) : 0 ≤ bt s i ∧ bt s i ≤ 255 := by
  unfold bt
  split
  · have := (s[i.toNat]).toNat_lt; omega
  · omega

theorem spec_value_nat : ∀ n : Nat, n < 256 → spec_l15Value.f 1 n = some (digitOf n) := by
  decide +kernel

theorem spec_value (k : Nat) (hk : 0 < k) (b : Int) (h : 0 ≤ b ∧ b ≤ 255) : spec_l15Value.f k b = some (digitOf b) := by
  obtain ⟨k, rfl⟩ : ∃ m, k = m + 1 := ⟨k - 1, by omega⟩
  obtain ⟨n, rfl⟩ := Int.eq_ofNat_of_zero_le h.1
  exact spec_value_nat n (by omega)

theorem impl_value_nat : ∀ n : Nat, n < 256 → Lib.indexByte (⟨#[48, 49, 50, 51, 52, 53, 54, 55, 56, 57, 97, 98, 99, 100, 101, 102]⟩ : ByteArray).data.toList n.toUInt8 = digitOf n := by
  decide +kernel

theorem impl_value (b : Int) (h : 0 ≤ b ∧ b ≤ 255) : strings_IndexByte.f (⟨#[48, 49, 50, 51, 52, 53, 54, 55, 56, 57, 97, 98, 99, 100, 101, 102]⟩ : ByteArray) b = some (digitOf b) := by
  obtain ⟨n, rfl⟩ := Int.eq_ofNat_of_zero_le h.1
  unfold strings_IndexByte.f
  rw [Int.toNat_natCast, impl_value_nat n (by omega)]

theorem digitOf_range (b : Int) : -1 ≤ digitOf b ∧ digitOf b ≤ 15 := by
  unfold digitOf
  split
  · omega
  · split <;> omega

/-- One round of both loops. -/
def roundOf (a b : Int) (x : List Int) (go : List Int → Option (List Int × Bool)) : Option (List Int × Bool) :=
  if digitOf a < 0 then some ([], false) else if digitOf b < 0 then some ([], false) else go (x ++ [(16 * digitOf a + digitOf b) % 256])

theorem spec_round (s : ByteArray) (i : Nat) (x4 : List Int) (hn : s.size ≤ 1099511627776) (h : i + 1 < s.size) (hl : x4.length ≤ i) (k : Nat) (hk : 0 < k) :
    spec_FromHex.l0 (k + 1) s x4 (i : Int) = roundOf (bt s i) (bt s (i + 1 : Nat)) x4 fun x => spec_FromHex.l0 k s x (i + 2 : Nat) := by
  have e1 : wrap64 ((i : Int) + 1) = ((i + 1 : Nat) : Int) := by rw [wrap_in _ (by omega) (by omega)]; omega
  have e2 : wrap64 ((i : Int) + 2) = ((i + 2 : Nat) : Int) := by rw [wrap_in _ (by omega) (by omega)]; omega
  have ra := bt_range s (i : Int)
  have rb := bt_range s ((i + 1 : Nat) : Int)
  have da := digitOf_range (bt s (i : Int))
  have db := digitOf_range (bt s ((i + 1 : Nat) : Int))
  unfold roundOf
  simp only [spec_FromHex.l0]
  rw [if_pos (by omega), if_pos (by omega), spec_value k hk _ ra, e1, e2]
  simp only [Option.bind_some]
  rw [if_pos (by omega), if_pos (by omega), spec_value k hk _ rb]
  simp only [Option.bind_some]
  rw [if_pos (show x4.length < 140737488355328 by omega)]
  generalize digitOf (bt s (i : Int)) = u at *
  generalize digitOf (bt s ((i + 1 : Nat) : Int)) = v at *
  rw [wrap_in (16 * u) (by omega) (by omega), wrap_in _ (by omega) (by omega)]

theorem impl_round (s : ByteArray) (i : Nat) (x4 : List Int) (hn : s.size ≤ 1099511627776) (h : i + 1 < s.size) (hl : x4.length ≤ i) (k : Nat) :
    impl_FromHex.l0 (k + 1) s x4 (i : Int) = roundOf (bt s i) (bt s (i + 1 : Nat)) x4 fun x => impl_FromHex.l0 k s x (i + 2 : Nat) := by
  have e1 : wrap64 ((i : Int) + 1) = ((i + 1 : Nat) : Int) := by rw [wrap_in _ (by omega) (by omega)]; omega
  have e2 : wrap64 ((i : Int) + 2) = ((i + 2 : Nat) : Int) := by rw [wrap_in _ (by omega) (by omega)]; omega
  have ra := bt_range s (i : Int)
  have rb := bt_range s ((i + 1 : Nat) : Int)
  have da := digitOf_range (bt s (i : Int))
  have db := digitOf_range (bt s ((i + 1 : Nat) : Int))
  unfold roundOf
  simp only [impl_FromHex.l0]
  rw [if_pos (by omega), if_pos (by omega), impl_value _ ra, e1, e2]
  simp only [Option.bind_some]
  rw [if_pos (by omega), if_pos (by omega), impl_value _ rb]
  simp only [Option.bind_some]
  rw [if_pos (show x4.length < 140737488355328 by omega)]
  generalize digitOf (bt s (i : Int)) = u at *
  generalize digitOf (bt s ((i + 1 : Nat) : Int)) = v at *
  rw [wrap_in (u * 16) (by omega) (by omega), wrap_in _ (by omega) (by omega), Int.mul_comm u 16]

theorem fromHex_go (s : ByteArray) (hn : s.size ≤ 1099511627776) : ∀ (d i : Nat) (x4 : List Int), i ≤ s.size → s.size - i = 2 * d → x4.length ≤ i →
    ∃ r, (∀ k, d + 1 < k → spec_FromHex.l0 k s x4 (i : Int) = some r) ∧ (∀ k, d + 1 < k → impl_FromHex.l0 k s x4 (i : Int) = some r) ∧ r.1.length ≤ s.size := by
  intro d
  induction d with
  | zero =>
    intro i x4 hi hd hl
    refine ⟨(x4, true), fun k hk => ?_, fun k hk => ?_, by simp; omega⟩
    · obtain ⟨k, rfl⟩ : ∃ m, k = m + 1 := ⟨k - 1, by omega⟩
      simp only [spec_FromHex.l0]
      rw [if_neg (by omega)]
    · obtain ⟨k, rfl⟩ : ∃ m, k = m + 1 := ⟨k - 1, by omega⟩
      simp only [impl_FromHex.l0]
      rw [if_neg (by omega)]
  | succ d ih =>
    intro i x4 hi hd hl
    have hS := fun k (hk : 0 < k) => spec_round s i x4 hn (by omega) hl k hk
    have hI := fun k => impl_round s i x4 hn (by omega) hl k
    generalize bt s (i : Int) = a at hS hI
    generalize bt s ((i + 1 : Nat) : Int) = b at hS hI
    obtain ⟨r, h1, h2, h3⟩ := ih (i + 2) (x4 ++ [(16 * digitOf a + digitOf b) % 256]) (by omega) (by omega) (by simp; omega)
    unfold roundOf at hS hI
    by_cases c1 : digitOf a < 0
    · refine ⟨([], false), fun k hk => ?_, fun k hk => ?_, by simp⟩
      · obtain ⟨k, rfl⟩ : ∃ m, k = m + 1 := ⟨k - 1, by omega⟩
        rw [hS k (by omega), if_pos c1]
      · obtain ⟨k, rfl⟩ : ∃ m, k = m + 1 := ⟨k - 1, by omega⟩
        rw [hI k, if_pos c1]
    · by_cases c2 : digitOf b < 0
      · refine ⟨([], false), fun k hk => ?_, fun k hk => ?_, by simp⟩
        · obtain ⟨k, rfl⟩ : ∃ m, k = m + 1 := ⟨k - 1, by omega⟩
          rw [hS k (by omega), if_neg c1, if_pos c2]
        · obtain ⟨k, rfl⟩ : ∃ m, k = m + 1 := ⟨k - 1, by omega⟩
          rw [hI k, if_neg c1, if_pos c2]
      · refine ⟨r, fun k hk => ?_, fun k hk => ?_, h3⟩
        · obtain ⟨k, rfl⟩ : ∃ m, k = m + 1 := ⟨k - 1, by omega⟩
          rw [hS k (by omega), if_neg c1, if_neg c2]
          exact h1 k (by omega)
        · obtain ⟨k, rfl⟩ : ∃ m, k = m + 1 := ⟨k - 1, by omega⟩
          rw [hI k, if_neg c1, if_neg c2]
          exact h2 k (by omega)

theorem fromHex_same (s : ByteArray) (hn : s.size ≤ 1099511627776) : ∃ r : List Int × Bool, (∀ k, s.size + 2 < k → spec_FromHex.f k s = some r) ∧ (∀ k, s.size + 2 < k → impl_FromHex.f k s = some r) ∧ r.1.length ≤ s.size := by
  by_cases h : (s.size : Int) % 2 = 1
  · refine ⟨([], false), fun k hk => ?_, fun k hk => ?_, by simp⟩
    · unfold spec_FromHex.f
      simp only [Option.bind_some]
      rw [if_pos h]
    · unfold impl_FromHex.f
      rw [if_neg (by omega)]
  · obtain ⟨r, h1, h2, h3⟩ := fromHex_go s hn (s.size / 2) 0 [] (by omega) (by omega) (by simp)
    refine ⟨r, fun k hk => ?_, fun k hk => ?_, h3⟩
    · unfold spec_FromHex.f
      simp only [Option.bind_some]
      rw [if_neg h]
      exact h1 k (by omega)
    · unfold impl_FromHex.f
      rw [if_pos (by omega)]
      exact h2 k (by omega)

theorem FnExactFromHex : laws_FnExactFromHex.Pure := by
  intro s hs
  refine ⟨s.size + 10, ?_⟩
  unfold laws_FnExactFromHex.f
  by_cases h : (s.size : Int) > 1048576
  · rw [if_pos h]
  · obtain ⟨⟨l, ok⟩, h1, h2, h3⟩ := fromHex_same s (by omega)
    simp only at h3
    rw [if_neg h, h1 _ (by omega)]
    simp only [Option.bind_some]
    rw [h2 _ (by omega)]
    simp only [Option.bind_some]
    rw [eqByteS_self l (by omega) _ (by omega)]
    simp only [Option.bind_some, if_true, laws_FnExactFromHex.j0, bne_self_eq_false, Bool.false_eq_true, if_false]
    rw [markByteS_all l (by omega) 1 (by omega) (by omega) _ (by omega)]
    simp only [Option.bind_some]
    rw [heldByteS_all l (by omega) 1 (by omega) (by omega) _ (by omega)]
    simp only [Option.bind_some, if_true]
    rw [if_neg (by omega), h2 _ (by omega)]
    simp only [Option.bind_some]
    rw [eqByteS_self l (by omega) _ (by omega)]
    simp only [Option.bind_some, if_true, laws_FnExactFromHex.j1, bne_self_eq_false, Bool.false_eq_true, if_false]
    rw [heldByteS_all l (by omega) 1 (by omega) (by omega) _ (by omega)]
    simp only [Option.bind_some, if_true]
    rw [if_neg (by omega)]

end Go.Proofs.Ytlfgijdfaglhbaa.Pure
