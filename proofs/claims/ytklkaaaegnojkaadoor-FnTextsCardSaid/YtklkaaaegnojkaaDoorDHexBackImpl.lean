/-
What the program's FromHex gives of a text of at most 2^40 bytes.
-/
import Derived.Test.YtklkaaaegnojkaaDoorDx4
import Derived.Test.YtklkaaaegnojkaaDoorCommon
namespace Go.Proofs.YtklkaaaegnojkaaDoor.PureD
open Go Go.RowKit Go.Proofs.YtklkaaaegnojkaaDoor.Pure Go.Proofs.YtklkaaaegnojkaaDoor.PureD Go.Proofs.YtklkaaaegnojkaaDoor.D Go.Proofs.YtklkaaaegnojkaaDoorW.PrintWords Go.Proofs.YtklkaaaegnojkaaDoorW.PrintLast

def digitOf (b : Int) : Int := if 48 ≤ b ∧ b ≤ 57 then b - 48 else if 97 ≤ b ∧ b ≤ 102 then b - 87 else -1

theorem bt_range (s : ByteArray) (i : Int) : 0 ≤ bt s i ∧ bt s i ≤ 255 := by
  unfold bt
  split
  · have := (s[i.toNat]).toNat_lt; omega
  · omega

theorem impl_value_nat : ∀ n : Nat, n < 256 → Lib.indexByte (⟨#[48, 49, 50, 51, 52, 53, 54, 55, 56, 57, 97, 98, 99, 100, 101, 102]⟩ : ByteArray).data.toList n.toUInt8 = digitOf n := by
  decide +kernel

theorem impl_value (b : Int) (h : 0 ≤ b ∧ b ≤ 255) : strings_IndexByte.f (⟨#[48, 49, 50, 51, 52, 53, 54, 55, 56, 57, 97, 98, 99, 100, 101, 102]⟩ : ByteArray) b = some (digitOf b) := by
  obtain ⟨n, rfl⟩ := Int.eq_ofNat_of_zero_le h.1
  unfold strings_IndexByte.f
  rw [Int.toNat_natCast, impl_value_nat n (by omega)]

theorem digitOf_range (b : Int) : -1 ≤ digitOf b ∧ digitOf b ≤ 15 := by
  unfold digitOf
  split
  · omega
  · split <;> omega

/-- One round of both loops. -/
def roundOf (a b : Int) (x : List Int) (go : List Int → Option (List Int × Bool)) : Option (List Int × Bool) :=
  if digitOf a < 0 then some ([], false) else if digitOf b < 0 then some ([], false) else go (x ++ [(16 * digitOf a + digitOf b) % 256])

theorem impl_round (s : ByteArray) (i : Nat) (x4 : List Int) (hn : s.size ≤ 1099511627776) (h : i + 1 < s.size) (hl : x4.length ≤ i) (k : Nat) :
    impl_FromHex.l0 (k + 1) s x4 (i : Int) = roundOf (bt s i) (bt s (i + 1 : Nat)) x4 fun x => impl_FromHex.l0 k s x (i + 2 : Nat) := by
  have e1 : wrap64 ((i : Int) + 1) = ((i + 1 : Nat) : Int) := by rw [wrap_in _ (by omega) (by omega)]; omega
  have e2 : wrap64 ((i : Int) + 2) = ((i + 2 : Nat) : Int) := by rw [wrap_in _ (by omega) (by omega)]; omega
  have ra := bt_range s (i : Int)
  have rb := bt_range s ((i + 1 : Nat) : Int)
  have da := digitOf_range (bt s (i : Int))
  have db := digitOf_range (bt s ((i + 1 : Nat) : Int))
  unfold roundOf
  simp only [impl_FromHex.l0]
  rw [if_pos (by omega), if_pos (by omega), impl_value _ ra, e1, e2]
  simp only [Option.bind_some]
  rw [if_pos (by omega), if_pos (by omega), impl_value _ rb]
  simp only [Option.bind_some]
  rw [if_pos (show x4.length < 140737488355328 by omega)]
  generalize digitOf (bt s (i : Int)) = u at *
  generalize digitOf (bt s ((i + 1 : Nat) : Int)) = v at *
  rw [wrap_in (u * 16) (by omega) (by omega), wrap_in _ (by omega) (by omega), Int.mul_comm u 16]

/-- What both loops give: d pairs of digits from i on, behind what is there. -/
def hexGo (s : ByteArray) : Nat → Nat → List Int → List Int × Bool
  | 0, _, acc => (acc, true)
  | d + 1, i, acc => if digitOf (bt s (i : Int)) < 0 then ([], false) else if digitOf (bt s ((i + 1 : Nat) : Int)) < 0 then ([], false) else hexGo s d (i + 2) (acc ++ [(16 * digitOf (bt s (i : Int)) + digitOf (bt s ((i + 1 : Nat) : Int))) % 256])
theorem hexGo_length (s : ByteArray) : ∀ (d i : Nat) (acc : List Int), (hexGo s d i acc).1.length ≤ acc.length + d
  | 0, _, _ => Nat.le_refl _
  | d + 1, i, acc => by
    unfold hexGo
    split
    · simp
    · split
      · simp
      · have := hexGo_length s d (i + 2) (acc ++ [(16 * digitOf (bt s (i : Int)) + digitOf (bt s ((i + 1 : Nat) : Int))) % 256])
        rw [List.length_append, List.length_singleton] at this
        omega
theorem hexGo_range (s : ByteArray) : ∀ (d i : Nat) (acc : List Int), (∀ x ∈ acc, 0 ≤ x ∧ x ≤ 255) → ∀ x ∈ (hexGo s d i acc).1, 0 ≤ x ∧ x ≤ 255
  | 0, _, _, h => h
  | d + 1, i, acc, h => by
    unfold hexGo
    split
    · intro x hx; cases hx
    · split
      · intro x hx; cases hx
      · refine hexGo_range s d (i + 2) _ fun x hx => ?_
        rcases List.mem_append.1 hx with hx | hx
        · exact h x hx
        · obtain rfl := List.mem_singleton.1 hx
          omega

theorem impl_hexGo (s : ByteArray) (hn : s.size ≤ 1099511627776) : ∀ (d i : Nat) (x4 : List Int), i ≤ s.size → s.size - i = 2 * d → x4.length ≤ i →
    ∀ k, d + 1 < k → impl_FromHex.l0 k s x4 (i : Int) = some (hexGo s d i x4) := by
  intro d
  induction d with
  | zero =>
    intro i x4 hi hd hl k hk
    obtain ⟨k, rfl⟩ : ∃ m, k = m + 1 := ⟨k - 1, by omega⟩
    simp only [impl_FromHex.l0]
    rw [if_neg (by omega)]
    rfl
  | succ d ih =>
    intro i x4 hi hd hl k hk
    have hI := fun k => impl_round s i x4 hn (by omega) hl k
    unfold hexGo
    generalize bt s (i : Int) = a at hI ⊢
    generalize bt s ((i + 1 : Nat) : Int) = b at hI ⊢
    have h1 := ih (i + 2) (x4 ++ [(16 * digitOf a + digitOf b) % 256]) (by omega) (by omega) (by simp; omega)
    unfold roundOf at hI
    obtain ⟨k, rfl⟩ : ∃ m, k = m + 1 := ⟨k - 1, by omega⟩
    rw [hI k]
    by_cases c1 : digitOf a < 0
    · rw [if_pos c1, if_pos c1]
    · rw [if_neg c1, if_neg c1]
      by_cases c2 : digitOf b < 0
      · rw [if_pos c2, if_pos c2]
      · rw [if_neg c2, if_neg c2]
        exact h1 k (by omega)

/-- What both give. -/
def fromHexOf (s : ByteArray) : List Int × Bool := if s.size % 2 = 1 then ([], false) else hexGo s (s.size / 2) 0 []
theorem fromHexOf_length (s : ByteArray) : (fromHexOf s).1.length ≤ s.size := by
  unfold fromHexOf
  split
  · simp
  · have := hexGo_length s (s.size / 2) 0 []
    simp only [List.length_nil] at this
    omega
theorem fromHexOf_range (s : ByteArray) : ∀ x ∈ (fromHexOf s).1, 0 ≤ x ∧ x ≤ 255 := by
  unfold fromHexOf
  split
  · intro x hx; cases hx
  · exact hexGo_range s _ _ _ fun x hx => by cases hx
theorem impl_FromHex_all (s : ByteArray) (hn : s.size ≤ 1099511627776) (k : Nat) (hk : s.size + 2 < k) : impl_FromHex.f k s = some (fromHexOf s) := by
  unfold impl_FromHex.f fromHexOf
  by_cases h : s.size % 2 = 1
  · rw [if_neg (by omega), if_pos h]
  · rw [if_pos (by omega), if_neg h]
    exact impl_hexGo s hn (s.size / 2) 0 [] (by omega) (by omega) (by simp) k (by omega)
end Go.Proofs.YtklkaaaegnojkaaDoor.PureD
