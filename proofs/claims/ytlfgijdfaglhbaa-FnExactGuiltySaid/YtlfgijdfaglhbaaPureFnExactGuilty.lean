/-
The program's Guilty and the reference's Guilty answer the same of every list of findings that the law's bound lets in; the list reads as it did.
-/
import Derived.Test.YtlfgijdfaglhbaaMx3
import Derived.Test.YtlfgijdfaglhbaaMx4
import Derived.Test.YtlfgijdfaglhbaaCommon
namespace Go.Proofs.Ytlfgijdfaglhbaa.Pure
open Go Go.RowKit Go.Proofs.Ytlfgijdfaglhbaa.M Go.Proofs.YtlfgijdfaglhbaaW.PrintWords Go.Proofs.YtlfgijdfaglhbaaW.PrintLast Go.Proofs.YtlfgijdfaglhbaaW.PrintMore

theorem rdF_mem {xs : List S47} {i : Nat} (h : i < xs.length) : rd_T47 xs (i : Int) ∈ xs := by
  unfold rd_T47
  rw [Int.toNat_natCast, List.getD_eq_getElem?_getD, List.getElem?_eq_getElem h]
  simp

theorem szFindingS_go (x0 : List S47) (hn : x0.length ≤ maxLen) (hw : ∀ x ∈ x0, x.f0.size ≤ maxLen) : ∀ (d k i : Nat) (left : Int), 0 ≤ left → left ≤ 1048576 → i ≤ x0.length → x0.length - i = d → d < k →
    ∃ r, laws_szFindingS.l0 k x0 left (i : Int) = some r := by
  unfold maxLen at hn hw
  intro d
  induction d with
  | zero =>
    intro k i left h0 h1 hi hd hk
    obtain ⟨k, rfl⟩ : ∃ m, k = m + 1 := ⟨k - 1, by omega⟩
    simp only [laws_szFindingS.l0]
    exact ⟨left, by rw [if_neg (by omega)]⟩
  | succ d ih =>
    intro k i left h0 h1 hi hd hk
    obtain ⟨k, rfl⟩ : ∃ m, k = m + 1 := ⟨k - 1, by omega⟩
    have hlt : i < x0.length := by omega
    have hs := hw _ (rdF_mem hlt)
    simp only [laws_szFindingS.l0]
    rw [if_pos (by omega), if_pos (by omega)]
    unfold laws_szFinding.f
    rw [wrap_in (left - _) (by omega) (by omega)]
    split
    · exact ⟨-1, by simp⟩
    · simp only [Option.bind_some]
      rw [if_neg (by omega), wrap_in _ (by omega) (by omega)]
      exact ih k (i + 1) _ (by omega) (by omega) (by omega) (by omega) (by omega)

theorem szFindingS_all (l : List S47) (hn : l.length ≤ maxLen) (hw : ∀ x ∈ l, x.f0.size ≤ maxLen) (k : Nat) (hk : l.length < k) : ∃ r, laws_szFindingS.f k l 1048576 = some r ∧ (0 ≤ r → l.length ≤ 1048576) := by
  have hn' := hn
  unfold maxLen at hn'
  unfold laws_szFindingS.f
  rw [wrap_in _ (by omega) (by omega)]
  split
  · exact ⟨-1, rfl, by omega⟩
  · obtain ⟨r, hr⟩ := szFindingS_go l hn hw l.length k 0 (1048576 - l.length) (by omega) (by omega) (by omega) (by omega) hk
    exact ⟨r, hr, fun _ => by omega⟩

def toF (x : S47) : S48 := ⟨x.f0, x.f1⟩

theorem toFindingS_go (x0 : List S47) (hn : x0.length ≤ 1048576) : ∀ (d k i : Nat) (x3 : List S48), x3.length = x0.length → i ≤ x0.length → x0.length - i = d → d < k →
    x3.take i = (x0.map toF).take i → laws_toFindingS.l0 k x0 x3 (i : Int) = some (x0.map toF) := by
  intro d
  induction d with
  | zero =>
    intro k i x3 hl hi hd hk ht
    obtain ⟨k, rfl⟩ : ∃ m, k = m + 1 := ⟨k - 1, by omega⟩
    simp only [laws_toFindingS.l0]
    rw [if_neg (by omega)]
    rw [List.take_of_length_le (by omega), List.take_of_length_le (by simp; omega)] at ht
    rw [ht]
  | succ d ih =>
    intro k i x3 hl hi hd hk ht
    obtain ⟨k, rfl⟩ : ∃ m, k = m + 1 := ⟨k - 1, by omega⟩
    have hlt : i < x0.length := by omega
    simp only [laws_toFindingS.l0]
    rw [if_pos (by omega), if_pos (by omega)]
    unfold laws_toFinding.f
    simp only [Option.bind_some]
    rw [if_pos (by omega), wrap_in _ (by omega) (by omega)]
    refine ih k (i + 1) _ (by simp [hl]) (by omega) (by omega) (by omega) ?_
    rw [Int.toNat_natCast, List.take_add_one, List.take_set_of_le (Nat.le_refl _), List.getElem?_set_self (by omega), ht, List.take_add_one, List.getElem?_map, List.getElem?_eq_getElem hlt]
    unfold rd_T47 toF
    rw [Int.toNat_natCast, List.getD_eq_getElem?_getD, List.getElem?_eq_getElem hlt]
    simp

theorem toFindingS_all (l : List S47) (hn : l.length ≤ 1048576) (k : Nat) (hk : l.length < k) : laws_toFindingS.f k l = some (l.map toF) := by
  unfold laws_toFindingS.f
  rw [if_pos (by omega), if_pos (by omega)]
  exact toFindingS_go l hn l.length k 0 _ (by simp) (by omega) (by omega) hk (by simp)

theorem eqFindingS_go (x0 : List S48) (hn : x0.length ≤ 1099511627776) : ∀ (d k i : Nat), i ≤ x0.length → x0.length - i = d → d < k → laws_eqFindingS.l0 k x0 x0 (i : Int) = some true := by
  intro d
  induction d with
  | zero =>
    intro k i hi hd hk
    obtain ⟨k, rfl⟩ : ∃ m, k = m + 1 := ⟨k - 1, by omega⟩
    simp only [laws_eqFindingS.l0]
    rw [if_neg (by omega)]
  | succ d ih =>
    intro k i hi hd hk
    obtain ⟨k, rfl⟩ : ∃ m, k = m + 1 := ⟨k - 1, by omega⟩
    simp only [laws_eqFindingS.l0, laws_eqFinding.f]
    rw [if_pos (by omega), if_pos (by omega), if_pos (by omega), if_pos trivial, if_pos trivial]
    simp only [Option.bind_some, if_true]
    rw [wrap_in _ (by omega) (by omega)]
    exact ih k (i + 1) (by omega) (by omega) (by omega)

theorem eqFindingS_self (l : List S48) (hn : l.length ≤ 1099511627776) (k : Nat) (hk : l.length < k) : laws_eqFindingS.f k l l = some true := by
  unfold laws_eqFindingS.f
  rw [if_pos rfl]
  exact eqFindingS_go l hn l.length k 0 (by omega) (by omega) hk

/-- Both walks along the list: the reference's answer is whether the program's place is not -1. -/
theorem guilty_go (x0 : List S48) (hn : x0.length ≤ 1099511627776) : ∀ (d k i : Nat), i ≤ x0.length → x0.length - i = d → d < k →
    ∃ j : Int, slices_IndexFunc_impl_Guilty_1.l0 k x0 (x0.length : Int) (i : Int) = some j ∧ spec_Guilty.l0 k x0 (i : Int) = some (decide (j ≥ 0)) := by
  intro d
  induction d with
  | zero =>
    intro k i hi hd hk
    obtain ⟨k, rfl⟩ : ∃ m, k = m + 1 := ⟨k - 1, by omega⟩
    simp only [slices_IndexFunc_impl_Guilty_1.l0, spec_Guilty.l0]
    exact ⟨-1, by rw [if_neg (by omega)], by rw [if_neg (by omega)]; rfl⟩
  | succ d ih =>
    intro k i hi hd hk
    obtain ⟨k, rfl⟩ : ∃ m, k = m + 1 := ⟨k - 1, by omega⟩
    have e1 : slices_IndexFunc_impl_Guilty_1.l0 (k + 1) x0 (x0.length : Int) (i : Int) = if (rd_T48 x0 (i : Int)).f1 = 3 then some (i : Int) else slices_IndexFunc_impl_Guilty_1.l0 k x0 (x0.length : Int) ((i + 1 : Nat) : Int) := by
      simp only [slices_IndexFunc_impl_Guilty_1.l0, impl_Guilty_1.f, Option.bind_some, beq_iff_eq]
      rw [if_pos (by omega), if_pos (by omega), if_pos (by omega), wrap_in ((i : Int) + 1) (by omega) (by omega)]
      rfl
    have e2 : spec_Guilty.l0 (k + 1) x0 (i : Int) = if (rd_T48 x0 (i : Int)).f1 = 3 then some true else spec_Guilty.l0 k x0 ((i + 1 : Nat) : Int) := by
      simp only [spec_Guilty.l0]
      rw [if_pos (by omega), if_pos (by omega), wrap_in ((i : Int) + 1) (by omega) (by omega)]
      rfl
    rw [e1, e2]
    by_cases h : (rd_T48 x0 (i : Int)).f1 = 3
    · exact ⟨i, by rw [if_pos h], by rw [if_pos h, decide_eq_true (by omega)]⟩
    · obtain ⟨j, h1, h2⟩ := ih k (i + 1) (by omega) (by omega) (by omega)
      exact ⟨j, by rw [if_neg h]; exact h1, by rw [if_neg h]; exact h2⟩

theorem guilty_same (l : List S48) (hn : l.length ≤ 1099511627776) (k : Nat) (hk : l.length < k) : ∃ b, spec_Guilty.f k l = some b ∧ impl_Guilty.f k l = some b := by
  obtain ⟨j, h1, h2⟩ := guilty_go l hn l.length k 0 (by omega) (by omega) hk
  refine ⟨decide (j ≥ 0), h2, ?_⟩
  unfold impl_Guilty.f slices_ContainsFunc_impl_Guilty_1.f slices_IndexFunc_impl_Guilty_1.f
  have h1' : slices_IndexFunc_impl_Guilty_1.l0 k l (l.length : Int) 0 = some j := h1
  rw [h1']
  rfl

theorem FnExactGuilty : laws_FnExactGuilty.Pure := by
  intro l ⟨hn, hw⟩
  refine ⟨l.length + 2, ?_⟩
  unfold laws_FnExactGuilty.f
  obtain ⟨r, h1, h2⟩ := szFindingS_all l hn (fun x hx => (hw x hx).1) (l.length + 2) (by omega)
  rw [h1]
  simp only [Option.bind_some]
  by_cases h : r < 0
  · rw [if_pos h]
  · have hl := h2 (by omega)
    rw [if_neg h, toFindingS_all l hl _ (by omega)]
    simp only [Option.bind_some]
    obtain ⟨b, hs, hi⟩ := guilty_same (l.map toF) (by simp; omega) (l.length + 2) (by simp)
    rw [hs]
    simp only [Option.bind_some]
    rw [hi]
    simp only [Option.bind_some]
    rw [if_neg (by simp), eqFindingS_self _ (by simp; omega) _ (by simp)]
    simp

end Go.Proofs.Ytlfgijdfaglhbaa.Pure
