/-
The program's RuneBytes and the reference's RuneBytes give the same bytes and the same flag of every number; what is given back is new memory.
-/
import Derived.Test.YtlfgijdfaglhbaaRx1
import Derived.Test.YtlfgijdfaglhbaaRx2
import Derived.Test.YtlfgijdfaglhbaaRBytes
import Derived.Test.YtlfgijdfaglhbaaRMarks
import Derived.Lib.RuneBytes
import Derived.Lib.Small
namespace Go.Proofs.Ytlfgijdfaglhbaa.PureR
open Go Go.RowKit Go.Proofs.Ytlfgijdfaglhbaa.Pure Go.Proofs.Ytlfgijdfaglhbaa.PureR Go.Proofs.Ytlfgijdfaglhbaa.R Go.Proofs.YtlfgijdfaglhbaaW.PrintWords Go.Proofs.YtlfgijdfaglhbaaW.PrintLast

theorem valid_eq (r : Int) : Lib.validRune r = true ↔ (0 ≤ r ∧ r < 55296) ∨ (57343 < r ∧ r ≤ 1114111) := by
  unfold Lib.validRune
  simp

theorem encode_bytes (r : Int) (h : Lib.validRune r = true) : bytesOf (Utf8.encode r) = Lib.encodeRuneZ r := by
  rw [valid_eq] at h
  have hv : Utf8.valid r = true := by
    unfold Utf8.valid
    simp
    omega
  obtain ⟨n, rfl⟩ := Int.eq_ofNat_of_zero_le (by omega : 0 ≤ r)
  unfold Utf8.encode bytesOf
  simp only [hv, if_true, Int.toNat_natCast]
  split
  · rw [Lib.encodeRuneZ_one (by omega) (by omega)]
    simp
    omega
  · split
    · rw [Lib.encodeRuneZ_two (by omega) (by omega)]
      simp
      omega
    · split
      · rw [Lib.encodeRuneZ_three (by omega)]
        simp
        omega
      · rw [Lib.encodeRuneZ_four (by omega) (by omega)]
        simp
        omega

theorem spec_rune (a : Int) (k : Nat) (hk : 0 < k) : spec_RuneBytes.f k a = if 0 ≤ a ∧ a ≤ 1114111 ∧ Lib.validRune a = true then some (Lib.encodeRuneZ a, true) else some ([], false) := by
  obtain ⟨k, rfl⟩ : ∃ m, k = m + 1 := ⟨k - 1, by omega⟩
  have hv := valid_eq a
  unfold spec_RuneBytes.f spec_l1In.f
  simp only [spec_RuneBytes.j0, if_true]
  by_cases h0 : a < 0
  · rw [if_pos h0, if_neg (by rw [hv]; omega)]
  · rw [if_neg h0]
    by_cases h1 : a > 1114111
    · rw [if_pos h1, if_neg (by rw [hv]; omega)]
    · rw [if_neg h1]
      have e1 : ∀ n : Int, 0 < n → Int.tdiv a n = a / n := fun n _ => Int.tdiv_eq_ediv_of_nonneg (by omega)
      by_cases hs : 55296 ≤ a ∧ a ≤ 57343
      · rw [if_pos (show a ≥ 55296 from hs.1), decide_eq_true hs.2]
        simp only [Option.bind_some, if_true]
        rw [if_neg (by rw [hv]; omega)]
      · have hb : ((if a ≥ 55296 then some (decide (a ≤ 57343)) else some false) : Option Bool) = some false := by
          by_cases h2 : a ≥ 55296
          · rw [if_pos h2, decide_eq_false (by omega)]
          · rw [if_neg h2]
        rw [hb]
        simp only [Option.bind_some, Bool.false_eq_true, if_false]
        rw [if_pos (show 0 ≤ a ∧ a ≤ 1114111 ∧ Lib.validRune a = true by rw [hv]; omega)]
        rw [e1 64 (by omega), e1 4096 (by omega), e1 262144 (by omega), wrap_in (a / 64) (by omega) (by omega), wrap_in (a / 4096) (by omega) (by omega), wrap_in (a / 262144) (by omega) (by omega)]
        rw [Int.tmod_eq_emod_of_nonneg (by omega), Int.tmod_eq_emod_of_nonneg (by omega), Int.tmod_eq_emod_of_nonneg (by omega)]
        rw [wrap_in (192 + a / 64) (by omega) (by omega), wrap_in (224 + a / 4096) (by omega) (by omega), wrap_in (240 + a / 262144) (by omega) (by omega), wrap_in (128 + a % 64) (by omega) (by omega), wrap_in (128 + a / 64 % 64) (by omega) (by omega), wrap_in (128 + a / 4096 % 64) (by omega) (by omega)]
        by_cases h3 : a < 128
        · rw [if_pos h3, Lib.encodeRuneZ_one (by omega) (by omega), show a % 256 = a by omega]
        · rw [if_neg h3]
          by_cases h4 : a < 2048
          · rw [if_pos h4, Lib.encodeRuneZ_two (by omega) (by omega), show (192 + a / 64) % 256 = 192 + a / 64 by omega, show (128 + a % 64) % 256 = 128 + a % 64 by omega]
          · rw [if_neg h4]
            by_cases h5 : a < 65536
            · rw [if_pos h5, Lib.encodeRuneZ_three (by omega), show (224 + a / 4096) % 256 = 224 + a / 4096 by omega, show (128 + a % 64) % 256 = 128 + a % 64 by omega, show (128 + a / 64 % 64) % 256 = 128 + a / 64 % 64 by omega]
            · rw [if_neg h5, Lib.encodeRuneZ_four (by omega) (by omega), show (240 + a / 262144) % 256 = 240 + a / 262144 by omega, show (128 + a % 64) % 256 = 128 + a % 64 by omega, show (128 + a / 64 % 64) % 256 = 128 + a / 64 % 64 by omega, show (128 + a / 4096 % 64) % 256 = 128 + a / 4096 % 64 by omega]

theorem rune_same (a : Int) : ∃ r : List Int × Bool, (∀ k, 0 < k → spec_RuneBytes.f k a = some r) ∧ impl_RuneBytes.f a = some r ∧ r.1.length ≤ 4 := by
  by_cases h : 0 ≤ a ∧ a ≤ 1114111 ∧ Lib.validRune a = true
  · refine ⟨(Lib.encodeRuneZ a, true), fun k hk => by rw [spec_rune a k hk, if_pos h], ?_, (Lib.encodeRuneZ_length a).2⟩
    unfold impl_RuneBytes.f
    rw [if_pos h, encode_bytes a h.2.2]
  · refine ⟨([], false), fun k hk => by rw [spec_rune a k hk, if_neg h], ?_, by simp⟩
    unfold impl_RuneBytes.f
    rw [if_neg h]

theorem RuneBytes_holds : laws_FnExactRuneBytes.Pure := by
  intro a _
  refine ⟨10, ?_⟩
  unfold laws_FnExactRuneBytes.f
  obtain ⟨⟨l, ok⟩, h1, h2, h3⟩ := rune_same a
  simp only at h3
  rw [h1 _ (by omega), h2]
  simp only [Option.bind_some]
  rw [eqByteS_self l (by omega) _ (by omega)]
  simp only [Option.bind_some, if_true, laws_FnExactRuneBytes.j0, bne_self_eq_false, Bool.false_eq_true, if_false]
  rw [markByteS_all l (by omega) 1 (by omega) (by omega) _ (by omega)]
  simp only [Option.bind_some]
  rw [heldByteS_all l (by omega) 1 (by omega) (by omega) _ (by omega)]
  simp only [Option.bind_some, if_true]
  rw [if_neg (by omega), h2]
  simp only [Option.bind_some]
  rw [eqByteS_self l (by omega) _ (by omega)]
  simp only [Option.bind_some, if_true, laws_FnExactRuneBytes.j1, bne_self_eq_false, Bool.false_eq_true, if_false]
  rw [heldByteS_all l (by omega) 1 (by omega) (by omega) _ (by omega)]
  simp only [Option.bind_some, if_true]
  rw [if_neg (by omega)]

end Go.Proofs.Ytlfgijdfaglhbaa.PureR
namespace Go.Proofs.Ytlfgijdfaglhbaa.Pure
theorem FnExactRuneBytes : Go.Proofs.Ytlfgijdfaglhbaa.R.laws_FnExactRuneBytes.Pure := Go.Proofs.Ytlfgijdfaglhbaa.PureR.RuneBytes_holds
end Go.Proofs.Ytlfgijdfaglhbaa.Pure
