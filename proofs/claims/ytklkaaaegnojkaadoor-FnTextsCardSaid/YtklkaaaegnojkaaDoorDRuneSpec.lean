/-
The reference's RuneBytes, in plain words.
-/
import Derived.Test.YtklkaaaegnojkaaDoorDx2
import Derived.Test.YtklkaaaegnojkaaDoorCommon
import Derived.Lib.RuneBytes
import Derived.Lib.Small
namespace Go.Proofs.YtklkaaaegnojkaaDoor.PureD
open Go Go.RowKit Go.Proofs.YtklkaaaegnojkaaDoor.Pure Go.Proofs.YtklkaaaegnojkaaDoor.PureD Go.Proofs.YtklkaaaegnojkaaDoor.D Go.Proofs.YtklkaaaegnojkaaDoorW.PrintWords Go.Proofs.YtklkaaaegnojkaaDoorW.PrintLast

theorem valid_eq (r : Int) : Lib.validRune r = true ↔ (0 ≤ r ∧ r < 55296) ∨ (57343 < r ∧ r ≤ 1114111) := by
  unfold Lib.validRune
  simp

theorem spec_rune (a : Int) (k : Nat) (hk : 0 < k) : spec_RuneBytes.f k a = if 0 ≤ a ∧ a ≤ 1114111 ∧ Lib.validRune a = true then some (Lib.encodeRuneZ a, true) else some ([], false) := by
  obtain ⟨k, rfl⟩ : ∃ m, k = m + 1 := ⟨k - 1, by omega⟩
  have hv := valid_eq a
  unfold spec_RuneBytes.f spec_l1In.f
  simp only [spec_RuneBytes.j0, if_true]
  by_cases h0 : a < 0
  · rw [if_pos h0, if_neg (by rw [hv]; omega)]
  · rw [if_neg h0]
    by_cases h1 : a > 1114111
    · rw [if_pos h1, if_neg (by rw [hv]; omega)]
    · rw [if_neg h1]
      have e1 : ∀ n : Int, 0 < n → Int.tdiv a n = a / n := fun n _ => Int.tdiv_eq_ediv_of_nonneg (by omega)
      by_cases hs : 55296 ≤ a ∧ a ≤ 57343
      · rw [if_pos (show a ≥ 55296 from hs.1), decide_eq_true hs.2]
        simp only [Option.bind_some, if_true]
        rw [if_neg (by rw [hv]; omega)]
      · have hb : ((if a ≥ 55296 then some (decide (a ≤ 57343)) else some false) : Option Bool) = some false := by
          by_cases h2 : a ≥ 55296
          · rw [if_pos h2, decide_eq_false (by omega)]
          · rw [if_neg h2]
        rw [hb]
        simp only [Option.bind_some, Bool.false_eq_true, if_false]
        rw [if_pos (show 0 ≤ a ∧ a ≤ 1114111 ∧ Lib.validRune a = true by rw [hv]; omega)]
        rw [e1 64 (by omega), e1 4096 (by omega), e1 262144 (by omega), wrap_in (a / 64) (by omega) (by omega), wrap_in (a / 4096) (by omega) (by omega), wrap_in (a / 262144) (by omega) (by omega)]
        rw [Int.tmod_eq_emod_of_nonneg (by omega), Int.tmod_eq_emod_of_nonneg (by omega), Int.tmod_eq_emod_of_nonneg (by omega)]
        rw [wrap_in (192 + a / 64) (by omega) (by omega), wrap_in (224 + a / 4096) (by omega) (by omega), wrap_in (240 + a / 262144) (by omega) (by omega), wrap_in (128 + a % 64) (by omega) (by omega), wrap_in (128 + a / 64 % 64) (by omega) (by omega), wrap_in (128 + a / 4096 % 64) (by omega) (by omega)]
        by_cases h3 : a < 128
        · rw [if_pos h3, Lib.encodeRuneZ_one (by omega) (by omega), show a % 256 = a by omega]
        · rw [if_neg h3]
          by_cases h4 : a < 2048
          · rw [if_pos h4, Lib.encodeRuneZ_two (by omega) (by omega), show (192 + a / 64) % 256 = 192 + a / 64 by omega, show (128 + a % 64) % 256 = 128 + a % 64 by omega]
          · rw [if_neg h4]
            by_cases h5 : a < 65536
            · rw [if_pos h5, Lib.encodeRuneZ_three (by omega), show (224 + a / 4096) % 256 = 224 + a / 4096 by omega, show (128 + a % 64) % 256 = 128 + a % 64 by omega, show (128 + a / 64 % 64) % 256 = 128 + a / 64 % 64 by omega]
            · rw [if_neg h5, Lib.encodeRuneZ_four (by omega) (by omega), show (240 + a / 262144) % 256 = 240 + a / 262144 by omega, show (128 + a % 64) % 256 = 128 + a % 64 by omega, show (128 + a / 64 % 64) % 256 = 128 + a / 64 % 64 by omega, show (128 + a / 4096 % 64) % 256 = 128 + a / 4096 % 64 by omega]

end Go.Proofs.YtklkaaaegnojkaaDoor.PureD
