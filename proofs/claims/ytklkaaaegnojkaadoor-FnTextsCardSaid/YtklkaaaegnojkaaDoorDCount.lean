/-
How many runes bytes have, as unicode/utf8.RuneCount tells it.
-/
import Derived.Test.YtklkaaaegnojkaaDoorDx1
import Derived.Lib.RuneCount
import Derived.Test.YtklkaaaegnojkaaDoorDRunes
namespace Go.Proofs.YtklkaaaegnojkaaDoor.PureD
open Go Go.RowKit Go.Proofs.YtklkaaaegnojkaaDoor.Pure Go.Proofs.YtklkaaaegnojkaaDoor.PureD Go.Proofs.YtklkaaaegnojkaaDoor.D Go.Proofs.YtklkaaaegnojkaaDoorW.PrintWords Go.Proofs.YtklkaaaegnojkaaDoorW.PrintLast Go.Proofs.YtklkaaaegnojkaaDoorW.PrintMore
set_option linter.unusedSectionVars false

theorem runesAt_count (s : ByteArray) : ∀ (a i : Nat), (runesAt s a i).length = Lib.runeCountFrom s a i
  | 0, _ => rfl
  | a + 1, i => by
    by_cases h : i < s.size
    · rw [runesAt_step s a i h, List.length_cons, runesAt_count s a]
      unfold Lib.runeCountFrom
      rw [if_pos h]
      cases a <;> simp [Lib.runeCountFrom] <;> omega
    · rw [runesAt_end s _ i h, Lib.runeCountFrom_end s _ i h]
      rfl

theorem strOfNums_drop (l : List Int) (i : Nat) : (strOfNums (l.drop i)).data.toList = (strOfNums l).data.toList.drop i := by
  simp [strOfNums, List.map_drop]

/-- The runes of what is left are the runes from there on. -/
theorem count_drop (l : List Int) (i : Nat) : ∀ (f j : Nat), i ≤ l.length → Lib.runeCountFrom (strOfNums (l.drop i)) f j = Lib.runeCountFrom (strOfNums l) f (i + j)
  | 0, _, _ => rfl
  | f + 1, j, hi => by
    have e : Utf8.decode (strOfNums (l.drop i)) j = Utf8.decode (strOfNums l) (i + j) := by
      rw [← decodeL_at, ← decodeL_at, strOfNums_drop, List.drop_drop]
    unfold Lib.runeCountFrom
    rw [e, strOfNums_size, strOfNums_size, List.length_drop, count_drop l i f _ hi, ← Nat.add_assoc]
    by_cases h : j < l.length - i
    · rw [if_pos h, if_pos (by omega)]
    · rw [if_neg h, if_neg (by omega)]

section
variable (l : List Int) (hw : ∀ x ∈ l, 0 ≤ x ∧ x ≤ 255) (hn : l.length ≤ 1048576)
include hw hn
theorem decode_low (i : Nat) (hi : i < l.length) (h : rd l (i : Int) < 128) : (Utf8.decode (strOfNums l) i).2 = 1 := by
  have hs : i < (strOfNums l).size := by rw [strOfNums_size]; exact hi
  have hg := get_all l hw hn i
  rw [rd_nat] at h
  have e : ((strOfNums l)[i]'hs) = (strOfNums l).get! i := by
    rw [← Lib.getD_get!']
    have : i < (strOfNums l).data.toList.length := by rw [← Lib.size_eq]; exact hs
    rw [List.getD_eq_getElem?_getD, List.getElem?_eq_getElem this, Option.getD_some]
    rfl
  rw [decode_ascii (strOfNums l) i hs (by rw [e]; omega)]

theorem count_go : ∀ (d k i : Nat), i ≤ l.length → l.length - i = d → d < k → utf8_RuneCount.l0 k l (l.length : Int) (i : Int) = some ((i + Lib.runeCountFrom (strOfNums l) (l.length - i) i : Nat) : Int) := by
  intro d
  induction d with
  | zero =>
    intro k i hi hd hk
    obtain ⟨k, rfl⟩ : ∃ m, k = m + 1 := ⟨k - 1, by omega⟩
    simp only [utf8_RuneCount.l0]
    rw [if_neg (by omega), hd]
    rfl
  | succ d ih =>
    intro k i hi hd hk
    obtain ⟨k, rfl⟩ : ∃ m, k = m + 1 := ⟨k - 1, by omega⟩
    have hlt : i < l.length := by omega
    simp only [utf8_RuneCount.l0]
    rw [if_pos (by omega), if_pos (by omega), if_pos (by omega)]
    by_cases h : rd l (i : Int) ≥ 128
    · rw [if_pos h, if_pos (by omega)]
      have hb := Lib.runeCount_le (strOfNums (l.drop i))
      have hz : (strOfNums (l.drop i)).size = l.length - i := by rw [strOfNums_size, List.length_drop]
      unfold utf8_RuneCountInString.f
      rw [Int.toNat_natCast, if_pos (by omega), Option.bind_some, wrap_in _ (by omega) (by omega)]
      unfold Lib.runeCount
      rw [hz, count_drop l i _ 0 hi, Nat.add_zero, Int.natCast_add]
    · rw [if_neg h, wrap_in _ (by omega) (by omega), show (i : Int) + 1 = ((i + 1 : Nat) : Int) by omega, ih k (i + 1) (by omega) (by omega) (by omega)]
      have hd1 := decode_low l hw hn i hlt (by omega)
      rw [show l.length - i = (l.length - (i + 1)) + 1 by omega]
      have hu : Lib.runeCountFrom (strOfNums l) (l.length - (i + 1) + 1) i = 1 + Lib.runeCountFrom (strOfNums l) (l.length - (i + 1)) (i + 1) := by
        show (if i < (strOfNums l).size then 1 + Lib.runeCountFrom (strOfNums l) (l.length - (i + 1)) (i + (Utf8.decode (strOfNums l) i).2) else 0) = _
        rw [hd1, if_pos (by rw [strOfNums_size]; exact hlt)]
      rw [hu]
      exact congrArg (fun z : Nat => some (z : Int)) (by omega)

theorem RuneCount_all (k : Nat) (hk : l.length < k) : utf8_RuneCount.f k l = some (((runesAt (strOfNums l) l.length 0).length : Nat) : Int) := by
  have hc := count_go l hw hn l.length k 0 (Nat.zero_le _) rfl hk
  rw [Nat.sub_zero, Nat.zero_add] at hc
  unfold utf8_RuneCount.f
  rw [runesAt_count, show (0 : Int) = ((0 : Nat) : Int) from rfl, hc]
end
end Go.Proofs.YtklkaaaegnojkaaDoor.PureD
