/-
The program's FirstRunes gives: of plain bytes the bytes of the first runes, of others the first bytes.
-/
import Derived.Test.YtklkaaaegnojkaaDoorDx3
import Derived.Test.YtklkaaaegnojkaaDoorDPlain
import Derived.Test.YtklkaaaegnojkaaDoorDCount
import Derived.Test.YtklkaaaegnojkaaDoorDEncBytes
namespace Go.Proofs.YtklkaaaegnojkaaDoor.PureD
open Go Go.RowKit Go.Proofs.YtklkaaaegnojkaaDoor.Pure Go.Proofs.YtklkaaaegnojkaaDoor.PureD Go.Proofs.YtklkaaaegnojkaaDoor.D Go.Proofs.YtklkaaaegnojkaaDoorW.PrintWords Go.Proofs.YtklkaaaegnojkaaDoorW.PrintLast Go.Proofs.YtklkaaaegnojkaaDoorW.PrintMore
set_option linter.unusedSectionVars false

/-- What both give. -/
def firstOf (l : List Int) (n : Int) : List Int × Bool := if n < 0 then ([], false) else if plainOf l = true then (encAll ((runesOf l).1.take n.toNat), true) else (l.take n.toNat, true)

theorem encAll_le (rs : List Int) : (encAll rs).length ≤ 4 * rs.length := by
  induction rs with
  | nil => exact Nat.le_refl _
  | cons r rs ih =>
    have := (Lib.encodeRuneZ_length r).2
    rw [encAll_cons, List.length_append, List.length_cons]
    omega

section
variable (l : List Int) (hw : ∀ x ∈ l, 0 ≤ x ∧ x ≤ 255) (hn : l.length ≤ 1048576)
include hw hn
theorem plain_valid (h : plainOf l = true) : (runesOf l).2 = true := by
  unfold plainOf at h
  exact (Bool.and_eq_true _ _ ▸ h : _ ∧ _).1
theorem runesOf_at (h : (runesOf l).2 = true) : (runesOf l).1 = runesAt (strOfNums l) l.length 0 := by
  unfold runesOf at h ⊢
  split
  · rfl
  · rename_i hc
    rw [if_neg hc] at h
    cases h

theorem Runes_go : ∀ (d k i : Nat) (P : List Int), i ≤ l.length → l.length - i ≤ d → d < k → P.length ≤ i →
    bytes_Runes.l0 k (l.drop i) (P ++ List.replicate (runesAt (strOfNums l) (l.length - i) i).length 0) (P.length : Int) = some (P ++ runesAt (strOfNums l) (l.length - i) i) := by
  have hsz := strOfNums_size l
  have hend : ∀ (k i : Nat) (P : List Int), i = l.length → 0 < k → bytes_Runes.l0 k (l.drop i) (P ++ List.replicate (runesAt (strOfNums l) (l.length - i) i).length 0) (P.length : Int) = some (P ++ runesAt (strOfNums l) (l.length - i) i) := by
    intro k i P hi hk
    obtain ⟨k, rfl⟩ : ∃ m, k = m + 1 := ⟨k - 1, by omega⟩
    rw [runesAt_end _ _ _ (by omega), List.drop_eq_nil_of_le (by omega)]
    simp only [bytes_Runes.l0]
    rw [if_neg (by simp)]
    rfl
  intro d
  induction d with
  | zero => exact fun k i P hi hd hk hP => hend k i P (by omega) (by omega)
  | succ d ih =>
    intro k i P hi hd hk hP
    by_cases he : i = l.length
    · exact hend k i P he (by omega)
    · obtain ⟨k, rfl⟩ : ∃ m, k = m + 1 := ⟨k - 1, by omega⟩
      have hlen : (l.drop i).length = l.length - i := List.length_drop
      have hbo : bytesOnly (l.drop i) = true := bytesOnly_of (l.drop i) (fun x hx => hw x (List.mem_of_mem_drop hx))
      have hdec : Lib.decodeGo (strOfNums (l.drop i)) = Utf8.decode (strOfNums l) i := by
        unfold Lib.decodeGo
        rw [if_neg (by rw [strOfNums_size]; omega), ← decodeL_at, ← decodeL_at, strOfNums_drop, List.drop_zero]
      have hwd := Lib.width_pos (strOfNums l) i
      have hwn := decode_within (strOfNums l) i (by omega)
      have hfu := runesAt_fuel (strOfNums l) (l.length - i) ((l.length - i - 1) + 1) i (by omega) (by omega)
      rw [hfu, runesAt_step _ _ i (by omega)]
      have hD : utf8_DecodeRune.f (l.drop i) = some (((Utf8.decode (strOfNums l) i).1 : Int), ((Utf8.decode (strOfNums l) i).2 : Int)) := by
        unfold utf8_DecodeRune.f
        rw [if_pos ⟨hbo, by omega⟩, hdec]
      have hfu2 := runesAt_fuel (strOfNums l) (l.length - i - 1) (l.length - (i + (Utf8.decode (strOfNums l) i).2)) (i + (Utf8.decode (strOfNums l) i).2) (by omega) (by omega)
      rw [hfu2]
      generalize hR : (Utf8.decode (strOfNums l) i).1 = R at *
      generalize hK : (Utf8.decode (strOfNums l) i).2 = K at *
      have hih := ih k (i + K) (P ++ [(R : Int)]) (by omega) (by omega) (by omega) (by rw [List.length_append, List.length_singleton]; omega)
      generalize runesAt (strOfNums l) (l.length - (i + K)) (i + K) = L at *
      simp only [bytes_Runes.l0]
      rw [if_pos (by omega), hD, Option.bind_some, if_pos (by omega), if_pos (by rw [List.length_append, List.length_replicate, List.length_cons]; omega), if_pos (by show 0 ≤ (K : Int); omega), if_pos (by show (K : Int) ≤ _; omega)]
      show bytes_Runes.l0 k ((l.drop i).drop (K : Int).toNat) ((P ++ List.replicate (L.length + 1) 0).set (P.length : Int).toNat (R : Int)) (wrap64 ((P.length : Int) + 1)) = _
      rw [Int.toNat_natCast, Int.toNat_natCast, List.drop_drop, wrap_in _ (by omega) (by omega), List.replicate_succ, List.set_append_right _ _ (Nat.le_refl _), Nat.sub_self, List.set_cons_zero]
      have e1 : P ++ (R : Int) :: List.replicate L.length 0 = (P ++ [(R : Int)]) ++ List.replicate L.length 0 := by simp
      have e2 : (P.length : Int) + 1 = ((P ++ [(R : Int)]).length : Int) := by simp
      rw [e1, e2, hih]
      simp

theorem Runes_all (k : Nat) (hk : l.length < k) : bytes_Runes.f k l = some (runesAt (strOfNums l) l.length 0) := by
  have hl := runesAt_length (strOfNums l) l.length 0
  have hg := Runes_go l hw hn l.length k 0 [] (Nat.zero_le _) (by omega) hk (Nat.le_refl _)
  unfold bytes_Runes.f
  rw [RuneCount_all l hw hn k hk, Option.bind_some, if_pos (by omega), Int.toNat_natCast, if_pos (by omega)]
  rw [List.drop_zero, Nat.sub_zero, List.nil_append, List.nil_append] at hg
  exact hg

theorem impl_FirstRunes_all (n : Int) (k : Nat) (hk : 8 * l.length + 8 ≤ k) : impl_FirstRunes.f k l n = some (firstOf l n) := by
  unfold impl_FirstRunes.f firstOf
  have hmn : ∀ m : Nat, 0 ≤ n → 0 ≤ mn n (m : Int) ∧ mn n (m : Int) ≤ (m : Int) ∧ ∀ x : List Int, x.length = m → x.take (mn n (m : Int)).toNat = x.take n.toNat := by
    intro m h0
    unfold mn
    by_cases h : (m : Int) < n
    · rw [if_pos h]
      exact ⟨by omega, Int.le_refl _, fun x hx => by rw [Int.toNat_natCast, List.take_of_length_le (by omega), List.take_of_length_le (by omega)]⟩
    · rw [if_neg h]
      exact ⟨h0, by omega, fun _ _ => rfl⟩
  by_cases h0 : n < 0
  · rw [if_pos h0, if_pos h0]
  · rw [if_neg h0, if_neg h0, impl_Plain_all l hw hn k hk, Option.bind_some]
    by_cases hp : plainOf l = true
    · have hpv := plain_valid l hw hn hp
      have hat := runesOf_at l hw hn hpv
      have hl := runesOf_length l
      have hv := (runes_bytes l hw hpv).2
      obtain ⟨h1, h2, h3⟩ := hmn (runesOf l).1.length (by omega)
      have hsz := runesBytes_size_le ((runesOf l).1.take n.toNat)
      have htl : ((runesOf l).1.take n.toNat).length ≤ (runesOf l).1.length := by rw [List.length_take]; omega
      rw [if_pos hp, if_pos hp, Runes_all l hw hn k (by omega), ← hat, Option.bind_some, if_pos h1, if_pos h2, Option.bind_some, h3 _ rfl, if_pos (by omega), runesBytes_enc _ (fun r hr => hv r (List.mem_of_mem_take hr))]
    · obtain ⟨h1, h2, h3⟩ := hmn l.length (by omega)
      rw [if_neg hp, if_neg hp, if_pos h1, if_pos h2, h3 l rfl]
      unfold bytes_Clone.f
      rw [if_pos (by rw [List.length_take]; omega), Option.bind_some]
theorem firstOf_length (n : Int) : (firstOf l n).1.length ≤ 4 * l.length := by
  unfold firstOf
  split
  · simp
  · split
    · have h1 := encAll_le ((runesOf l).1.take n.toNat)
      have hl := runesOf_length l
      rw [List.length_take] at h1
      show (encAll _).length ≤ _
      omega
    · show (l.take n.toNat).length ≤ _
      rw [List.length_take]
      omega
end
end Go.Proofs.YtklkaaaegnojkaaDoor.PureD
