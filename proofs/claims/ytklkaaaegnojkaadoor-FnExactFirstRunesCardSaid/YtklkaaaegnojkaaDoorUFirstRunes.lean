/-
Both FirstRunes give the same bytes: of plain bytes the bytes of the first runes, of others the first bytes.
-/
import Derived.Test.YtklkaaaegnojkaaDoorUx7
import Derived.Test.YtklkaaaegnojkaaDoorUPlain
import Derived.Test.YtklkaaaegnojkaaDoorUCount
import Derived.Test.YtklkaaaegnojkaaDoorUEncBytes
namespace Go.Proofs.YtklkaaaegnojkaaDoor.PureU
open Go Go.RowKit Go.Proofs.YtklkaaaegnojkaaDoor.Pure Go.Proofs.YtklkaaaegnojkaaDoor.PureU Go.Proofs.YtklkaaaegnojkaaDoor.U Go.Proofs.YtklkaaaegnojkaaDoorW.PrintWords Go.Proofs.YtklkaaaegnojkaaDoorW.PrintLast Go.Proofs.YtklkaaaegnojkaaDoorW.PrintMore
set_option linter.unusedSectionVars false

/-- What both give. -/
def firstOf (l : List Int) (n : Int) : List Int × Bool := if n < 0 then ([], false) else if plainOf l = true then (encAll ((runesOf l).1.take n.toNat), true) else (l.take n.toNat, true)

theorem encAll_le (rs : List Int) : (encAll rs).length ≤ 4 * rs.length := by
  induction rs with
  | nil => exact Nat.le_refl _
  | cons r rs ih =>
    have := (Lib.encodeRuneZ_length r).2
    rw [encAll_cons, List.length_append, List.length_cons]
    omega

theorem first_go (x : List Int) (n : Int) (hv : ∀ r ∈ x, Lib.validRune r = true) (hn : x.length ≤ 1048576) (h0 : 0 ≤ n) : ∀ (d k i : Nat) (acc : List Int), i ≤ x.length → x.length - i = d → d + 1 < k → acc.length ≤ 4 * i →
    spec_FirstRunes.l0 k n acc x (i : Int) = some (acc ++ encAll ((x.drop i).take (n.toNat - i)), true) := by
  intro d
  induction d with
  | zero =>
    intro k i acc hi hd hk ha
    obtain ⟨k, rfl⟩ : ∃ m, k = m + 1 := ⟨k - 1, by omega⟩
    simp only [spec_FirstRunes.l0]
    rw [if_neg (by omega), List.drop_eq_nil_of_le (by omega), List.take_nil]
    show _ = some (acc ++ [], true)
    rw [List.append_nil]
  | succ d ih =>
    intro k i acc hi hd hk ha
    obtain ⟨k, rfl⟩ : ∃ m, k = m + 1 := ⟨k - 1, by omega⟩
    simp only [spec_FirstRunes.l0]
    rw [if_pos (by omega)]
    by_cases h1 : (i : Int) < n
    · have hm := hv _ (rd_mem (xs := x) (i := i) (by omega))
      have he := Lib.encodeRuneZ_length (rd x (i : Int))
      have hr := (valid_eq _).1 hm
      rw [if_pos h1, if_pos (by omega), spec_rune _ k (by omega), if_pos ⟨by omega, by omega, hm⟩, Option.bind_some]
      show (if acc.length + (Lib.encodeRuneZ (rd x (i : Int))).length < 140737488355328 then _ else none) = _
      rw [if_pos (by omega), wrap_in _ (by omega) (by omega), show (i : Int) + 1 = ((i + 1 : Nat) : Int) by omega, ih k (i + 1) _ (by omega) (by omega) (by omega) (by rw [List.length_append]; show acc.length + (Lib.encodeRuneZ (rd x (i : Int))).length ≤ _; omega), drop_cons_rd (xs := x) (i := i) (by omega), show n.toNat - i = (n.toNat - (i + 1)) + 1 by omega, List.take_succ_cons, encAll_cons, List.append_assoc]
    · rw [if_neg h1, show n.toNat - i = 0 by omega, List.take_zero]
      show _ = some (acc ++ [], true)
      rw [List.append_nil]

section
variable (l : List Int) (hw : ∀ x ∈ l, 0 ≤ x ∧ x ≤ 255) (hn : l.length ≤ 1048576)
include hw hn

theorem plain_valid (h : plainOf l = true) : (runesOf l).2 = true := by
  unfold plainOf at h
  exact (Bool.and_eq_true _ _ ▸ h : _ ∧ _).1
theorem runesOf_at (h : (runesOf l).2 = true) : (runesOf l).1 = runesAt (strOfNums l) l.length 0 := by
  unfold runesOf at h ⊢
  split
  · rfl
  · rename_i hc
    rw [if_neg hc] at h
    cases h

theorem spec_FirstRunes_all (n : Int) (k : Nat) (hk : 8 * l.length + 8 ≤ k) : spec_FirstRunes.f k l n = some (firstOf l n) := by
  unfold spec_FirstRunes.f firstOf
  rw [Option.bind_some]
  by_cases h0 : n < 0
  · rw [if_pos h0, if_pos h0]
  · rw [if_neg h0, if_neg h0, spec_Plain_all l hw hn k hk, Option.bind_some]
    by_cases hp : plainOf l = true
    · have hl := runesOf_length l
      have hv := (runes_bytes l hw (plain_valid l hw hn hp)).2
      rw [if_pos hp, if_pos hp, spec_RunesOf_all l hw hn k hk, Option.bind_some, show (0 : Int) = ((0 : Nat) : Int) from rfl, first_go _ n hv (by omega) (by omega) (runesOf l).1.length k 0 [] (Nat.zero_le _) rfl (by omega) (Nat.zero_le _), List.drop_zero, Nat.sub_zero, List.nil_append]
    · rw [if_neg hp, if_neg hp]
      unfold spec_l1Min.f
      have hb : ∀ m : Int, 0 ≤ m → m ≤ (l.length : Int) → l.take m.toNat = l.take n.toNat → ((some m : Option Int).bind fun t316 => (if 0 ≤ t316 then (if t316 ≤ (l.length : Int) then ((spec_l1Bytes.f (l.take (t316 : Int).toNat)).bind fun t318 => (some (t318, true))) else (none)) else (none))) = some (l.take n.toNat, true) := by
        intro m h1 h2 h3
        rw [Option.bind_some, if_pos h1, if_pos h2, h3]
        unfold spec_l1Bytes.f
        rw [Option.bind_some, if_pos (by rw [List.length_take, List.length_nil]; omega), Option.bind_some, List.nil_append]
      by_cases h1 : n < (l.length : Int)
      · rw [if_pos h1]
        exact hb n (by omega) (by omega) rfl
      · rw [if_neg h1]
        exact hb _ (by omega) (Int.le_refl _) (by rw [Int.toNat_natCast, List.take_length, List.take_of_length_le (by omega)])

theorem Runes_go : ∀ (d k i : Nat) (P : List Int), i ≤ l.length → l.length - i ≤ d → d < k → P.length ≤ i →
    bytes_Runes.l0 k (l.drop i) (P ++ List.replicate (runesAt (strOfNums l) (l.length - i) i).length 0) (P.length : Int) = some (P ++ runesAt (strOfNums l) (l.length - i) i) := by
  have hsz := strOfNums_size l
  have hend : ∀ (k i : Nat) (P : List Int), i = l.length → 0 < k → bytes_Runes.l0 k (l.drop i) (P ++ List.replicate (runesAt (strOfNums l) (l.length - i) i).length 0) (P.length : Int) = some (P ++ runesAt (strOfNums l) (l.length - i) i) := by
    intro k i P hi hk
    obtain ⟨k, rfl⟩ : ∃ m, k = m + 1 := ⟨k - 1, by omega⟩
    rw [runesAt_end _ _ _ (by omega), List.drop_eq_nil_of_le (by omega)]
    simp only [bytes_Runes.l0]
    rw [if_neg (by simp)]
    rfl
  intro d
  induction d with
  | zero => exact fun k i P hi hd hk hP => hend k i P (by omega) (by omega)
  | succ d ih =>
    intro k i P hi hd hk hP
    by_cases he : i = l.length
    · exact hend k i P he (by omega)
    · obtain ⟨k, rfl⟩ : ∃ m, k = m + 1 := ⟨k - 1, by omega⟩
      have hlen : (l.drop i).length = l.length - i := List.length_drop
      have hbo : bytesOnly (l.drop i) = true := bytesOnly_of (l.drop i) (fun x hx => hw x (List.mem_of_mem_drop hx))
      have hdec : Lib.decodeGo (strOfNums (l.drop i)) = Utf8.decode (strOfNums l) i := by
        unfold Lib.decodeGo
        rw [if_neg (by rw [strOfNums_size]; omega), ← decodeL_at, ← decodeL_at, strOfNums_drop, List.drop_zero]
      have hwd := Lib.width_pos (strOfNums l) i
      have hwn := decode_within (strOfNums l) i (by omega)
      have hfu := runesAt_fuel (strOfNums l) (l.length - i) ((l.length - i - 1) + 1) i (by omega) (by omega)
      rw [hfu, runesAt_step _ _ i (by omega)]
      have hD : utf8_DecodeRune.f (l.drop i) = some (((Utf8.decode (strOfNums l) i).1 : Int), ((Utf8.decode (strOfNums l) i).2 : Int)) := by
        unfold utf8_DecodeRune.f
        rw [if_pos ⟨hbo, by omega⟩, hdec]
      have hfu2 := runesAt_fuel (strOfNums l) (l.length - i - 1) (l.length - (i + (Utf8.decode (strOfNums l) i).2)) (i + (Utf8.decode (strOfNums l) i).2) (by omega) (by omega)
      rw [hfu2]
      generalize hR : (Utf8.decode (strOfNums l) i).1 = R at *
      generalize hK : (Utf8.decode (strOfNums l) i).2 = K at *
      have hih := ih k (i + K) (P ++ [(R : Int)]) (by omega) (by omega) (by omega) (by rw [List.length_append, List.length_singleton]; omega)
      generalize runesAt (strOfNums l) (l.length - (i + K)) (i + K) = L at *
      simp only [bytes_Runes.l0]
      rw [if_pos (by omega), hD, Option.bind_some, if_pos (by omega), if_pos (by rw [List.length_append, List.length_replicate, List.length_cons]; omega), if_pos (by show 0 ≤ (K : Int); omega), if_pos (by show (K : Int) ≤ _; omega)]
      show bytes_Runes.l0 k ((l.drop i).drop (K : Int).toNat) ((P ++ List.replicate (L.length + 1) 0).set (P.length : Int).toNat (R : Int)) (wrap64 ((P.length : Int) + 1)) = _
      rw [Int.toNat_natCast, Int.toNat_natCast, List.drop_drop, wrap_in _ (by omega) (by omega), List.replicate_succ, List.set_append_right _ _ (Nat.le_refl _), Nat.sub_self, List.set_cons_zero]
      have e1 : P ++ (R : Int) :: List.replicate L.length 0 = (P ++ [(R : Int)]) ++ List.replicate L.length 0 := by simp
      have e2 : (P.length : Int) + 1 = ((P ++ [(R : Int)]).length : Int) := by simp
      rw [e1, e2, hih]
      simp

theorem Runes_all (k : Nat) (hk : l.length < k) : bytes_Runes.f k l = some (runesAt (strOfNums l) l.length 0) := by
  have hl := runesAt_length (strOfNums l) l.length 0
  have hg := Runes_go l hw hn l.length k 0 [] (Nat.zero_le _) (by omega) hk (Nat.le_refl _)
  unfold bytes_Runes.f
  rw [RuneCount_all l hw hn k hk, Option.bind_some, if_pos (by omega), Int.toNat_natCast, if_pos (by omega)]
  rw [List.drop_zero, Nat.sub_zero, List.nil_append, List.nil_append] at hg
  exact hg

theorem impl_FirstRunes_all (n : Int) (k : Nat) (hk : 8 * l.length + 8 ≤ k) : impl_FirstRunes.f k l n = some (firstOf l n) := by
  unfold impl_FirstRunes.f firstOf
  have hmn : ∀ m : Nat, 0 ≤ n → 0 ≤ mn n (m : Int) ∧ mn n (m : Int) ≤ (m : Int) ∧ ∀ x : List Int, x.length = m → x.take (mn n (m : Int)).toNat = x.take n.toNat := by
    intro m h0
    unfold mn
    by_cases h : (m : Int) < n
    · rw [if_pos h]
      exact ⟨by omega, Int.le_refl _, fun x hx => by rw [Int.toNat_natCast, List.take_of_length_le (by omega), List.take_of_length_le (by omega)]⟩
    · rw [if_neg h]
      exact ⟨h0, by omega, fun _ _ => rfl⟩
  by_cases h0 : n < 0
  · rw [if_pos h0, if_pos h0]
  · rw [if_neg h0, if_neg h0, impl_Plain_all l hw hn k hk, Option.bind_some]
    by_cases hp : plainOf l = true
    · have hpv := plain_valid l hw hn hp
      have hat := runesOf_at l hw hn hpv
      have hl := runesOf_length l
      have hv := (runes_bytes l hw hpv).2
      obtain ⟨h1, h2, h3⟩ := hmn (runesOf l).1.length (by omega)
      have hsz := runesBytes_size_le ((runesOf l).1.take n.toNat)
      have htl : ((runesOf l).1.take n.toNat).length ≤ (runesOf l).1.length := by rw [List.length_take]; omega
      rw [if_pos hp, if_pos hp, Runes_all l hw hn k (by omega), ← hat, Option.bind_some, if_pos h1, if_pos h2, Option.bind_some, h3 _ rfl, if_pos (by omega), runesBytes_enc _ (fun r hr => hv r (List.mem_of_mem_take hr))]
    · obtain ⟨h1, h2, h3⟩ := hmn l.length (by omega)
      rw [if_neg hp, if_neg hp, if_pos h1, if_pos h2, h3 l rfl]
      unfold bytes_Clone.f
      rw [if_pos (by rw [List.length_take]; omega), Option.bind_some]
theorem firstOf_length (n : Int) : (firstOf l n).1.length ≤ 4 * l.length := by
  unfold firstOf
  split
  · simp
  · split
    · have h1 := encAll_le ((runesOf l).1.take n.toNat)
      have hl := runesOf_length l
      rw [List.length_take] at h1
      show (encAll _).length ≤ _
      omega
    · show (l.take n.toNat).length ≤ _
      rw [List.length_take]
      omega
end
end Go.Proofs.YtklkaaaegnojkaaDoor.PureU
