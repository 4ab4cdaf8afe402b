/-
The bytes of runes are read back as just those runes.
-/
import Derived.Lib.RuneBytes
import Derived.Test.YtklkaaaegnojkaaDoorDRuneInv
import Derived.Test.YtklkaaaegnojkaaDoorDPlain
namespace Go.Proofs.YtklkaaaegnojkaaDoor.PureD
open Go Go.RowKit Go.Proofs.YtklkaaaegnojkaaDoor.Pure Go.Proofs.YtklkaaaegnojkaaDoor.PureD Go.Proofs.YtklkaaaegnojkaaDoor.D Go.Proofs.YtklkaaaegnojkaaDoorW.PrintWords Go.Proofs.YtklkaaaegnojkaaDoorW.PrintLast Go.Proofs.YtklkaaaegnojkaaDoorW.PrintMore
theorem encode_bytes (r : Int) (h : Lib.validRune r = true) : bytesOf (Utf8.encode r) = Lib.encodeRuneZ r := by
  rw [valid_eq] at h
  have hv : Utf8.valid r = true := by
    unfold Utf8.valid
    simp
    omega
  obtain ⟨n, rfl⟩ := Int.eq_ofNat_of_zero_le (by omega : 0 ≤ r)
  unfold Utf8.encode bytesOf
  simp only [hv, if_true, Int.toNat_natCast]
  split
  · rw [Lib.encodeRuneZ_one (by omega) (by omega)]
    simp
    omega
  · split
    · rw [Lib.encodeRuneZ_two (by omega) (by omega)]
      simp
      omega
    · split
      · rw [Lib.encodeRuneZ_three (by omega)]
        simp
        omega
      · rw [Lib.encodeRuneZ_four (by omega) (by omega)]
        simp
        omega
theorem bytesOf_append (a b : ByteArray) : bytesOf (a ++ b) = bytesOf a ++ bytesOf b := by
  unfold bytesOf
  rw [ByteArray.data_append, Array.toList_append, List.map_append]
theorem foldl_enc : ∀ (rs : List Int) (s : ByteArray), (∀ r ∈ rs, Lib.validRune r = true) → bytesOf (rs.foldl (fun r n => r ++ Utf8.encode n) s) = bytesOf s ++ encAll rs
  | [], s, _ => (List.append_nil _).symm
  | r :: rs, s, h => by
    rw [List.foldl_cons, foldl_enc rs _ (fun x hx => h x (List.mem_cons_of_mem _ hx)), bytesOf_append, encode_bytes r (h r List.mem_cons_self), encAll_cons, List.append_assoc]
theorem runesBytes_enc (rs : List Int) (h : ∀ r ∈ rs, Lib.validRune r = true) : bytesOf (runesBytes rs) = encAll rs := by
  unfold runesBytes
  rw [foldl_enc rs _ h]
  rfl
end Go.Proofs.YtklkaaaegnojkaaDoor.PureD

namespace Go.Proofs.YtklkaaaegnojkaaDoor.PureD
open Go Go.RowKit Go.Proofs.YtklkaaaegnojkaaDoor.Pure Go.Proofs.YtklkaaaegnojkaaDoor.PureD Go.Proofs.YtklkaaaegnojkaaDoor.D Go.Proofs.YtklkaaaegnojkaaDoorW.PrintWords Go.Proofs.YtklkaaaegnojkaaDoorW.PrintLast Go.Proofs.YtklkaaaegnojkaaDoorW.PrintMore

theorem byte_of (z : Int) (h0 : 0 ≤ z) (h1 : z < 256) : (z.toNat.toUInt8).toNat = z.toNat := by
  show (UInt8.ofNat z.toNat).toNat = _
  rw [UInt8.toNat_ofNat']
  exact Nat.mod_eq_of_lt (by show z.toNat < 256; omega)

theorem decode_enc (r : Int) (h : Lib.validRune r = true) (rest : List UInt8) : Lib.decodeL (Lib.encodeRune r ++ rest) = (r.toNat, (Lib.encodeRuneZ r).length) := by
  rw [valid_eq] at h
  rw [Lib.decodeL_N]
  unfold Lib.encodeRune
  by_cases h1 : r ≤ 127
  · rw [Lib.encodeRuneZ_one (by omega) h1]
    show Lib.decodeN (rest.length + 1) (r.toNat.toUInt8).toNat _ _ _ = (r.toNat, 1)
    rw [byte_of r (by omega) (by omega)]
    unfold Lib.decodeN
    rw [if_pos (by omega)]
  · by_cases h2 : r ≤ 2047
    · rw [Lib.encodeRuneZ_two (by omega) h2]
      show Lib.decodeN (rest.length + 1 + 1) ((192 + r / 64).toNat.toUInt8).toNat ((128 + r % 64).toNat.toUInt8).toNat _ _ = (r.toNat, 2)
      rw [byte_of _ (by omega) (by omega), byte_of _ (by omega) (by omega)]
      unfold Lib.decodeN
      rw [if_neg (by omega), if_pos (by omega), if_pos (by omega)]
      exact congrArg (fun z : Nat => (z, 2)) (by omega)
    · by_cases h3 : r ≤ 65535
      · rw [Lib.encodeRuneZ_three (by omega)]
        show Lib.decodeN (rest.length + 1 + 1 + 1) ((224 + r / 4096).toNat.toUInt8).toNat ((128 + r / 64 % 64).toNat.toUInt8).toNat ((128 + r % 64).toNat.toUInt8).toNat _ = (r.toNat, 3)
        rw [byte_of _ (by omega) (by omega), byte_of _ (by omega) (by omega), byte_of _ (by omega) (by omega)]
        unfold Lib.decodeN
        rw [if_neg (by omega), if_neg (by omega), if_pos (by omega), if_pos (by omega)]
        exact congrArg (fun z : Nat => (z, 3)) (by omega)
      · rw [Lib.encodeRuneZ_four (by omega) (by omega)]
        show Lib.decodeN (rest.length + 1 + 1 + 1 + 1) ((240 + r / 262144).toNat.toUInt8).toNat ((128 + r / 4096 % 64).toNat.toUInt8).toNat ((128 + r / 64 % 64).toNat.toUInt8).toNat ((128 + r % 64).toNat.toUInt8).toNat = (r.toNat, 4)
        rw [byte_of _ (by omega) (by omega), byte_of _ (by omega) (by omega), byte_of _ (by omega) (by omega), byte_of _ (by omega) (by omega)]
        unfold Lib.decodeN
        rw [if_neg (by omega), if_neg (by omega), if_neg (by omega), if_pos (by omega), if_pos (by omega)]
        exact congrArg (fun z : Nat => (z, 4)) (by omega)

theorem enc_not_bad (r : Int) : ¬ (r.toNat = 65533 ∧ (Lib.encodeRuneZ r).length = 1) := by
  rintro ⟨h1, h2⟩
  rw [Lib.encodeRuneZ_three (by omega)] at h2
  simp at h2

theorem runes_back (s : ByteArray) : ∀ (rs : List Int) (i a : Nat), (∀ r ∈ rs, Lib.validRune r = true) → s.data.toList.drop i = rs.flatMap Lib.encodeRune → s.size ≤ i + a →
    runesAt s a i = rs ∧ Lib.validD (s.data.toList.drop i) = true
  | [], i, a, _, hd, _ => by
    have hl := congrArg List.length hd
    rw [List.length_drop, ← Lib.size_eq] at hl
    have hl2 : s.size - i = 0 := hl
    rw [runesAt_end s a i (by omega), hd]
    exact ⟨rfl, Lib.validD_nil⟩
  | r :: rs, i, a, hv, hd, ha => by
    have hr := hv r List.mem_cons_self
    have hlr := (Lib.encodeRuneZ_length r).1
    have hle : (Lib.encodeRune r).length = (Lib.encodeRuneZ r).length := List.length_map _
    rw [List.flatMap_cons] at hd
    have hl := congrArg List.length hd
    rw [List.length_drop, ← Lib.size_eq, List.length_append, hle] at hl
    have hi : i < s.size := by omega
    have hdec : Utf8.decode s i = (r.toNat, (Lib.encodeRuneZ r).length) := by
      rw [← decodeL_at, hd, decode_enc r hr]
    have hnext : s.data.toList.drop (i + (Lib.encodeRuneZ r).length) = rs.flatMap Lib.encodeRune := by
      rw [← List.drop_drop, hd, ← hle, List.drop_left]
    obtain ⟨h1, h2⟩ := runes_back s rs (i + (Lib.encodeRuneZ r).length) (a - 1) (fun x hx => hv x (List.mem_cons_of_mem _ hx)) hnext (by omega)
    have h0 : 0 ≤ r := by have := (valid_eq r).1 hr; omega
    constructor
    · rw [show a = (a - 1) + 1 by omega, runesAt_step s _ i hi, hdec]
      show ((r.toNat : Nat) : Int) :: runesAt s (a - 1) (i + (Lib.encodeRuneZ r).length) = _
      rw [h1, Int.toNat_of_nonneg h0]
    · have hne : s.data.toList.drop i ≠ [] := by
        rw [hd]
        intro he
        have := congrArg List.length he
        rw [List.length_append, hle] at this
        have h3 : (Lib.encodeRuneZ r).length + (rs.flatMap Lib.encodeRune).length = 0 := this
        omega
      rw [Lib.validD_step _ hne, decodeL_at, hdec, if_neg (enc_not_bad r), List.drop_drop]
      exact h2

theorem runes_enc (rs : List Int) (hv : ∀ r ∈ rs, Lib.validRune r = true) : runesOf (encAll rs) = (rs, true) := by
  have hsz := strOfNums_size (encAll rs)
  obtain ⟨h1, h2⟩ := runes_back (strOfNums (encAll rs)) rs 0 (encAll rs).length hv (by
    rw [List.drop_zero, flat_map_enc]
    simp [strOfNums]) (by omega)
  rw [List.drop_zero] at h2
  unfold runesOf
  rw [if_pos h2, h1]
theorem plain_enc (rs : List Int) (hv : ∀ r ∈ rs, Lib.validRune r = true) : plainOf (encAll rs) = rs.all sign := by
  unfold plainOf
  rw [runes_enc rs hv]
  rfl
end Go.Proofs.YtklkaaaegnojkaaDoor.PureD
