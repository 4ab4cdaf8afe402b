/-
The bytes of a rune, as the model's conversion gives them.
-/
import Derived.Lib.RuneBytes
import Derived.Test.YtklkaaaegnojkaaDoorDRuneInv
namespace Go.Proofs.YtklkaaaegnojkaaDoor.PureD
open Go Go.RowKit Go.Proofs.YtklkaaaegnojkaaDoor.Pure Go.Proofs.YtklkaaaegnojkaaDoor.PureD Go.Proofs.YtklkaaaegnojkaaDoor.D Go.Proofs.YtklkaaaegnojkaaDoorW.PrintWords Go.Proofs.YtklkaaaegnojkaaDoorW.PrintLast Go.Proofs.YtklkaaaegnojkaaDoorW.PrintMore
theorem encode_bytes (r : Int) (h : Lib.validRune r = true) : bytesOf (Utf8.encode r) = Lib.encodeRuneZ r := by
  rw [valid_eq] at h
  have hv : Utf8.valid r = true := by
    unfold Utf8.valid
    simp
    omega
  obtain ⟨n, rfl⟩ := Int.eq_ofNat_of_zero_le (by omega : 0 ≤ r)
  unfold Utf8.encode bytesOf
  simp only [hv, if_true, Int.toNat_natCast]
  split
  · rw [Lib.encodeRuneZ_one (by omega) (by omega)]
    simp
    omega
  · split
    · rw [Lib.encodeRuneZ_two (by omega) (by omega)]
      simp
      omega
    · split
      · rw [Lib.encodeRuneZ_three (by omega)]
        simp
        omega
      · rw [Lib.encodeRuneZ_four (by omega) (by omega)]
        simp
        omega
theorem bytesOf_append (a b : ByteArray) : bytesOf (a ++ b) = bytesOf a ++ bytesOf b := by
  unfold bytesOf
  rw [ByteArray.data_append, Array.toList_append, List.map_append]
theorem foldl_enc : ∀ (rs : List Int) (s : ByteArray), (∀ r ∈ rs, Lib.validRune r = true) → bytesOf (rs.foldl (fun r n => r ++ Utf8.encode n) s) = bytesOf s ++ encAll rs
  | [], s, _ => (List.append_nil _).symm
  | r :: rs, s, h => by
    rw [List.foldl_cons, foldl_enc rs _ (fun x hx => h x (List.mem_cons_of_mem _ hx)), bytesOf_append, encode_bytes r (h r List.mem_cons_self), encAll_cons, List.append_assoc]
theorem runesBytes_enc (rs : List Int) (h : ∀ r ∈ rs, Lib.validRune r = true) : bytesOf (runesBytes rs) = encAll rs := by
  unfold runesBytes
  rw [foldl_enc rs _ h]
  rfl
end Go.Proofs.YtklkaaaegnojkaaDoor.PureD
