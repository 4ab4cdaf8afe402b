/-
The runes of valid bytes encode to just those bytes, and each of them is a rune; a byte below 128 among the bytes is a rune among the runes.
-/
import Derived.Lib.MapLaws
import Derived.Laws.Cover4
import Derived.Test.YtklkaaaegnojkaaDoorDRunes
namespace Go.Proofs.YtklkaaaegnojkaaDoor.PureD
open Go Go.RowKit Go.Proofs.YtklkaaaegnojkaaDoor.Pure Go.Proofs.YtklkaaaegnojkaaDoor.PureD Go.Proofs.YtklkaaaegnojkaaDoor.D Go.Proofs.YtklkaaaegnojkaaDoorW.PrintWords Go.Proofs.YtklkaaaegnojkaaDoorW.PrintLast Go.Proofs.YtklkaaaegnojkaaDoorW.PrintMore

/-- The bytes of runes. -/
def encAll (rs : List Int) : List Int := rs.flatMap Lib.encodeRuneZ
theorem encAll_cons (r : Int) (rs : List Int) : encAll (r :: rs) = Lib.encodeRuneZ r ++ encAll rs := rfl
theorem encAll_append (a b : List Int) : encAll (a ++ b) = encAll a ++ encAll b := List.flatMap_append
theorem encAll_range (rs : List Int) : ∀ x ∈ encAll rs, 0 ≤ x ∧ x ≤ 255 := by
  intro x hx
  obtain ⟨r, _, hr⟩ := List.mem_flatMap.1 hx
  have := Lib.encodeRuneZ_byte r x hr
  omega
theorem encAll_ge (rs : List Int) : rs.length ≤ (encAll rs).length := by
  induction rs with
  | nil => exact Nat.le_refl _
  | cons r rs ih =>
    have := (Lib.encodeRuneZ_length r).1
    rw [encAll_cons, List.length_append, List.length_cons]
    omega

theorem decode_valid (l : List UInt8) (hv : ¬ ((Lib.decodeL l).1 = 65533 ∧ (Lib.decodeL l).2 = 1)) : Lib.validRune ((Lib.decodeL l).1 : Int) = true := by
  rw [Lib.decodeL_N] at hv ⊢
  have k0 := (l.getD 0 0).toNat_lt
  have k1 := (l.getD 1 0).toNat_lt
  have k2 := (l.getD 2 0).toNat_lt
  have k3 := (l.getD 3 0).toNat_lt
  rw [valid_eq]
  rcases Lib.decodeN_shape l.length (l.getD 0 0).toNat (l.getD 1 0).toNat (l.getD 2 0).toNat (l.getD 3 0).toNat with ⟨c, e⟩ | ⟨c1, c2, c3, cv, e⟩ | ⟨c1, c2, c3, c4, cv, cs, e⟩ | ⟨c1, c2, c3, c4, c5, cv, cw, e⟩ | e
  · rw [e]; dsimp only; omega
  · rw [e]; dsimp only; omega
  · rw [e]; dsimp only; omega
  · rw [e]; dsimp only; omega
  · rw [e] at hv; exact absurd ⟨rfl, rfl⟩ hv

/-- What valid bytes' runes encode to, from a place on. -/
theorem runes_inv (s : ByteArray) : ∀ (a i : Nat), s.size ≤ i + a → Lib.validD (s.data.toList.drop i) = true →
    (runesAt s a i).flatMap Lib.encodeRune = s.data.toList.drop i ∧ ∀ r ∈ runesAt s a i, Lib.validRune r = true
  | 0, i, ha, _ => ⟨(List.drop_eq_nil_of_le (by rw [← Lib.size_eq]; omega)).symm, fun r hr => by cases hr⟩
  | a + 1, i, ha, hv => by
    by_cases h : i < s.size
    · have hne : s.data.toList.drop i ≠ [] := by
        intro he
        have := congrArg List.length he
        rw [List.length_drop, ← Lib.size_eq] at this
        simp at this
        omega
      have hw := Lib.width_pos s i
      rw [Lib.validD_step _ hne] at hv
      by_cases hb : (Lib.decodeL (s.data.toList.drop i)).1 = 65533 ∧ (Lib.decodeL (s.data.toList.drop i)).2 = 1
      · rw [if_pos hb] at hv; cases hv
      · rw [if_neg hb, List.drop_drop] at hv
        have hd := decodeL_at s i
        have he := Lib.encode_decode _ hne hb
        have hr := decode_valid _ hb
        rw [hd] at hv he hr
        obtain ⟨h1, h2⟩ := runes_inv s a _ (by omega) hv
        rw [runesAt_step s a i h]
        refine ⟨?_, fun r hr' => ?_⟩
        · rw [List.flatMap_cons, h1, he, ← List.drop_drop, List.take_append_drop]
        · rcases List.mem_cons.1 hr' with rfl | hr'
          · exact hr
          · exact h2 r hr'
    · rw [runesAt_end s _ i h]
      exact ⟨(List.drop_eq_nil_of_le (by rw [← Lib.size_eq]; omega)).symm, fun r hr => by cases hr⟩

theorem flat_map_enc (rs : List Int) : rs.flatMap Lib.encodeRune = (encAll rs).map fun x => UInt8.ofNat x.toNat := by
  induction rs with
  | nil => rfl
  | cons r rs ih =>
    rw [List.flatMap_cons, ih, encAll_cons, List.map_append]
    rfl

theorem runes_bytes (l : List Int) (hw : ∀ x ∈ l, 0 ≤ x ∧ x ≤ 255) (h : (runesOf l).2 = true) : encAll (runesOf l).1 = l ∧ ∀ r ∈ (runesOf l).1, Lib.validRune r = true := by
  unfold runesOf at h ⊢
  by_cases hv : Lib.validD (strOfNums l).data.toList = true
  · rw [if_pos hv]
    have hsz := strOfNums_size l
    obtain ⟨h1, h2⟩ := runes_inv (strOfNums l) l.length 0 (by omega) (by rw [List.drop_zero]; exact hv)
    refine ⟨bytes_inj _ _ (encAll_range _) hw ?_, h2⟩
    rw [← flat_map_enc, h1, List.drop_zero]
    simp [strOfNums]
  · rw [if_neg hv] at h; cases h

/-- A byte below 128 of a rune's bytes is the rune. -/
theorem enc_low (r x : Int) (hx : x ∈ Lib.encodeRuneZ r) (h : x < 128) : r = x := by
  by_cases h1 : 0 ≤ r ∧ r ≤ 127
  · rw [Lib.encodeRuneZ_one h1.1 h1.2] at hx
    simp at hx
    exact hx.symm
  · by_cases h2 : r < 0 ∨ (55296 ≤ r ∧ r ≤ 57343) ∨ 1114111 < r
    · rw [Lib.encodeRuneZ_bad h2] at hx
      simp at hx
      omega
    · by_cases h3 : r ≤ 2047
      · rw [Lib.encodeRuneZ_two (by omega) h3] at hx
        simp at hx
        omega
      · by_cases h4 : r ≤ 65535
        · rw [Lib.encodeRuneZ_three (by omega)] at hx
          simp at hx
          omega
        · rw [Lib.encodeRuneZ_four (by omega) (by omega)] at hx
          simp at hx
          omega
theorem low_mem (rs : List Int) (x : Int) (hx : x ∈ encAll rs) (h : x < 128) : x ∈ rs := by
  obtain ⟨r, hr, hm⟩ := List.mem_flatMap.1 hx
  rw [← enc_low r x hm h]
  exact hr
end Go.Proofs.YtklkaaaegnojkaaDoor.PureD
