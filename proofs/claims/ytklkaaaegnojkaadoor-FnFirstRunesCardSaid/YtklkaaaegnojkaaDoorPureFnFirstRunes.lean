/-
The pure statement of FnFirstRunes.
-/
import Derived.Test.YtklkaaaegnojkaaDoorDx1
import Derived.Test.YtklkaaaegnojkaaDoorDx3
import Derived.Test.YtklkaaaegnojkaaDoorDDrawText
import Derived.Test.YtklkaaaegnojkaaDoorDDecEnc
import Derived.Test.YtklkaaaegnojkaaDoorDFirstImpl
import Derived.Test.YtklkaaaegnojkaaDoorDWidthImpl
namespace Go.Proofs.YtklkaaaegnojkaaDoor.PureD
open Go Go.RowKit Go.Proofs.YtklkaaaegnojkaaDoor.Pure Go.Proofs.YtklkaaaegnojkaaDoor.PureD Go.Proofs.YtklkaaaegnojkaaDoor.D Go.Proofs.YtklkaaaegnojkaaDoorW.PrintWords Go.Proofs.YtklkaaaegnojkaaDoorW.PrintLast Go.Proofs.YtklkaaaegnojkaaDoorW.PrintMore

theorem DrawFirst_all (d : List Int) (hd : d.length ≤ 1048576) (k : Nat) (hk : d.length + 10 ≤ k) : ∃ b n, spec_DrawFirstRunes.f k d = some (b, n) ∧ Few 32 b ∧ -9223372036854775808 ≤ n ∧ n ≤ 9223372036854775807 := by
  unfold spec_DrawFirstRunes.f
  obtain ⟨s, e⟩ := l1New_all d hd k (by omega)
  rw [e, Option.bind_some]
  obtain ⟨b, p1, s1, e1, hb, hp1⟩ := l15Draw_all d hd 0 s (Int.le_refl _) k (by omega)
  rw [e1, Option.bind_some]
  obtain ⟨n, p2, s2, e2, hn, hp2⟩ := l1PickInt_all d hd p1 s1 [0, 1, 2, 3, 9, (-1), 9223372036854775807, 4] (by simp) hp1
  rw [e2, Option.bind_some]
  refine ⟨_, _, rfl, hb, ?_⟩
  simp only [List.mem_cons, List.not_mem_nil, or_false] at hn
  rcases hn with rfl | rfl | rfl | rfl | rfl | rfl | rfl | rfl <;> omega

/-- What the first runes of bytes are to the bytes. -/
theorem first_facts (b : List Int) (hw : ∀ x ∈ b, 0 ≤ x ∧ x ≤ 255) (hn : b.length ≤ 1048576) (n : Int) (h0 : 0 ≤ n) :
    (firstOf b n).2 = true ∧ b.take (firstOf b n).1.length = (firstOf b n).1 ∧ (firstOf b n).1.length ≤ b.length ∧
    (plainOf b = true → plainOf (firstOf b n).1 = true ∧ widthOf (firstOf b n).1 = if n < widthOf b then n else widthOf b) ∧
    (plainOf b = false → ((firstOf b n).1.length : Int) = if n < widthOf b then n else widthOf b) := by
  by_cases hp : plainOf b = true
  · have hpv := plain_valid b hw hn hp
    obtain ⟨hb, hv⟩ := runes_bytes b hw hpv
    have hall : (runesOf b).1.all sign = true := by
      unfold plainOf at hp
      exact (Bool.and_eq_true _ _ ▸ hp : _ ∧ _).2
    have hf : firstOf b n = (encAll ((runesOf b).1.take n.toNat), true) := by
      unfold firstOf
      rw [if_neg (by omega), if_pos hp]
    have hvt : ∀ r ∈ (runesOf b).1.take n.toNat, Lib.validRune r = true := fun r hr => hv r (List.mem_of_mem_take hr)
    have hpre : b = encAll ((runesOf b).1.take n.toNat) ++ encAll ((runesOf b).1.drop n.toNat) := by
      rw [← encAll_append, List.take_append_drop, hb]
    have hpt : plainOf (encAll ((runesOf b).1.take n.toNat)) = true := by
      rw [plain_enc _ hvt, List.all_eq_true]
      exact fun r hr => List.all_eq_true.1 hall r (List.mem_of_mem_take hr)
    rw [hf]
    refine ⟨rfl, ?_, ?_, fun _ => ⟨hpt, ?_⟩, fun h => by rw [hp] at h; cases h⟩
    · show b.take (encAll ((runesOf b).1.take n.toNat)).length = encAll ((runesOf b).1.take n.toNat)
      generalize encAll ((runesOf b).1.take n.toNat) = A at *
      generalize encAll ((runesOf b).1.drop n.toNat) = B at *
      rw [hpre, List.take_left]
    · show (encAll ((runesOf b).1.take n.toNat)).length ≤ b.length
      have := congrArg List.length hpre
      rw [List.length_append] at this
      omega
    · show widthOf (encAll ((runesOf b).1.take n.toNat)) = _
      unfold widthOf
      rw [if_pos hpt, if_pos hp, runes_enc _ hvt]
      show (((runesOf b).1.take n.toNat).length : Int) = _
      rw [List.length_take]
      split <;> omega
  · have hf : firstOf b n = (b.take n.toNat, true) := by
      unfold firstOf
      rw [if_neg (by omega), if_neg hp]
    rw [hf]
    refine ⟨rfl, ?_, ?_, fun h => absurd h hp, fun _ => ?_⟩
    · show b.take (b.take n.toNat).length = b.take n.toNat
      rw [List.length_take]
      by_cases h : n.toNat ≤ b.length
      · rw [Nat.min_eq_left h]
      · rw [Nat.min_eq_right (by omega), List.take_length, List.take_of_length_le (by omega)]
    · show (b.take n.toNat).length ≤ _
      rw [List.length_take]
      omega
    · show ((b.take n.toNat).length : Int) = _
      unfold widthOf
      rw [if_neg hp, List.length_take]
      split <;> omega

theorem LFirstRunes_holds : laws_FnFirstRunes.Pure := by
  intro l hl
  refine ⟨l.length + 600, ?_⟩
  unfold laws_FnFirstRunes.f laws_big.f
  rw [Option.bind_some]
  by_cases h : (l.length : Int) > 1048576
  · rw [decide_eq_true h, if_pos rfl]
  · rw [decide_eq_false h, if_neg Bool.false_ne_true]
    obtain ⟨b, n, e, hb, hn0, hn1⟩ := DrawFirst_all l (by omega) (l.length + 600) (by omega)
    have hbl := hb.1
    have hbn : b.length ≤ 1048576 := by omega
    rw [e, Option.bind_some]
    show ((impl_FirstRunes.f (l.length + 600) b n).bind _) = _
    rw [impl_FirstRunes_all b hb.2 hbn n _ (by omega), Option.bind_some]
    by_cases h0 : n < 0
    · have hf : firstOf b n = ([], false) := if_pos h0
      rw [hf]
      show (if n < 0 then _ else _) = _
      rw [if_pos h0]
      rfl
    · obtain ⟨h1, h2, h3, h4, h5⟩ := first_facts b hb.2 hbn n (by omega)
      have hfew : ∀ x ∈ (firstOf b n).1, 0 ≤ x ∧ x ≤ 255 := fun x hx => hb.2 x (List.mem_of_mem_take (h2 ▸ hx))
      generalize firstOf b n = F at *
      obtain ⟨out, ok⟩ := F
      simp only at h1 h2 h3 h4 h5 hfew
      subst h1
      show (if n < 0 then _ else _) = _
      rw [if_neg h0]
      show (if true = true then (if (out.length : Int) > (b.length : Int) then laws_FnFirstRunes.j0 (l.length + 600) b n out true else (if 0 ≤ (out.length : Int) then (if (out.length : Int) ≤ (b.length : Int) then laws_FnFirstRunes.j0 (l.length + 600) b n out ((strOfNums (b.take (out.length : Int).toNat)).toList != (strOfNums out).toList) else none) else none)) else laws_FnFirstRunes.j0 (l.length + 600) b n out true) = some true
      rw [if_pos rfl, if_neg (by omega), if_pos (by omega), if_pos (by omega), Int.toNat_natCast, h2, bne_self_eq_false]
      show laws_FnFirstRunes.j0 (l.length + 599 + 1) b n out false = some true
      simp only [laws_FnFirstRunes.j0]
      rw [if_neg Bool.false_ne_true, impl_Width_all b hb.2 hbn _ (by omega), Option.bind_some]
      have hj : ∀ w : Int, w = (if n < widthOf b then n else widthOf b) → laws_FnFirstRunes.j1 (l.length + 599) b out w = some true := by
        intro w hw
        show laws_FnFirstRunes.j1 (l.length + 598 + 1) b out w = some true
        simp only [laws_FnFirstRunes.j1]
        rw [impl_Plain_all b hb.2 hbn _ (by omega), Option.bind_some]
        by_cases hp : plainOf b = true
        · obtain ⟨h6, h7⟩ := h4 hp
          rw [if_pos hp, impl_Plain_all out hfew (by omega) _ (by omega), Option.bind_some, if_pos h6, impl_Width_all out hfew (by omega) _ (by omega), Option.bind_some, h7, hw, beq_self_eq_true]
        · have hpf : plainOf b = false := by simpa using hp
          rw [if_neg hp, if_pos (by rw [hw]; exact h5 hpf)]
      by_cases hlt : n < widthOf b
      · rw [if_pos hlt]
        exact hj n (by rw [if_pos hlt])
      · rw [if_neg hlt]
        exact hj _ (by rw [if_neg hlt])
end Go.Proofs.YtklkaaaegnojkaaDoor.PureD
namespace Go.Proofs.YtklkaaaegnojkaaDoor.Pure
theorem FnFirstRunes : Go.Proofs.YtklkaaaegnojkaaDoor.D.laws_FnFirstRunes.Pure := Go.Proofs.YtklkaaaegnojkaaDoor.PureD.LFirstRunes_holds
end Go.Proofs.YtklkaaaegnojkaaDoor.Pure
