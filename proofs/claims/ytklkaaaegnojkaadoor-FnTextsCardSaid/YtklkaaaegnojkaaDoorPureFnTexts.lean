/-
The pure statement of FnTexts.
-/
import Derived.Test.YtklkaaaegnojkaaDoorDx1
import Derived.Test.YtklkaaaegnojkaaDoorDx5
import Derived.Test.YtklkaaaegnojkaaDoorDx7
import Derived.Test.YtklkaaaegnojkaaDoorDx8
import Derived.Test.YtklkaaaegnojkaaDoorDDrawText
import Derived.Test.YtklkaaaegnojkaaDoorDDecEnc
import Derived.Test.YtklkaaaegnojkaaDoorDWidthImpl
import Derived.Test.YtklkaaaegnojkaaDoorDShownInv
namespace Go.Proofs.YtklkaaaegnojkaaDoor.PureD
open Go Go.RowKit Go.Proofs.YtklkaaaegnojkaaDoor.Pure Go.Proofs.YtklkaaaegnojkaaDoor.PureD Go.Proofs.YtklkaaaegnojkaaDoor.D Go.Proofs.YtklkaaaegnojkaaDoorW.PrintWords Go.Proofs.YtklkaaaegnojkaaDoorW.PrintLast Go.Proofs.YtklkaaaegnojkaaDoorW.PrintMore
set_option linter.unusedSectionVars false

section
variable (d : List Int) (hd : d.length ≤ 1048576)
include hd
theorem DrawShown_all (k : Nat) (hk : d.length + 10 ≤ k) : ∃ b, spec_DrawShown.f k d = some b ∧ Few 32 b := by
  unfold spec_DrawShown.f
  obtain ⟨s, e⟩ := l1New_all d hd k (by omega)
  rw [e, Option.bind_some]
  obtain ⟨b, p1, s1, e1, hb, hp1⟩ := l15Draw_all d hd 0 s (Int.le_refl _) k (by omega)
  rw [e1, Option.bind_some]
  exact ⟨_, rfl, hb⟩
theorem DrawUnshown_all (k : Nat) (hk : d.length + 300 ≤ k) : ∃ s, spec_DrawUnshown.f k d = some s ∧ s.size ≤ 100 := by
  unfold spec_DrawUnshown.f
  obtain ⟨s, e⟩ := l1New_all d hd k (by omega)
  rw [e, Option.bind_some]
  obtain ⟨b, p1, s1, e1, hb, hp1⟩ := l15Draw_all d hd 0 s (Int.le_refl _) k (by omega)
  have hbl := hb.1
  have hsz := shown_size b
  rw [e1, Option.bind_some]
  show ∃ s_, ((spec_Shown.f k b).bind _) = some s_ ∧ _
  rw [spec_Shown_all b hb.2 (by omega) k (by omega), Option.bind_some]
  obtain ⟨v, p2, s2, e2, hv0, hv1, _, hp2⟩ := l1Below_all d hd p1 s1 8 hp1
  rw [e2, Option.bind_some]
  by_cases c0 : v = 0
  · obtain ⟨t, p3, s3, e3, ht, hp3⟩ := l1Pick_all d hd p2 s2 [(⟨#[]⟩ : ByteArray), (⟨#[120]⟩ : ByteArray), (⟨#[34]⟩ : ByteArray), (⟨#[34, 34]⟩ : ByteArray), (⟨#[120, 52, 49]⟩ : ByteArray), (⟨#[120, 48, 97]⟩ : ByteArray), (⟨#[34, 97]⟩ : ByteArray), (⟨#[97, 34]⟩ : ByteArray), (⟨#[120, 103, 48]⟩ : ByteArray), (⟨#[34, 255, 34]⟩ : ByteArray), (⟨#[88, 48, 97]⟩ : ByteArray)] (by simp) hp2
    rw [if_pos c0, e3, Option.bind_some]
    refine ⟨t, rfl, ?_⟩
    simp only [List.mem_cons, List.not_mem_nil, or_false] at ht
    rcases ht with rfl | rfl | rfl | rfl | rfl | rfl | rfl | rfl | rfl | rfl | rfl <;> decide
  · rw [if_neg c0]
    by_cases c1 : v = 1
    · rw [if_pos c1, if_pos (by omega)]
      refine ⟨_, rfl, ?_⟩
      rw [ByteArray.size_append]
      show (shownOf b).size + 1 ≤ _
      omega
    · rw [if_neg c1]
      exact ⟨_, rfl, by omega⟩
theorem DrawRune_all (k : Nat) (hk : d.length + 10 ≤ k) : ∃ r, spec_DrawRuneBytes.f k d = some r := by
  unfold spec_DrawRuneBytes.f
  obtain ⟨s, e⟩ := l1New_all d hd k (by omega)
  rw [e, Option.bind_some]
  obtain ⟨v, p1, s1, e1, hp1⟩ := l1Once_all d hd 0 s 2 (Int.le_refl _)
  rw [e1, Option.bind_some]
  by_cases c : v = true
  · obtain ⟨r, p2, s2, e2, hr, hp2⟩ := l1PickInt_all d hd p1 s1 [(-1), 0, 127, 128, 2047, 2048, 55295, 55296, 57343, 57344, 65535, 65536, 1114111, 1114112, (-9223372036854775808)] (by simp) hp1
    rw [if_pos c, e2, Option.bind_some]
    exact ⟨_, rfl⟩
  · obtain ⟨v2, p2, s2, e2, _, _, _, hp2⟩ := l1Below_all d hd p1 s1 60000 hp1
    obtain ⟨v3, p3, s3, e3, _, _, _, hp3⟩ := l1Below_all d hd p2 s2 20 hp2
    rw [if_neg c, e2, Option.bind_some, e3, Option.bind_some]
    exact ⟨_, rfl⟩
end

theorem impl_rune (r : Int) : impl_RuneBytes.f r = if Lib.validRune r = true then some (Lib.encodeRuneZ r, true) else some ([], false) := by
  unfold impl_RuneBytes.f
  by_cases h : Lib.validRune r = true
  · have hv := (valid_eq r).1 h
    rw [if_pos ⟨by omega, by omega, h⟩, if_pos h, encode_bytes r h]
  · rw [if_neg (by rintro ⟨_, _, h2⟩; exact h h2), if_neg h]

theorem plain65 : plainOf [65] = true := by
  have h1 : encAll [65] = [65] := by decide
  rw [← h1, plain_enc [65] (fun r hr => by obtain rfl := List.mem_singleton.1 hr; decide)]
  decide

theorem width_le (b : List Int) : widthOf b ≤ (b.length : Int) := by
  have := runesOf_length b
  unfold widthOf
  split <;> omega

section
variable (l : List Int) (hl : l.length ≤ 1048576) (b : List Int) (hb : Few 32 b)
include hl hb

theorem texts_j4 (k : Nat) (hk : 400 ≤ k) : laws_FnTexts.j4 k b (runesOf b).1 false = some true := by
  obtain ⟨k, rfl⟩ : ∃ m, k = m + 1 := ⟨k - 1, by omega⟩
  have hbl := hb.1
  have hn : b.length ≤ 1048576 := by omega
  have h65 : impl_Plain.f k [65] = some true := by
    rw [impl_Plain_all [65] (fun x hx => by obtain rfl := List.mem_singleton.1 hx; omega) (by simp) k (by simp; omega), plain65]
  simp only [laws_FnTexts.j4]
  rw [if_neg Bool.false_ne_true, impl_Width_all b hb.2 hn k (by omega), Option.bind_some, if_pos (width_le b), impl_Plain_all b hb.2 hn k (by omega), Option.bind_some]
  by_cases hp : plainOf b = true
  · have hw : widthOf b = ((runesOf b).1.length : Int) := if_pos hp
    rw [if_pos hp, Option.bind_some, if_pos hw, h65, Option.bind_some]
  · rw [if_neg hp, h65, Option.bind_some]

theorem texts_j3 (k : Nat) (hk : l.length + 500 ≤ k) : laws_FnTexts.j3 k l b (runesOf b).1 false = some true := by
  obtain ⟨k, rfl⟩ : ∃ m, k = m + 1 := ⟨k - 1, by omega⟩
  obtain ⟨r, e⟩ := DrawRune_all l hl k (by omega)
  simp only [laws_FnTexts.j3]
  rw [if_neg Bool.false_ne_true, e, Option.bind_some, impl_rune r]
  by_cases hv : Lib.validRune r = true
  · have hlr := Lib.encodeRuneZ_length r
    have hwr : ∀ x ∈ Lib.encodeRuneZ r, 0 ≤ x ∧ x ≤ 255 := fun x hx => by have := Lib.encodeRuneZ_byte r x hx; omega
    have hone : encAll [r] = Lib.encodeRuneZ r := by
      show Lib.encodeRuneZ r ++ [] = _
      rw [List.append_nil]
    have hro : runesOf (Lib.encodeRuneZ r) = ([r], true) := by
      rw [← hone, runes_enc [r] (fun x hx => by obtain rfl := List.mem_singleton.1 hx; exact hv)]
    rw [if_pos hv, Option.bind_some]
    show ((impl_RunesOf.f (Lib.encodeRuneZ r)).bind _) = _
    rw [impl_RunesOf_all _ hwr (by omega), hro, Option.bind_some]
    show (if true = true then (if true = true then (if (([r] : List Int).length : Int) = 1 then (if 0 < (([r] : List Int).length : Int) then laws_FnTexts.j4 k b (runesOf b).1 (rd [r] 0 != r) else none) else _) else _) else _) = some true
    rw [if_pos rfl, if_pos rfl, if_pos (show ((([r] : List Int).length : Int) = 1) by simp), if_pos (by simp)]
    have hrd : rd [r] 0 = r := rfl
    rw [hrd, bne_self_eq_false]
    exact texts_j4 l hl b hb k (by omega)
  · rw [if_neg hv, Option.bind_some]
    show ((impl_RunesOf.f []).bind _) = _
    rw [impl_RunesOf_all [] (fun x hx => by cases hx) (by simp), Option.bind_some]
    show (if false = true then _ else laws_FnTexts.j4 k b (runesOf b).1 false) = some true
    rw [if_neg Bool.false_ne_true]
    exact texts_j4 l hl b hb k (by omega)

theorem texts_j2 (k : Nat) (hk : l.length + 1500 ≤ k) : laws_FnTexts.j2 k l b (runesOf b).1 false = some true := by
  obtain ⟨k, rfl⟩ : ∃ m, k = m + 1 := ⟨k - 1, by omega⟩
  obtain ⟨s, e, hs⟩ := DrawUnshown_all l hl k (by omega)
  have hu := unshownOf_length s
  simp only [laws_FnTexts.j2]
  rw [if_neg Bool.false_ne_true, e, Option.bind_some, impl_Unshown_all s (by omega) k (by omega), Option.bind_some]
  by_cases ht : (unshownOf s).2 = true
  · obtain ⟨h1, h2⟩ := shown_unshown s ht
    rw [if_pos ht, impl_Shown_all _ h2 (by omega) k (by omega), Option.bind_some, h1, bne_self_eq_false]
    exact texts_j3 l hl b hb k (by omega)
  · rw [if_neg ht]
    exact texts_j3 l hl b hb k (by omega)

theorem texts_l0 (hv : (runesOf b).2 = true → ∀ r ∈ (runesOf b).1, Lib.validRune r = true) (hnil : (runesOf b).2 = false → (runesOf b).1 = []) :
    ∀ (m k i : Nat) (acc : List Int), i ≤ (runesOf b).1.length → (runesOf b).1.length - i = m → l.length + 1600 + m ≤ k → acc = encAll ((runesOf b).1.take i) →
    laws_FnTexts.l0 k l b (runesOf b).1 (runesOf b).2 acc (i : Int) = some true := by
  have hbl := hb.1
  have hn : b.length ≤ 1048576 := by omega
  have hrl := runesOf_length b
  intro m
  induction m with
  | zero =>
    intro k i acc hi hm hk ha
    obtain ⟨k, rfl⟩ : ∃ m, k = m + 1 := ⟨k - 1, by omega⟩
    simp only [laws_FnTexts.l0]
    rw [if_neg (by omega)]
    by_cases hok : (runesOf b).2 = true
    · have hbe := (runes_bytes b hb.2 hok).1
      have hae : acc = b := by rw [ha, List.take_of_length_le (by omega), hbe]
      rw [if_pos hok, hae, if_pos rfl]
      exact texts_j2 l hl b hb k (by omega)
    · have hof : (runesOf b).2 = false := by simpa using hok
      have hpl : plainOf b = false := by
        unfold plainOf
        rw [hof]
        rfl
      have hne := hnil hof
      rw [if_neg hok, impl_Plain_all b hb.2 hn k (by omega), hpl, Option.bind_some, if_neg Bool.false_ne_true]
      have hz : (((runesOf b).1.length : Int) != 0) = false := by rw [hne]; rfl
      rw [hz]
      exact texts_j2 l hl b hb k (by omega)
  | succ m ih =>
    intro k i acc hi hm hk ha
    obtain ⟨k, rfl⟩ : ∃ m, k = m + 1 := ⟨k - 1, by omega⟩
    have hok : (runesOf b).2 = true := by
      cases h : (runesOf b).2 with
      | true => rfl
      | false =>
        have := hnil h
        rw [this] at hm
        simp at hm
    have hr := hv hok _ (rd_mem (xs := (runesOf b).1) (i := i) (by omega))
    have hlr := Lib.encodeRuneZ_length (rd (runesOf b).1 (i : Int))
    have hbe := (runes_bytes b hb.2 hok).1
    have hal : acc.length ≤ 32 := by
      have h1 : b = encAll ((runesOf b).1.take i) ++ encAll ((runesOf b).1.drop i) := by rw [← encAll_append, List.take_append_drop, hbe]
      have h2 := congrArg List.length h1
      rw [List.length_append] at h2
      rw [ha]
      omega
    simp only [laws_FnTexts.l0]
    rw [if_pos (by omega), if_pos (by omega), impl_rune, if_pos hr, Option.bind_some]
    show (if true = true then (if acc.length + (Lib.encodeRuneZ (rd (runesOf b).1 (i : Int))).length < 140737488355328 then laws_FnTexts.l0 k l b (runesOf b).1 (runesOf b).2 (acc ++ Lib.encodeRuneZ (rd (runesOf b).1 (i : Int))) (wrap64 ((i : Int) + 1)) else none) else _) = some true
    rw [if_pos rfl, if_pos (by omega), wrap_in _ (by omega) (by omega), show (i : Int) + 1 = ((i + 1 : Nat) : Int) by omega]
    refine ih k (i + 1) _ (by omega) (by omega) (by omega) ?_
    rw [take_succ_rd (xs := (runesOf b).1) (i := i) (by omega), encAll_append, ← ha]
    show _ = acc ++ (Lib.encodeRuneZ _ ++ [])
    rw [List.append_nil]
end

theorem Texts_holds : laws_FnTexts.Pure := by
  intro l hl0
  refine ⟨l.length + 2000, ?_⟩
  unfold laws_FnTexts.f laws_big.f
  rw [Option.bind_some]
  by_cases h : (l.length : Int) > 1048576
  · rw [decide_eq_true h, if_pos rfl]
  · have hl : l.length ≤ 1048576 := by omega
    rw [decide_eq_false h, if_neg Bool.false_ne_true]
    obtain ⟨b, e, hb⟩ := DrawShown_all l hl (l.length + 2000) (by omega)
    have hbl := hb.1
    have hn : b.length ≤ 1048576 := by omega
    have hsz := shown_size b
    have hhs : (strOfNums (hexL b)).size = 2 * b.length := by rw [strOfNums_size, hexL_length]
    rw [e, Option.bind_some, impl_HexOf_all b hn hb.2 _ (by omega), Option.bind_some, impl_FromHex_all _ (by omega) _ (by omega), fromHex_hex b hb.2, Option.bind_some, impl_Shown_all b hb.2 hn _ (by omega), Option.bind_some, impl_Unshown_all _ (by omega) _ (by omega), unshown_shown b hb.2, Option.bind_some]
    rw [if_pos rfl, if_pos rfl, if_pos rfl, if_pos rfl, hhs, wrap_in _ (by omega) (by omega)]
    have hz : (((2 * b.length : Nat) : Int) != 2 * (b.length : Int)) = false := by
      rw [show ((2 * b.length : Nat) : Int) = 2 * (b.length : Int) by omega]
      exact bne_self_eq_false _
    rw [hz]
    show laws_FnTexts.j0 (l.length + 1999 + 1) l b false = some true
    simp only [laws_FnTexts.j0]
    rw [if_neg Bool.false_ne_true, impl_RunesOf_all b hb.2 hn, Option.bind_some, show (0 : Int) = ((0 : Nat) : Int) from rfl]
    have hrl := runesOf_length b
    refine texts_l0 l hl b hb (fun hok => (runes_bytes b hb.2 hok).2) (fun hok => ?_) (runesOf b).1.length _ 0 [] (Nat.zero_le _) rfl (by omega) rfl
    unfold runesOf at hok ⊢
    split
    · rename_i hc
      rw [if_pos hc] at hok
      cases hok
    · rfl
end Go.Proofs.YtklkaaaegnojkaaDoor.PureD
namespace Go.Proofs.YtklkaaaegnojkaaDoor.Pure
theorem FnTexts : Go.Proofs.YtklkaaaegnojkaaDoor.D.laws_FnTexts.Pure := Go.Proofs.YtklkaaaegnojkaaDoor.PureD.Texts_holds
end Go.Proofs.YtklkaaaegnojkaaDoor.Pure
