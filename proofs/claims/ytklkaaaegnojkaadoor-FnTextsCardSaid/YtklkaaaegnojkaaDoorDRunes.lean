/-
The reference's RunesOf gives what decoding gives: the runes of bytes that are UTF-8, nothing of others.
-/
import Derived.Test.YtklkaaaegnojkaaDoorDx1
import Derived.Test.YtklkaaaegnojkaaDoorDx5
import Derived.Test.YtklkaaaegnojkaaDoorDx6
import Derived.Test.YtklkaaaegnojkaaDoorDRuneSpec
import Derived.Test.YtklkaaaegnojkaaDoorIter
import Derived.Lib.ValidLaws
import Derived.Lib.Strings
namespace Go.Proofs.YtklkaaaegnojkaaDoor.PureD
open Go Go.RowKit Go.Proofs.YtklkaaaegnojkaaDoor.Pure Go.Proofs.YtklkaaaegnojkaaDoor.PureD Go.Proofs.YtklkaaaegnojkaaDoor.D Go.Proofs.YtklkaaaegnojkaaDoorW.PrintWords Go.Proofs.YtklkaaaegnojkaaDoorW.PrintLast Go.Proofs.YtklkaaaegnojkaaDoorW.PrintMore
set_option linter.unusedSectionVars false

theorem toList_data (s : ByteArray) : s.toList = s.data.toList := by
  obtain ⟨⟨l⟩⟩ := s
  simp
theorem bytes_inj : ∀ (a b : List Int), (∀ x ∈ a, 0 ≤ x ∧ x ≤ 255) → (∀ x ∈ b, 0 ≤ x ∧ x ≤ 255) → a.map (fun n => UInt8.ofNat n.toNat) = b.map (fun n => UInt8.ofNat n.toNat) → a = b
  | [], [], _, _, _ => rfl
  | [], _ :: _, _, _, h => by simp at h
  | _ :: _, [], _, _, h => by simp at h
  | x :: a, y :: b, ha, hb, h => by
    simp only [List.map_cons, List.cons.injEq] at h
    have hx := ha x (by simp)
    have hy := hb y (by simp)
    have e : x = y := by
      have := congrArg UInt8.toNat h.1
      simp at this
      omega
    rw [e, bytes_inj a b (fun z hz => ha z (by simp [hz])) (fun z hz => hb z (by simp [hz])) h.2]
theorem same_bytes (a b : List Int) (ha : ∀ x ∈ a, 0 ≤ x ∧ x ≤ 255) (hb : ∀ x ∈ b, 0 ≤ x ∧ x ≤ 255) : spec_l1Same.f a b = some (decide (a = b)) := by
  unfold spec_l1Same.f
  congr 1
  rw [Bool.eq_iff_iff, beq_iff_eq, decide_eq_true_eq]
  constructor
  · intro h
    have h2 : (strOfNums a).data.toList = (strOfNums b).data.toList := by rw [← toList_data, ← toList_data]; exact h
    rw [strOfNums_data, strOfNums_data] at h2
    exact bytes_inj a b ha hb h2
  · rintro rfl
    rfl

theorem enc_range (r : Int) (h0 : 0 ≤ r) (h1 : r ≤ 1114111) (hv : Lib.validRune r = true) : ∀ x ∈ Lib.encodeRuneZ r, 0 ≤ x ∧ x ≤ 255 := by
  rw [valid_eq] at hv
  intro x hx
  by_cases a : r < 128
  · rw [Lib.encodeRuneZ_one (by omega) (by omega)] at hx
    simp at hx; omega
  · by_cases b : r < 2048
    · rw [Lib.encodeRuneZ_two (by omega) (by omega)] at hx
      simp at hx; omega
    · by_cases c : r < 65536
      · rw [Lib.encodeRuneZ_three (by omega)] at hx
        simp at hx; omega
      · rw [Lib.encodeRuneZ_four (by omega) (by omega)] at hx
        simp at hx; omega

section
variable (l : List Int) (hw : ∀ x ∈ l, 0 ≤ x ∧ x ≤ 255) (hn : l.length ≤ 1048576)
include hw hn

theorem fin (i m : Nat) (hm : i + m ≤ l.length) (k : Nat) (hk : 0 < k) (acc : List Int) (r : Int) :
    spec_RunesOf.l1 (k + 1) l acc (i : Int) (m : Int) r (m : Int) = if (0 ≤ r ∧ r ≤ 1114111 ∧ Lib.validRune r = true) ∧ Lib.encodeRuneZ r = (l.drop i).take m then (if acc.length < 17592186044416 then spec_RunesOf.l0 k l (acc ++ [r]) ((i + m : Nat) : Int) else none) else some ([], false) := by
  simp only [spec_RunesOf.l1]
  rw [if_neg (by omega : ¬ (m : Int) < m), spec_rune r k hk]
  by_cases hv : 0 ≤ r ∧ r ≤ 1114111 ∧ Lib.validRune r = true
  · rw [if_pos hv, Option.bind_some]
    rw [if_pos (show ((Lib.encodeRuneZ r, true) : List Int × Bool).2 = true from rfl)]
    rw [wrap_in ((i : Int) + m) (by omega) (by omega), if_pos (by omega : (0 : Int) ≤ i), if_pos (by omega : (i : Int) ≤ (i : Int) + m), if_pos (by omega : (i : Int) + m ≤ (l.length : Int))]
    have e1 : ((i : Int) + (m : Int)).toNat = i + m := by omega
    have e2 : ((i : Int)).toNat = i := by omega
    have e3 : (l.take (i + m)).drop i = (l.drop i).take m := by rw [List.drop_take]; congr 1; omega
    rw [e1, e2, e3, show spec_l1Same.f ((Lib.encodeRuneZ r, true) : List Int × Bool).1 ((l.drop i).take m) = _ from same_bytes _ _ (enc_range r hv.1 hv.2.1 hv.2.2) (fun x hx => hw x (List.mem_of_mem_drop (List.mem_of_mem_take hx))), Option.bind_some]
    have e4 : (i : Int) + (m : Int) = ((i + m : Nat) : Int) := by omega
    rw [e4]
    by_cases he : Lib.encodeRuneZ r = (l.drop i).take m
    · rw [if_pos (decide_eq_true he)]
      exact (if_pos ⟨hv, he⟩).symm
    · rw [if_neg (by rw [decide_eq_false he]; decide)]
      exact (if_neg (fun h => he h.2)).symm
  · rw [if_neg hv, Option.bind_some]
    rw [if_neg (show ¬ ((([] : List Int), false) : List Int × Bool).2 = true from Bool.false_ne_true)]
    exact (if_neg (fun h => hv h.1)).symm

theorem cont (i j m : Nat) (hj : j < m) (hm : i + m ≤ l.length) (k : Nat) (acc : List Int) (r : Int) (h0 : 0 ≤ r) (h1 : r ≤ 100000000) :
    spec_RunesOf.l1 (k + 1) l acc (i : Int) (m : Int) r (j : Int) = if 128 ≤ l.getD (i + j) 0 ∧ l.getD (i + j) 0 ≤ 191 then spec_RunesOf.l1 k l acc (i : Int) (m : Int) (64 * r + l.getD (i + j) 0 - 128) ((j + 1 : Nat) : Int) else some ([], false) := by
  have hlt : i + j < l.length := by omega
  have hx := hw _ (rd_mem hlt)
  rw [rd_nat] at hx
  simp only [spec_RunesOf.l1]
  rw [if_pos (by omega : (j : Int) < m), wrap_in ((i : Int) + j) (by omega) (by omega), if_pos (by omega : (0 : Int) ≤ (i : Int) + j), if_pos (by omega : (i : Int) + j < (l.length : Int))]
  rw [show (i : Int) + (j : Int) = ((i + j : Nat) : Int) by omega, rd_nat]
  rw [wrap_in (l.getD (i + j) 0) (by omega) (by omega), wrap_in (64 * r) (by omega) (by omega), wrap_in (64 * r + _) (by omega) (by omega), wrap_in (64 * r + _ - 128) (by omega) (by omega), wrap_in ((j : Int) + 1) (by omega) (by omega)]
  rw [show (j : Int) + 1 = ((j + 1 : Nat) : Int) by omega]
  unfold spec_l1In.f
  by_cases ha : l.getD (i + j) 0 ≥ 128
  · rw [if_pos ha]
    simp only [Option.bind_some, decide_eq_true_eq]
    by_cases hb : l.getD (i + j) 0 ≤ 191
    · rw [if_pos hb, if_pos ⟨ha, hb⟩]
    · rw [if_neg hb, if_neg (fun h => hb h.2)]
  · rw [if_neg ha, if_neg (fun h => ha h.1)]
    simp

omit hn in
theorem bytesOnly_of : bytesOnly l = true := List.all_eq_true.2 fun x hx => decide_eq_true (hw x hx)
theorem get_all (j : Nat) : (((strOfNums l).get! j).toNat : Int) = l.getD j 0 := by
  by_cases hj : j < l.length
  · exact strOfNums_get l (bytesOnly_of l hw) j hj
  · rw [← Lib.getD_get!', strOfNums_data, List.getD_eq_getElem?_getD, List.getD_eq_getElem?_getD, List.getElem?_eq_none (by simp; omega), List.getElem?_eq_none (by omega)]
    rfl
omit hw hn in
theorem in_eq (a lo hi : Int) : spec_l1In.f a lo hi = some (decide (lo ≤ a ∧ a ≤ hi)) := by
  unfold spec_l1In.f
  by_cases h : a ≥ lo
  · rw [if_pos h]
    by_cases h2 : a ≤ hi
    · rw [decide_eq_true h2, decide_eq_true ⟨h, h2⟩]
    · rw [decide_eq_false h2, decide_eq_false (fun z => h2 z.2)]
  · rw [if_neg h, decide_eq_false (fun z => h z.1)]
omit hw in
theorem j1_eq (i m k : Nat) (hi : i < l.length) (hm : m ≤ 4) (acc : List Int) (r : Int) : spec_RunesOf.j1 (k + 1) l acc (i : Int) (m : Int) r = if i + m ≤ l.length then spec_RunesOf.l1 k l acc (i : Int) (m : Int) r ((1 : Nat) : Int) else some ([], false) := by
  simp only [spec_RunesOf.j1]
  rw [wrap_in ((i : Int) + m) (by omega) (by omega)]
  by_cases h : i + m ≤ l.length
  · rw [if_pos h, if_neg (by omega)]
    rfl
  · rw [if_neg h, if_pos (by omega)]
omit hw hn in
theorem take_two (i : Nat) (h : i + 2 ≤ l.length) : (l.drop i).take 2 = [l.getD i 0, l.getD (i + 1) 0] := by
  rw [drop_cons_rd (by omega), drop_cons_rd (xs := l) (i := i + 1) (by omega), rd_nat, rd_nat]
  rfl
omit hw hn in
theorem take_one (i : Nat) (h : i + 1 ≤ l.length) : (l.drop i).take 1 = [l.getD i 0] := by
  rw [drop_cons_rd (by omega), rd_nat]
  rfl
omit hw hn in
theorem take_three (i : Nat) (h : i + 3 ≤ l.length) : (l.drop i).take 3 = [l.getD i 0, l.getD (i + 1) 0, l.getD (i + 2) 0] := by
  rw [drop_cons_rd (by omega), drop_cons_rd (xs := l) (i := i + 1) (by omega), drop_cons_rd (xs := l) (i := i + 1 + 1) (by omega), rd_nat, rd_nat, rd_nat]
  rfl
omit hw hn in
theorem take_four (i : Nat) (h : i + 4 ≤ l.length) : (l.drop i).take 4 = [l.getD i 0, l.getD (i + 1) 0, l.getD (i + 2) 0, l.getD (i + 3) 0] := by
  rw [drop_cons_rd (by omega), drop_cons_rd (xs := l) (i := i + 1) (by omega), drop_cons_rd (xs := l) (i := i + 1 + 1) (by omega), drop_cons_rd (xs := l) (i := i + 1 + 1 + 1) (by omega), rd_nat, rd_nat, rd_nat, rd_nat]
  rfl

/-- What the step gives, told by a decoding. -/
def stepRes (k : Nat) (acc : List Int) (i : Nat) (D : Nat × Nat) : Option (List Int × Bool) :=
  if D.1 = 65533 ∧ D.2 = 1 then some ([], false) else if acc.length < 17592186044416 then spec_RunesOf.l0 k l (acc ++ [(D.1 : Int)]) ((i + D.2 : Nat) : Int) else none
omit hw hn in
theorem stepRes_bad (k : Nat) (acc : List Int) (i : Nat) : stepRes l k acc i (65533, 1) = some ([], false) := if_pos ⟨rfl, rfl⟩
omit hw hn in
theorem stepRes_good (k : Nat) (acc : List Int) (i : Nat) (r : Int) (m : Nat) (h0 : 0 ≤ r) (h : r ≠ 65533 ∨ m ≠ 1) : stepRes l k acc i (r.toNat, m) = if acc.length < 17592186044416 then spec_RunesOf.l0 k l (acc ++ [r]) ((i + m : Nat) : Int) else none := by
  unfold stepRes
  rw [if_neg (show ¬ (r.toNat = 65533 ∧ m = 1) by omega), show ((r.toNat : Nat) : Int) = r by omega]

theorem step (i k : Nat) (hi : i < l.length) (hk : 7 ≤ k) (acc : List Int) :
    ∃ k', k ≤ k' + 7 ∧ k' < k ∧ spec_RunesOf.l0 k l acc (i : Int) = stepRes l k' acc i (Utf8.decode (strOfNums l) i) := by
  obtain ⟨k, rfl⟩ : ∃ m, k = m + 7 := ⟨k - 7, by omega⟩
  have hx := hw _ (rd_mem hi)
  rw [rd_nat] at hx
  rw [Lib.decode_at, strOfNums_size]
  have g0 := get_all l hw hn i
  have g1 := get_all l hw hn (i + 1)
  have g2 := get_all l hw hn (i + 2)
  have g3 := get_all l hw hn (i + 3)
  obtain ⟨b0, hb0⟩ : ∃ b, ((strOfNums l).get! i).toNat = b := ⟨_, rfl⟩
  obtain ⟨b1, hb1⟩ : ∃ b, ((strOfNums l).get! (i + 1)).toNat = b := ⟨_, rfl⟩
  obtain ⟨b2, hb2⟩ : ∃ b, ((strOfNums l).get! (i + 2)).toNat = b := ⟨_, rfl⟩
  obtain ⟨b3, hb3⟩ : ∃ b, ((strOfNums l).get! (i + 3)).toNat = b := ⟨_, rfl⟩
  rw [hb0] at g0 ⊢
  rw [hb1] at g1 ⊢
  rw [hb2] at g2 ⊢
  rw [hb3] at g3 ⊢
  clear hb0 hb1 hb2 hb3
  have e0 : spec_RunesOf.l0 (k + 7) l acc (i : Int) = if 192 ≤ (b0 : Int) ∧ (b0 : Int) ≤ 223 then spec_RunesOf.j1 (k + 6) l acc (i : Int) ((2 : Nat) : Int) ((b0 : Int) - 192) else if 224 ≤ (b0 : Int) ∧ (b0 : Int) ≤ 239 then spec_RunesOf.j1 (k + 6) l acc (i : Int) ((3 : Nat) : Int) ((b0 : Int) - 224) else if 240 ≤ (b0 : Int) ∧ (b0 : Int) ≤ 247 then spec_RunesOf.j1 (k + 6) l acc (i : Int) ((4 : Nat) : Int) ((b0 : Int) - 240) else spec_RunesOf.j1 (k + 6) l acc (i : Int) ((1 : Nat) : Int) (b0 : Int) := by
    simp only [spec_RunesOf.l0]
    rw [if_pos (by omega : (i : Int) < (l.length : Int)), if_pos (by omega : (0 : Int) ≤ (i : Int)), rd_nat, ← g0, wrap_in (b0 : Int) (by omega) (by omega), wrap_in ((b0 : Int) - 192) (by omega) (by omega), wrap_in ((b0 : Int) - 224) (by omega) (by omega), wrap_in ((b0 : Int) - 240) (by omega) (by omega), in_eq, in_eq, in_eq, Option.bind_some]
    by_cases h1 : 192 ≤ (b0 : Int) ∧ (b0 : Int) ≤ 223
    · rw [if_pos (decide_eq_true h1), if_pos h1]
      rfl
    · rw [if_neg (by rw [decide_eq_false h1]; exact Bool.false_ne_true), if_neg h1, Option.bind_some]
      by_cases h2 : 224 ≤ (b0 : Int) ∧ (b0 : Int) ≤ 239
      · rw [if_pos (decide_eq_true h2), if_pos h2]
        rfl
      · rw [if_neg (by rw [decide_eq_false h2]; exact Bool.false_ne_true), if_neg h2, Option.bind_some]
        by_cases h3 : 240 ≤ (b0 : Int) ∧ (b0 : Int) ≤ 247
        · rw [if_pos (decide_eq_true h3), if_pos h3]
          rfl
        · rw [if_neg (by rw [decide_eq_false h3]; exact Bool.false_ne_true), if_neg h3]
          rfl
  rw [e0]
  clear e0
  have bad : ∀ k', Lib.decodeN (l.length - i) b0 b1 b2 b3 = (65533, 1) → stepRes l k' acc i (Lib.decodeN (l.length - i) b0 b1 b2 b3) = some ([], false) := fun k' h => by rw [h, stepRes_bad]
  by_cases h1 : 192 ≤ (b0 : Int) ∧ (b0 : Int) ≤ 223
  · rw [if_pos h1, j1_eq l hn i 2 (k + 5) hi (by omega)]
    refine ⟨k + 3, by omega, by omega, ?_⟩
    by_cases hl : i + 2 ≤ l.length
    · rw [if_pos hl, cont l hw hn i 1 2 (by omega) hl (k + 4) acc _ (by omega) (by omega), ← g1]
      by_cases hc : 128 ≤ (b1 : Int) ∧ (b1 : Int) ≤ 191
      · rw [if_pos hc]
        refine (fin l hw hn i 2 hl (k + 3) (by omega) acc _).trans ?_
        rw [take_two l i hl, ← g0, ← g1]
        obtain ⟨R, hR⟩ : ∃ R, 64 * ((b0 : Int) - 192) + (b1 : Int) - 128 = R := ⟨_, rfl⟩
        rw [hR]
        by_cases hr : 128 ≤ R
        · have hD : Lib.decodeN (l.length - i) b0 b1 b2 b3 = (R.toNat, 2) := by
            unfold Lib.decodeN
            repeat' split
            all_goals first | (exfalso; omega) | exact congrArg (fun z : Nat => (z, 2)) (by omega)
          rw [hD, stepRes_good l _ _ _ R 2 (by omega) (by omega), if_pos ⟨⟨by omega, by omega, by rw [valid_eq]; omega⟩, by rw [Lib.encodeRuneZ_two (by omega) (by omega)]; simp only [List.cons.injEq, and_true]; omega⟩]
        · rw [bad _ (by
            unfold Lib.decodeN
            repeat' split
            all_goals first | rfl | (exfalso; omega)), if_neg (by
            rintro ⟨_, h⟩
            rw [Lib.encodeRuneZ_one (by omega) (by omega)] at h
            simp at h)]
      · rw [if_neg hc, bad _ (by
          unfold Lib.decodeN
          repeat' split
          all_goals first | rfl | (exfalso; omega))]
    · rw [if_neg hl, bad _ (by
        unfold Lib.decodeN
        repeat' split
        all_goals first | rfl | (exfalso; omega))]
  · rw [if_neg h1]
    by_cases h2 : 224 ≤ (b0 : Int) ∧ (b0 : Int) ≤ 239
    · rw [if_pos h2, j1_eq l hn i 3 (k + 5) hi (by omega)]
      refine ⟨k + 2, by omega, by omega, ?_⟩
      by_cases hl : i + 3 ≤ l.length
      · rw [if_pos hl, cont l hw hn i 1 3 (by omega) hl (k + 4) acc _ (by omega) (by omega), ← g1]
        by_cases hc : 128 ≤ (b1 : Int) ∧ (b1 : Int) ≤ 191
        · rw [if_pos hc, cont l hw hn i 2 3 (by omega) hl (k + 3) acc _ (by omega) (by omega), ← g2]
          by_cases hc2 : 128 ≤ (b2 : Int) ∧ (b2 : Int) ≤ 191
          · rw [if_pos hc2]
            refine (fin l hw hn i 3 hl (k + 2) (by omega) acc _).trans ?_
            rw [take_three l i hl, ← g0, ← g1, ← g2]
            obtain ⟨R, hR⟩ : ∃ R, 64 * (64 * ((b0 : Int) - 224) + (b1 : Int) - 128) + (b2 : Int) - 128 = R := ⟨_, rfl⟩
            rw [hR]
            by_cases hr : 2048 ≤ R ∧ (R < 55296 ∨ 57343 < R)
            · have hD : Lib.decodeN (l.length - i) b0 b1 b2 b3 = (R.toNat, 3) := by
                unfold Lib.decodeN
                repeat' split
                all_goals first | (exfalso; omega) | exact congrArg (fun z : Nat => (z, 3)) (by omega)
              rw [hD, stepRes_good l _ _ _ R 3 (by omega) (by omega), if_pos ⟨⟨by omega, by omega, by rw [valid_eq]; omega⟩, by rw [Lib.encodeRuneZ_three (by omega)]; simp only [List.cons.injEq, and_true]; omega⟩]
            · rw [bad _ (by
                unfold Lib.decodeN
                repeat' split
                all_goals first | rfl | (exfalso; omega)), if_neg (by
                rintro ⟨⟨_, _, hv⟩, h⟩
                rw [valid_eq] at hv
                by_cases h128 : R < 128
                · rw [Lib.encodeRuneZ_one (by omega) (by omega)] at h
                  simp at h
                · rw [Lib.encodeRuneZ_two (by omega) (by omega)] at h
                  simp at h)]
          · rw [if_neg hc2, bad _ (by
              unfold Lib.decodeN
              repeat' split
              all_goals first | rfl | (exfalso; omega))]
        · rw [if_neg hc, bad _ (by
            unfold Lib.decodeN
            repeat' split
            all_goals first | rfl | (exfalso; omega))]
      · rw [if_neg hl, bad _ (by
          unfold Lib.decodeN
          repeat' split
          all_goals first | rfl | (exfalso; omega))]
    · rw [if_neg h2]
      by_cases h3 : 240 ≤ (b0 : Int) ∧ (b0 : Int) ≤ 247
      · rw [if_pos h3, j1_eq l hn i 4 (k + 5) hi (by omega)]
        refine ⟨k + 1, by omega, by omega, ?_⟩
        by_cases hl : i + 4 ≤ l.length
        · rw [if_pos hl, cont l hw hn i 1 4 (by omega) hl (k + 4) acc _ (by omega) (by omega), ← g1]
          by_cases hc : 128 ≤ (b1 : Int) ∧ (b1 : Int) ≤ 191
          · rw [if_pos hc, cont l hw hn i 2 4 (by omega) hl (k + 3) acc _ (by omega) (by omega), ← g2]
            by_cases hc2 : 128 ≤ (b2 : Int) ∧ (b2 : Int) ≤ 191
            · rw [if_pos hc2, cont l hw hn i 3 4 (by omega) hl (k + 2) acc _ (by omega) (by omega), ← g3]
              by_cases hc3 : 128 ≤ (b3 : Int) ∧ (b3 : Int) ≤ 191
              · rw [if_pos hc3]
                refine (fin l hw hn i 4 hl (k + 1) (by omega) acc _).trans ?_
                rw [take_four l i hl, ← g0, ← g1, ← g2, ← g3]
                obtain ⟨R, hR⟩ : ∃ R, 64 * (64 * (64 * ((b0 : Int) - 240) + (b1 : Int) - 128) + (b2 : Int) - 128) + (b3 : Int) - 128 = R := ⟨_, rfl⟩
                rw [hR]
                by_cases hr : 65536 ≤ R ∧ R ≤ 1114111
                · have hD : Lib.decodeN (l.length - i) b0 b1 b2 b3 = (R.toNat, 4) := by
                    unfold Lib.decodeN
                    repeat' split
                    all_goals first | (exfalso; omega) | exact congrArg (fun z : Nat => (z, 4)) (by omega)
                  rw [hD, stepRes_good l _ _ _ R 4 (by omega) (by omega), if_pos ⟨⟨by omega, by omega, by rw [valid_eq]; omega⟩, by rw [Lib.encodeRuneZ_four (by omega) (by omega)]; simp only [List.cons.injEq, and_true]; omega⟩]
                · rw [bad _ (by
                    unfold Lib.decodeN
                    repeat' split
                    all_goals first | rfl | (exfalso; omega)), if_neg (by
                    rintro ⟨⟨_, _, hv⟩, h⟩
                    rw [valid_eq] at hv
                    by_cases h128 : R < 128
                    · rw [Lib.encodeRuneZ_one (by omega) (by omega)] at h
                      simp at h
                    · by_cases h2k : R < 2048
                      · rw [Lib.encodeRuneZ_two (by omega) (by omega)] at h
                        simp at h
                      · rw [Lib.encodeRuneZ_three (by omega)] at h
                        simp at h)]
              · rw [if_neg hc3, bad _ (by
                  unfold Lib.decodeN
                  repeat' split
                  all_goals first | rfl | (exfalso; omega))]
            · rw [if_neg hc2, bad _ (by
                unfold Lib.decodeN
                repeat' split
                all_goals first | rfl | (exfalso; omega))]
          · rw [if_neg hc, bad _ (by
              unfold Lib.decodeN
              repeat' split
              all_goals first | rfl | (exfalso; omega))]
        · rw [if_neg hl, bad _ (by
            unfold Lib.decodeN
            repeat' split
            all_goals first | rfl | (exfalso; omega))]
      · rw [if_neg h3, j1_eq l hn i 1 (k + 5) hi (by omega), if_pos (by omega)]
        refine ⟨k + 4, by omega, by omega, (fin l hw hn i 1 (by omega) (k + 4) (by omega) acc _).trans ?_⟩
        rw [take_one l i (by omega), ← g0]
        by_cases hr : (b0 : Int) < 128
        · have hD : Lib.decodeN (l.length - i) b0 b1 b2 b3 = ((b0 : Int).toNat, 1) := by
            unfold Lib.decodeN
            rw [if_pos (by omega)]
            simp
          rw [hD, stepRes_good l _ _ _ (b0 : Int) 1 (by omega) (by omega), if_pos ⟨⟨by omega, by omega, by rw [valid_eq]; omega⟩, Lib.encodeRuneZ_one (by omega) (by omega)⟩]
        · rw [bad _ (by
            unfold Lib.decodeN
            repeat' split
            all_goals first | rfl | (exfalso; omega)), if_neg (by
            rintro ⟨_, h⟩
            rw [Lib.encodeRuneZ_two (by omega) (by omega)] at h
            simp at h)]

omit hw hn in
theorem decodeL_at (s : ByteArray) (i : Nat) : Lib.decodeL (s.data.toList.drop i) = Utf8.decode s i := by
  rw [Lib.decodeL_N, Lib.decode_at, List.length_drop, ← Lib.size_eq]
  have e : ∀ j, (s.data.toList.drop i).getD j 0 = s.get! (i + j) := fun j => by
    rw [← Lib.getD_get!', List.getD_eq_getElem?_getD, List.getD_eq_getElem?_getD, List.getElem?_drop]
  rw [e 0, e 1, e 2, e 3, Nat.add_zero]
omit hw hn in
theorem runesAt_fuel (s : ByteArray) : ∀ (a b i : Nat), s.size ≤ i + a → s.size ≤ i + b → runesAt s a i = runesAt s b i
  | 0, b, i, ha, _ => by rw [runesAt_end s b i (by omega)]; rfl
  | a + 1, 0, i, _, hb => by rw [runesAt_end s _ i (by omega)]; rfl
  | a + 1, b + 1, i, ha, hb => by
    by_cases h : i < s.size
    · have hw := Lib.width_pos s i
      rw [runesAt_step s a i h, runesAt_step s b i h, runesAt_fuel s a b _ (by omega) (by omega)]
    · rw [runesAt_end s _ i h, runesAt_end s _ i h]
omit hw hn in
theorem runesAt_length (s : ByteArray) : ∀ (a i : Nat), (runesAt s a i).length ≤ a
  | 0, _ => Nat.le_refl _
  | a + 1, i => by
    by_cases h : i < s.size
    · rw [runesAt_step s a i h]
      have := runesAt_length s a (i + (Utf8.decode s i).2)
      simp only [List.length_cons]
      omega
    · rw [runesAt_end s _ i h]
      simp

theorem RunesOf_go : ∀ (d k i : Nat) (acc : List Int), i ≤ l.length → l.length - i ≤ d → 8 * d + 8 ≤ k → acc.length ≤ i →
    spec_RunesOf.l0 k l acc (i : Int) = some (if Lib.validD ((strOfNums l).data.toList.drop i) = true then (acc ++ runesAt (strOfNums l) (l.length - i) i, true) else ([], false)) := by
  have hsz := strOfNums_size l
  have hend : ∀ (k i : Nat) (acc : List Int), i = l.length → 1 ≤ k → spec_RunesOf.l0 k l acc (i : Int) = some (if Lib.validD ((strOfNums l).data.toList.drop i) = true then (acc ++ runesAt (strOfNums l) (l.length - i) i, true) else ([], false)) := by
    intro k i acc hi hk
    obtain ⟨k, rfl⟩ : ∃ m, k = m + 1 := ⟨k - 1, by omega⟩
    have e : (strOfNums l).data.toList.drop i = [] := List.drop_eq_nil_of_le (by rw [← Lib.size_eq]; omega)
    rw [e, Lib.validD_nil, if_pos rfl, runesAt_end _ _ _ (by omega), List.append_nil]
    simp only [spec_RunesOf.l0]
    rw [if_neg (by omega)]
  intro d
  induction d with
  | zero => exact fun k i acc hi hd hk ha => hend k i acc (by omega) (by omega)
  | succ d ih =>
    intro k i acc hi hd hk ha
    by_cases he : i = l.length
    · exact hend k i acc he (by omega)
    · have hlt : i < l.length := by omega
      obtain ⟨k', h1, h2, h3⟩ := step l hw hn i k hlt (by omega) acc
      rw [h3]
      have hwd := Lib.width_pos (strOfNums l) i
      have hwn := decode_within (strOfNums l) i (by omega)
      have hne : (strOfNums l).data.toList.drop i ≠ [] := by
        intro h
        have := congrArg List.length h
        rw [List.length_drop, ← Lib.size_eq] at this
        simp at this
        omega
      rw [Lib.validD_step _ hne, decodeL_at, List.drop_drop]
      unfold stepRes
      by_cases hb : (Utf8.decode (strOfNums l) i).1 = 65533 ∧ (Utf8.decode (strOfNums l) i).2 = 1
      · rw [if_pos hb, if_pos hb, if_neg Bool.false_ne_true]
      · rw [if_neg hb, if_neg hb, if_pos (by omega), ih k' _ _ (by omega) (by omega) (by omega) (by rw [List.length_append, List.length_singleton]; omega)]
        rw [runesAt_fuel (strOfNums l) (l.length - i) (l.length - i - 1 + 1) i (by omega) (by omega), runesAt_step _ _ i (by omega), runesAt_fuel (strOfNums l) (l.length - i - 1) (l.length - (i + (Utf8.decode (strOfNums l) i).2)) _ (by omega) (by omega), List.append_assoc]
        rfl

/-- What both give. -/
def runesOf (l : List Int) : List Int × Bool := if Lib.validD (strOfNums l).data.toList = true then (runesAt (strOfNums l) l.length 0, true) else ([], false)
theorem spec_RunesOf_all (k : Nat) (hk : 8 * l.length + 8 ≤ k) : spec_RunesOf.f k l = some (runesOf l) := by
  unfold spec_RunesOf.f
  exact RunesOf_go l hw hn l.length k 0 [] (by omega) (by omega) hk (by simp)
theorem impl_RunesOf_all : impl_RunesOf.f l = some (runesOf l) := by
  unfold impl_RunesOf.f
  rw [if_pos ⟨by omega, bytesOnly_of l hw⟩]
  rfl
omit hw hn in
theorem runesOf_length : (runesOf l).1.length ≤ l.length := by
  unfold runesOf
  split
  · exact runesAt_length _ _ _
  · simp
end
end Go.Proofs.YtklkaaaegnojkaaDoor.PureD
