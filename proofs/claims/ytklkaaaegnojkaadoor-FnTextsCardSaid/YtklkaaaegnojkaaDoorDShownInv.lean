/-
What is shown of bytes is read back as just those bytes; what is read of a text is shown as just that text.
-/
import Derived.Test.YtklkaaaegnojkaaDoorDHexSpec
import Derived.Test.YtklkaaaegnojkaaDoorDHexBackImpl
import Derived.Test.YtklkaaaegnojkaaDoorDRunes
import Derived.Test.YtklkaaaegnojkaaDoorDUnshownImpl
namespace Go.Proofs.YtklkaaaegnojkaaDoor.PureD
open Go Go.RowKit Go.Proofs.YtklkaaaegnojkaaDoor.Pure Go.Proofs.YtklkaaaegnojkaaDoor.PureD Go.Proofs.YtklkaaaegnojkaaDoor.D Go.Proofs.YtklkaaaegnojkaaDoorW.PrintWords Go.Proofs.YtklkaaaegnojkaaDoorW.PrintLast Go.Proofs.YtklkaaaegnojkaaDoorW.PrintMore

theorem digitOf_digit (x : Int) (h0 : 0 ≤ x) (h1 : x < 16) : digitOf (digit x) = x := by
  unfold digitOf digit
  split <;> split <;> (try split) <;> omega
theorem digit_range (x : Int) (h0 : 0 ≤ x) (h1 : x < 16) : 0 ≤ digit x ∧ digit x ≤ 255 := by
  unfold digit
  split <;> omega
theorem hexL_range (b : List Int) (hw : ∀ x ∈ b, 0 ≤ x ∧ x ≤ 255) : ∀ x ∈ hexL b, 0 ≤ x ∧ x ≤ 255 := by
  induction b with
  | nil => intro x hx; cases hx
  | cons c r ih =>
    have hc := hw c List.mem_cons_self
    intro x hx
    rcases List.mem_cons.1 hx with rfl | hx
    · exact digit_range _ (by omega) (by omega)
    · rcases List.mem_cons.1 hx with rfl | hx
      · exact digit_range _ (by omega) (by omega)
      · exact ih (fun y hy => hw y (List.mem_cons_of_mem _ hy)) x hx

/-- A byte of a text that is made of a row of bytes. -/
theorem bt_nums (l : List Int) (hw : ∀ x ∈ l, 0 ≤ x ∧ x ≤ 255) (i : Nat) (hi : i < l.length) : bt (strOfNums l) (i : Int) = l.getD i 0 := by
  have hs : (i : Int).toNat < (strOfNums l).size := by rw [strOfNums_size, Int.toNat_natCast]; exact hi
  rw [← bt_at (strOfNums l) (i : Int) hs]
  have hl : i < (strOfNums l).data.toList.length := by rw [← Lib.size_eq, strOfNums_size]; exact hi
  have e : (strOfNums l)[(i : Int).toNat]'hs = (strOfNums l).data.toList[i]'hl := rfl
  rw [e]
  have h2 : (strOfNums l).data.toList = l.map fun n => UInt8.ofNat n.toNat := by simp [strOfNums]
  have h3 : (strOfNums l).data.toList[i]'hl = UInt8.ofNat (l[i]).toNat := by
    simp only [h2, List.getElem_map]
  have hx := hw _ (List.getElem_mem hi)
  rw [h3, UInt8.toNat_ofNat', List.getD_eq_getElem?_getD, List.getElem?_eq_getElem hi, Option.getD_some]
  omega

theorem hex_inv (W : List Int) (hW : ∀ x ∈ W, 0 ≤ x ∧ x ≤ 255) : ∀ (b : List Int) (i : Nat) (acc : List Int), (∀ x ∈ b, 0 ≤ x ∧ x ≤ 255) → W.drop i = hexL b → hexGo (strOfNums W) b.length i acc = (acc ++ b, true)
  | [], i, acc, _, _ => by
    show (acc, true) = (acc ++ [], true)
    rw [List.append_nil]
  | c :: r, i, acc, hb, hd => by
    have hc := hb c List.mem_cons_self
    have hl := congrArg List.length hd
    rw [List.length_drop, hexL_length, List.length_cons] at hl
    have h0 : W.getD i 0 = digit (c / 16) := by
      have := congrArg (fun z => z.getD 0 0) hd
      simp only [List.getD_eq_getElem?_getD, List.getElem?_drop, Nat.add_zero] at this ⊢
      rw [this]
      rfl
    have h1 : W.getD (i + 1) 0 = digit (c % 16) := by
      have := congrArg (fun z => z.getD 1 0) hd
      simp only [List.getD_eq_getElem?_getD, List.getElem?_drop] at this ⊢
      rw [this]
      rfl
    have e0 : digitOf (bt (strOfNums W) (i : Int)) = c / 16 := by
      rw [bt_nums W hW i (by omega), h0, digitOf_digit _ (by omega) (by omega)]
    have e1 : digitOf (bt (strOfNums W) ((i + 1 : Nat) : Int)) = c % 16 := by
      rw [bt_nums W hW (i + 1) (by omega), h1, digitOf_digit _ (by omega) (by omega)]
    have hn : W.drop (i + 2) = hexL r := by
      rw [← List.drop_drop, hd]
      rfl
    show (if digitOf (bt (strOfNums W) (i : Int)) < 0 then ([], false) else if digitOf (bt (strOfNums W) ((i + 1 : Nat) : Int)) < 0 then ([], false) else hexGo (strOfNums W) r.length (i + 2) (acc ++ [(16 * digitOf (bt (strOfNums W) (i : Int)) + digitOf (bt (strOfNums W) ((i + 1 : Nat) : Int))) % 256])) = _
    rw [e0, e1, if_neg (by omega), if_neg (by omega), hex_inv W hW r (i + 2) _ (fun x hx => hb x (List.mem_cons_of_mem _ hx)) hn, show (16 * (c / 16) + c % 16) % 256 = c by omega, List.append_assoc]
    rfl

theorem fromHex_hex (b : List Int) (hw : ∀ x ∈ b, 0 ≤ x ∧ x ≤ 255) : fromHexOf (strOfNums (hexL b)) = (b, true) := by
  have hs : (strOfNums (hexL b)).size = 2 * b.length := by rw [strOfNums_size, hexL_length]
  unfold fromHexOf
  rw [if_neg (by omega), show (strOfNums (hexL b)).size / 2 = b.length by omega, hex_inv _ (hexL_range b hw) b 0 [] hw (by rw [List.drop_zero]), List.nil_append]
end Go.Proofs.YtklkaaaegnojkaaDoor.PureD

namespace Go.Proofs.YtklkaaaegnojkaaDoor.PureD
open Go Go.RowKit Go.Proofs.YtklkaaaegnojkaaDoor.Pure Go.Proofs.YtklkaaaegnojkaaDoor.PureD Go.Proofs.YtklkaaaegnojkaaDoor.D Go.Proofs.YtklkaaaegnojkaaDoorW.PrintWords Go.Proofs.YtklkaaaegnojkaaDoorW.PrintLast Go.Proofs.YtklkaaaegnojkaaDoorW.PrintMore

theorem shown_size (b : List Int) : (shownOf b).size ≤ 2 * b.length + 2 := by
  unfold shownOf
  split
  · rw [ByteArray.size_append, ByteArray.size_append, strOfNums_size]
    show 1 + b.length + 1 ≤ _
    omega
  · rw [ByteArray.size_append, strOfNums_size, hexL_length]
    show 1 + 2 * b.length ≤ _
    omega

theorem bt_head (s : ByteArray) (c : UInt8) (R : List UInt8) (h : s.data.toList = c :: R) : bt s 0 = (c.toNat : Int) ∧ s.size ≠ 0 := by
  have hl : 0 < s.data.toList.length := by rw [h]; simp
  have hl2 := hl
  rw [data_length] at hl2
  have hz : (0 : Int).toNat < s.size := hl2
  refine ⟨?_, by omega⟩
  rw [← bt_at s 0 hz]
  have h3 : s.data.toList[0]'hl = c := by simp [h]
  rw [← h3]
  rfl

theorem bytes_ext (a b : ByteArray) (h : a.data.toList = b.data.toList) : a = b := by
  have h2 : a.data = b.data := Array.toList_inj.1 h
  cases a; cases b
  exact congrArg ByteArray.mk h2

theorem unshown_shown (b : List Int) (hw : ∀ x ∈ b, 0 ≤ x ∧ x ≤ 255) : unshownOf (shownOf b) = (b, true) := by
  unfold unshownOf
  by_cases hp : plainOf b = true
  · have hl := shown_plain b hp
    obtain ⟨h1, h2⟩ := bt_head _ _ _ hl
    rw [if_neg h2, h1, if_neg (by decide), mid_quoted _ b hw hl]
    exact if_pos rfl
  · have hl := shown_hex b hp
    obtain ⟨h1, h2⟩ := bt_head _ _ _ hl
    have he : (shownOf b).extract 1 (shownOf b).size = strOfNums (hexL b) := by
      apply bytes_ext
      rw [extract_list, strOfNums_u8s, hl]
      have hsz : (shownOf b).size = (u8s (hexL b)).length + 1 := by rw [← data_length, hl]; rfl
      show (u8s (hexL b)).take ((shownOf b).size - 1) = _
      rw [hsz, Nat.add_sub_cancel, List.take_length]
    rw [if_neg h2, h1, if_pos (by decide), he, fromHex_hex b hw, if_pos rfl]
    exact if_pos rfl

theorem told_true (b : List Int) (s : ByteArray) (h : (toldOf b s).2 = true) : (toldOf b s).1 = b ∧ (shownOf b).toList = s.toList := by
  unfold toldOf at h ⊢
  by_cases hc : (shownOf b).toList = s.toList
  · rw [if_pos hc]
    exact ⟨rfl, hc⟩
  · rw [if_neg hc] at h
    cases h
theorem shown_unshown (s : ByteArray) (h : (unshownOf s).2 = true) : (shownOf (unshownOf s).1).toList = s.toList ∧ ∀ x ∈ (unshownOf s).1, 0 ≤ x ∧ x ≤ 255 := by
  unfold unshownOf at h ⊢
  by_cases h0 : s.size = 0
  · rw [if_pos h0] at h; cases h
  · rw [if_neg h0] at h ⊢
    by_cases hx : bt s 0 = 120
    · rw [if_pos hx] at h ⊢
      by_cases hf : (fromHexOf (s.extract 1 s.size)).2 = true
      · rw [if_pos hf] at h ⊢
        obtain ⟨h1, h2⟩ := told_true _ _ h
        rw [h1]
        exact ⟨h2, fromHexOf_range _⟩
      · rw [if_neg hf] at h; cases h
    · rw [if_neg hx] at h ⊢
      obtain ⟨h1, h2⟩ := told_true _ _ h
      rw [h1]
      exact ⟨h2, midOf_range _⟩
end Go.Proofs.YtklkaaaegnojkaaDoor.PureD
