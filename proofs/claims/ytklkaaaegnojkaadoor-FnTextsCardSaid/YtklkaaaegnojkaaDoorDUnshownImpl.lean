/-
The program's Unshown gives of a text: the bytes that it shows, and whether it shows any.
-/
import Derived.Test.YtklkaaaegnojkaaDoorDx5
import Derived.Lib.TrimByte
import Derived.Test.YtklkaaaegnojkaaDoorDShown
import Derived.Test.YtklkaaaegnojkaaDoorDHexBackImpl
import Derived.Test.YtklkaaaegnojkaaDoorDRuneInv
namespace Go.Proofs.YtklkaaaegnojkaaDoor.PureD
open Go Go.RowKit Go.Proofs.YtklkaaaegnojkaaDoor.Pure Go.Proofs.YtklkaaaegnojkaaDoor.PureD Go.Proofs.YtklkaaaegnojkaaDoor.D Go.Proofs.YtklkaaaegnojkaaDoorW.PrintWords Go.Proofs.YtklkaaaegnojkaaDoorW.PrintLast Go.Proofs.YtklkaaaegnojkaaDoorW.PrintMore
set_option linter.unusedSectionVars false

def u8s (b : List Int) : List UInt8 := b.map fun n => UInt8.ofNat n.toNat
theorem strOfNums_u8s (b : List Int) : (strOfNums b).data.toList = u8s b := by simp [strOfNums, u8s]
theorem u8s_back (b : List Int) (hw : ∀ x ∈ b, 0 ≤ x ∧ x ≤ 255) : (u8s b).map (fun x => (x.toNat : Int)) = b := by
  unfold u8s
  rw [List.map_map]
  refine (List.map_congr_left fun x hx => ?_).trans (List.map_id b)
  have := hw x hx
  show ((UInt8.ofNat x.toNat).toNat : Int) = x
  rw [UInt8.toNat_ofNat']
  omega
theorem bytesOf_range (s : ByteArray) : ∀ x ∈ bytesOf s, 0 ≤ x ∧ x ≤ 255 := by
  intro x hx
  obtain ⟨c, _, rfl⟩ := List.mem_map.1 hx
  have := c.toNat_lt
  omega
theorem u8s_bytesOf (s : ByteArray) : u8s (bytesOf s) = s.data.toList := by
  unfold u8s bytesOf
  rw [List.map_map]
  refine (List.map_congr_left fun x _ => ?_).trans (List.map_id _)
  show UInt8.ofNat ((x.toNat : Int)).toNat = x
  rw [Int.toNat_natCast]
  exact UInt8.ofNat_toNat

theorem shown_plain (b : List Int) (h : plainOf b = true) : (shownOf b).data.toList = 34 :: (u8s b ++ [34]) := by
  unfold shownOf
  rw [if_pos h, ByteArray.data_append, ByteArray.data_append, Array.toList_append, Array.toList_append, strOfNums_u8s]
  rfl
theorem shown_hex (b : List Int) (h : ¬ plainOf b = true) : (shownOf b).data.toList = 120 :: u8s (hexL b) := by
  unfold shownOf
  rw [if_neg h, ByteArray.data_append, Array.toList_append, strOfNums_u8s]
  rfl

theorem plain_no_quote (b : List Int) (hw : ∀ x ∈ b, 0 ≤ x ∧ x ≤ 255) (h : plainOf b = true) : ∀ c ∈ u8s b, c ≠ 34 := by
  unfold plainOf at h
  obtain ⟨h1, h2⟩ := (Bool.and_eq_true _ _ ▸ h : _ ∧ _)
  obtain ⟨hb, _⟩ := runes_bytes b hw h1
  intro c hc he
  obtain ⟨x, hx, hxc⟩ := List.mem_map.1 hc
  have hr := hw x hx
  have hx34 : x = 34 := by
    have h3 := congrArg UInt8.toNat (hxc.trans he)
    rw [UInt8.toNat_ofNat'] at h3
    have h4 : x.toNat % 2 ^ 8 = 34 := h3
    omega
  subst hx34
  rw [← hb] at hx
  have hm := low_mem _ 34 hx (by omega)
  have := List.all_eq_true.1 h2 34 hm
  simp [sign] at this

theorem trim_quoted (M : List UInt8) (h : ∀ c ∈ M, c ≠ 34) : Lib.trimB (34 :: (M ++ [34])) 34 = M := by
  unfold Lib.trimB Lib.trimLeftB Lib.trimRightB
  have e : (34 :: (M ++ [34]) : List UInt8).reverse = 34 :: (M.reverse ++ [34]) := by simp
  rw [e, List.dropWhile_cons_of_pos (by simp)]
  cases hM : M.reverse with
  | nil =>
    have : M = [] := by simpa using hM
    subst this
    simp
  | cons c R =>
    have hc : c ≠ 34 := h c (by rw [← List.mem_reverse, hM]; exact List.mem_cons_self)
    rw [List.cons_append, List.dropWhile_cons_of_neg (by simpa using hc), ← List.cons_append, ← hM, List.reverse_append, List.reverse_reverse]
    show ([34] ++ M : List UInt8).dropWhile _ = M
    rw [List.singleton_append, List.dropWhile_cons_of_pos (by simp)]
    cases M with
    | nil => rfl
    | cons a T => exact List.dropWhile_cons_of_neg (by simpa using h a List.mem_cons_self)

/-- What both give. -/
def midOf (s : ByteArray) : List Int := if 1 < s.size then bytesOf (s.extract 1 (s.size - 1)) else []
def toldOf (b : List Int) (s : ByteArray) : List Int × Bool := if (shownOf b).toList = s.toList then (b, true) else ([], false)
def unshownOf (s : ByteArray) : List Int × Bool :=
  if s.size = 0 then ([], false)
  else if bt s 0 = 120 then (if (fromHexOf (s.extract 1 s.size)).2 = true then toldOf (fromHexOf (s.extract 1 s.size)).1 s else ([], false))
  else toldOf (midOf s) s

theorem extract_list (s : ByteArray) (i j : Nat) : (s.extract i j).data.toList = (s.data.toList.drop i).take (j - i) := by
  rw [ByteArray.data_extract, Array.toList_extract]
theorem extract_size_le (s : ByteArray) (i j : Nat) : (s.extract i j).size ≤ s.size := by
  rw [← data_length, extract_list, ← data_length, List.length_take, List.length_drop]
  omega
theorem midOf_length (s : ByteArray) : (midOf s).length ≤ s.size := by
  unfold midOf
  split
  · rw [bytesOf_length]
    exact extract_size_le s _ _
  · simp
theorem midOf_range (s : ByteArray) : ∀ x ∈ midOf s, 0 ≤ x ∧ x ≤ 255 := by
  unfold midOf
  split
  · exact bytesOf_range _
  · intro x hx; cases hx

/-- What lies between the two signs of a text that is quoted. -/
theorem mid_quoted (s : ByteArray) (b : List Int) (hw : ∀ x ∈ b, 0 ≤ x ∧ x ≤ 255) (h : s.data.toList = 34 :: (u8s b ++ [34])) : midOf s = b := by
  have hl : s.size = b.length + 2 := by
    rw [← data_length, h]
    simp [u8s]
  unfold midOf
  rw [if_pos (by omega), bytesOf, extract_list, h, hl]
  have e : (34 :: (u8s b ++ [34]) : List UInt8).drop 1 = u8s b ++ [34] := rfl
  have hu : (u8s b).length = b.length := by simp [u8s]
  rw [e, List.take_append_of_le_length (by omega), List.take_of_length_le (by omega), u8s_back b hw]

section
variable (s : ByteArray) (hs : s.size ≤ 1048576)
include hs
theorem prefix_x : stringslite_HasPrefix.f s ⟨#[120]⟩ = some (decide (s.size ≠ 0 ∧ bt s 0 = 120)) := by
  unfold stringslite_HasPrefix.f
  have e1 : ((⟨#[120]⟩ : ByteArray).size : Int) = 1 := rfl
  rw [e1]
  by_cases h0 : s.size = 0
  · rw [if_neg (by omega), decide_eq_false (by rintro ⟨h, _⟩; exact h h0)]
  · rw [if_pos (by omega), if_pos (by omega), if_pos (by omega)]
    have hl : 0 < s.data.toList.length := by rw [data_length]; omega
    obtain ⟨c, R, hc⟩ : ∃ c R, s.data.toList = c :: R := by
      cases h : s.data.toList with
      | nil => rw [h] at hl; simp at hl
      | cons c R => exact ⟨c, R, rfl⟩
    have hb : bt s 0 = (c.toNat : Int) := by
      have hz : (0 : Int).toNat < s.size := by show 0 < s.size; omega
      rw [← bt_at s 0 hz]
      have h3 : s.data.toList[0]'hl = c := by simp [hc]
      rw [← h3]
      rfl
    rw [hb, Lib.toList_data, Lib.toList_data, extract_list, hc]
    show some ([c] == [120]) = _
    congr 1
    by_cases h : c = 120
    · subst h
      exact (decide_eq_true ⟨h0, rfl⟩).symm
    · have : ¬ (c.toNat : Int) = 120 := by
        intro h4
        exact h (UInt8.toNat_inj.1 (by show c.toNat = 120; omega))
      rw [decide_eq_false (by rintro ⟨_, h5⟩; exact this h5)]
      simpa using h

theorem cut_x : strings_CutPrefix.f s ⟨#[120]⟩ = some (if s.size ≠ 0 ∧ bt s 0 = 120 then (s.extract 1 s.size, true) else (s, false)) := by
  unfold strings_CutPrefix.f stringslite_CutPrefix.f
  have e1 : ((⟨#[120]⟩ : ByteArray).size : Int) = 1 := rfl
  rw [prefix_x s hs, Option.bind_some, e1]
  by_cases h : s.size ≠ 0 ∧ bt s 0 = 120
  · have h1 := h.1
    rw [decide_eq_true h, if_pos rfl, if_pos (by omega), if_pos (by omega), if_pos h]
    rfl
  · rw [decide_eq_false h, if_neg Bool.false_ne_true, if_neg h]
    rfl

/-- A text that begins with no x is what is shown of what is left of it without quotes, just if it is what is shown of what lies between. -/
theorem told_same (hx : ¬ (s.size ≠ 0 ∧ bt s 0 = 120)) : toldOf (bytesOf ⟨(Lib.trimB s.data.toList 34).toArray⟩) s = if s.size = 0 then ([], false) else toldOf (midOf s) s := by
  have hx2 : ∀ R : List UInt8, s.data.toList ≠ 120 :: R := by
    intro R h
    have hl : 0 < s.data.toList.length := by rw [h]; simp
    have hl2 := hl
    rw [data_length] at hl2
    refine hx ⟨by omega, ?_⟩
    have hz : (0 : Int).toNat < s.size := by show 0 < s.size; omega
    rw [← bt_at s 0 hz]
    have h3 : s.data.toList[0]'hl = 120 := by simp [h]
    have h4 : s[(0 : Int).toNat]'hz = 120 := h3
    rw [h4]
    rfl
  -- what being shown means for such a text
  have key : ∀ b : List Int, (shownOf b).toList = s.toList → plainOf b = true ∧ s.data.toList = 34 :: (u8s b ++ [34]) := by
    intro b h
    rw [Lib.toList_data, Lib.toList_data] at h
    by_cases hp : plainOf b = true
    · exact ⟨hp, by rw [← h, shown_plain b hp]⟩
    · rw [shown_hex b hp] at h
      exact absurd h.symm (hx2 _)
  obtain ⟨t, ht⟩ : ∃ t : ByteArray, (⟨(Lib.trimB s.data.toList 34).toArray⟩ : ByteArray) = t := ⟨_, rfl⟩
  have htl : t.data.toList = Lib.trimB s.data.toList 34 := by rw [← ht]
  rw [ht]
  by_cases h1 : (shownOf (bytesOf t)).toList = s.toList
  · obtain ⟨hp, hl⟩ := key _ h1
    have hm := mid_quoted s (bytesOf t) (bytesOf_range t) hl
    have hz : s.size ≠ 0 := by rw [← data_length, hl]; simp
    rw [if_neg hz, hm]
  · have hl : toldOf (bytesOf t) s = ([], false) := if_neg h1
    rw [hl]
    by_cases hz : s.size = 0
    · rw [if_pos hz]
    · rw [if_neg hz]
      refine (if_neg fun h2 => h1 ?_).symm
      obtain ⟨hp, hq⟩ := key _ h2
      have e : bytesOf t = midOf s := by
        have h3 := trim_quoted _ (plain_no_quote _ (midOf_range s) hp)
        rw [← hq, ← htl] at h3
        unfold bytesOf
        rw [h3, u8s_back _ (midOf_range s)]
      rw [e]
      exact h2

theorem impl_Unshown_all (k : Nat) (hk : 8 * s.size + 8 ≤ k) : impl_Unshown.f k s = some (unshownOf s) := by
  unfold impl_Unshown.f unshownOf
  rw [cut_x s hs, Option.bind_some]
  by_cases hx : s.size ≠ 0 ∧ bt s 0 = 120
  · have he := extract_size_le s 1 s.size
    have hf := fromHexOf_length (s.extract 1 s.size)
    rw [if_pos hx, if_pos rfl, impl_FromHex_all _ (by show (s.extract 1 s.size).size ≤ _; omega) k (by show (s.extract 1 s.size).size + 2 < k; omega), Option.bind_some, if_neg hx.1, if_pos hx.2]
    show (if (fromHexOf (s.extract 1 s.size)).2 = true then _ else _) = _
    by_cases hb : (fromHexOf (s.extract 1 s.size)).2 = true
    · rw [if_pos hb, if_pos hb, impl_Shown_all _ (fromHexOf_range _) (by show (fromHexOf (s.extract 1 s.size)).1.length ≤ _; omega) k (by show 8 * (fromHexOf (s.extract 1 s.size)).1.length + 8 ≤ k; omega), Option.bind_some]
      unfold toldOf
      split <;> rfl
    · rw [if_neg hb, if_neg hb]
  · rw [if_neg hx, if_neg Bool.false_ne_true]
    have ht : strings_Trim.f s ⟨#[34]⟩ = some ⟨(Lib.trimB s.data.toList 34).toArray⟩ := by
      unfold strings_Trim.f
      rw [if_pos ⟨rfl, by omega⟩]
    have hsame := told_same s hs hx
    obtain ⟨t, hte⟩ : ∃ t : ByteArray, (⟨(Lib.trimB s.data.toList 34).toArray⟩ : ByteArray) = t := ⟨_, rfl⟩
    have hsz : t.size ≤ s.size := by
      rw [← hte, ← data_length, ← data_length]
      show (Lib.trimB s.data.toList 34).length ≤ _
      unfold Lib.trimB Lib.trimLeftB Lib.trimRightB
      have h1 := (List.dropWhile_sublist (fun x => x == (34 : UInt8)) (l := (s.data.toList.reverse.dropWhile fun x => x == 34).reverse)).length_le
      have h2 := (List.dropWhile_sublist (fun x => x == (34 : UInt8)) (l := s.data.toList.reverse)).length_le
      rw [List.length_reverse] at h1 h2
      omega
    rw [hte] at ht hsame
    show ((strings_Trim.f s ⟨#[34]⟩).bind _) = _
    rw [ht, Option.bind_some, if_pos (by omega), Option.bind_some]
    have hbl : (bytesOf t).length ≤ s.size := by rw [bytesOf_length]; exact hsz
    rw [impl_Shown_all _ (bytesOf_range t) (by omega) k (by omega), Option.bind_some]
    have hfin : (if (shownOf (bytesOf t)).toList = s.toList then some (bytesOf t, true) else some (([] : List Int), false)) = some (toldOf (bytesOf t) s) := by
      unfold toldOf
      split <;> rfl
    refine hfin.trans ?_
    rw [hsame]
    by_cases hz : s.size = 0
    · rw [if_pos hz, if_pos hz]
    · rw [if_neg hz, if_neg hz, if_neg fun h => hx ⟨hz, h⟩]
omit hs in
theorem toldOf_length (b : List Int) (n : Nat) (h : b.length ≤ n) : (toldOf b s).1.length ≤ n := by
  unfold toldOf
  split
  · exact h
  · simp
omit hs in
theorem unshownOf_length : (unshownOf s).1.length ≤ s.size := by
  unfold unshownOf
  split
  · simp
  · split
    · split
      · have he := extract_size_le s 1 s.size
        have hf := fromHexOf_length (s.extract 1 s.size)
        exact toldOf_length s _ _ (by omega)
      · simp
    · exact toldOf_length s _ _ (midOf_length s)
end
end Go.Proofs.YtklkaaaegnojkaaDoor.PureD
