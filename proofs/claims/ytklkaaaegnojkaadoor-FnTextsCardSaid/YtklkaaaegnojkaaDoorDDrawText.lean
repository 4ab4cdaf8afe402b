/-
What the drawn bytes are: at most 32 bytes.
-/
import Derived.Test.YtklkaaaegnojkaaDoorDx1
import Derived.Test.YtklkaaaegnojkaaDoorDx2
import Derived.Laws.BitsLemmas
import Derived.Test.YtklkaaaegnojkaaDoorCommon
import Derived.Lib.RuneBytes
import Derived.Test.YtklkaaaegnojkaaDoorDRuneSpec
namespace Go.Proofs.YtklkaaaegnojkaaDoor.PureD
open Go Go.RowKit Go.Proofs.YtklkaaaegnojkaaDoor.Pure Go.Proofs.YtklkaaaegnojkaaDoor.D Go.Proofs.YtklkaaaegnojkaaDoorW.PrintWords Go.Proofs.YtklkaaaegnojkaaDoorW.PrintLast Go.Proofs.YtklkaaaegnojkaaDoorW.PrintMore
set_option linter.unusedSectionVars false

theorem i64_and255 (n : Int) : Go.bits .and .i64 n 255 = n % 256 := by
  have h255 : (BitVec.ofInt 64 255).toNat = 2 ^ 8 - 1 := by decide
  have key : (BitVec.ofInt 64 n &&& BitVec.ofInt 64 255).toNat = (n % ((2 ^ 64 : Nat) : Int)).toNat % 2 ^ 8 := by
    rw [BitVec.toNat_and, BitVec.toNat_ofInt, h255, Nat.and_two_pow_sub_one_eq_mod]
  show IntKind.i64.wrap ((BitVec.ofInt 64 n &&& BitVec.ofInt 64 255).toNat : Nat) = n % 256
  rw [key, IntKind.wrap_i64]
  omega

theorem tmod_range (x a : Int) (h0 : 0 ≤ x) (ha : 0 < a) : 0 ≤ Int.tmod x a ∧ Int.tmod x a < a :=
  ⟨Int.tmod_nonneg a h0, Int.tmod_lt_of_pos x ha⟩

section
variable (d : List Int) (hd : d.length ≤ 1048576)
include hd

theorem l1Byte_all (p s : Int) (h0 : 0 ≤ p) : ∃ v p' s', spec_l1Byte.f d p s = some (v, p', s') ∧ 0 ≤ v ∧ v ≤ 255 ∧ 0 ≤ p' := by
  unfold spec_l1Byte.f
  by_cases h : p < (d.length : Int)
  · rw [if_pos h, if_pos h0]
    refine ⟨_, _, _, rfl, ?_, ?_, ?_⟩
    · rw [i64_and255]; omega
    · rw [i64_and255]; omega
    · rw [wrap_in _ (by omega) (by omega)]; omega
  · rw [if_neg h]
    refine ⟨_, _, _, rfl, ?_, ?_, h0⟩
    · rw [i64_and255]; omega
    · rw [i64_and255]; omega

theorem l1Below_all (p s a : Int) (h0 : 0 ≤ p) : ∃ v p' s', spec_l1Below.f d p s a = some (v, p', s') ∧ 0 ≤ v ∧ (0 < a → v < a) ∧ (a ≤ 0 → v = 0) ∧ 0 ≤ p' := by
  unfold spec_l1Below.f
  by_cases h : a ≤ 0
  · rw [if_pos h]
    exact ⟨_, _, _, rfl, Int.le_refl _, fun h2 => absurd h2 (by omega), fun _ => rfl, h0⟩
  · rw [if_neg h]
    by_cases h2 : a ≤ 256
    · rw [if_pos h2]
      obtain ⟨v, p', s', e, hv0, hv1, hp⟩ := l1Byte_all d hd p s h0
      have hr := tmod_range v a hv0 (by omega)
      rw [e, Option.bind_some, if_neg (by omega)]
      exact ⟨_, _, _, rfl, hr.1, fun _ => hr.2, fun h3 => absurd h3 h, hp⟩
    · rw [if_neg h2]
      obtain ⟨v1, p1, s1, e1, ha1, hb1, hp1⟩ := l1Byte_all d hd p s h0
      obtain ⟨v2, p2, s2, e2, ha2, hb2, hp2⟩ := l1Byte_all d hd p1 s1 hp1
      obtain ⟨v3, p3, s3, e3, ha3, hb3, hp3⟩ := l1Byte_all d hd p2 s2 hp2
      obtain ⟨v4, p4, s4, e4, ha4, hb4, hp4⟩ := l1Byte_all d hd p3 s3 hp3
      rw [e1, Option.bind_some, e2, Option.bind_some, e3, Option.bind_some, e4, Option.bind_some, if_neg (by omega)]
      have hw : wrap64 ((wrap64 ((wrap64 ((wrap64 (v1 * 16777216)) + (wrap64 (v2 * 65536)))) + (wrap64 (v3 * 256)))) + v4) = v1 * 16777216 + v2 * 65536 + v3 * 256 + v4 := by
        rw [wrap_in (v1 * 16777216) (by omega) (by omega), wrap_in (v2 * 65536) (by omega) (by omega), wrap_in (v3 * 256) (by omega) (by omega), wrap_in (v1 * 16777216 + v2 * 65536) (by omega) (by omega), wrap_in (v1 * 16777216 + v2 * 65536 + v3 * 256) (by omega) (by omega), wrap_in _ (by omega) (by omega)]
      have hr := tmod_range (v1 * 16777216 + v2 * 65536 + v3 * 256 + v4) a (by omega) (by omega)
      have hr2 : 0 ≤ Int.tmod (wrap64 ((wrap64 ((wrap64 ((wrap64 (v1 * 16777216)) + (wrap64 (v2 * 65536)))) + (wrap64 (v3 * 256)))) + v4)) a ∧ Int.tmod (wrap64 ((wrap64 ((wrap64 ((wrap64 (v1 * 16777216)) + (wrap64 (v2 * 65536)))) + (wrap64 (v3 * 256)))) + v4)) a < a := by rw [hw]; exact hr
      exact ⟨_, _, _, rfl, hr2.1, fun _ => hr2.2, fun h3 => absurd h3 h, hp4⟩

theorem l1PickInt_all (p s : Int) (l : List Int) (hl : 0 < l.length) (h0 : 0 ≤ p) : ∃ v p' s', spec_l1PickInt.f d p s l = some (v, p', s') ∧ v ∈ l ∧ 0 ≤ p' := by
  unfold spec_l1PickInt.f
  obtain ⟨v, p', s', e, hv0, hv1, _, hp⟩ := l1Below_all d hd p s (l.length : Int) h0
  have hlt := hv1 (by omega)
  rw [e, Option.bind_some, if_pos hv0, if_pos hlt]
  obtain ⟨n, rfl⟩ := Int.eq_ofNat_of_zero_le hv0
  exact ⟨_, _, _, rfl, rd_mem (by omega), hp⟩

theorem l1Pick_all (p s : Int) (l : List ByteArray) (hl : 0 < l.length) (h0 : 0 ≤ p) : ∃ v p' s', spec_l1Pick.f d p s l = some (v, p', s') ∧ v ∈ l ∧ 0 ≤ p' := by
  unfold spec_l1Pick.f
  obtain ⟨v, p', s', e, hv0, hv1, _, hp⟩ := l1Below_all d hd p s (l.length : Int) h0
  have hlt := hv1 (by omega)
  rw [e, Option.bind_some, if_pos hv0, if_pos hlt]
  obtain ⟨n, rfl⟩ := Int.eq_ofNat_of_zero_le hv0
  refine ⟨_, _, _, rfl, ?_, hp⟩
  have hn : n < l.length := by omega
  have : rdOf ByteArray.empty l (n : Int) = l[n] := by
    unfold rdOf
    rw [Int.toNat_natCast, List.getD_eq_getElem?_getD, List.getElem?_eq_getElem hn]
    rfl
  rw [this]
  exact List.getElem_mem hn

theorem l1Once_all (p s a : Int) (h0 : 0 ≤ p) : ∃ v p' s', spec_l1Once.f d p s a = some (v, p', s') ∧ 0 ≤ p' := by
  unfold spec_l1Once.f
  obtain ⟨v, p', s', e, _, _, _, hp⟩ := l1Below_all d hd p s a h0
  rw [e, Option.bind_some]
  exact ⟨_, _, _, rfl, hp⟩

theorem l1New_go : ∀ (m k i : Nat) (s : Int), i ≤ d.length → d.length - i = m → m < k → ∃ s', spec_l1New.l0 k d s (i : Int) = some (d, 0, s') := by
  intro m
  induction m with
  | zero =>
    intro k i s hi hm hk
    obtain ⟨k, rfl⟩ : ∃ m, k = m + 1 := ⟨k - 1, by omega⟩
    simp only [spec_l1New.l0]
    rw [if_neg (by omega)]
    exact ⟨_, rfl⟩
  | succ m ih =>
    intro k i s hi hm hk
    obtain ⟨k, rfl⟩ : ∃ m, k = m + 1 := ⟨k - 1, by omega⟩
    simp only [spec_l1New.l0]
    rw [if_pos (by omega)]
    by_cases h : (i : Int) < 4000
    · rw [if_pos h, if_pos (by omega), wrap_in ((i : Int) + 1) (by omega) (by omega), show (i : Int) + 1 = ((i + 1 : Nat) : Int) by omega]
      exact ih k (i + 1) _ (by omega) (by omega) (by omega)
    · rw [if_neg h]
      exact ⟨_, rfl⟩
theorem l1New_all (k : Nat) (hk : d.length < k) : ∃ s, spec_l1New.f k d = some (d, 0, s) := by
  unfold spec_l1New.f
  exact l1New_go d hd d.length k 0 _ (Nat.zero_le _) rfl hk
end
end Go.Proofs.YtklkaaaegnojkaaDoor.PureD

namespace Go.Proofs.YtklkaaaegnojkaaDoor.PureD
open Go Go.RowKit Go.Proofs.YtklkaaaegnojkaaDoor.Pure Go.Proofs.YtklkaaaegnojkaaDoor.PureD Go.Proofs.YtklkaaaegnojkaaDoor.D Go.Proofs.YtklkaaaegnojkaaDoorW.PrintWords Go.Proofs.YtklkaaaegnojkaaDoorW.PrintLast Go.Proofs.YtklkaaaegnojkaaDoorW.PrintMore
set_option linter.unusedSectionVars false

/-- Bytes, at most so many. -/
def Few (n : Nat) (l : List Int) : Prop := l.length ≤ n ∧ ∀ x ∈ l, 0 ≤ x ∧ x ≤ 255
theorem few_rune (r : Int) (k : Nat) (hk : 0 < k) : ∃ b ok, spec_RuneBytes.f k r = some (b, ok) ∧ Few 4 b := by
  rw [spec_rune r k hk]
  by_cases h : 0 ≤ r ∧ r ≤ 1114111 ∧ Lib.validRune r = true
  · rw [if_pos h]
    refine ⟨_, _, rfl, (Lib.encodeRuneZ_length r).2, fun x hx => ?_⟩
    have := Lib.encodeRuneZ_byte r x hx
    omega
  · rw [if_neg h]
    exact ⟨_, _, rfl, Nat.zero_le _, fun x hx => by cases hx⟩
theorem few_append {m n : Nat} {a b : List Int} (ha : Few m a) (hb : Few n b) : Few (m + n) (a ++ b) := by
  refine ⟨by rw [List.length_append]; have := ha.1; have := hb.1; omega, fun x hx => ?_⟩
  rcases List.mem_append.1 hx with h | h
  · exact ha.2 x h
  · exact hb.2 x h
theorem few_le {m n : Nat} {a : List Int} (h : Few m a) (hm : m ≤ n) : Few n a := ⟨Nat.le_trans h.1 hm, h.2⟩
theorem few_bytes (s : ByteArray) (n : Nat) (h : s.size ≤ n) : Few n (bytesOf s) := by
  refine ⟨by rw [bytesOf_length]; exact h, fun x hx => ?_⟩
  obtain ⟨c, _, rfl⟩ := List.mem_map.1 hx
  have := c.toNat_lt
  omega

section
variable (d : List Int) (hd : d.length ≤ 1048576)
include hd

/-- The end of a drawing: the bytes as they are, or one of them changed, or fewer, or some more. -/
theorem draw_end (x : List Int) (m : Nat) (hx : Few m x) (hm : m ≤ 28) (p s : Int) (hp : 0 ≤ p) (k : Nat) :
    ∃ b p' s', spec_l15Draw.l0 (k + 1) x 0 d p s = some (b, p', s') ∧ Few 32 b ∧ 0 ≤ p' := by
  simp only [spec_l15Draw.l0]
  rw [if_neg (by omega)]
  by_cases h0 : (x.length : Int) > 0
  · rw [if_pos h0]
    obtain ⟨v, p1, s1, e1, hv0, hv1, _, hp1⟩ := l1Below_all d hd p s 8 hp
    rw [e1, Option.bind_some]
    by_cases c0 : v = 0
    · obtain ⟨v2, p2, s2, e2, ha2, hb2, _, hp2⟩ := l1Below_all d hd p1 s1 (x.length : Int) hp1
      obtain ⟨v3, p3, s3, e3, ha3, hb3, hp3⟩ := l1Byte_all d hd p2 s2 hp2
      have hlt := hb2 (by omega)
      rw [if_pos c0, e2, Option.bind_some, e3, Option.bind_some, if_pos ha2, if_pos hlt]
      refine ⟨_, _, _, rfl, ⟨by rw [List.length_set]; have := hx.1; omega, fun y hy => ?_⟩, hp3⟩
      rcases List.mem_or_eq_of_mem_set hy with h | rfl
      · exact hx.2 y h
      · show 0 ≤ v3 % 256 ∧ v3 % 256 ≤ 255
        omega
    · rw [if_neg c0]
      by_cases c1 : v = 1
      · obtain ⟨v2, p2, s2, e2, ha2, hb2, _, hp2⟩ := l1Below_all d hd p1 s1 (x.length : Int) hp1
        have hlt := hb2 (by omega)
        rw [if_pos c1, e2, Option.bind_some, if_pos ha2, if_pos (by show v2 ≤ _; omega)]
        exact ⟨_, _, _, rfl, ⟨by rw [List.length_take]; have := hx.1; omega, fun y hy => hx.2 y (List.mem_of_mem_take hy)⟩, hp2⟩
      · rw [if_neg c1]
        by_cases c2 : v = 2
        · obtain ⟨t, p2, s2, e2, ht, hp2⟩ := l1Pick_all d hd p1 s1 [(⟨#[192, 128]⟩ : ByteArray), (⟨#[237, 160, 128]⟩ : ByteArray), (⟨#[244, 144, 128, 128]⟩ : ByteArray), (⟨#[224, 128, 128]⟩ : ByteArray), (⟨#[255]⟩ : ByteArray), (⟨#[248]⟩ : ByteArray), (⟨#[128]⟩ : ByteArray)] (by simp) hp1
          have hsz : t.size ≤ 4 := by
            simp only [List.mem_cons, List.not_mem_nil, or_false] at ht
            rcases ht with rfl | rfl | rfl | rfl | rfl | rfl | rfl <;> decide
          have hb := few_bytes t 4 hsz
          rw [if_pos c2, e2, Option.bind_some, if_pos (by show t.size ≤ _; omega), Option.bind_some]
          show ∃ b p' s', (if x.length + (bytesOf t).length < 140737488355328 then some (x ++ bytesOf t, p2, s2) else none) = some (b, p', s') ∧ Few 32 b ∧ 0 ≤ p'
          rw [if_pos (by have := hx.1; have := hb.1; omega)]
          exact ⟨_, _, _, rfl, few_le (few_append hx hb) (by omega), hp2⟩
        · rw [if_neg c2]
          exact ⟨_, _, _, rfl, few_le hx (by omega), hp1⟩
  · rw [if_neg h0]
    exact ⟨_, _, _, rfl, few_le hx (by omega), hp⟩

theorem draw_go : ∀ (m k n : Nat) (x : List Int) (p s : Int), m + n = 7 → Few (4 * n) x → 0 ≤ p → m + 1 < k →
    ∃ b p' s', spec_l15Draw.l0 k x (m : Int) d p s = some (b, p', s') ∧ Few 32 b ∧ 0 ≤ p' := by
  intro m
  induction m with
  | zero =>
    intro k n x p s hmn hx hp hk
    obtain ⟨k, rfl⟩ : ∃ m, k = m + 1 := ⟨k - 1, by omega⟩
    exact draw_end d hd x _ hx (by omega) p s hp k
  | succ m ih =>
    intro k n x p s hmn hx hp hk
    obtain ⟨k, rfl⟩ : ∃ m, k = m + 1 := ⟨k - 1, by omega⟩
    have step : ∀ (r : Int) (p s : Int), 0 ≤ p → ∃ b p' s', ((spec_RuneBytes.f k r).bind fun bt => (if x.length + bt.1.length < 140737488355328 then (spec_l15Draw.l0 k (x ++ bt.1) (wrap64 (((m + 1 : Nat) : Int) - 1)) d p s) else (none))) = some (b, p', s') ∧ Few 32 b ∧ 0 ≤ p' := by
      intro r p s hp
      obtain ⟨b, ok, e, hb⟩ := few_rune r k (by omega)
      rw [e, Option.bind_some]
      show ∃ b_ p' s', (if x.length + b.length < 140737488355328 then spec_l15Draw.l0 k (x ++ b) (wrap64 (((m + 1 : Nat) : Int) - 1)) d p s else none) = some (b_, p', s') ∧ Few 32 b_ ∧ 0 ≤ p'
      rw [if_pos (by have := hx.1; have := hb.1; omega), wrap_in _ (by omega) (by omega), show ((m + 1 : Nat) : Int) - 1 = (m : Int) by omega]
      exact ih k (n + 1) _ p s (by omega) (few_le (few_append hx hb) (by omega)) hp (by omega)
    simp only [spec_l15Draw.l0]
    rw [if_pos (by omega)]
    obtain ⟨v1, p1, s1, e1, ha1, hb1, _, hp1⟩ := l1Below_all d hd p s 95 hp
    obtain ⟨v2, p2, s2, e2, ha2, hb2, _, hp2⟩ := l1Below_all d hd p1 s1 6 hp1
    rw [e1, Option.bind_some, e2, Option.bind_some]
    by_cases c0 : v2 = 0
    · obtain ⟨v3, p3, s3, e3, _, hp3⟩ := l1PickInt_all d hd p2 s2 [127, 128, 2047, 2048, 55295, 57344, 65535, 65536, 1114111, 8364] (by simp) hp2
      rw [if_pos c0, e3, Option.bind_some]
      exact step v3 p3 s3 hp3
    · rw [if_neg c0]
      by_cases c1 : v2 = 1
      · obtain ⟨v3, p3, s3, e3, _, _, _, hp3⟩ := l1Below_all d hd p2 s2 3000 hp2
        rw [if_pos c1, e3, Option.bind_some]
        exact step _ p3 s3 hp3
      · rw [if_neg c1]
        by_cases c2 : v2 = 2
        · obtain ⟨v3, p3, s3, e3, hp3⟩ := l1Once_all d hd p2 s2 4 hp2
          rw [if_pos c2, e3, Option.bind_some]
          by_cases c3 : v3 = true
          · obtain ⟨v4, p4, s4, e4, _, hp4⟩ := l1PickInt_all d hd p3 s3 [0, 10, 34, 92, 31] (by simp) hp3
            rw [if_pos c3, e4, Option.bind_some]
            exact step v4 p4 s4 hp4
          · rw [if_neg c3]
            exact step _ p3 s3 hp3
        · rw [if_neg c2]
          exact step _ p2 s2 hp2

theorem draw_less : ∀ (m k : Nat) (x : List Int) (p s : Int), m ≤ 7 → Few (4 * (7 - m)) x → 0 ≤ p → m + 1 < k → ∃ b p' s', spec_l15Draw.l0 k x (m : Int) d p s = some (b, p', s') ∧ Few 32 b ∧ 0 ≤ p' :=
  fun m k x p s hm hx hp hk => draw_go d hd m k (7 - m) x p s (by omega) hx hp hk

theorem l15Draw_all (p s : Int) (hp : 0 ≤ p) (k : Nat) (hk : 10 ≤ k) : ∃ b p' s', spec_l15Draw.f k d p s = some (b, p', s') ∧ Few 32 b ∧ 0 ≤ p' := by
  unfold spec_l15Draw.f
  obtain ⟨v, p1, s1, e, h0, h1, _, hp1⟩ := l1Below_all d hd p s 8 hp
  have hv := h1 (by omega)
  rw [e, Option.bind_some]
  obtain ⟨m, rfl⟩ := Int.eq_ofNat_of_zero_le h0
  exact draw_less d hd m k [] p1 s1 (by omega) ⟨Nat.zero_le _, fun x hx => by cases hx⟩ hp1 (by omega)
end
end Go.Proofs.YtklkaaaegnojkaaDoor.PureD
