/-
What is drawn out of a text of at most 2^20 bytes: each draw gives something, within its bounds, and the place in the text stays within it.
-/
import Derived.Test.YtklkaaaegnojkaaDoorDx1
import Derived.Test.YtklkaaaegnojkaaDoorDx2
import Derived.Laws.BitsLemmas
import Derived.Test.YtklkaaaegnojkaaDoorCommon
namespace Go.Proofs.YtklkaaaegnojkaaDoor.PureD
open Go Go.RowKit Go.Proofs.YtklkaaaegnojkaaDoor.Pure Go.Proofs.YtklkaaaegnojkaaDoor.D Go.Proofs.YtklkaaaegnojkaaDoorW.PrintWords Go.Proofs.YtklkaaaegnojkaaDoorW.PrintLast Go.Proofs.YtklkaaaegnojkaaDoorW.PrintMore
set_option linter.unusedSectionVars false

theorem i64_and255 (n : Int) : Go.bits .and .i64 n 255 = n % 256 := by
  have h255 : (BitVec.ofInt 64 255).toNat = 2 ^ 8 - 1 := by decide
  have key : (BitVec.ofInt 64 n &&& BitVec.ofInt 64 255).toNat = (n % ((2 ^ 64 : Nat) : Int)).toNat % 2 ^ 8 := by
    rw [BitVec.toNat_and, BitVec.toNat_ofInt, h255, Nat.and_two_pow_sub_one_eq_mod]
  show IntKind.i64.wrap ((BitVec.ofInt 64 n &&& BitVec.ofInt 64 255).toNat : Nat) = n % 256
  rw [key, IntKind.wrap_i64]
  omega

theorem tmod_range (x a : Int) (h0 : 0 ≤ x) (ha : 0 < a) : 0 ≤ Int.tmod x a ∧ Int.tmod x a < a :=
  ⟨Int.tmod_nonneg a h0, Int.tmod_lt_of_pos x ha⟩

section
variable (d : List Int) (hd : d.length ≤ 1048576)
include hd

theorem l1Byte_all (p s : Int) (h0 : 0 ≤ p) : ∃ v p' s', spec_l1Byte.f d p s = some (v, p', s') ∧ 0 ≤ v ∧ v ≤ 255 ∧ 0 ≤ p' := by
  unfold spec_l1Byte.f
  by_cases h : p < (d.length : Int)
  · rw [if_pos h, if_pos h0]
    refine ⟨_, _, _, rfl, ?_, ?_, ?_⟩
    · rw [i64_and255]; omega
    · rw [i64_and255]; omega
    · rw [wrap_in _ (by omega) (by omega)]; omega
  · rw [if_neg h]
    refine ⟨_, _, _, rfl, ?_, ?_, h0⟩
    · rw [i64_and255]; omega
    · rw [i64_and255]; omega

theorem l1Below_all (p s a : Int) (h0 : 0 ≤ p) : ∃ v p' s', spec_l1Below.f d p s a = some (v, p', s') ∧ 0 ≤ v ∧ (0 < a → v < a) ∧ (a ≤ 0 → v = 0) ∧ 0 ≤ p' := by
  unfold spec_l1Below.f
  by_cases h : a ≤ 0
  · rw [if_pos h]
    exact ⟨_, _, _, rfl, Int.le_refl _, fun h2 => absurd h2 (by omega), fun _ => rfl, h0⟩
  · rw [if_neg h]
    by_cases h2 : a ≤ 256
    · rw [if_pos h2]
      obtain ⟨v, p', s', e, hv0, hv1, hp⟩ := l1Byte_all d hd p s h0
      have hr := tmod_range v a hv0 (by omega)
      rw [e, Option.bind_some, if_neg (by omega)]
      exact ⟨_, _, _, rfl, hr.1, fun _ => hr.2, fun h3 => absurd h3 h, hp⟩
    · rw [if_neg h2]
      obtain ⟨v1, p1, s1, e1, ha1, hb1, hp1⟩ := l1Byte_all d hd p s h0
      obtain ⟨v2, p2, s2, e2, ha2, hb2, hp2⟩ := l1Byte_all d hd p1 s1 hp1
      obtain ⟨v3, p3, s3, e3, ha3, hb3, hp3⟩ := l1Byte_all d hd p2 s2 hp2
      obtain ⟨v4, p4, s4, e4, ha4, hb4, hp4⟩ := l1Byte_all d hd p3 s3 hp3
      rw [e1, Option.bind_some, e2, Option.bind_some, e3, Option.bind_some, e4, Option.bind_some, if_neg (by omega)]
      have hw : wrap64 ((wrap64 ((wrap64 ((wrap64 (v1 * 16777216)) + (wrap64 (v2 * 65536)))) + (wrap64 (v3 * 256)))) + v4) = v1 * 16777216 + v2 * 65536 + v3 * 256 + v4 := by
        rw [wrap_in (v1 * 16777216) (by omega) (by omega), wrap_in (v2 * 65536) (by omega) (by omega), wrap_in (v3 * 256) (by omega) (by omega), wrap_in (v1 * 16777216 + v2 * 65536) (by omega) (by omega), wrap_in (v1 * 16777216 + v2 * 65536 + v3 * 256) (by omega) (by omega), wrap_in _ (by omega) (by omega)]
      have hr := tmod_range (v1 * 16777216 + v2 * 65536 + v3 * 256 + v4) a (by omega) (by omega)
      have hr2 : 0 ≤ Int.tmod (wrap64 ((wrap64 ((wrap64 ((wrap64 (v1 * 16777216)) + (wrap64 (v2 * 65536)))) + (wrap64 (v3 * 256)))) + v4)) a ∧ Int.tmod (wrap64 ((wrap64 ((wrap64 ((wrap64 (v1 * 16777216)) + (wrap64 (v2 * 65536)))) + (wrap64 (v3 * 256)))) + v4)) a < a := by rw [hw]; exact hr
      exact ⟨_, _, _, rfl, hr2.1, fun _ => hr2.2, fun h3 => absurd h3 h, hp4⟩

theorem l1PickInt_all (p s : Int) (l : List Int) (hl : 0 < l.length) (h0 : 0 ≤ p) : ∃ v p' s', spec_l1PickInt.f d p s l = some (v, p', s') ∧ v ∈ l ∧ 0 ≤ p' := by
  unfold spec_l1PickInt.f
  obtain ⟨v, p', s', e, hv0, hv1, _, hp⟩ := l1Below_all d hd p s (l.length : Int) h0
  have hlt := hv1 (by omega)
  rw [e, Option.bind_some, if_pos hv0, if_pos hlt]
  obtain ⟨n, rfl⟩ := Int.eq_ofNat_of_zero_le hv0
  exact ⟨_, _, _, rfl, rd_mem (by omega), hp⟩

theorem l1Pick_all (p s : Int) (l : List ByteArray) (hl : 0 < l.length) (h0 : 0 ≤ p) : ∃ v p' s', spec_l1Pick.f d p s l = some (v, p', s') ∧ v ∈ l ∧ 0 ≤ p' := by
  unfold spec_l1Pick.f
  obtain ⟨v, p', s', e, hv0, hv1, _, hp⟩ := l1Below_all d hd p s (l.length : Int) h0
  have hlt := hv1 (by omega)
  rw [e, Option.bind_some, if_pos hv0, if_pos hlt]
  obtain ⟨n, rfl⟩ := Int.eq_ofNat_of_zero_le hv0
  refine ⟨_, _, _, rfl, ?_, hp⟩
  have hn : n < l.length := by omega
  have : rdOf ByteArray.empty l (n : Int) = l[n] := by
    unfold rdOf
    rw [Int.toNat_natCast, List.getD_eq_getElem?_getD, List.getElem?_eq_getElem hn]
    rfl
  rw [this]
  exact List.getElem_mem hn

theorem l1Once_all (p s a : Int) (h0 : 0 ≤ p) : ∃ v p' s', spec_l1Once.f d p s a = some (v, p', s') ∧ 0 ≤ p' := by
  unfold spec_l1Once.f
  obtain ⟨v, p', s', e, _, _, _, hp⟩ := l1Below_all d hd p s a h0
  rw [e, Option.bind_some]
  exact ⟨_, _, _, rfl, hp⟩

theorem l1New_go : ∀ (m k i : Nat) (s : Int), i ≤ d.length → d.length - i = m → m < k → ∃ s', spec_l1New.l0 k d s (i : Int) = some (d, 0, s') := by
  intro m
  induction m with
  | zero =>
    intro k i s hi hm hk
    obtain ⟨k, rfl⟩ : ∃ m, k = m + 1 := ⟨k - 1, by omega⟩
    simp only [spec_l1New.l0]
    rw [if_neg (by omega)]
    exact ⟨_, rfl⟩
  | succ m ih =>
    intro k i s hi hm hk
    obtain ⟨k, rfl⟩ : ∃ m, k = m + 1 := ⟨k - 1, by omega⟩
    simp only [spec_l1New.l0]
    rw [if_pos (by omega)]
    by_cases h : (i : Int) < 4000
    · rw [if_pos h, if_pos (by omega), wrap_in ((i : Int) + 1) (by omega) (by omega), show (i : Int) + 1 = ((i + 1 : Nat) : Int) by omega]
      exact ih k (i + 1) _ (by omega) (by omega) (by omega)
    · rw [if_neg h]
      exact ⟨_, rfl⟩
theorem l1New_all (k : Nat) (hk : d.length < k) : ∃ s, spec_l1New.f k d = some (d, 0, s) := by
  unfold spec_l1New.f
  exact l1New_go d hd d.length k 0 _ (Nat.zero_le _) rfl hk
end
end Go.Proofs.YtklkaaaegnojkaaDoor.PureD
