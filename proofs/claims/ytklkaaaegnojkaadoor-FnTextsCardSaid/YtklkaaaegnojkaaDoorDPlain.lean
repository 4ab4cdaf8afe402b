/-
Both Plains give whether the bytes are UTF-8 of signs that may stand between quotes.
-/
import Derived.Test.YtklkaaaegnojkaaDoorDx1
import Derived.Test.YtklkaaaegnojkaaDoorDx6
import Derived.Test.YtklkaaaegnojkaaDoorDRunes
namespace Go.Proofs.YtklkaaaegnojkaaDoor.PureD
open Go Go.RowKit Go.Proofs.YtklkaaaegnojkaaDoor.Pure Go.Proofs.YtklkaaaegnojkaaDoor.PureD Go.Proofs.YtklkaaaegnojkaaDoor.D Go.Proofs.YtklkaaaegnojkaaDoorW.PrintWords Go.Proofs.YtklkaaaegnojkaaDoorW.PrintLast Go.Proofs.YtklkaaaegnojkaaDoorW.PrintMore
set_option linter.unusedSectionVars false

/-- A sign that may stand between quotes. -/
def sign (r : Int) : Bool := !(decide (r < 32) || decide (r = 34) || decide (r = 92) || decide (r = 127))

theorem spec_Plain_go (x : List Int) (ok : Bool) (hn : x.length ≤ 1048576) : ∀ (d k i : Nat), i ≤ x.length → x.length - i = d → d < k → spec_Plain.l0 k x ok (i : Int) = some (ok && (x.drop i).all sign) := by
  intro d
  induction d with
  | zero =>
    intro k i hi hd hk
    obtain ⟨k, rfl⟩ : ∃ m, k = m + 1 := ⟨k - 1, by omega⟩
    simp only [spec_Plain.l0]
    rw [if_neg (by omega), List.drop_eq_nil_of_le (by omega)]
    simp
  | succ d ih =>
    intro k i hi hd hk
    obtain ⟨k, rfl⟩ : ∃ m, k = m + 1 := ⟨k - 1, by omega⟩
    simp only [spec_Plain.l0]
    rw [if_pos (by omega), if_pos (by omega), drop_cons_rd (xs := x) (i := i) (by omega), List.all_cons, wrap_in ((i : Int) + 1) (by omega) (by omega), show (i : Int) + 1 = ((i + 1 : Nat) : Int) by omega, ih k (i + 1) (by omega) (by omega) (by omega)]
    obtain ⟨r, hr⟩ : ∃ r, rd x (i : Int) = r := ⟨_, rfl⟩
    rw [hr]
    unfold sign
    by_cases h1 : r < 32
    · rw [if_pos h1, decide_eq_true h1]; simp
    · rw [if_neg h1, decide_eq_false h1]
      by_cases h2 : r = 34
      · rw [if_pos h2, decide_eq_true h2]; simp
      · rw [if_neg h2, decide_eq_false h2]
        by_cases h3 : r = 92
        · rw [if_pos h3, decide_eq_true h3]; simp
        · rw [if_neg h3, decide_eq_false h3]
          by_cases h4 : r = 127
          · rw [if_pos h4, decide_eq_true h4]; simp
          · rw [if_neg h4, decide_eq_false h4]; simp

theorem impl_Plain_go (x : List Int) (hn : x.length ≤ 1048576) : ∀ (d k i : Nat) (ok : Bool), i ≤ x.length → x.length - i = d → d < k → impl_Plain.l0 k ok x (x.length : Int) (i : Int) = some (ok && (x.drop i).all sign) := by
  intro d
  induction d with
  | zero =>
    intro k i ok hi hd hk
    obtain ⟨k, rfl⟩ : ∃ m, k = m + 1 := ⟨k - 1, by omega⟩
    simp only [impl_Plain.l0]
    rw [if_neg (by omega), List.drop_eq_nil_of_le (by omega)]
    simp
  | succ d ih =>
    intro k i ok hi hd hk
    obtain ⟨k, rfl⟩ : ∃ m, k = m + 1 := ⟨k - 1, by omega⟩
    simp only [impl_Plain.l0]
    rw [if_pos (by omega), if_pos (by omega), if_pos (by omega), drop_cons_rd (xs := x) (i := i) (by omega), List.all_cons, wrap_in ((i : Int) + 1) (by omega) (by omega), show (i : Int) + 1 = ((i + 1 : Nat) : Int) by omega, ih k (i + 1) _ (by omega) (by omega) (by omega), ih k (i + 1) _ (by omega) (by omega) (by omega)]
    obtain ⟨r, hr⟩ : ∃ r, rd x (i : Int) = r := ⟨_, rfl⟩
    rw [hr]
    unfold sign
    cases ok with
    | false => simp
    | true =>
      rw [if_pos rfl]
      by_cases h1 : r ≥ 32
      · rw [if_pos h1, decide_eq_false (show ¬ r < 32 by omega)]
        by_cases h2 : r = 34
        · rw [if_pos h2, decide_eq_true h2]; simp
        · rw [if_neg h2, decide_eq_false h2]
          by_cases h3 : r = 92
          · rw [if_pos h3, decide_eq_true h3]; simp
          · rw [if_neg h3, decide_eq_false h3]
            by_cases h4 : r = 127
            · rw [decide_eq_true h4, h4]; simp
            · rw [decide_eq_false h4, bne_iff_ne.mpr h4]; simp
      · rw [if_neg h1, decide_eq_true (show r < 32 by omega)]; simp

/-- What both give. -/
def plainOf (l : List Int) : Bool := (runesOf l).2 && (runesOf l).1.all sign
section
variable (l : List Int) (hw : ∀ x ∈ l, 0 ≤ x ∧ x ≤ 255) (hn : l.length ≤ 1048576)
include hw hn
theorem spec_Plain_all (k : Nat) (hk : 8 * l.length + 8 ≤ k) : spec_Plain.f k l = some (plainOf l) := by
  have hr := runesOf_length l
  unfold spec_Plain.f
  rw [spec_RunesOf_all l hw hn k hk, Option.bind_some]
  exact spec_Plain_go (runesOf l).1 (runesOf l).2 (by omega) _ k 0 (Nat.zero_le _) rfl (by omega)
theorem impl_Plain_all (k : Nat) (hk : 8 * l.length + 8 ≤ k) : impl_Plain.f k l = some (plainOf l) := by
  have hr := runesOf_length l
  unfold impl_Plain.f
  rw [impl_RunesOf_all l hw hn, Option.bind_some]
  exact impl_Plain_go (runesOf l).1 (by omega) _ k 0 (runesOf l).2 (Nat.zero_le _) rfl (by omega)
end
end Go.Proofs.YtklkaaaegnojkaaDoor.PureD
