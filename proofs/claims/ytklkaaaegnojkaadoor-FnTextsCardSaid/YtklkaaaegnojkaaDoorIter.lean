/-
Ranging over a string beside a row of numbers of the call's own; the bytes of a row that is read as one text.
-/
import Derived.Test.YtklkaaaegnojkaaDoorWMore
import Derived.Test.YtklkaaaegnojkaaDoorValidBytes
import Derived.Test.YtklkaaaegnojkaaDoorLaid
import Derived.Lib.OthersKept
import Derived.Lib.TrimU
import Derived.Lib.FieldsU
import Derived.Laws.RangeString
namespace Go.Proofs.YtklkaaaegnojkaaDoorW.PrintMore
open Go Go.RowKit Go.Proofs Go.Proofs.YtklkaaaegnojkaaDoorW.PrintWords Go.Proofs.YtklkaaaegnojkaaDoorW.PrintLast

theorem own_iterAt_ {w : World} {B e size n : Nat} {v : Value} {xs : List Value} {k : Nat} {s : ByteArray} {pos : Nat} (h : w.ownsRow B e size v n xs) (hk : w.heap[k]? = some (.stringIter s pos)) (pos' : Nat) : (w.iterAt k s pos').ownsRow B e size v n xs := by
  refine ⟨h.1, ?_⟩
  rcases h.2 with h0 | ⟨g, cap, cur, hv, hb, hg, rest⟩
  · exact .inl h0
  · refine .inr ⟨g, cap, cur, hv, hb, ?_, rest⟩
    rw [Lib.iterAt_other _ _ _ _ _ (fun e => by subst e; rw [hk] at hg; cases hg)]
    exact hg
theorem own_ne_iter_ {w : World} {B e size n : Nat} {v : Value} {xs : List Value} {k : Nat} {s : ByteArray} {pos : Nat} (h : w.ownsRow B e size v n xs) (hk : w.heap[k]? = some (.stringIter s pos)) : some k ≠ v.ownBlock := by
  rcases h.2 with ⟨rfl, _⟩ | ⟨g, cap, cur, rfl, hb, hg, rest⟩
  · simp [Value.ownBlock]
  · intro e
    simp only [Value.ownBlock, Option.some.injEq] at e
    subst e
    rw [hk] at hg
    cases hg
theorem R_iterAt {k : IntKind} {e base : Nat} {w : World} {v : Value} {xs : List Int} {b : Nat} {s : ByteArray} {pos : Nat} (h : Kd.R (Kd.int k) e w base (fun _ => True) v xs) (hk : w.heap[b]? = some (.stringIter s pos)) (pos' : Nat) :
    Kd.R (Kd.int k) e (w.iterAt b s pos') base (fun _ => True) v xs :=
  Kd.R_of_own (enc := Value.int k) (h1 := fun _ => rfl) (own_iterAt_ (Kd.own_of_R (enc := Value.int k) (h1 := fun _ => rfl) h) hk pos') (fun _ _ => trivial)
theorem R_ne_iter {k : IntKind} {e base : Nat} {w : World} {v : Value} {xs : List Int} {b : Nat} {s : ByteArray} {pos : Nat} (h : Kd.R (Kd.int k) e w base (fun _ => True) v xs) (hk : w.heap[b]? = some (.stringIter s pos)) : some b ≠ v.ownBlock :=
  own_ne_iter_ (Kd.own_of_R (enc := Value.int k) (h1 := fun _ => rfl) h) hk
theorem decode_within (s : ByteArray) (pos : Nat) (h : pos < s.size) : pos + (Utf8.decode s pos).2 ≤ s.size := by
  have := Lib.decodeN_le_n' (s.size - pos) (s.get! pos).toNat (s.get! (pos + 1)).toNat (s.get! (pos + 2)).toNat (s.get! (pos + 3)).toNat (by omega)
  rw [← Lib.decode_at] at this
  omega

/-- Whole numbers that are bytes. -/
def bytesOnly (l : List Int) : Bool := l.all fun x => decide (0 ≤ x ∧ x ≤ 255)
theorem strOfNums_get (l : List Int) (hl : bytesOnly l = true) (j : Nat) (hj : j < l.length) : (((strOfNums l).get! j).toNat : Int) = l.getD j 0 := by
  have hm : l.getD j 0 = l[j] := by simp [List.getD_eq_getElem?_getD, List.getElem?_eq_getElem hj]
  have hb : 0 ≤ l[j] ∧ l[j] ≤ 255 := by
    have := List.all_eq_true.1 hl l[j] (List.getElem_mem hj)
    exact of_decide_eq_true this
  rw [hm, ← Lib.getD_get!', strOfNums_data]
  simp [List.getD_eq_getElem?_getD, List.getElem?_eq_getElem hj]
  omega
theorem rd_of_C {w : World} {A : Option Addr} {l : List Int} (h : Kd.C (Kd.int .u8) w A l.length l) (hl : bytesOnly l = true) : YtklkaaaegnojkaaDoor.Utf8.RD w A (strOfNums l) := by
  intro hp
  rw [strOfNums_size] at hp
  have hr := Kd.reads_of_C (enc := Value.int .u8) (d := (0 : Int)) (h1 := fun _ => rfl) h
  obtain ⟨ad, rfl, hc⟩ := hr.2.2 hp
  have h0 := hc 0 hp
  obtain ⟨b, o, sp⟩ := ad
  have hb : b < w.heap.size ∧ sp = none := by
    simp only [Addr.add, if_true] at h0
    unfold World.cell? at h0
    split at h0
    · rename_i e
      refine ⟨(Array.getElem?_eq_some_iff.1 e).1, ?_⟩
      cases sp with
      | none => rfl
      | some z => simp at h0
    · cases h0
  obtain ⟨hb, rfl⟩ := hb
  refine ⟨b, o, rfl, hb, fun j hj => ?_⟩
  rw [strOfNums_size] at hj
  have h1 := hc j hj
  rw [strOfNums_get l hl j hj]
  have e : (⟨b, o, none⟩ : Addr).add j = ⟨b, o + j, none⟩ := by
    unfold Addr.add
    split
    · rename_i e; subst e; rfl
    · rfl
  rw [e] at h1
  exact h1

/-- The runes of a text from a place on, one after the other. -/
def runesAt (s : ByteArray) : Nat → Nat → List Int
  | 0, _ => []
  | b + 1, i => if i < s.size then ((Utf8.decode s i).1 : Int) :: runesAt s b (i + (Utf8.decode s i).2) else []
theorem runesAt_end (s : ByteArray) (b i : Nat) (h : ¬ i < s.size) : runesAt s b i = [] := by
  cases b with
  | zero => rfl
  | succ b => simp [runesAt, h]
theorem runesAt_step (s : ByteArray) (b i : Nat) (h : i < s.size) : runesAt s (b + 1) i = ((Utf8.decode s i).1 : Int) :: runesAt s b (i + (Utf8.decode s i).2) := by simp [runesAt, h]
end Go.Proofs.YtklkaaaegnojkaaDoorW.PrintMore
