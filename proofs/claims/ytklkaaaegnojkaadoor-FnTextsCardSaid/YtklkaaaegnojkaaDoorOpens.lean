/-
What a datum that is read in memory comes to, as a value of a printed kind: of whole numbers, bools, texts, slices and structs, however nested. No condition but the types' own.
-/
import Derived.Test.YtklkaaaegnojkaaDoorWMore
import Derived.ChangeArms
import Derived.DataReads
import Derived.WideShapes
namespace Go.Proofs.YtklkaaaegnojkaaDoorW.PrintMore
open Go Go.RowKit Go.Proofs.YtklkaaaegnojkaaDoorW.PrintWords Go.Proofs.YtklkaaaegnojkaaDoorW.PrintLast

/-- Whatever reads as a datum of type t is a value of the kind d that is as Ok says. -/
def Opens {α : Type} (P : Program) (d : Kd α) (t : TypeId) (Ok : α → Prop) : Prop :=
  ∀ {H : Type} (enc : TypeId × Value → H) (w : World) (base : Nat) (spare : Nat → Bool) (held : Bool) (fuel : Nat) (cs : List Value) (x : DataW H × List MemPlace),
    DataW.trod enc P w base spare held fuel t cs = some x → ∃ a, d.K w a cs ∧ Ok a

theorem Opens.mono {α : Type} {P : Program} {d : Kd α} {t : TypeId} {Ok Ok' : α → Prop} (h : Opens P d t Ok) (hk : ∀ a, Ok a → Ok' a) : Opens P d t Ok' :=
  fun enc w base spare held fuel cs x hx => by
    obtain ⟨a, h1, h2⟩ := h enc w base spare held fuel cs x hx
    exact ⟨a, h1, hk a h2⟩

theorem opens_int {P : Program} {t : TypeId} {k : IntKind} (ht : P.underlying t = some (.int k)) : Opens P (Kd.int k) t (fun n => (Lit.int k n).wf = true) :=
  fun enc w base spare held fuel cs x hx => by
    obtain ⟨n, rfl, _, hw⟩ := DataW.trod_int ht hx
    exact ⟨n, rfl, hw⟩

theorem opens_bool {P : Program} {t : TypeId} (ht : P.underlying t = some .bool) : Opens P Kd.bool t (fun _ => True) :=
  fun enc w base spare held fuel cs x hx => by
    obtain ⟨b, rfl, _⟩ := DataW.trod_bool ht hx
    exact ⟨b, rfl, trivial⟩

theorem opens_string {P : Program} {t : TypeId} (ht : P.underlying t = some .string) : Opens P Kd.string t (fun s => s.size ≤ maxLen) :=
  fun enc w base spare held fuel cs x hx => by
    obtain ⟨s, rfl, _, hs⟩ := DataW.trod_string ht hx
    exact ⟨s, rfl, hs⟩

theorem list_of {α : Type} {n : Nat} {Q : Nat → α → Prop} (h : ∀ i, i < n → ∃ a, Q i a) : ∃ l : List α, l.length = n ∧ ∀ i a, l[i]? = some a → Q i a := by
  induction n with
  | zero => exact ⟨[], rfl, fun i a h => by simp at h⟩
  | succ n ih =>
    obtain ⟨l, hl, hq⟩ := ih (fun i hi => h i (by omega))
    obtain ⟨b, hb⟩ := h n (by omega)
    refine ⟨l ++ [b], by simp [hl], fun i a hi => ?_⟩
    rcases Nat.lt_or_ge i l.length with hlt | hge
    · rw [List.getElem?_append_left hlt] at hi
      exact hq i a hi
    · rw [List.getElem?_append_right hge] at hi
      have e : i - l.length = 0 := by
        rcases Nat.eq_zero_or_pos (i - l.length) with h0 | h0
        · exact h0
        · rw [List.getElem?_eq_none (by simp; omega)] at hi
          simp at hi
      rw [e] at hi
      simp at hi
      subst hi
      have : i = n := by omega
      subst this
      exact hb

theorem add_add_ (a : Addr) (i j : Nat) : (a.add i).add j = a.add (i + j) := by
  unfold Addr.add
  by_cases hi : i = 0
  · subst hi
    simp
  · by_cases hj : j = 0
    · subst hj
      simp
    · simp [hi, hj, Nat.add_assoc]

theorem opens_slice {α : Type} {P : Program} {d : Kd α} {t e : TypeId} {Ok : α → Prop} (ht : P.underlying t = some (.slice e)) (hs : P.cellsOf e = d.sz) (he : Opens P d e Ok) :
    Opens P (Kd.slice e d) t (fun l => l.length ≤ maxLen ∧ ∀ x ∈ l, Ok x) :=
  fun enc w base spare held fuel cs x hx => by
    rcases DataW.trod_slice ht hx with ⟨rfl, _⟩ | ⟨a, len, cap, elems, rest, n, _, rfl, _, _, hl, hm, hlen, hel, _⟩
    · exact ⟨[], ⟨none, 0, rfl, Nat.le_refl _, rfl, by simp, fun h => by simp at h⟩, by simp, fun x hx => by simp at hx⟩
    · have each : ∀ i, i < len → ∃ b, (∃ c, c.length = d.sz ∧ d.K w b c ∧ ∀ j u, c[j]? = some u → w.cell? (a.add (i * d.sz + j)) = some u) ∧ Ok b := by
        intro i hi
        have h1 := hel i hi
        rw [List.getElem?_eq_getElem (by omega : i < elems.length)] at h1
        obtain ⟨c, hc, hy⟩ := Option.bind_eq_some_iff.1 h1
        obtain ⟨b, hb, hok⟩ := he enc w base spare held n c _ hy
        obtain ⟨_, hcl, hcell⟩ := World.cells?_some hc
        rw [hs] at hcl hcell
        refine ⟨b, ⟨c, hcl, hb, fun j u hu => ?_⟩, hok⟩
        have hj : j < d.sz := by
          rcases Nat.lt_or_ge j c.length with h | h
          · omega
          · rw [List.getElem?_eq_none h] at hu
            simp at hu
        rw [← add_add_, hcell j hj]
        exact hu
      obtain ⟨l, hl', hq⟩ := list_of each
      have hmm : len ≤ maxLen := Nat.le_trans hl hm
      refine ⟨l, ⟨some a, cap, by rw [hl'], by omega, rfl, by rw [hl']; unfold maxLen at hmm; exact hmm, fun _ => ⟨a, rfl, fun j p hp => (hq j p hp).1⟩⟩, by omega, fun y hy => ?_⟩
      obtain ⟨i, hi⟩ := List.getElem?_of_mem hy
      exact (hq i y hi).2

/-- The fields fs of a struct, from cell off on. -/
def OpensF {α : Type} (P : Program) (fs : List Field) (off : Nat) (d : Kd α) (Ok : α → Prop) : Prop :=
  ∀ {H : Type} (enc : TypeId × Value → H) (w : World) (base : Nat) (spare : Nat → Bool) (held : Bool) (fuel : Nat) (cs : List Value),
    (∀ f ∈ fs, ∃ y, DataW.trod enc P w base spare held fuel f.type ((cs.drop f.offset).take (P.cellsOf f.type)) = some y) → cs.length = off + d.sz → ∃ a, d.K w a (cs.drop off) ∧ Ok a

theorem opensF_one {α : Type} {P : Program} {f : Field} {off : Nat} {d : Kd α} {Ok : α → Prop} (ho : f.offset = off) (hc : P.cellsOf f.type = d.sz) (h : Opens P d f.type Ok) : OpensF P [f] off d Ok :=
  fun enc w base spare held fuel cs hf hl => by
    obtain ⟨y, hy⟩ := hf f (by simp)
    obtain ⟨a, h1, h2⟩ := h enc w base spare held fuel _ y hy
    rw [ho, hc, List.take_of_length_le (by rw [List.length_drop]; omega)] at h1
    exact ⟨a, h1, h2⟩

theorem opensF_cons {α β : Type} {P : Program} {f : Field} {fs : List Field} {off : Nat} {d : Kd α} {d2 : Kd β} {Ok : α → Prop} {Ok2 : β → Prop} (ho : f.offset = off) (hc : P.cellsOf f.type = d.sz)
    (h : Opens P d f.type Ok) (h2 : OpensF P fs (off + d.sz) d2 Ok2) : OpensF P (f :: fs) off (Kd.pair d d2) (fun x => Ok x.1 ∧ Ok2 x.2) :=
  fun enc w base spare held fuel cs hf hl => by
    obtain ⟨y, hy⟩ := hf f (by simp)
    obtain ⟨a, h3, h4⟩ := h enc w base spare held fuel _ y hy
    have hl' : cs.length = off + (d.sz + d2.sz) := hl
    obtain ⟨b, h5, h6⟩ := h2 enc w base spare held fuel cs (fun g hg => hf g (by simp [hg])) (by omega)
    rw [ho, hc] at h3
    refine ⟨(a, b), ⟨_, _, ?_, h3, h5⟩, h4, h6⟩
    rw [← List.drop_drop, List.take_append_drop]

theorem opens_struct {α : Type} {P : Program} {t : TypeId} {fs : Array Field} {d : Kd α} {Ok : α → Prop} (ht : P.underlying t = some (.struct fs)) (hc : P.cellsOf t = d.sz) (h : OpensF P fs.toList 0 d Ok) : Opens P d t Ok :=
  fun enc w base spare held fuel cs x hx => by
    obtain ⟨xs, n, _, _, hl, hs, hf⟩ := DataW.trod_struct ht hx
    have h1 := h enc w base spare held n cs (fun f hmem => by
      obtain ⟨i, hi⟩ := List.getElem?_of_mem hmem
      have hi' : fs[i]? = some f := by simpa using hi
      have hlt : i < fs.size := by
        rcases Nat.lt_or_ge i fs.size with hh | hh
        · exact hh
        · rw [Array.getElem?_eq_none hh] at hi'
          simp at hi'
      have h2 := hf i f hi'
      rw [List.getElem?_eq_getElem (by omega : i < xs.length)] at h2
      exact ⟨_, h2⟩) (by omega)
    simpa using h1

theorem opens_iso {α β : Type} {P : Program} {t : TypeId} {d : Kd α} {Ok : α → Prop} (f : β → α) (g : α → β) (hg : ∀ a, f (g a) = a) (h : Opens P d t Ok) : Opens P (Kd.iso d f) t (fun b => Ok (f b)) :=
  fun enc w base spare held fuel cs x hx => by
    obtain ⟨a, h1, h2⟩ := h enc w base spare held fuel cs x hx
    refine ⟨g a, ?_, ?_⟩
    · show d.K w (f (g a)) cs
      rw [hg]
      exact h1
    · show Ok (f (g a))
      rw [hg]
      exact h2

/-- What is asked of a slice's value. -/
def okL {α : Type} (Ok : α → Prop) (l : List α) : Prop := l.length ≤ maxLen ∧ ∀ x ∈ l, Ok x
theorem arr_of {α : Type} {cs : Array α} {l : List α} (h : cs.toList = l) : cs = l.toArray := by
  subst h
  rfl
end Go.Proofs.YtklkaaaegnojkaaDoorW.PrintMore
