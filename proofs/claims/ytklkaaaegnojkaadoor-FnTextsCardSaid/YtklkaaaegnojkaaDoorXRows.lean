/-
A row of bytes of the call's own that may bear the mark of a conversion behind its end: read, stored into and kept as a row without the mark. No condition.
-/
import Derived.Test.YtklkaaaegnojkaaDoorWMore
import Derived.Lib.ConvBytes
import Derived.Laws.Cover4
import Derived.Laws.Rows
import Derived.Laws.Tables
namespace Go.Proofs.YtklkaaaegnojkaaDoorW.PrintMore
open Go Go.RowKit Go.Proofs.YtklkaaaegnojkaaDoorW.PrintWords Go.Proofs.YtklkaaaegnojkaaDoorW.PrintLast
namespace KdX
/-- The row v (elements of type e) reads as xs; its own block's mark lies behind its capacity. -/
def X (_d : Kd Int) (e : Nat) (w : World) (base : Nat) (ok : Nat → Prop) (v : Value) (xs : List Int) : Prop :=
  (∀ k, v.ownBlock = some k → ok k) ∧ ((v = .slice none 0 0 ∧ xs = []) ∨
    ∃ g cap cur fz, v = .slice (some ⟨g, 0, none⟩) xs.length cap ∧ base ≤ g ∧ w.heap[g]? = some (.cells cur e fz) ∧ (fz = (0, 0) ∨ cap ≤ fz.1) ∧ xs.length ≤ cap ∧ cap ≤ maxLen ∧ cur.size = cap ∧ cur.toList.take xs.length = xs.map (Value.int .u8))
section
variable {d : Kd Int} {e base : Nat} {w w1 W W2 : World} {ok ok' ok1 : Nat → Prop} {u v : Value} {xs : List Int}
theorem X_of (h : (Kd.int .u8).R e w base ok v xs) : X (Kd.int .u8) e w base ok v xs := by
  refine ⟨h.1, ?_⟩
  have ho := Kd.own_of_R h
  obtain ⟨hl, hc⟩ := ho
  rcases hc with ⟨rfl, hn⟩ | ⟨g, cap, cur, rfl, hb, hg, hle, hm, hs, ht⟩
  · exact .inl ⟨rfl, List.eq_nil_of_length_eq_zero hn⟩
  · exact .inr ⟨g, cap, cur, (0, 0), rfl, hb, hg, .inl rfl, hle, hm, by simpa using hs, by simpa [encs] using ht⟩
theorem X_move (h : X d e w base ok v xs) (hm : ∀ k, v.ownBlock = some k → w1.heap[k]? = w.heap[k]?) : X d e w1 base ok v xs := by
  refine ⟨h.1, ?_⟩
  rcases h.2 with hn | ⟨g, cap, cur, fz, rfl, hb, hg, r⟩
  · exact .inl hn
  · exact .inr ⟨g, cap, cur, fz, rfl, hb, (hm g (by simp [Value.ownBlock])).trans hg, r⟩
theorem X_mono (h : X d e w base ok v xs) (hk : ∀ k, ok k → ok' k) : X d e w base ok' v xs := ⟨fun k hh => hk k (h.1 k hh), h.2⟩
theorem X_lt (h : X d e w base ok v xs) : ∀ k, v.ownBlock = some k → k < w.heap.size := by
  intro k hk
  rcases h.2 with ⟨rfl, _⟩ | ⟨g, cap, cur, fz, rfl, hb, hg, r⟩
  · simp [Value.ownBlock] at hk
  · have : g = k := by simpa [Value.ownBlock] using hk
    subst this
    exact (Array.getElem?_eq_some_iff.1 hg).1
theorem X_base (h : X d e w base ok v xs) : ∀ k, v.ownBlock = some k → base ≤ k := by
  intro k hk
  rcases h.2 with ⟨rfl, _⟩ | ⟨g, cap, cur, fz, rfl, hb, hg, r⟩
  · simp [Value.ownBlock] at hk
  · have : g = k := by simpa [Value.ownBlock] using hk
    subst this
    exact hb
theorem X_below (h : X d e w base ok v xs) (hb : Below w.heap.size w w1) : X d e w1 base ok v xs := X_move h fun k hk => hb.block k (X_lt h k hk)
theorem X_alloc (h : X d e w base ok v xs) (o : Obj) : X d e (w.alloc o) base ok v xs := X_below h (below_alloc (Below.refl _ _) o)
theorem X_drew (h : X d e w base ok v xs) : X d e w.drew base ok v xs := X_below h (below_drew (Below.refl _ _))
theorem X_drewN (h : X d e w base ok v xs) (m : Nat) : X d e (w.drewN m) base ok v xs := X_below h (pw_below_drewN (Below.refl _ _) m)
theorem X_lower {base' : Nat} (h : X d e w base ok v xs) (hb : base' ≤ base) : X d e w base' ok v xs := by
  refine ⟨h.1, ?_⟩
  rcases h.2 with hn | ⟨g, cap, cur, fz, hv, hg, r⟩
  · exact .inl hn
  · exact .inr ⟨g, cap, cur, fz, hv, Nat.le_trans hb hg, r⟩
theorem X_tight (_hE : d.E = []) (h : X d e w base ok v xs) : X d e w base (fun k => some k = v.ownBlock) v xs := ⟨fun _ hk => hk.symm, h.2⟩
theorem X_reok (_hE : d.E = []) (h : X d e W base ok1 v xs) (hok : ∀ k, v.ownBlock = some k → ok k) : X d e W base ok v xs := ⟨hok, h.2⟩
theorem X_elder' (hu : X d e W base ok u xs) (hbase : ∀ k, v.ownBlock = some k → W.heap.size ≤ k) (hb : Below W.heap.size W w1) : X d e w1 base (fun k => ok k ∧ some k ≠ v.ownBlock) u xs :=
  ⟨fun k hk => ⟨hu.1 k hk, fun he => by have := hbase k he.symm; have := X_lt hu k hk; omega⟩, (X_below hu hb).2⟩
theorem X_new' (h : X d e w1 W.heap.size ok v xs) (hlt : ∀ k, u.ownBlock = some k → k < W.heap.size) : X d e w1 W.heap.size (fun k => ok k ∧ some k ≠ u.ownBlock) v xs :=
  ⟨fun k hk => ⟨h.1 k hk, fun he => by have := hlt k he.symm; have := X_base h k hk; omega⟩, h.2⟩
theorem X_keptB {S : Nat → Prop} (h : X d e W base ok v xs) (hk : Kept W W2 S) (hne : ∀ k, ok k → ¬ S k) : X d e W2 base (fun k => ok k ∧ (¬ S k ∧ k < W.heap.size)) v xs :=
  ⟨fun k hh => ⟨h.1 k hh, hne k (h.1 k hh), X_lt h k hh⟩, (X_move h fun k hh => hk.2 k (X_lt h k hh) (hne k (h.1 k hh))).2⟩
theorem X_slice (h : X d e w base ok v xs) : ∃ A c, v = .slice A xs.length c := by
  rcases h.2 with ⟨rfl, rfl⟩ | ⟨g, cap, cur, fz, rfl, r⟩
  · exact ⟨none, 0, rfl⟩
  · exact ⟨_, _, rfl⟩
theorem X_form (h : X d e w base ok v xs) (hp : 0 < xs.length) : ∃ g cap, v = .slice (some ⟨g, 0, none⟩) xs.length cap ∧ base ≤ g ∧ g < w.heap.size ∧ ∃ cells fz, w.heap[g]? = some (.cells cells e fz) := by
  rcases h.2 with ⟨rfl, rfl⟩ | ⟨g, cap, cur, fz, rfl, hb, hg, r⟩
  · simp at hp
  · exact ⟨g, cap, rfl, hb, (Array.getElem?_eq_some_iff.1 hg).1, cur, fz, hg⟩
theorem X_cells {g n cap : Nat} (h : X d e w base ok (.slice (some ⟨g, 0, none⟩) n cap) xs) (i : Nat) (hi : i < n) : n = xs.length ∧ n ≤ cap ∧ w.cell? ⟨g, i, none⟩ = some (.int .u8 (xs.getD i 0)) ∧ w.frozen? ⟨g, i, none⟩ = false := by
  rcases h.2 with ⟨hv, _⟩ | ⟨g', cap', cur, fz, hv, hb, hg, hfz, hle, hm, hs, ht⟩
  · simp at hv
  · injection hv with h1 h2 h3
    injection h1 with h1
    injection h1 with h1 _ _
    subst h1 h2 h3
    refine ⟨rfl, hle, ?_, ?_⟩
    · have hc : cur[i]? = some (.int .u8 (xs.getD i 0)) := by
        have h4 : (cur.toList.take xs.length)[i]? = (xs.map (Value.int .u8))[i]? := by rw [ht]
        rw [List.getElem?_take_of_lt hi, List.getElem?_map, List.getElem?_eq_getElem hi] at h4
        rw [← Array.getElem?_toList, h4]
        simp [List.getD_eq_getElem?_getD, List.getElem?_eq_getElem hi]
      simp [World.cell?, hg, hc]
    · unfold World.frozen?
      simp only [hg]
      rcases hfz with rfl | hf
      · simp
      · have : ¬ fz.1 ≤ i := by omega
        simp [this]
theorem X_reads' {A : Option Addr} {n c : Nat} (h : X (Kd.int .u8) e w base ok (.slice A n c) xs) : n = xs.length ∧ n ≤ c ∧ (Kd.int .u8).C w A xs.length xs := by
  have h0 := h
  rcases h.2 with ⟨hv, rfl⟩ | ⟨g, cap, cur, fz, hv, hb, hg, hfz, hle, hm, hs, ht⟩
  · injection hv with h1 h2 h3
    subst h1 h2 h3
    exact ⟨rfl, Nat.le_refl _, rfl, by simp, fun hp => by simp at hp⟩
  · injection hv with h1 h2 h3
    subst h1 h2 h3
    refine ⟨rfl, hle, rfl, by unfold maxLen at hm; omega, fun hp => ⟨⟨g, 0, none⟩, rfl, fun j p hj => ⟨[.int .u8 p], rfl, rfl, fun i u hi => ?_⟩⟩⟩
    have hjl : j < xs.length := by
      rcases Nat.lt_or_ge j xs.length with h | h
      · exact h
      · rw [List.getElem?_eq_none h] at hj
        simp at hj
    have hi0 : i = 0 := by
      rcases Nat.eq_zero_or_pos i with h | h
      · exact h
      · rw [List.getElem?_eq_none (by simp; omega)] at hi
        simp at hi
    subst hi0
    simp only [List.getElem?_cons_zero, Option.some.injEq] at hi
    subst hi
    have hc := (X_cells h0 j hjl).2.2.1
    have ha : (⟨g, 0, none⟩ : Addr).add (j * (Kd.int .u8).sz + 0) = ⟨g, j, none⟩ := by
      show (⟨g, 0, none⟩ : Addr).add (j * 1 + 0) = ⟨g, j, none⟩
      simp only [Addr.add, Nat.mul_one, Nat.add_zero, Nat.zero_add]
      split <;> simp_all
    rw [ha, hc]
    simp [List.getD_eq_getElem?_getD, hj]
theorem X_celln {g n cap : Nat} (d0 : Int) (h : X d e W base ok (.slice (some ⟨g, 0, none⟩) n cap) xs) (i : Int) (h0 : 0 ≤ i) (hi : i < n) : W.cell? ⟨g, i.toNat, none⟩ = some (.int .u8 (rdOf d0 xs i)) ∧ W.frozen? ⟨g, i.toNat, none⟩ = false := by
  obtain ⟨hn, _, hc, hf⟩ := X_cells h i.toNat (by omega)
  refine ⟨?_, hf⟩
  rw [hc]
  have hl : i.toNat < xs.length := by omega
  simp [rdOf, List.getD_eq_getElem?_getD, List.getElem?_eq_getElem hl]
theorem X_putg {g n cap : Nat} (h : X d e W base ok (.slice (some ⟨g, 0, none⟩) n cap) xs) (i : Int) (x : Int) :
    X d e (W.setCell ⟨g, i.toNat, none⟩ (.int .u8 x)) base ok (.slice (some ⟨g, 0, none⟩) n cap) (xs.set i.toNat x) ∧ W.grownBy (W.setCell ⟨g, i.toNat, none⟩ (.int .u8 x)) (some g) := by
  refine ⟨⟨h.1, ?_⟩, ⟨rfl, rfl, rfl, by simp [World.setCell], fun k _ hk => heap_setCell_other W _ k _ (fun he => hk (by rw [he]))⟩⟩
  rcases h.2 with ⟨hv, _⟩ | ⟨g', cap', cur, fz, hv, hb, hg, hfz, hle, hm, hs, ht⟩
  · simp at hv
  · injection hv with h1 h2 h3
    injection h1 with h1
    injection h1 with h1 _ _
    subst h1 h2 h3
    refine .inr ⟨g, cap, cur.setIfInBounds i.toNat (.int .u8 x), fz, by rw [List.length_set], hb, ?_, hfz, by rw [List.length_set]; exact hle, hm, by simpa using hs, ?_⟩
    · rw [setCell_eq_setRow W g i.toNat cur e fz _ hg]
      exact setRow_heap W g cur _ e fz hg
    · rw [List.length_set, Array.toList_setIfInBounds, List.take_set, ht, List.map_set]
/-- What '[]byte(s)' leaves is such a row. -/
theorem X_bytes (w0 : World) (s : ByteArray) (e : Nat) (hc : grownCap w0 s.size 0 e ≤ maxLen) (hle : s.size ≤ grownCap w0 s.size 0 e) : X (Kd.int .u8) e (Lib.bytesWorld w0 e s) w0.heap.size (fun k => w0.heap.size ≤ k) (.slice (some ⟨w0.heap.size, 0, none⟩) s.size (grownCap w0 s.size 0 e)) (bytesOf s) := by
  refine ⟨fun k hk => ?_, .inr ⟨w0.heap.size, _, _, _, by rw [bytesOf_length], Nat.le_refl _, Lib.bytesWorld_at_new w0 e s, .inr ?_, by rw [bytesOf_length]; exact hle, hc, ?_, ?_⟩⟩
  · have : w0.heap.size = k := by simpa [Value.ownBlock] using hk
    omega
  · simp [Lib.bytesCells]
    omega
  · simp [Lib.bytesCells]
    omega
  · rw [bytesOf_length]
    simp [Lib.bytesCells, bytesOf]
end
/-- '[]byte(s)' as an event: a letter for what it leaves. -/
theorem X_conv {P : Program} {ops : Array Oper} {rest : List Oper} {o : Oper} {a : Act} {Q : Exit → Act → World → Prop} (_d : Kd Int) {w0 W : World} (base e : Nat) (hgd : o.guard = none) {N : Tmp} (_hd : o.dst = some N) {s : ByteArray} {ok : Nat → Prop}
    (hrun : (execOp a.eval o).run P W = .ok (.value (.slice (some ⟨W.heap.size, 0, none⟩) s.size (grownCap W s.size 0 e))) (Lib.bytesWorld W e s))
    (hsz : s.size ≤ 1099511627776) (hok : ∀ k, W.heap.size ≤ k → ok k) (HB : Below base w0 W) (hbase : base ≤ W.heap.size)
    (h : ∀ v1 w1, X (Kd.int .u8) e w1 base ok v1 (bytesOf s) → Below base w0 w1 → wpList P ops Q rest (a.put o.dst v1) w1) : wpList P ops Q (o :: rest) a W := by
  refine Kd.event_run hgd hrun (h _ _ (X_mono (X_lower (X_bytes W s e (grownCap_le_maxLen _ _ _ _ (by unfold maxLen; omega)) (grownCap_ge _ _ _ _)) hbase) hok) (bytes_below HB hbase e s))
theorem X_conv_step {P : Program} {ops : Array Oper} {o : Oper} {a : Act} {Q : Exit → Act → World → Prop} {Kc : Act → World → Prop} (_d : Kd Int) {w0 W : World} (base e : Nat) (hw : Region.wanted o (yielded ops a.tmps) = true) {N : Tmp} (_hd : o.dst = some N) {s : ByteArray} {ok : Nat → Prop}
    (hrun : (execOp a.eval o).run P W = .ok (.value (.slice (some ⟨W.heap.size, 0, none⟩) s.size (grownCap W s.size 0 e))) (Lib.bytesWorld W e s))
    (hsz : s.size ≤ 1099511627776) (hok : ∀ k, W.heap.size ≤ k → ok k) (HB : Below base w0 W) (hbase : base ≤ W.heap.size)
    (h : ∀ v1 w1, X (Kd.int .u8) e w1 base ok v1 (bytesOf s) → Below base w0 w1 → Kc (a.put o.dst v1) w1) : if Region.wanted o (yielded ops a.tmps) = true then Oper.wp P o a W Kc Q else Kc (a.put o.dst undef) W := by
  refine event_step hw hrun (h _ _ (X_mono (X_lower (X_bytes W s e (grownCap_le_maxLen _ _ _ _ (by unfold maxLen; omega)) (grownCap_ge _ _ _ _)) hbase) hok) (bytes_below HB hbase e s))
/-- What 'string(b)' gives of such a row. -/
theorem X_string {P : Program} {src dst e : TypeId} {d : Kd Int} {w : World} {base : Nat} {ok : Nat → Prop} {v : Value} {xs : List Int} (hs : P.underlying src = some (.slice e)) (he : P.underlying e = some (.int .u8)) (hd : P.underlying dst = some .string)
    (h : X d e w base ok v xs) : (convert src dst v).run P w = .ok (.string (strOfNums xs)) w := by
  obtain ⟨A, c, rfl⟩ := X_slice h
  exact Kd.C_string hs he hd (X_reads' (show X (Kd.int .u8) e w base ok _ xs from h)).2.2
/-- What 'string(list)' gives of a row of runes. -/
theorem C_runes {P : Program} {w : World} {src dst e : TypeId} {A : Option Addr} {n c : Nat} {xs : List Int} (hs : P.underlying src = some (.slice e)) (he : P.underlying e = some (.int .i32)) (hd : P.underlying dst = some .string)
    (h : (Kd.int .i32).C w A n xs) : (convert src dst (.slice A n c)).run P w = .ok (.string (runesBytes xs)) w := by
  have hr := Kd.reads_of_C (enc := Value.int .i32) (d := (0 : Int)) (h1 := fun _ => rfl) h
  cases A with
  | none =>
    have h0 : xs = [] := by
      cases xs with
      | nil => rfl
      | cons x xs =>
        obtain ⟨ad, he, _⟩ := hr.2.2 (by have := hr.1; simp at this; omega)
        cases he
    subst h0
    exact run_convert_runes_nil w src dst e n c hs he hd
  | some ad =>
    have := run_convert_runes (P := P) w src dst e ad n c xs (by have := hr.1; omega) hs he hd fun j hj => by
      obtain ⟨ad2, he, hx⟩ := hr.2.2 (by have := hr.1; omega)
      obtain rfl := Option.some.inj he
      exact hx j (by have := hr.1; omega)
    rw [this, List.take_of_length_le (by have := hr.1; omega)]
theorem R_runes {P : Program} {src dst e : TypeId} {w : World} {base : Nat} {ok : Nat → Prop} {v : Value} {xs : List Int} (hs : P.underlying src = some (.slice e)) (he : P.underlying e = some (.int .i32)) (hd : P.underlying dst = some .string)
    (h : (Kd.int .i32).R e w base ok v xs) : (convert src dst v).run P w = .ok (.string (runesBytes xs)) w := by
  obtain ⟨A, c, rfl⟩ := Kd.R_slice h
  exact C_runes hs he hd (Kd.R_reads' h).2.2
theorem X_nil (d : Kd Int) (e : Nat) (w : World) (base : Nat) (ok : Nat → Prop) : X d e w base ok (.slice none 0 0) [] := ⟨fun k hk => by simp [Value.ownBlock] at hk, .inl ⟨rfl, rfl⟩⟩
theorem X_after {d : Kd Int} {e base : Nat} {ok : Nat → Prop} {W w1 : World} {u v v1 : Value} {xs : List Int} (h : X d e W base (fun k => ok k ∧ some k ≠ v.ownBlock) u xs) (hg : W.grownBy w1 v.ownBlock) (hat : v1.ownBlock = v.ownBlock ∨ ∃ b, v1.ownBlock = some b ∧ W.heap.size ≤ b) : X d e w1 base (fun k => ok k ∧ some k ≠ v1.ownBlock) u xs := by
  have hm := X_move h fun k hk => hg.block k (X_lt h k hk) (h.1 k hk).2
  refine ⟨fun k hk => ⟨(h.1 k hk).1, ?_⟩, hm.2⟩
  have hlt := X_lt h k hk
  rcases hat with hat | ⟨b, hb, hle⟩
  · rw [hat]; exact (h.1 k hk).2
  · rw [hb]
    intro he
    injection he with he
    omega
end KdX
end Go.Proofs.YtklkaaaegnojkaaDoorW.PrintMore
