/-
The library's utf8.Valid at a slice of bytes tells whether the bytes are valid UTF-8 (Lib.validD), where its two tables are laid; adapted to bytes from the walk of ValidString that the kit shows. Conditions: the bytes lie where the slice points; the tables read as they are laid.
-/
import Derived.Test.YtklkaaaegnojkaaDoorProg
import Derived.Shelf.Unicode.WordAny
import Derived.Shelf.Unicode.DecodeAny
import Derived.Lib.ValidAsc
import Derived.Laws.BitsAllLaws
import Derived.Deep.LoopGhost
import Derived.Deep.DeepMust
import Derived.Deep.QuietTactic
import Derived.BigQuiet
import Derived.Below
import Derived.Deep.CutBlock
import Derived.Deep.DeepCutAuto
import Derived.WalkKit
import Derived.Lib.Hide
set_option linter.unusedVariables false
set_option linter.unusedSimpArgs false
namespace Go.Proofs.YtklkaaaegnojkaaDoor.Utf8
open Go.Shelf Go.RowKit Go.Lib Go.Proofs
set_option maxHeartbeats 8000000 in
set_option maxRecDepth 100000 in
theorem word_bytes (s : ByteArray) (b o n c : Nat) (w : World) (hs : 8 ≤ s.size) (hn : 8 ≤ n) (hc : ∀ j, j < 8 → w.cell? ⟨b, o + j, none⟩ = some (.int .u8 (s.get! j).toNat)) :
    Calls Tryd.prog 60 #[.slice (some ⟨b, o, none⟩) n c] w fun e w' => e = .returned (.int .u64 (Lib.leNat [s.get! 0, s.get! 1, s.get! 2, s.get! 3, s.get! 4, s.get! 5, s.get! 6, s.get! 7])) ∧ ∃ q, w' = w.drewN q := by
  obtain ⟨x0, hx0⟩ : ∃ x0, s.get! 0 = x0 := ⟨_, rfl⟩
  have h0 : x0.toNat < 256 := x0.toNat_lt
  obtain ⟨x1, hx1⟩ : ∃ x1, s.get! 1 = x1 := ⟨_, rfl⟩
  have h1 : x1.toNat < 256 := x1.toNat_lt
  obtain ⟨x2, hx2⟩ : ∃ x2, s.get! 2 = x2 := ⟨_, rfl⟩
  have h2 : x2.toNat < 256 := x2.toNat_lt
  obtain ⟨x3, hx3⟩ : ∃ x3, s.get! 3 = x3 := ⟨_, rfl⟩
  have h3 : x3.toNat < 256 := x3.toNat_lt
  obtain ⟨x4, hx4⟩ : ∃ x4, s.get! 4 = x4 := ⟨_, rfl⟩
  have h4 : x4.toNat < 256 := x4.toNat_lt
  obtain ⟨x5, hx5⟩ : ∃ x5, s.get! 5 = x5 := ⟨_, rfl⟩
  have h5 : x5.toNat < 256 := x5.toNat_lt
  obtain ⟨x6, hx6⟩ : ∃ x6, s.get! 6 = x6 := ⟨_, rfl⟩
  have h6 : x6.toNat < 256 := x6.toNat_lt
  obtain ⟨x7, hx7⟩ : ∃ x7, s.get! 7 = x7 := ⟨_, rfl⟩
  have h7 : x7.toNat < 256 := x7.toNat_lt
  have c0 := hc 0 (by omega); have c1 := hc 1 (by omega); have c2 := hc 2 (by omega); have c3 := hc 3 (by omega); have c4 := hc 4 (by omega); have c5 := hc 5 (by omega); have c6 := hc 6 (by omega); have c7 := hc 7 (by omega)
  rw [hx0] at c0; rw [hx1] at c1; rw [hx2] at c2; rw [hx3] at c3; rw [hx4] at c4; rw [hx5] at c5; rw [hx6] at c6; rw [hx7] at c7
  rw [Nat.add_zero] at c0
  rw [hx0, hx1, hx2, hx3, hx4, hx5, hx6, hx7]
  have hv : ((Lib.leNat [x0, x1, x2, x3, x4, x5, x6, x7] : Nat) : Int) = (x0.toNat : Int) + (x1.toNat : Int) * 256 + (x2.toNat : Int) * 65536 + (x3.toNat : Int) * 16777216 + (x4.toNat : Int) * 4294967296 + (x5.toNat : Int) * 1099511627776 + (x6.toNat : Int) * 281474976710656 + (x7.toNat : Int) * 72057594037927936 := by
    simp only [Lib.leNat]
    push_cast
    omega
  have q0 : (0 : Int) < (n : Int) := by omega
  have q1 : (1 : Int) < (n : Int) := by omega
  have q2 : (2 : Int) < (n : Int) := by omega
  have q3 : (3 : Int) < (n : Int) := by omega
  have q4 : (4 : Int) < (n : Int) := by omega
  have q5 : (5 : Int) < (n : Int) := by omega
  have q6 : (6 : Int) < (n : Int) := by omega
  have q7 : (7 : Int) < (n : Int) := by omega
  clear hx0 hx1 hx2 hx3 hx4 hx5 hx6 hx7 hc hs
  have mixed : Tryd.prog.follows Departure.mixedOrders = true := by kernel_rfl
  go_enter Tryd.func60, Tryd.ntmps60
  go_wp2
  go_quiet (fail)
  go_wp2
  go_ret
  refine ⟨?_, _, rfl⟩
  simp (disch := omega) only [u64_wrap_id, u64_or8, u64_or16, u64_or24, u64_or32, u64_or40, u64_or48, u64_or56]
  rw [hv]
  rfl

theorem below_drewNv {B : Nat} {a w : World} (h : Below B a w) : ∀ q, Below B a (w.drewN q)
  | 0 => h
  | q + 1 => (below_drewNv h q).drew
set_option maxRecDepth 100000 in
theorem and7 : ∀ X : Fin 256, bits .and .u8 ((X.val : Nat) : Int) 7 = ((X.val % 8 : Nat) : Int) := by decide
/-- The bytes of t lie where A points. -/
def RD (w : World) (A : Option Addr) (t : ByteArray) : Prop :=
  0 < t.size → ∃ b o, A = some ⟨b, o, none⟩ ∧ b < w.heap.size ∧ ∀ j, j < t.size → w.cell? ⟨b, o + j, none⟩ = some (.int .u8 (t.get! j).toNat)
theorem get_ext (t : ByteArray) (k j : Nat) (h : k + j < t.size) : (t.extract k t.size).get! j = t.get! (k + j) := by
  rw [← Lib.getD_get!', ← Lib.getD_get!', Lib.ext_list]
  simp [List.getD_eq_getElem?_getD]
theorem RD_drop {w : World} {b o k : Nat} {t : ByteArray} (hk : k ≤ t.size) (hb : b < w.heap.size) (hc : ∀ j, j < t.size → w.cell? ⟨b, o + j, none⟩ = some (.int .u8 (t.get! j).toNat)) :
    RD w (if t.size = k then some ⟨b, o, none⟩ else some ⟨b, o + k, none⟩) (t.extract k t.size) := by
  intro h0
  rw [Lib.ext_size] at h0
  rw [if_neg (by omega)]
  refine ⟨b, o + k, rfl, hb, fun j hj => ?_⟩
  rw [Lib.ext_size] at hj
  rw [get_ext t k j (by omega), Nat.add_assoc]
  exact hc (k + j) (by omega)
structure At (w : World) (b o : Nat) (t : ByteArray) : Prop where
  lt : b < w.heap.size
  cells : ∀ j, j < t.size → w.cell? ⟨b, o + j, none⟩ = some (.int .u8 (t.get! j).toNat)
theorem At.drop {w : World} {b o : Nat} {t : ByteArray} (h : At w b o t) (k : Nat) : At w b (o + k) (t.extract k t.size) :=
  ⟨h.lt, fun j hj => by rw [Lib.ext_size] at hj; rw [get_ext t k j (by omega), Nat.add_assoc]; exact h.cells (k + j) (by omega)⟩
theorem At.rd {w : World} {b o : Nat} {t : ByteArray} (h : At w b o t) : RD w (some ⟨b, o, none⟩) t := fun _ => ⟨b, o, rfl, h.lt, h.cells⟩
theorem At.rd_if {w : World} {b o k : Nat} {t : ByteArray} (h : At w b o t) (hk : k ≤ t.size) : RD w (if t.size = k then some ⟨b, o, none⟩ else some ⟨b, o + k, none⟩) (t.extract k t.size) := RD_drop hk h.lt h.cells
theorem At.at {w W : World} {b o : Nat} {t : ByteArray} (h : At w b o t) (hb : Below w.heap.size w W) (j : Nat) (hj : j < t.size) : W.cell? ⟨b, o + j, none⟩ = some (.int .u8 (t.get! j).toNat) := (hb.cell (p := ⟨b, o + j, none⟩) h.lt).trans (h.cells j hj)
theorem At.word {w W : World} {b o : Nat} {t : ByteArray} (h : At w b o t) (h8 : 8 ≤ t.size) (hb : Below w.heap.size w W) {N A : Nat} (hA : Lib.leNat [t.get! 0, t.get! 1, t.get! 2, t.get! 3, t.get! 4, t.get! 5, t.get! 6, t.get! 7] = A) (hN : t.size = N) :
    Calls Tryd.prog 60 #[.slice (some ⟨b, o, none⟩) N N] W fun e w' => e = .returned (.int .u64 A) ∧ ∃ q, w' = W.drewN q := by
  subst hN
  rw [← hA]
  exact word_bytes t b o _ _ W h8 h8 (fun j hj => h.at hb j (by omega))
set_option maxHeartbeats 16000000 in
set_option maxRecDepth 1000000 in
theorem valid_bytes (s : ByteArray) (A : Option Addr) (c0 : Nat) (w : World) (hs : s.size ≤ 9223372036854775807) (hcap : s.size ≤ c0) (hA : RD w A s) (hT : Lib.Utf8Tabs 0 1 w) :
    Calls Tryd.prog 41 #[.slice A s.size c0] w fun e w' => e = .returned (.bool (Lib.validD s.data.toList)) ∧ Below w.heap.size w w' := by
  obtain ⟨ANS, hANS⟩ : ∃ ANS, Lib.validD s.data.toList = ANS := ⟨_, rfl⟩
  rw [hANS]
  go_enter Tryd.func41, Tryd.ntmps41
  go_wp2
  go_loopg [0] (s.size + 1) (fun gk s0 wx => Below w.heap.size w wx ∧ ∃ (A : Option Addr) (t : ByteArray), s0 = .slice A t.size t.size ∧ RD w A t ∧ Lib.validD t.data.toList = ANS ∧ t.size < gk ∧ t.size ≤ 9223372036854775807)
  case atStart => exact ⟨Below.refl _ _, A, s, rfl, hA, hANS, by omega, hs⟩
  case round =>
    obtain ⟨hbw, A, t, rfl, hRD, hv, hg, hts⟩ := hrel
    clear hANS
    have hTr := Utf8Tabs_below hT hbw
    by_cases h0 : 0 < t.size
    · obtain ⟨g', rfl⟩ : ∃ g', gk = g' + 1 := ⟨gk - 1, by omega⟩
      have h0z : (0 : Int) < (t.size : Int) := by omega
      obtain ⟨x0, hx0⟩ : ∃ x0, t.get! 0 = x0 := ⟨_, rfl⟩
      obtain ⟨b, o, rfl, hb, hc⟩ := hRD h0
      have HA : At w b o t := ⟨hb, hc⟩
      have hbl : b < wr.heap.size := Nat.lt_of_lt_of_le hb hbw.size
      clear hb hc hRD
      have hs0 : wr.cell? ⟨b, o, none⟩ = some (.int .u8 x0.toNat) := by have := HA.at hbw 0 h0; rwa [hx0, Nat.add_zero] at this
      have hx0lt : x0.toNat < 256 := x0.toNat_lt
      by_cases hasc : x0.toNat < 128
      · -- ████ A BYTE BELOW 128: THE FAST PATH
        have hascz : (x0.toNat : Int) < 128 := by omega
        have a1 : Lib.Asc t 1 := Lib.asc_one t h0 (by rw [hx0]; exact hasc)
        obtain ⟨t1, ht1⟩ : ∃ t1, t.extract 1 t.size = t1 := ⟨_, rfl⟩
        have z1 : t1.size + 1 = t.size := by rw [← ht1, Lib.ext_size]; omega
        have v1 : Lib.validD t1.data.toList = ANS := by rw [← ht1, Lib.valid_skip t 1 a1]; exact hv
        have e1 : t.size - 1 = t1.size := by omega
        have HA1 : At w b (o + 1) t1 := ht1 ▸ HA.drop 1
        clear ht1
        clear hTr hT hv a1
        by_cases c8 : 8 < t1.size
        · as_aux_lemma =>
            have c8z : (8 : Int) < (t1.size : Int) := by omega
            obtain ⟨A1, hA1⟩ : ∃ A1, Lib.leNat [t1.get! 0, t1.get! 1, t1.get! 2, t1.get! 3, t1.get! 4, t1.get! 5, t1.get! 6, t1.get! 7] = A1 := ⟨_, rfl⟩
            have lA1 : A1 < 18446744073709551616 := hA1 ▸ Lib.word_lt t1
            obtain ⟨o1, ho1⟩ : ∃ o1, o + 1 = o1 := ⟨_, rfl⟩
            rw [ho1] at HA1
            have n1 : ¬ t.size = 1 := by omega
            have kA1 := Lib.word_asc t1 (by omega)
            rw [hA1] at kA1
            have hand1 : bits .and .u64 (A1 : Int) 9259542123273814144 = ((A1 &&& 9259542123273814144 : Nat) : Int) := u64_and_nat A1 9259542123273814144 lA1 (by omega)
            obtain ⟨Z1, hZ1⟩ : ∃ Z1, A1 &&& 9259542123273814144 = Z1 := ⟨_, rfl⟩
            rw [hZ1] at hand1 kA1
            by_cases hz1 : Z1 = 0
            · have hz1b : ((Z1 : Int) == 0) = true := by simp [hz1]
              have a8 : Lib.Asc t1 8 := kA1.1 hz1
              obtain ⟨t2, ht2⟩ : ∃ t2, t1.extract 8 t1.size = t2 := ⟨_, rfl⟩
              have z2 : t2.size + 8 = t1.size := by rw [← ht2, Lib.ext_size]; omega
              have v2 : Lib.validD t2.data.toList = ANS := by rw [← ht2, Lib.valid_skip t1 8 a8]; exact v1
              have HA2 : At w b (o1 + 8) t2 := ht2 ▸ HA1.drop 8
              obtain ⟨o2, ho2⟩ : ∃ o2, o1 + 8 = o2 := ⟨_, rfl⟩
              rw [ho2] at HA2
              have e2 : t1.size - 8 = t2.size := by omega
              have n2 : ¬ t1.size = 8 := by omega
              clear kA1 a8 v1 ht2
              go_wp2_with (go_at_call 60; refine (HA1.word (by omega) hbw hA1 rfl).mono ?_; rintro e W1 ⟨rfl, q1, rfl⟩)
              have hb1 : Below w.heap.size w (wr.drewN q1) := below_drewNv hbw q1
              generalize wr.drewN q1 = wq at hb1 ⊢
              clear hbw hs0
              by_cases c16 : 16 < t2.size
              · have c16z : (16 : Int) < (t2.size : Int) := by omega
                have s8z : (8 : Int) ≤ (t2.size : Int) := by omega
                obtain ⟨t2b, ht2b⟩ : ∃ t2b, t2.extract 8 t2.size = t2b := ⟨_, rfl⟩
                have z2b : t2b.size + 8 = t2.size := by rw [← ht2b, Lib.ext_size]; omega
                have HA2b : At w b (o2 + 8) t2b := ht2b ▸ HA2.drop 8
                obtain ⟨o2b, ho2b⟩ : ∃ o2b, o2 + 8 = o2b := ⟨_, rfl⟩
                rw [ho2b] at HA2b
                have e2b : t2.size - 8 = t2b.size := by omega
                have n2b : ¬ t2.size = 8 := by omega
                obtain ⟨A2, hA2⟩ : ∃ A2, Lib.leNat [t2.get! 0, t2.get! 1, t2.get! 2, t2.get! 3, t2.get! 4, t2.get! 5, t2.get! 6, t2.get! 7] = A2 := ⟨_, rfl⟩
                have lA2 : A2 < 18446744073709551616 := hA2 ▸ Lib.word_lt t2
                have kA2 := Lib.word_asc t2 (by omega)
                rw [hA2] at kA2
                obtain ⟨A3, hA3⟩ : ∃ A3, Lib.leNat [t2b.get! 0, t2b.get! 1, t2b.get! 2, t2b.get! 3, t2b.get! 4, t2b.get! 5, t2b.get! 6, t2b.get! 7] = A3 := ⟨_, rfl⟩
                have lA3 : A3 < 18446744073709551616 := hA3 ▸ Lib.word_lt t2b
                have kA3 := Lib.word_asc t2b (by omega)
                rw [hA3] at kA3
                have hor2 : bits .or .u64 (A2 : Int) (A3 : Int) = ((A2 ||| A3 : Nat) : Int) := u64_or_nat A2 A3 lA2 lA3
                have lor2 : A2 ||| A3 < 18446744073709551616 := Nat.or_lt_two_pow (n := 64) lA2 lA3
                have hand2 : bits .and .u64 ((A2 ||| A3 : Nat) : Int) 9259542123273814144 = (((A2 ||| A3) &&& 9259542123273814144 : Nat) : Int) := u64_and_nat _ 9259542123273814144 lor2 (by omega)
                have k2 : (A2 ||| A3) &&& 9259542123273814144 = 0 → Lib.Asc t2 16 := fun h0' => by
                  obtain ⟨e1, e2⟩ := (Lib.or_mask A2 A3 _).1 h0'
                  exact Lib.asc_add t2 8 8 (kA2.1 e1) (by rw [ht2b]; exact kA3.1 e2)
                obtain ⟨O2, hO2⟩ : ∃ O2, A2 ||| A3 = O2 := ⟨_, rfl⟩
                rw [hO2] at hor2 hand2 k2
                obtain ⟨Z2, hZ2⟩ : ∃ Z2, O2 &&& 9259542123273814144 = Z2 := ⟨_, rfl⟩
                rw [hZ2] at hand2 k2
                clear kA2 kA3 lor2 hO2 hZ2
                have CA2 := Lib.hid (show ∀ n : Nat, Calls Tryd.prog 60 #[.slice (some ⟨b, o2, none⟩) t2.size t2.size] (wq.drewN n) fun e w' => e = .returned (.int .u64 A2) ∧ ∃ q, w' = (wq.drewN n).drewN q from fun n => HA2.word (by omega) (below_drewNv hb1 n) hA2 rfl)
                have CA3 := Lib.hid (show ∀ n : Nat, Calls Tryd.prog 60 #[.slice (some ⟨b, o2b, none⟩) t2b.size t2b.size] (wq.drewN n) fun e w' => e = .returned (.int .u64 A3) ∧ ∃ q, w' = (wq.drewN n).drewN q from fun n => HA2b.word (by omega) (below_drewNv hb1 n) hA3 rfl)
                clear hA1 hA2 hA3
                by_cases hz2 : Z2 = 0
                · have hz2b : ((Z2 : Int) == 0) = true := by simp [hz2]
                  have a16 := k2 hz2
                  obtain ⟨t3, ht3⟩ : ∃ t3, t2.extract 16 t2.size = t3 := ⟨_, rfl⟩
                  have z3 : t3.size + 16 = t2.size := by rw [← ht3, Lib.ext_size]; omega
                  have v3 : Lib.validD t3.data.toList = ANS := by rw [← ht3, Lib.valid_skip t2 16 a16]; exact v2
                  have HA3 : At w b (o2 + 16) t3 := ht3 ▸ HA2.drop 16
                  obtain ⟨o3, ho3⟩ : ∃ o3, o2 + 16 = o3 := ⟨_, rfl⟩
                  rw [ho3] at HA3
                  have e3 : t2.size - 16 = t3.size := by omega
                  have n3 : ¬ t2.size = 16 := by omega
                  clear k2 a16 v2 ht3
                  go_quiet (first | (go_at_call 60; with_reducible refine Calls.quiet_of (CA2.out _)) | (go_at_call 60; with_reducible refine Calls.quiet_of (CA3.out _)))
                  have hb2 : Below w.heap.size w (wq.drewN nq) := below_drewNv hb1 nq
                  generalize wq.drewN nq = wq2 at hb2 ⊢
                  clear hb1
                  go_wp2
                  -- ████ 32 bytes a round
                  go_loopg [0] (t3.size + 1) (fun g2 s0 wx => Below w.heap.size w wx ∧ ∃ (ou : Nat) (u : ByteArray), s0 = .slice (some ⟨b, ou, none⟩) u.size u.size ∧ At w b ou u ∧ Lib.validD u.data.toList = ANS ∧ u.size < g2 ∧ u.size ≤ t3.size)
                  case atStart => exact ⟨hb2, o3, t3, rfl, HA3, v3, by omega, Nat.le_refl _⟩
                  case round =>
                    obtain ⟨hbu, ou, u, rfl, HU, vu, hgu, hut⟩ := hrel
                    by_cases c32 : 32 < u.size
                    · obtain ⟨g3, rfl⟩ : ∃ g3, gk = g3 + 1 := ⟨gk - 1, by omega⟩
                      have c32z : (32 : Int) < (u.size : Int) := by omega
                      have s8u : (8 : Int) ≤ (u.size : Int) := by omega
                      have s16u : (16 : Int) ≤ (u.size : Int) := by omega
                      have s24u : (24 : Int) ≤ (u.size : Int) := by omega
                      obtain ⟨ub, hub⟩ : ∃ ub, u.extract 8 u.size = ub := ⟨_, rfl⟩
                      have zub : ub.size + 8 = u.size := by rw [← hub, Lib.ext_size]; omega
                      have HUub : At w b (ou + 8) ub := hub ▸ HU.drop 8
                      obtain ⟨oub, houb⟩ : ∃ oub, ou + 8 = oub := ⟨_, rfl⟩
                      rw [houb] at HUub
                      have eub : u.size - 8 = ub.size := by omega
                      have nub : ¬ u.size = 8 := by omega
                      obtain ⟨uc, huc⟩ : ∃ uc, u.extract 16 u.size = uc := ⟨_, rfl⟩
                      have zuc : uc.size + 16 = u.size := by rw [← huc, Lib.ext_size]; omega
                      have HUuc : At w b (ou + 16) uc := huc ▸ HU.drop 16
                      obtain ⟨ouc, houc⟩ : ∃ ouc, ou + 16 = ouc := ⟨_, rfl⟩
                      rw [houc] at HUuc
                      have euc : u.size - 16 = uc.size := by omega
                      have nuc : ¬ u.size = 16 := by omega
                      obtain ⟨ud, hud⟩ : ∃ ud, u.extract 24 u.size = ud := ⟨_, rfl⟩
                      have zud : ud.size + 24 = u.size := by rw [← hud, Lib.ext_size]; omega
                      have HUud : At w b (ou + 24) ud := hud ▸ HU.drop 24
                      obtain ⟨oud, houd⟩ : ∃ oud, ou + 24 = oud := ⟨_, rfl⟩
                      rw [houd] at HUud
                      have eud : u.size - 24 = ud.size := by omega
                      have nud : ¬ u.size = 24 := by omega
                      obtain ⟨B0, hB0⟩ : ∃ B0, Lib.leNat [u.get! 0, u.get! 1, u.get! 2, u.get! 3, u.get! 4, u.get! 5, u.get! 6, u.get! 7] = B0 := ⟨_, rfl⟩
                      have lB0 : B0 < 18446744073709551616 := hB0 ▸ Lib.word_lt u
                      have kB0 := Lib.word_asc u (by omega)
                      rw [hB0] at kB0
                      obtain ⟨B1, hB1⟩ : ∃ B1, Lib.leNat [ub.get! 0, ub.get! 1, ub.get! 2, ub.get! 3, ub.get! 4, ub.get! 5, ub.get! 6, ub.get! 7] = B1 := ⟨_, rfl⟩
                      have lB1 : B1 < 18446744073709551616 := hB1 ▸ Lib.word_lt ub
                      have kB1 := Lib.word_asc ub (by omega)
                      rw [hB1] at kB1
                      obtain ⟨B2, hB2⟩ : ∃ B2, Lib.leNat [uc.get! 0, uc.get! 1, uc.get! 2, uc.get! 3, uc.get! 4, uc.get! 5, uc.get! 6, uc.get! 7] = B2 := ⟨_, rfl⟩
                      have lB2 : B2 < 18446744073709551616 := hB2 ▸ Lib.word_lt uc
                      have kB2 := Lib.word_asc uc (by omega)
                      rw [hB2] at kB2
                      obtain ⟨B3, hB3⟩ : ∃ B3, Lib.leNat [ud.get! 0, ud.get! 1, ud.get! 2, ud.get! 3, ud.get! 4, ud.get! 5, ud.get! 6, ud.get! 7] = B3 := ⟨_, rfl⟩
                      have lB3 : B3 < 18446744073709551616 := hB3 ▸ Lib.word_lt ud
                      have kB3 := Lib.word_asc ud (by omega)
                      rw [hB3] at kB3
                      have ho1 : bits .or .u64 (B0 : Int) (B1 : Int) = ((B0 ||| B1 : Nat) : Int) := u64_or_nat B0 B1 lB0 lB1
                      have ho2 : bits .or .u64 (B2 : Int) (B3 : Int) = ((B2 ||| B3 : Nat) : Int) := u64_or_nat B2 B3 lB2 lB3
                      have lo1 : B0 ||| B1 < 18446744073709551616 := Nat.or_lt_two_pow (n := 64) lB0 lB1
                      have lo2 : B2 ||| B3 < 18446744073709551616 := Nat.or_lt_two_pow (n := 64) lB2 lB3
                      have ho3 : bits .or .u64 ((B0 ||| B1 : Nat) : Int) ((B2 ||| B3 : Nat) : Int) = (((B0 ||| B1) ||| (B2 ||| B3) : Nat) : Int) := u64_or_nat _ _ lo1 lo2
                      have lo3 : (B0 ||| B1) ||| (B2 ||| B3) < 18446744073709551616 := Nat.or_lt_two_pow (n := 64) lo1 lo2
                      have hand3 : bits .and .u64 (((B0 ||| B1) ||| (B2 ||| B3) : Nat) : Int) 9259542123273814144 = ((((B0 ||| B1) ||| (B2 ||| B3)) &&& 9259542123273814144 : Nat) : Int) := u64_and_nat _ 9259542123273814144 lo3 (by omega)
                      have k3 : ((B0 ||| B1) ||| (B2 ||| B3)) &&& 9259542123273814144 = 0 → Lib.Asc u 32 := fun h0' => by
                        obtain ⟨e01, e23⟩ := (Lib.or_mask _ _ _).1 h0'
                        obtain ⟨e0, e1⟩ := (Lib.or_mask _ _ _).1 e01
                        obtain ⟨e2, e3⟩ := (Lib.or_mask _ _ _).1 e23
                        have s16 : Lib.Asc u 16 := Lib.asc_add u 8 8 (kB0.1 e0) (by rw [hub]; exact kB1.1 e1)
                        have s24 : Lib.Asc u 24 := Lib.asc_add u 16 8 s16 (by rw [huc]; exact kB2.1 e2)
                        exact Lib.asc_add u 24 8 s24 (by rw [hud]; exact kB3.1 e3)
                      obtain ⟨P1, hP1⟩ : ∃ P1, B0 ||| B1 = P1 := ⟨_, rfl⟩
                      obtain ⟨P2, hP2⟩ : ∃ P2, B2 ||| B3 = P2 := ⟨_, rfl⟩
                      rw [hP1, hP2] at ho3 hand3 k3
                      rw [hP1] at ho1
                      rw [hP2] at ho2
                      obtain ⟨P3, hP3⟩ : ∃ P3, P1 ||| P2 = P3 := ⟨_, rfl⟩
                      rw [hP3] at ho3 hand3 k3
                      obtain ⟨Z3, hZ3⟩ : ∃ Z3, P3 &&& 9259542123273814144 = Z3 := ⟨_, rfl⟩
                      rw [hZ3] at hand3 k3
                      clear kB0 kB1 kB2 kB3 lo1 lo2 lo3 hP1 hP2 hP3 hZ3
                      have CB0 := Lib.hid (show ∀ n : Nat, Calls Tryd.prog 60 #[.slice (some ⟨b, ou, none⟩) u.size u.size] (wr.drewN n) fun e w' => e = .returned (.int .u64 B0) ∧ ∃ q, w' = (wr.drewN n).drewN q from fun n => HU.word (by omega) (below_drewNv hbu n) hB0 rfl)
                      have CB1 := Lib.hid (show ∀ n : Nat, Calls Tryd.prog 60 #[.slice (some ⟨b, oub, none⟩) ub.size ub.size] (wr.drewN n) fun e w' => e = .returned (.int .u64 B1) ∧ ∃ q, w' = (wr.drewN n).drewN q from fun n => HUub.word (by omega) (below_drewNv hbu n) hB1 rfl)
                      have CB2 := Lib.hid (show ∀ n : Nat, Calls Tryd.prog 60 #[.slice (some ⟨b, ouc, none⟩) uc.size uc.size] (wr.drewN n) fun e w' => e = .returned (.int .u64 B2) ∧ ∃ q, w' = (wr.drewN n).drewN q from fun n => HUuc.word (by omega) (below_drewNv hbu n) hB2 rfl)
                      have CB3 := Lib.hid (show ∀ n : Nat, Calls Tryd.prog 60 #[.slice (some ⟨b, oud, none⟩) ud.size ud.size] (wr.drewN n) fun e w' => e = .returned (.int .u64 B3) ∧ ∃ q, w' = (wr.drewN n).drewN q from fun n => HUud.word (by omega) (below_drewNv hbu n) hB3 rfl)
                      clear hB0 hB1 hB2 hB3
                      by_cases hz3 : Z3 = 0
                      · have hz3b : ((Z3 : Int) == 0) = true := by simp [hz3]
                        have a32 := k3 hz3
                        obtain ⟨u2, hu2⟩ : ∃ u2, u.extract 32 u.size = u2 := ⟨_, rfl⟩
                        have zu2 : u2.size + 32 = u.size := by rw [← hu2, Lib.ext_size]; omega
                        have vu2 : Lib.validD u2.data.toList = ANS := by rw [← hu2, Lib.valid_skip u 32 a32]; exact vu
                        have HU2 : At w b (ou + 32) u2 := hu2 ▸ HU.drop 32
                        obtain ⟨ou2, hou2⟩ : ∃ o, ou + 32 = o := ⟨_, rfl⟩
                        rw [hou2] at HU2
                        have eu2 : u.size - 32 = u2.size := by omega
                        have nu2 : ¬ u.size = 32 := by omega
                        go_wp2_with fail
                        go_quiet (first | (go_at_call 60; with_reducible refine Calls.quiet_of (CB0.out _)) | (go_at_call 60; with_reducible refine Calls.quiet_of (CB1.out _)) | (go_at_call 60; with_reducible refine Calls.quiet_of (CB2.out _)) | (go_at_call 60; with_reducible refine Calls.quiet_of (CB3.out _)))
                        go_wp2
                        go_roundg g3
                        case measure => omega
                        case rel => exact ⟨below_drewNv hbu nq, ou2, u2, rfl, HU2, vu2, by omega, by omega⟩
                      · have hz3b : ((Z3 : Int) == 0) = false := by simp; omega
                        go_wp2_with fail
                        go_quiet (first | (go_at_call 60; with_reducible refine Calls.quiet_of (CB0.out _)) | (go_at_call 60; with_reducible refine Calls.quiet_of (CB1.out _)) | (go_at_call 60; with_reducible refine Calls.quiet_of (CB2.out _)) | (go_at_call 60; with_reducible refine Calls.quiet_of (CB3.out _)))
                        go_wp2
                        go_roundg g'
                        case measure => omega
                        case rel => exact ⟨below_drewNv hbu nq, _, u, rfl, HU.rd, vu, by omega, by omega⟩
                    · have c32z : ¬ ((32 : Int) < (u.size : Int)) := by omega
                      have c32b : decide ((32 : Int) < (u.size : Int)) = false := decide_eq_false c32z
                      go_wp2_with fail
                      go_quiet (fail)
                      go_wp2
                      go_roundg g'
                      case measure => omega
                      case rel => exact ⟨below_drewNv hbu nq, _, u, rfl, HU.rd, vu, by omega, by omega⟩
                · have hz2b : ((Z2 : Int) == 0) = false := by simp; omega
                  go_quiet (first | (go_at_call 60; with_reducible refine Calls.quiet_of (CA2.out _)) | (go_at_call 60; with_reducible refine Calls.quiet_of (CA3.out _)))
                  go_wp2
                  go_roundg g'
                  case measure => omega
                  case rel => exact ⟨below_drewNv hb1 nq, _, t2, rfl, HA2.rd, v2, by omega, by omega⟩
              · have c16z : ¬ ((16 : Int) < (t2.size : Int)) := by omega
                have c16b : decide ((16 : Int) < (t2.size : Int)) = false := decide_eq_false c16z
                go_quiet (fail)
                go_wp2
                go_roundg g'
                case measure => omega
                case rel => exact ⟨below_drewNv hb1 nq, _, t2, rfl, HA2.rd, v2, by omega, by omega⟩
            · have hz1b : ((Z1 : Int) == 0) = false := by simp; omega
              go_wp2_with (go_at_call 60; refine (HA1.word (by omega) hbw hA1 rfl).mono ?_; rintro e W1 ⟨rfl, q1, rfl⟩)
              go_roundg g'
              case measure => omega
              case rel => exact ⟨below_drewNv hbw q1, _, t1, rfl, HA1.rd, v1, by omega, by omega⟩
        · have c8z : ¬ ((8 : Int) < (t1.size : Int)) := by omega
          go_wp2
          all_goals
            go_roundg g'
            case measure => omega
            case rel => exact ⟨hbw, _, t1, rfl, by first | exact HA1.rd | (intro h; omega), v1, by omega, by omega⟩
      · -- ████ A LEAD BYTE FROM 128 ON
        have hge : 128 ≤ x0.toNat := by omega
        have hascz : ¬ ((x0.toNat : Int) < 128) := by omega
        obtain ⟨x1, hx1⟩ : ∃ x1, t.get! 1 = x1 := ⟨_, rfl⟩
        obtain ⟨x2, hx2⟩ : ∃ x2, t.get! 2 = x2 := ⟨_, rfl⟩
        obtain ⟨x3, hx3⟩ : ∃ x3, t.get! 3 = x3 := ⟨_, rfl⟩
        have l1 := x1.toNat_lt; have l2 := x2.toNat_lt; have l3 := x3.toNat_lt
        have hne : t.data.toList ≠ [] := fun h => by rw [Lib.size_eq, h] at h0; simp at h0
        have hlead := Lib.validD_lead t.data.toList hne (by rw [Lib.getD_get!', hx0]; exact hge)
        rw [Lib.getD_get!', Lib.getD_get!', Lib.getD_get!', Lib.getD_get!', hx0, hx1, hx2, hx3, ← Lib.size_eq, hv] at hlead
        have hc0 := hTr.1 x0.toNat hx0lt
        have hXlt : Lib.firstT x0.toNat < 256 := by rcases Lib.firstT_cases x0.toNat with h | h | h | h | h | h | h | h | h <;> omega
        obtain ⟨X, hX⟩ : ∃ X, Lib.firstT x0.toNat = X := ⟨_, rfl⟩
        rw [hX] at hc0 hXlt hlead
        have h7 := and7 ⟨X, hXlt⟩
        simp only at h7
        have ha0 : wr.cell? ⟨1, X / 16 * 2, none⟩ = some (.int .u8 (Lib.accLo (X / 16))) := by rw [Nat.mul_comm]; exact (hTr.2 (X / 16) (by omega)).1
        have ha1 : wr.cell? ⟨1, X / 16 * 2 + 1, none⟩ = some (.int .u8 (Lib.accHi (X / 16))) := by rw [Nat.mul_comm]; exact (hTr.2 (X / 16) (by omega)).2
        obtain ⟨LO, hLO⟩ : ∃ LO, Lib.accLo (X / 16) = LO := ⟨_, rfl⟩
        obtain ⟨HI, hHI⟩ : ∃ HI, Lib.accHi (X / 16) = HI := ⟨_, rfl⟩
        rw [hLO] at ha0 hlead
        rw [hHI] at ha1 hlead
        obtain ⟨SZ, hSZ⟩ : ∃ SZ, X % 8 = SZ := ⟨_, rfl⟩
        rw [hSZ] at hlead
        clear hTr hT hX hv hLO hHI hne
        by_cases s2 : SZ = 2
        · as_aux_lemma =>
            subst s2
            have hSZz : (X : Int) % 8 = 2 := by omega
            simp only [Lib.checkN, Nat.reduceEqDiff, if_true, if_false] at hlead
            go_upto_region 18 with fail
            go_cut [103] from 85 to 103 (fun c wx => c = .bool (decide (t.size < 2 ∨ x1.toNat < LO ∨ HI < x1.toNat)) ∧ Below w.heap.size w wx)
            case first =>
              by_cases q0 : t.size < 2
              · have q0z : (t.size : Int) < 2 := by omega
                go_quiet (fail)
                go_wp2
                go_meet
                exact ⟨congrArg Value.bool (decide_eq_true (p := t.size < 2 ∨ x1.toNat < LO ∨ HI < x1.toNat) (by omega)).symm, below_drewNv (hbw.alloc hbw.size _) _⟩
              · have q0z : ¬ ((t.size : Int) < 2) := by omega
                have hz1 : (1 : Int) < (t.size : Int) := by omega
                have hp1 : 1 < t.size := by omega
                have hs1 : wr.cell? ⟨b, o + 1, none⟩ = some (.int .u8 x1.toNat) := by have := HA.at hbw 1 (by omega); rwa [hx1] at this
                by_cases q1 : x1.toNat < LO
                · have q1z : (x1.toNat : Int) < (LO : Int) := by omega
                  go_quiet (fail)
                  go_wp2
                  go_meet
                  exact ⟨congrArg Value.bool (decide_eq_true (p := t.size < 2 ∨ x1.toNat < LO ∨ HI < x1.toNat) (by omega)).symm, below_drewNv (hbw.alloc hbw.size _) _⟩
                · have q1z : ¬ ((x1.toNat : Int) < (LO : Int)) := by omega
                  by_cases q2 : HI < x1.toNat
                  · have q2z : (HI : Int) < (x1.toNat : Int) := by omega
                    go_quiet (fail)
                    go_wp2
                    go_meet
                    exact ⟨congrArg Value.bool (decide_eq_true (p := t.size < 2 ∨ x1.toNat < LO ∨ HI < x1.toNat) (by omega)).symm, below_drewNv (hbw.alloc hbw.size _) _⟩
                  · have q2z : ¬ ((HI : Int) < (x1.toNat : Int)) := by omega
                    go_quiet (fail)
                    go_wp2
                    go_meet
                    exact ⟨congrArg Value.bool (decide_eq_false (p := t.size < 2 ∨ x1.toNat < LO ∨ HI < x1.toNat) (by omega)).symm, below_drewNv (hbw.alloc hbw.size _) _⟩
            case rest =>
              obtain ⟨rfl, hbc⟩ := hcut
              by_cases hb : t.size < 2 ∨ x1.toNat < LO ∨ HI < x1.toNat
              · have hbd : decide (t.size < 2 ∨ x1.toNat < LO ∨ HI < x1.toNat) = true := decide_eq_true hb
                rw [if_pos hb] at hlead
                go_wp2
                all_goals (go_ret; exact ⟨by first | rfl | rw [hlead], hbc⟩)
              · have hbd : decide (t.size < 2 ∨ x1.toNat < LO ∨ HI < x1.toNat) = false := decide_eq_false hb
                rw [if_neg hb] at hlead
                go_wp2
                all_goals
                  go_roundg g'
                  case measure => omega
                  case rel => exact ⟨hbc, _, t.extract 2 t.size, by rw [Lib.ext_size]; first | done | rfl | rw [show t.size - 2 = 0 by omega], by first | exact (HA.drop 2).rd | (intro h; rw [Lib.ext_size] at h; omega), by rw [Lib.ext_list, hlead], by rw [Lib.ext_size]; omega, by rw [Lib.ext_size]; omega⟩
        by_cases s3 : SZ = 3
        · as_aux_lemma =>
            subst s3
            have hSZz : (X : Int) % 8 = 3 := by omega
            simp only [Lib.checkN, Nat.reduceEqDiff, if_true, if_false] at hlead
            go_upto_region 22 with fail
            go_cut [138] from 108 to 138 (fun c wx => c = .bool (decide (t.size < 3 ∨ x1.toNat < LO ∨ HI < x1.toNat ∨ x2.toNat < 128 ∨ 191 < x2.toNat)) ∧ Below w.heap.size w wx)
            case first =>
              by_cases q0 : t.size < 3
              · have q0z : (t.size : Int) < 3 := by omega
                go_quiet (fail)
                go_wp2
                go_meet
                exact ⟨congrArg Value.bool (decide_eq_true (p := t.size < 3 ∨ x1.toNat < LO ∨ HI < x1.toNat ∨ x2.toNat < 128 ∨ 191 < x2.toNat) (by omega)).symm, below_drewNv (hbw.alloc hbw.size _) _⟩
              · have q0z : ¬ ((t.size : Int) < 3) := by omega
                have hz1 : (1 : Int) < (t.size : Int) := by omega
                have hp1 : 1 < t.size := by omega
                have hs1 : wr.cell? ⟨b, o + 1, none⟩ = some (.int .u8 x1.toNat) := by have := HA.at hbw 1 (by omega); rwa [hx1] at this
                have hz2 : (2 : Int) < (t.size : Int) := by omega
                have hp2 : 2 < t.size := by omega
                have hs2 : wr.cell? ⟨b, o + 2, none⟩ = some (.int .u8 x2.toNat) := by have := HA.at hbw 2 (by omega); rwa [hx2] at this
                by_cases q1 : x1.toNat < LO
                · have q1z : (x1.toNat : Int) < (LO : Int) := by omega
                  go_quiet (fail)
                  go_wp2
                  go_meet
                  exact ⟨congrArg Value.bool (decide_eq_true (p := t.size < 3 ∨ x1.toNat < LO ∨ HI < x1.toNat ∨ x2.toNat < 128 ∨ 191 < x2.toNat) (by omega)).symm, below_drewNv (hbw.alloc hbw.size _) _⟩
                · have q1z : ¬ ((x1.toNat : Int) < (LO : Int)) := by omega
                  by_cases q2 : HI < x1.toNat
                  · have q2z : (HI : Int) < (x1.toNat : Int) := by omega
                    go_quiet (fail)
                    go_wp2
                    go_meet
                    exact ⟨congrArg Value.bool (decide_eq_true (p := t.size < 3 ∨ x1.toNat < LO ∨ HI < x1.toNat ∨ x2.toNat < 128 ∨ 191 < x2.toNat) (by omega)).symm, below_drewNv (hbw.alloc hbw.size _) _⟩
                  · have q2z : ¬ ((HI : Int) < (x1.toNat : Int)) := by omega
                    by_cases q3 : x2.toNat < 128
                    · have q3z : (x2.toNat : Int) < 128 := by omega
                      go_quiet (fail)
                      go_wp2
                      go_meet
                      exact ⟨congrArg Value.bool (decide_eq_true (p := t.size < 3 ∨ x1.toNat < LO ∨ HI < x1.toNat ∨ x2.toNat < 128 ∨ 191 < x2.toNat) (by omega)).symm, below_drewNv (hbw.alloc hbw.size _) _⟩
                    · have q3z : ¬ ((x2.toNat : Int) < 128) := by omega
                      by_cases q4 : 191 < x2.toNat
                      · have q4z : (191 : Int) < (x2.toNat : Int) := by omega
                        go_quiet (fail)
                        go_wp2
                        go_meet
                        exact ⟨congrArg Value.bool (decide_eq_true (p := t.size < 3 ∨ x1.toNat < LO ∨ HI < x1.toNat ∨ x2.toNat < 128 ∨ 191 < x2.toNat) (by omega)).symm, below_drewNv (hbw.alloc hbw.size _) _⟩
                      · have q4z : ¬ ((191 : Int) < (x2.toNat : Int)) := by omega
                        go_quiet (fail)
                        go_wp2
                        go_meet
                        exact ⟨congrArg Value.bool (decide_eq_false (p := t.size < 3 ∨ x1.toNat < LO ∨ HI < x1.toNat ∨ x2.toNat < 128 ∨ 191 < x2.toNat) (by omega)).symm, below_drewNv (hbw.alloc hbw.size _) _⟩
            case rest =>
              obtain ⟨rfl, hbc⟩ := hcut
              by_cases hb : t.size < 3 ∨ x1.toNat < LO ∨ HI < x1.toNat ∨ x2.toNat < 128 ∨ 191 < x2.toNat
              · have hbd : decide (t.size < 3 ∨ x1.toNat < LO ∨ HI < x1.toNat ∨ x2.toNat < 128 ∨ 191 < x2.toNat) = true := decide_eq_true hb
                rw [if_pos hb] at hlead
                go_wp2
                all_goals (go_ret; exact ⟨by first | rfl | rw [hlead], hbc⟩)
              · have hbd : decide (t.size < 3 ∨ x1.toNat < LO ∨ HI < x1.toNat ∨ x2.toNat < 128 ∨ 191 < x2.toNat) = false := decide_eq_false hb
                rw [if_neg hb] at hlead
                go_wp2
                all_goals
                  go_roundg g'
                  case measure => omega
                  case rel => exact ⟨hbc, _, t.extract 3 t.size, by rw [Lib.ext_size]; first | done | rfl | rw [show t.size - 3 = 0 by omega], by first | exact (HA.drop 3).rd | (intro h; rw [Lib.ext_size] at h; omega), by rw [Lib.ext_list, hlead], by rw [Lib.ext_size]; omega, by rw [Lib.ext_size]; omega⟩
        by_cases s4 : SZ = 4
        · as_aux_lemma =>
            subst s4
            have hSZz : (X : Int) % 8 = 4 := by omega
            simp only [Lib.checkN, Nat.reduceEqDiff, if_true, if_false] at hlead
            go_upto_region 26 with fail
            go_cut [185] from 143 to 185 (fun c wx => c = .bool (decide (t.size < 4 ∨ x1.toNat < LO ∨ HI < x1.toNat ∨ x2.toNat < 128 ∨ 191 < x2.toNat ∨ x3.toNat < 128 ∨ 191 < x3.toNat)) ∧ Below w.heap.size w wx)
            case first =>
              by_cases q0 : t.size < 4
              · have q0z : (t.size : Int) < 4 := by omega
                go_quiet (fail)
                go_wp2
                go_meet
                exact ⟨congrArg Value.bool (decide_eq_true (p := t.size < 4 ∨ x1.toNat < LO ∨ HI < x1.toNat ∨ x2.toNat < 128 ∨ 191 < x2.toNat ∨ x3.toNat < 128 ∨ 191 < x3.toNat) (by omega)).symm, below_drewNv (hbw.alloc hbw.size _) _⟩
              · have q0z : ¬ ((t.size : Int) < 4) := by omega
                have hz1 : (1 : Int) < (t.size : Int) := by omega
                have hp1 : 1 < t.size := by omega
                have hs1 : wr.cell? ⟨b, o + 1, none⟩ = some (.int .u8 x1.toNat) := by have := HA.at hbw 1 (by omega); rwa [hx1] at this
                have hz2 : (2 : Int) < (t.size : Int) := by omega
                have hp2 : 2 < t.size := by omega
                have hs2 : wr.cell? ⟨b, o + 2, none⟩ = some (.int .u8 x2.toNat) := by have := HA.at hbw 2 (by omega); rwa [hx2] at this
                have hz3 : (3 : Int) < (t.size : Int) := by omega
                have hp3 : 3 < t.size := by omega
                have hs3 : wr.cell? ⟨b, o + 3, none⟩ = some (.int .u8 x3.toNat) := by have := HA.at hbw 3 (by omega); rwa [hx3] at this
                by_cases q1 : x1.toNat < LO
                · have q1z : (x1.toNat : Int) < (LO : Int) := by omega
                  go_quiet (fail)
                  go_wp2
                  go_meet
                  exact ⟨congrArg Value.bool (decide_eq_true (p := t.size < 4 ∨ x1.toNat < LO ∨ HI < x1.toNat ∨ x2.toNat < 128 ∨ 191 < x2.toNat ∨ x3.toNat < 128 ∨ 191 < x3.toNat) (by omega)).symm, below_drewNv (hbw.alloc hbw.size _) _⟩
                · have q1z : ¬ ((x1.toNat : Int) < (LO : Int)) := by omega
                  by_cases q2 : HI < x1.toNat
                  · have q2z : (HI : Int) < (x1.toNat : Int) := by omega
                    go_quiet (fail)
                    go_wp2
                    go_meet
                    exact ⟨congrArg Value.bool (decide_eq_true (p := t.size < 4 ∨ x1.toNat < LO ∨ HI < x1.toNat ∨ x2.toNat < 128 ∨ 191 < x2.toNat ∨ x3.toNat < 128 ∨ 191 < x3.toNat) (by omega)).symm, below_drewNv (hbw.alloc hbw.size _) _⟩
                  · have q2z : ¬ ((HI : Int) < (x1.toNat : Int)) := by omega
                    by_cases q3 : x2.toNat < 128
                    · have q3z : (x2.toNat : Int) < 128 := by omega
                      go_quiet (fail)
                      go_wp2
                      go_meet
                      exact ⟨congrArg Value.bool (decide_eq_true (p := t.size < 4 ∨ x1.toNat < LO ∨ HI < x1.toNat ∨ x2.toNat < 128 ∨ 191 < x2.toNat ∨ x3.toNat < 128 ∨ 191 < x3.toNat) (by omega)).symm, below_drewNv (hbw.alloc hbw.size _) _⟩
                    · have q3z : ¬ ((x2.toNat : Int) < 128) := by omega
                      by_cases q4 : 191 < x2.toNat
                      · have q4z : (191 : Int) < (x2.toNat : Int) := by omega
                        go_quiet (fail)
                        go_wp2
                        go_meet
                        exact ⟨congrArg Value.bool (decide_eq_true (p := t.size < 4 ∨ x1.toNat < LO ∨ HI < x1.toNat ∨ x2.toNat < 128 ∨ 191 < x2.toNat ∨ x3.toNat < 128 ∨ 191 < x3.toNat) (by omega)).symm, below_drewNv (hbw.alloc hbw.size _) _⟩
                      · have q4z : ¬ ((191 : Int) < (x2.toNat : Int)) := by omega
                        by_cases q5 : x3.toNat < 128
                        · have q5z : (x3.toNat : Int) < 128 := by omega
                          go_quiet (fail)
                          go_wp2
                          go_meet
                          exact ⟨congrArg Value.bool (decide_eq_true (p := t.size < 4 ∨ x1.toNat < LO ∨ HI < x1.toNat ∨ x2.toNat < 128 ∨ 191 < x2.toNat ∨ x3.toNat < 128 ∨ 191 < x3.toNat) (by omega)).symm, below_drewNv (hbw.alloc hbw.size _) _⟩
                        · have q5z : ¬ ((x3.toNat : Int) < 128) := by omega
                          by_cases q6 : 191 < x3.toNat
                          · have q6z : (191 : Int) < (x3.toNat : Int) := by omega
                            go_quiet (fail)
                            go_wp2
                            go_meet
                            exact ⟨congrArg Value.bool (decide_eq_true (p := t.size < 4 ∨ x1.toNat < LO ∨ HI < x1.toNat ∨ x2.toNat < 128 ∨ 191 < x2.toNat ∨ x3.toNat < 128 ∨ 191 < x3.toNat) (by omega)).symm, below_drewNv (hbw.alloc hbw.size _) _⟩
                          · have q6z : ¬ ((191 : Int) < (x3.toNat : Int)) := by omega
                            go_quiet (fail)
                            go_wp2
                            go_meet
                            exact ⟨congrArg Value.bool (decide_eq_false (p := t.size < 4 ∨ x1.toNat < LO ∨ HI < x1.toNat ∨ x2.toNat < 128 ∨ 191 < x2.toNat ∨ x3.toNat < 128 ∨ 191 < x3.toNat) (by omega)).symm, below_drewNv (hbw.alloc hbw.size _) _⟩
            case rest =>
              obtain ⟨rfl, hbc⟩ := hcut
              by_cases hb : t.size < 4 ∨ x1.toNat < LO ∨ HI < x1.toNat ∨ x2.toNat < 128 ∨ 191 < x2.toNat ∨ x3.toNat < 128 ∨ 191 < x3.toNat
              · have hbd : decide (t.size < 4 ∨ x1.toNat < LO ∨ HI < x1.toNat ∨ x2.toNat < 128 ∨ 191 < x2.toNat ∨ x3.toNat < 128 ∨ 191 < x3.toNat) = true := decide_eq_true hb
                rw [if_pos hb] at hlead
                go_wp2
                all_goals (go_ret; exact ⟨by first | rfl | rw [hlead], hbc⟩)
              · have hbd : decide (t.size < 4 ∨ x1.toNat < LO ∨ HI < x1.toNat ∨ x2.toNat < 128 ∨ 191 < x2.toNat ∨ x3.toNat < 128 ∨ 191 < x3.toNat) = false := decide_eq_false hb
                rw [if_neg hb] at hlead
                go_wp2
                all_goals
                  go_roundg g'
                  case measure => omega
                  case rel => exact ⟨hbc, _, t.extract 4 t.size, by rw [Lib.ext_size]; first | done | rfl | rw [show t.size - 4 = 0 by omega], by first | exact (HA.drop 4).rd | (intro h; rw [Lib.ext_size] at h; omega), by rw [Lib.ext_list, hlead], by rw [Lib.ext_size]; omega, by rw [Lib.ext_size]; omega⟩
        · as_aux_lemma =>
            have e2 : ¬ ((X : Int) % 8 = 2) := by omega
            have e3 : ¬ ((X : Int) % 8 = 3) := by omega
            have e4 : ¬ ((X : Int) % 8 = 4) := by omega
            have e2b : (((X : Int) % 8) == 2) = false := by simp; omega
            have e3b : (((X : Int) % 8) == 3) = false := by simp; omega
            have e4b : (((X : Int) % 8) == 4) = false := by simp; omega
            simp only [Lib.checkN, s2, s3, s4, if_false] at hlead
            go_wp2
            all_goals (go_ret; exact ⟨by first | rfl | rw [hlead], hbw.alloc hbw.size _⟩)
    · have h0z : ¬ ((0 : Int) < (t.size : Int)) := by omega
      have ht0 : t.data.toList = [] := List.eq_nil_of_length_eq_zero (by rw [← Lib.size_eq]; omega)
      rw [ht0, Lib.validD_nil] at hv
      subst hv
      go_wp2
      go_ret
      exact ⟨rfl, hbw⟩


end Go.Proofs.YtklkaaaegnojkaaDoor.Utf8
